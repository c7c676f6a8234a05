/-
  Part 7 of the proof: CH GX SQ GZ GW SR BK U1 U2 U3 U4 AvT U5 U6 U7.
-/
import Derived.Test.YtnppaoeijmgneaaGreatDoorZD0
import Derived.Test.YtnppaoeijmgneaaGreatDoorZD1
import Derived.Test.YtnppaoeijmgneaaGreatDoorZD2
import Derived.Test.YtnppaoeijmgneaaGreatDoorZD4
import Derived.Test.YtnppaoeijmgneaaGreatDoorZD6
set_option linter.unusedSimpArgs false
set_option linter.unusedVariables false
set_option maxRecDepth 10000
set_option maxHeartbeats 4000000
section
namespace Go.Proofs
open Go.Av
variable {G : Nat -> DV}
attribute [local irreducible] OpSem Zh ZB ZP ACalls qu AClose RV
open Go.Bl
theorem changed_c (s : List UInt8) (hs : s.length <= 1000000) (at_ how by_ : Int) (h1 : -9223372036854775808 <= at_ /\ at_ <= 9223372036854775807) (h2 : -9223372036854775808 <= how /\ how <= 9223372036854775807) (h3 : -9223372036854775808 <= by_ /\ by_ <= 9223372036854775807) :
  ∃ r : List UInt8, r.length <= 4 * s.length + 10 /\ Go.Av.Pure Tryz.prog G 21 [WA s, .i at_, .i how, .i by_] (WA r) := by
 have hsc := r_scan_c (G := G) s hs
 obtain ⟨m1, _, _, _⟩ := scan_mem _ s 0 rfl
 have hm : ∀ x ∈ trs (Wy s 0).1, x.a + x.t.length <= s.length := fun x hx => by
  unfold trs at hx
  obtain ⟨y, hy, rfl⟩ := List.mem_map.1 hx
  have := m1 y hy
  show y.2 + y.1.length <= s.length
  omega
 have hTl : (trs (Wy s 0).1).length <= s.length := by
  have h := scan_toks s 0
  have := len_le_lenS fun t ht => (h.1 t ht).1
  rw [List.length_map] at this
  unfold trs
  rw [List.length_map]
  omega
 generalize trs (Wy s 0).1 = T at *
 generalize (Wy s 0).2 = e2 at *
 clear m1
 by_cases h0 : T.length = 0
 ·refine ⟨s, by omega, fun B => ?_⟩
  have hpa := trivial
  have hpb := trivial
  have hpj := trivial
  have hsum := trivial
  refine Qa Tryz.func21 rfl Tryz.ntmps21 rfl (t := [(0, WA s), (1, .i at_), (2, .i how), (3, .i by_)]) rfl fun E hE => ?_
  (repeat' first|(refine Qe ?_;(first|refine QI rfl ?_|refine QJ rfl ?_|refine QO rfl rfl ?_|(refine Qp ?_;(first|refine Qz rfl ?_|refine QZ rfl rfl (hsc) ?_))|refine QM rfl rfl rfl ?_))|(refine Qk ?_;(first|refine Qi ?_|refine QK rfl ?_))|(refine Qj ?_;(first|refine Ql ?_|refine Qc ?_|refine Qq rfl (by omega) ?_|refine Qt ?_)))
  exact e_1 (Tryz.results21) (Qg rfl) (Qs rfl)
 ·have hpa := around_c (G := G) at_ T.length h1 (by omega)
  have hpb := around_c (G := G) by_ T.length h3 (by omega)
  have hpj := around_c (G := G) how 15 h2 (by omega)
  have ba := arnd_bound at_ (most := T.length) (by omega)
  have bb := arnd_bound by_ (most := T.length) (by omega)
  have bj := arnd_bound how (most := 15) (by omega)
  obtain ⟨ia, hia⟩ : ∃ ia : Nat, arnd at_ T.length = (ia : Int) := ⟨(arnd at_ T.length).toNat, by omega⟩
  obtain ⟨ib, hib⟩ : ∃ ib : Nat, arnd by_ T.length = (ib : Int) := ⟨(arnd by_ T.length).toNat, by omega⟩
  obtain ⟨j, hj⟩ : ∃ j : Nat, arnd how 15 = (j : Int) := ⟨(arnd how 15).toNat, by omega⟩
  rw [hia] at hpa ba
  rw [hib] at hpb bb
  rw [hj] at hpj bj
  have hila : ia < T.length := by omega
  have hilb : ib < T.length := by omega
  have hma := hm _ (List.getElem_mem hila)
  have hmb := hm _ (List.getElem_mem hilb)
  have hjm : j < (moreT T[ia].t T[ib].t).length := by show j < 15;omega
  have hjl : j < ((moreT T[ia].t T[ib].t).map Str.mk).length := by rw [List.length_map];exact hjm
  have hen : Enc.enc ((moreT T[ia].t T[ib].t).map Str.mk)[j] = [WA (moreT T[ia].t T[ib].t)[j]] := by rw [List.getElem_map];rfl
  have hMl := moreT_len T[ia].t T[ib].t _ (List.getElem_mem hjm)
  have hsum : (T[ia].a : Int) + (T[ia].t.length : Int) = ((T[ia].a + T[ia].t.length : Nat) : Int) := by omega
  have hal : T[ia].a <= s.length := by omega
  have htl : T[ia].t.length <= s.length := by omega
  have hol : T[ib].t.length <= s.length := by omega
  have htk : (s.take T[ia].a).length <= 1000000 := by rw [List.length_take];omega
  have hdr : (s.drop (T[ia].a + T[ia].t.length)).length <= 1000000 := by rw [List.length_drop];omega
  clear hia hib hj bj hm
  generalize hM : (moreT T[ia].t T[ib].t)[j] = M at *
  refine ⟨s.take T[ia].a ++ [32] ++ M ++ [32] ++ s.drop (T[ia].a + T[ia].t.length), ?_, fun B => ?_⟩
  ·simp only [List.length_append, List.length_take, List.length_drop, List.length_cons, List.length_nil];omega
  refine Qa Tryz.func21 rfl Tryz.ntmps21 rfl (t := [(0, WA s), (1, .i at_), (2, .i how), (3, .i by_)]) rfl fun E hE => ?_
  (repeat' first|(refine Qe ?_;(first|refine QI rfl ?_|refine QJ rfl ?_|(refine QB ?_;(first|refine QS rfl ?_|refine QR rfl ?_|refine Qb rfl rfl rfl ?_))|refine QC rfl rfl (by first|assumption|omega|(simp;done)|(simp;omega)) ?_|(refine Qo ?_;(first|refine qe rfl rfl ?_|refine QO rfl rfl ?_))|(refine Qp ?_;(first|refine Qz rfl ?_|refine QZ rfl rfl (hpa) ?_|refine QZ rfl rfl (hpb) ?_|refine QZ rfl rfl (hsc) ?_))|refine WR rfl rfl rfl rfl ?_|refine W4 (cs := WE ((moreT T[ia].t T[ib].t).map Str.mk)) rfl rfl (by decide) rfl ?_|(refine g_fieldAddr ?_;(first|refine Qd rfl rfl ?_|refine s_fld_ep rfl rfl ?_))|refine QM rfl rfl rfl ?_|refine QD (fun _ _ => ?_)))|(refine Qk ?_;(first|refine Qi ?_|refine QK rfl ?_|refine Q1 ?_))|(refine Qj ?_;(first|refine Ql ?_|refine Qc ?_|(refine Wn ?_;first|refine Q6 (by rfl) (by kernel_rfl) (by kernel_rfl) ?_|refine Q5 (by kernel_rfl) (by kernel_rfl) ?_)|refine Qu ?_|refine Qn rfl (by omega) ?_|refine Qt ?_))|(refine ZZ ?_;(first|refine x_op rfl (by (repeat' first|(refine Qe ?_;(first|refine QI rfl ?_|refine QJ rfl ?_|(refine QB ?_;(first|refine QS rfl ?_|refine Qb rfl rfl rfl ?_))|refine s_idx_as (l := (moreT T[ia].t T[ib].t).map Str.mk) rfl rfl hjl hen ?_|(refine Qo ?_;(first|refine qj rfl rfl hsum ⟨by omega, by omega⟩ ?_|refine qe rfl rfl ?_))|(refine Qp ?_;(first|refine QW rfl ?_|refine QZ rfl rfl (hpj) ?_))|refine Qd rfl rfl ?_|(refine g_slice ?_;(first|refine s_sh rfl rfl ?_|refine s_sl rfl rfl ?_))))|exact ⟨rfl, rfl⟩)) ?_|refine ZT ?_)))
  exact e_1 (Tryz.results21) (Qg rfl) (Qs rfl)
section
variable {P : Program} {G : Nat -> DV} {B : Nat} {f : Operand -> DV} {σ : List ABlk} {K : DV -> List ABlk -> Prop} {dst : Option Tmp} {type : TypeId} {pos : String} {after : Array Edge} {gd : Option (Nat × Bool)}
theorem s_eql_asR {t t' : TypeId} {x y : Operand} {a b : Int} {k1 : IntKind} {v : Bool} (hx : f x = .sc (.int k1 a)) (hy : f y = .sc (.int k1 b)) (hc : decide (a = b) = v)
  (k : K (.sc (.bool v)) σ) : OpSem P G B ⟨dst, .binOp .eql t x y t', type, pos, after, gd⟩ f σ K := QO hx hy (by rw [hc];exact k)
end
section
variable {P : Program} {G : Nat -> DV} {B : Nat} {f : Operand -> DV} {σ : List ABlk} {K : DV -> List ABlk -> Prop} {dst : Option Tmp} {type : TypeId} {pos : String} {after : Array Edge} {gd : Option (Nat × Bool)}
theorem s_eql_strK {t t' : TypeId} {g1 : Bool} {z1 : Nat} {x y : Operand} {a b : List UInt8} {v : Bool} [ht : TyI P t .string g1 z1] (hx : f x = WA a) (hy : f y = WA b) (hc : decide (a = b) = v) (k : K (.b v) σ) : OpSem P G B ⟨dst, .binOp .eql t x y t', type, pos, after, gd⟩ f σ K := Wu hx hy (by rw [hc];exact k)
end
theorem decDigits_step {n : Nat} (h : ¬ n < 10) : Lib.decDigits n = Lib.decDigits (n / 10) ++ [UInt8.ofNat (48 + n % 10)] := by rw [Lib.decDigits, dif_neg h]
theorem digits_len (n : Nat) (h : n <= 9223372036854775807) : (Lib.decDigits n).length <= 21 := by
 have h1 := W5 (n := (n : Int)) ⟨by omega, by omega⟩
 unfold Lib.itoa at h1
 rw [if_neg (by omega)] at h1
 exact h1
theorem qN : ∀ (n : Nat), n <= 9223372036854775807 -> Go.Av.Pure Tryz.prog G 93 [.i n] (WA (Lib.decDigits n)) := by
 intro n
 induction n using Nat.strongRecOn with
 | ind n ih =>
 intro hn B
 by_cases h : n < 10
 ·have hw : IntKind.u8.wrap (48 + (n : Int)) = ((UInt8.ofNat (48 + n)).toNat : Int) := by rw [<- wrap_u8 (48 + n) (by omega)];congr 1
  refine Qa Tryz.func93 rfl Tryz.ntmps93 rfl (t := [(0, .i n)]) rfl fun E hE => ?_
  (repeat' first|(refine Qe ?_;(first|refine QI rfl ?_|refine QJ rfl ?_|(refine Qo ?_;(first|refine QY rfl rfl ?_|refine W7 rfl rfl (by omega) ?_))|(refine g_convert ?_;(first|refine s_conv_u8 rfl hw ?_|refine s_conv_bsl1 rfl ?_))|refine W4 rfl rfl (by decide) rfl ?_))|(refine Qk ?_;(first|refine Qi ?_|refine QK rfl ?_))|(refine Qj ?_;(first|refine Ql ?_|refine Qc ?_|refine Qq rfl (by omega) ?_|refine Qt ?_)))
  refine e_1 Tryz.results93 (Qg rfl) (Qs ?_)
  rw [Lib.decDigits_one h]
 ·have hr := ih (n / 10) (by omega) (by omega)
  have hl := digits_len (n / 10) (by omega)
  rw [show ((n / 10 : Nat) : Int) = (n : Int) / 10 by omega] at hr
  have hw : IntKind.u8.wrap (48 + (n : Int) % 10) = ((UInt8.ofNat (48 + n % 10)).toNat : Int) := by rw [<- wrap_u8 (48 + n % 10) (by omega)];congr 1
  refine Qa Tryz.func93 rfl Tryz.ntmps93 rfl (t := [(0, .i n)]) rfl fun E hE => ?_
  (repeat' first|(refine Qe ?_;(first|refine QI rfl ?_|refine QJ rfl ?_|refine QY rfl rfl ?_))|(refine Qk ?_;(first|refine Qi ?_|refine QK rfl ?_))|(refine Qj ?_;(first|refine Ql ?_|refine Qc ?_|(refine Wn ?_;first|refine Q6 (by rfl) (by kernel_rfl) (by kernel_rfl) ?_|refine Q5 (by kernel_rfl) (by kernel_rfl) ?_)|refine Qu ?_|refine Qn rfl (by omega) ?_|refine Qt ?_))|(refine ZZ ?_;(first|refine x_op rfl (by (repeat' first|(refine Qe ?_;(first|refine QI rfl ?_|refine QJ rfl ?_|(refine Qo ?_;(first|refine W7 rfl rfl (by omega) ?_|refine qe rfl rfl ?_|refine s_quo rfl rfl (by omega) (by omega) (by omega) ?_|refine s_rem rfl rfl (by first|omega|exact nn_shr (by omega)) (by omega) ?_))|refine QZ rfl rfl (hr) ?_|(refine g_convert ?_;(first|refine s_conv_u8 rfl hw ?_|refine s_conv_bsl1 rfl ?_))|refine W4 rfl rfl (by decide) rfl ?_))|exact ⟨rfl, rfl⟩)) ?_|refine ZT ?_)))
  refine e_1 Tryz.results93 (Qg rfl) (Qs ?_)
  rw [decDigits_step h]
theorem ZM (n : Int) : Go.Av.Pure Tryz.prog G 92 [.i n] (.b (WX n)) := fun B => by
 unfold WX
 by_cases h : 0 <= n
 ·refine Qa Tryz.func92 rfl Tryz.ntmps92 rfl (t := [(0, .i n)]) rfl fun E hE => ?_
  (repeat' first|(refine Qe ?_;(first|refine QI rfl ?_|refine QJ rfl ?_|(refine Qo ?_;(first|refine Zd rfl rfl ?_|refine W8 rfl rfl ?_))|refine WK rfl rfl ?_))|(refine Qk ?_;(first|refine Qi ?_|refine QK rfl ?_|refine Wx rfl rfl rfl rfl ?_|refine Q7 rfl rfl (by omega) ?_))|(refine Qj ?_;(first|refine Ql ?_|refine Qc ?_|refine Qt ?_)))
  refine e_1 Tryz.results92 (Qg rfl) (Qs ?_)
  simp [h]
 ·refine Qa Tryz.func92 rfl Tryz.ntmps92 rfl (t := [(0, .i n)]) rfl fun E hE => ?_
  (repeat' first|(refine Qe ?_;(first|refine QI rfl ?_|refine QJ rfl ?_|refine W8 rfl rfl ?_|refine Wr rfl rfl ?_))|(refine Qk ?_;(first|refine Qi ?_|refine QK rfl ?_|refine W1 rfl rfl rfl rfl ?_|refine Q2 rfl rfl (by omega) ?_))|(refine Qj ?_;(first|refine Ql ?_|refine Qc ?_|refine Qt ?_)))
  refine e_1 Tryz.results92 (Qg rfl) (Qs ?_)
  simp [h]
def bareR (m : Int) (len : Nat) (kids : Int) : Bool := decide (m = 0) && decide ((len : Int) = kids)
theorem W2 (k n m : Int) (ks : List Nd) (kids : Int) : Go.Av.Pure Tryz.prog G 97 [.agg [.i k, .i n, .i m, QT ks], .i kids] (.b (bareR m ks.length kids)) := fun B => by
 unfold bareR
 by_cases h : m = 0
 ·refine Qa Tryz.func97 rfl Tryz.ntmps97 rfl (t := [(0, .agg [.i k, .i n, .i m, QT ks]), (1, .i kids)]) rfl fun E hE => ?_
  (repeat' first|(refine Qe ?_;(first|refine QI rfl ?_|refine QJ rfl ?_|refine Qb rfl rfl rfl ?_|refine QO rfl rfl ?_|refine Qz rfl ?_|refine WK rfl rfl ?_|refine Qd rfl rfl ?_|refine QV rfl rfl (fun _ _ => ?_)))|(refine Qk ?_;(first|refine Qi ?_|refine QK rfl ?_|refine Wx rfl rfl rfl rfl ?_|refine Q7 rfl rfl (by omega) ?_))|(refine Qj ?_;(first|refine Ql ?_|refine Qc ?_|refine Qt ?_)))
  refine e_1 Tryz.results97 (Qg rfl) (Qs ?_)
  simp [h]
 ·refine Qa Tryz.func97 rfl Tryz.ntmps97 rfl (t := [(0, .agg [.i k, .i n, .i m, QT ks]), (1, .i kids)]) rfl fun E hE => ?_
  (repeat' first|(refine Qe ?_;(first|refine QI rfl ?_|refine QJ rfl ?_|refine Qb rfl rfl rfl ?_|refine QO rfl rfl ?_|refine Wr rfl rfl ?_|refine Qd rfl rfl ?_|refine QV rfl rfl (fun _ _ => ?_)))|(refine Qk ?_;(first|refine Qi ?_|refine QK rfl ?_|refine W1 rfl rfl rfl rfl ?_|refine Q2 rfl rfl (by omega) ?_))|(refine Qj ?_;(first|refine Ql ?_|refine Qc ?_|refine Qt ?_)))
  refine e_1 Tryz.results97 (Qg rfl) (Qs ?_)
  simp [h]
theorem r_ops_c : Go.Av.Pure Tryz.prog G 99 [] (QT (opTexts.map Str.mk)) := fun B => by
 refine Qa Tryz.func99 rfl Tryz.ntmps99 rfl (t := []) rfl fun E hE => ?_
 (repeat' first|(refine Qe ?_;(first|refine QJ rfl ?_|refine qb [Str.mk [43], Str.mk [45], Str.mk [42], Str.mk [47], Str.mk [37], Str.mk [38], Str.mk [124], Str.mk [94], Str.mk [60, 60], Str.mk [62, 62], Str.mk [60], Str.mk [61, 61], Str.mk [38, 38], Str.mk [124, 124]] rfl rfl (by decide) rfl ?_))|(refine Qk ?_;(first|refine Qi ?_|refine QK rfl ?_))|(refine Qj ?_;(first|refine Ql ?_|refine Qc ?_|refine Qt ?_)))
 refine e_1 Tryz.results99 (Qg rfl) (Qs ?_)
 rfl
def qm (ls : List Str) : List (List UInt8) := ls.map (·.l)
theorem commas_snoc (a : List (List UInt8)) (x : List UInt8) : WO (a ++ [x]) = if a = [] then x else WO a ++ comma ++ x := by
 cases a with
 | nil => exact Lib.join_one _ _
 | cons y r =>
  rw [if_neg (by simp)]
  show Lib.join (y :: (r ++ [x])) comma = Lib.join (y :: r) comma ++ comma ++ x
  rw [Lib.join_cons, Lib.join_cons]
  simp [Lib.joinTail]
theorem commas_take_le (ls : List Str) (i : Nat) : (WO (qm (ls.take i))).length <= (WO (qm ls)).length := by
 have key : ∀ (a b : List (List UInt8)), (WO a).length <= (WO (a ++ b)).length := by
  intro a b
  cases a with
  | nil => simp [WO, Lib.join_nil]
  | cons x r =>
   show (Lib.join (x :: r) comma).length <= (Lib.join (x :: (r ++ b)) comma).length
   rw [Lib.join_cons, Lib.join_cons]
   simp [Lib.joinTail]
 have := key (qm (ls.take i)) (qm (ls.drop i))
 unfold qm at this ⊢
 rwa [<- List.map_append, List.take_append_drop] at this
theorem r_list_c (ls : List Str) (hlen : (WO (qm ls)).length <= 140737488355328) (hn : ls.length <= 1000000000) : Go.Av.Pure Tryz.prog G 96 [QT ls] (WA (WO (qm ls))) := fun B => by
 refine Qa Tryz.func96 rfl Tryz.ntmps96 rfl (t := [(0, QT ls)]) rfl fun E hE => ?_
 (repeat' first|refine QJ rfl ?_|(refine Qk ?_;(first|refine Qi ?_|refine QK rfl ?_))|(refine Qj ?_;(first|refine Ql ?_|refine Qc ?_|refine Qf ?_)))
 refine ZQ (fun (i : Nat) => ⟨[(0, QT ls), (3, WA (WO (qm (ls.take i)))), (4, .i i)], []⟩) (fun i => i <= ls.length) (fun i => ls.length - i) 0 ?_ (by omega) ?_
 ·exact zal rfl
 intro i hi
 have hle := commas_take_le ls i
 by_cases hil : i < ls.length
 ·have hle2 := commas_take_le ls (i + 1)
  have hsn : WO (qm (ls.take (i + 1))) = if qm (ls.take i) = [] then ls[i].l else WO (qm (ls.take i)) ++ comma ++ ls[i].l := by
   rw [<- commas_snoc];unfold qm;rw [List.take_succ_eq_append_getElem hil, List.map_append];rfl
  by_cases h0 : i = 0
  ·subst h0
   have hll : ls[0].l.length <= 140737488355328 := by
    rw [hsn, if_pos (by simp [qm])] at hle2;omega
   (repeat' first|(refine Qe ?_;(first|refine QI rfl ?_|refine QJ rfl ?_|refine QS rfl ?_|refine QC rfl rfl (by first|assumption|omega|(simp;done)|(simp;omega)) ?_|(refine Qo ?_;(first|refine QY rfl rfl ?_|refine ZC rfl rfl ?_|refine W7 rfl rfl (by omega) ?_|refine qe rfl rfl ?_))|refine Qz rfl ?_))|(refine Qk ?_;(first|refine Qi ?_|refine QK rfl ?_))|(refine Qj ?_;(first|refine Ql ?_|refine Qc ?_|refine Qf ?_|refine Qu ?_|refine Qm rfl ?_|refine Qq rfl (by omega) ?_)))
   refine ⟨1, by omega, by omega, ?_⟩
   rw [hsn, if_pos (by simp [qm])]
   exact zal rfl
  ·have hne : qm (ls.take i) ≠ [] := by
    intro h
    have h2 : (qm (ls.take i)).length = i := by unfold qm;rw [List.length_map, List.length_take];omega
    rw [h] at h2;exact h0 h2.symm
   rw [if_neg hne] at hsn
   have hll : (WO (qm (ls.take i))).length + 2 + ls[i].l.length <= 140737488355328 := by
    rw [hsn] at hle2
    simp only [List.length_append, show comma.length = 2 from rfl] at hle2
    omega
   (repeat' first|(refine Qe ?_;(first|refine QI rfl ?_|refine QJ rfl ?_|refine QS rfl ?_|refine QC rfl rfl (by first|assumption|omega|(simp;done)|(simp;omega)) ?_|(refine Qo ?_;(first|refine QY rfl rfl ?_|refine ZC rfl rfl ?_|refine W7 rfl rfl (by omega) ?_|refine qe rfl rfl ?_))|refine Qz rfl ?_))|(refine Qk ?_;(first|refine Qi ?_|refine QK rfl ?_))|(refine Qj ?_;(first|refine Ql ?_|refine Qc ?_|refine Qf ?_|refine Qu ?_|refine Qq rfl (by omega) ?_)))
   refine ⟨i + 1, by omega, by omega, ?_⟩
   rw [hsn]
   exact zal rfl
 ·have hie : i = ls.length := by omega
  subst hie
  (repeat' first|(refine Qe ?_;(first|refine QI rfl ?_|refine QJ rfl ?_|refine QY rfl rfl ?_|refine Qz rfl ?_))|(refine Qk ?_;(first|refine Qi ?_|refine QK rfl ?_))|(refine Qj ?_;(first|refine Ql ?_|refine Qc ?_|refine Qn rfl (by omega) ?_|refine Wp rfl ?_|refine Qt ?_)))
  refine e_1 Tryz.results96 (Qg rfl) (Qs ?_)
  rw [List.take_length]
theorem Wq (m : Int) (l : Nat) (c : Int) (h : 0 <= c) : Q3 m l c = bareR m l c := by unfold Q3 bareR;rw [decide_eq_false (show ¬ c < 0 by omega)];simp
theorem Zc (n m : Int) (l : Nat) (c : Int) (h : 0 <= c) : WJ n m l c = (decide (n = 0) && bareR m l c) := by unfold WJ;rw [Wq _ _ _ h]
theorem itoa_nat {n : Int} (h : 0 <= n) : Lib.itoa n = Lib.decDigits n.toNat := by unfold Lib.itoa;rw [if_neg (by omega)]
theorem qO {n : Int} (h : WX n = true) : 0 <= n /\ n <= 999 := by simpa [WX] using h
theorem rTy_c (t : Nd) : okN t -> Qx t <= 1000000 -> ∃ x, Go.Av.Pure Tryz.prog G 54 [.agg (Enc.enc t)] (.tup [WA x, .b (ZH t)]) /\ (ZH t = true -> x = qv t) := by
 induction t using Nd.ind with
 | h k n m ks ih =>
 intro hok hsz
 rw [okN] at hok
 rw [Qx] at hsz
 have hl1 := WV ks
 have hi : ∀ x ∈ ks, ∃ y, Go.Av.Pure Tryz.prog G 54 [.agg (Enc.enc x)] (.tup [WA y, .b (ZH x)]) /\ (ZH x = true -> y = qv x) := fun x hx => ih x hx (Ws hok.2 hx) (by have := Q9 hx;omega)
 clear ih
 rw [qv, ZH, typTs_eq, typOks_eq, Q0]
 by_cases k2 : k = 2
 ·subst k2
  have hdig : Go.Av.Pure Tryz.prog G 93 [.i (max n 0)] (WA (Lib.decDigits n.toNat)) := by
   rw [show max n 0 = (n.toNat : Int) by omega];exact qN _ (by have := hok.1.2.1.2;omega)
  have hdl := digits_len n.toNat (by have := hok.1.2.1.2;omega)
  rw [Wq _ _ _ (by decide)]
  refine ⟨[97, 114, 114, 32] ++ Lib.decDigits n.toNat, fun B => ?_, ?_⟩
  ·refine Qa Tryz.func54 rfl Tryz.ntmps54 rfl (t := [(0, .agg [.i 2, .i n, .i m, QT ks])]) rfl fun E hE => ?_
   (repeat' first|(refine Qe ?_;(first|refine QJ rfl ?_|refine Qb rfl rfl rfl ?_|refine QO rfl rfl ?_|refine Qd rfl rfl ?_|refine QV rfl rfl (fun _ _ => ?_)))|(refine Qk ?_;(first|refine Qi ?_|refine QK rfl ?_))|(refine Qj ?_;(first|refine Ql ?_|refine Qc ?_|(refine Wn ?_;first|refine Q6 (by rfl) (by kernel_rfl) (by kernel_rfl) ?_|refine Q5 (by kernel_rfl) (by kernel_rfl) ?_)|refine Qh rfl ?_|refine Qt ?_))|(refine ZZ ?_;(first|refine x_gn rfl rfl rfl rfl ?_|refine x_op rfl (by (repeat' first|(refine Qe ?_;(first|refine QI rfl ?_|refine QJ rfl ?_|(refine QB ?_;(first|refine WQ rfl rfl ?_|refine Qb rfl rfl rfl ?_))|refine qe rfl rfl ?_|(refine Qp ?_;(first|refine s_max rfl rfl ?_|refine QZ rfl rfl (hdig) ?_|refine QZ rfl rfl (ZM _) ?_|refine QZ rfl rfl (W2 _ _ _ _ _) ?_))|(refine QX ?_;(first|refine WK rfl rfl ?_|refine Wr rfl rfl ?_))|refine Qd rfl rfl ?_))|exact ⟨rfl, rfl⟩)) ?_|refine x_gy rfl rfl rfl rfl (by (repeat' first|(refine Qe ?_;(first|refine QI rfl ?_|refine QJ rfl ?_|(refine QB ?_;(first|refine WQ rfl rfl ?_|refine Qb rfl rfl rfl ?_))|refine qe rfl rfl ?_|(refine Qp ?_;(first|refine s_max rfl rfl ?_|refine QZ rfl rfl (hdig) ?_|refine QZ rfl rfl (ZM _) ?_|refine QZ rfl rfl (W2 _ _ _ _ _) ?_))|(refine QX ?_;(first|refine WK rfl rfl ?_|refine Wr rfl rfl ?_))|refine Qd rfl rfl ?_))|exact ⟨rfl, rfl⟩)) ?_|refine ZT ?_|refine x_sp rfl rfl (fun _ => ?_) (fun _ => ?_))))
   all_goals exact e_2 Tryz.results54 (Qg rfl) (Qg rfl) (Qs (by simp [*]))
  ·intro h
   simp at h
   rw [itoa_nat (qO h.2).1];simp
 by_cases k0 : k = 0
 ·subst k0
  rw [Zc _ _ _ _ (by decide)]
  refine ⟨[105, 110, 116], fun B => ?_, by simp⟩
  by_cases hn : n = 0
  all_goals
   refine Qa Tryz.func54 rfl Tryz.ntmps54 rfl (t := [(0, .agg [.i 0, .i n, .i m, QT ks])]) rfl fun E hE => ?_
   (repeat' first|(refine Qe ?_;(first|refine QI rfl ?_|refine QJ rfl ?_|refine Qb rfl rfl rfl ?_|refine QO rfl rfl ?_|refine WK rfl rfl ?_|refine Qd rfl rfl ?_|refine QV rfl rfl (fun _ _ => ?_)))|(refine Qk ?_;(first|refine Qi ?_|refine QK rfl ?_|refine W1 rfl rfl rfl rfl ?_))|(refine Qj ?_;(first|refine Ql ?_|refine Qc ?_|(refine Wn ?_;first|refine Q6 (by rfl) (by kernel_rfl) (by kernel_rfl) ?_|refine Q5 (by kernel_rfl) (by kernel_rfl) ?_)|refine Qu ?_|refine Qh rfl ?_|refine Qm rfl ?_|refine Qt ?_))|(refine ZZ ?_;(first|refine x_gn rfl rfl rfl rfl ?_|refine x_op rfl (by (repeat' first|(refine Qe ?_;(first|refine QI rfl ?_|refine QJ rfl ?_|(refine QB ?_;(first|refine WQ rfl rfl ?_|refine QS rfl ?_|refine Qb rfl rfl rfl ?_))|refine QC rfl rfl (by first|assumption|omega|(simp;done)|(simp;omega)) ?_|refine QO rfl rfl ?_|refine QZ rfl rfl (W2 _ _ _ _ _) ?_|(refine QX ?_;(first|refine WK rfl rfl ?_|refine Wr rfl rfl ?_))|refine qb [Str.mk [105, 110, 116], Str.mk [98, 111, 111, 108]] rfl rfl (by decide) rfl ?_|refine Qd rfl rfl ?_))|exact ⟨rfl, rfl⟩)) ?_|refine x_gy rfl rfl rfl rfl (by (repeat' first|(refine Qe ?_;(first|refine QI rfl ?_|refine QJ rfl ?_|(refine QB ?_;(first|refine WQ rfl rfl ?_|refine QS rfl ?_|refine Qb rfl rfl rfl ?_))|refine QC rfl rfl (by first|assumption|omega|(simp;done)|(simp;omega)) ?_|refine QO rfl rfl ?_|refine QZ rfl rfl (W2 _ _ _ _ _) ?_|(refine QX ?_;(first|refine WK rfl rfl ?_|refine Wr rfl rfl ?_))|refine qb [Str.mk [105, 110, 116], Str.mk [98, 111, 111, 108]] rfl rfl (by decide) rfl ?_|refine Qd rfl rfl ?_))|exact ⟨rfl, rfl⟩)) ?_|refine ZT ?_|refine x_sp_t rfl rfl (by omega) ?_|refine x_sp_f rfl rfl (by omega) ?_)))
   all_goals exact e_2 Tryz.results54 (Qg rfl) (Qg rfl) (Qs (by simp [*]))
 by_cases k1 : k = 1
 ·subst k1
  rw [Zc _ _ _ _ (by decide)]
  refine ⟨[98, 111, 111, 108], fun B => ?_, by simp⟩
  by_cases hn : n = 0
  all_goals
   refine Qa Tryz.func54 rfl Tryz.ntmps54 rfl (t := [(0, .agg [.i 1, .i n, .i m, QT ks])]) rfl fun E hE => ?_
   (repeat' first|(refine Qe ?_;(first|refine QI rfl ?_|refine QJ rfl ?_|refine Qb rfl rfl rfl ?_|refine QO rfl rfl ?_|refine Wr rfl rfl ?_|refine Qd rfl rfl ?_|refine QV rfl rfl (fun _ _ => ?_)))|(refine Qk ?_;(first|refine Qi ?_|refine QK rfl ?_|refine Wx rfl rfl rfl rfl ?_))|(refine Qj ?_;(first|refine Ql ?_|refine Qc ?_|(refine Wn ?_;first|refine Q6 (by rfl) (by kernel_rfl) (by kernel_rfl) ?_|refine Q5 (by kernel_rfl) (by kernel_rfl) ?_)|refine Qu ?_|refine Qh rfl ?_|refine Qm rfl ?_|refine Qt ?_))|(refine ZZ ?_;(first|refine x_gn rfl rfl rfl rfl ?_|refine x_op rfl (by (repeat' first|(refine Qe ?_;(first|refine QI rfl ?_|refine QJ rfl ?_|(refine QB ?_;(first|refine WQ rfl rfl ?_|refine QS rfl ?_|refine Qb rfl rfl rfl ?_))|refine QC rfl rfl (by first|assumption|omega|(simp;done)|(simp;omega)) ?_|refine QO rfl rfl ?_|refine QZ rfl rfl (W2 _ _ _ _ _) ?_|(refine QX ?_;(first|refine WK rfl rfl ?_|refine Wr rfl rfl ?_))|refine qb [Str.mk [105, 110, 116], Str.mk [98, 111, 111, 108]] rfl rfl (by decide) rfl ?_|refine Qd rfl rfl ?_))|exact ⟨rfl, rfl⟩)) ?_|refine x_gy rfl rfl rfl rfl (by (repeat' first|(refine Qe ?_;(first|refine QI rfl ?_|refine QJ rfl ?_|(refine QB ?_;(first|refine WQ rfl rfl ?_|refine QS rfl ?_|refine Qb rfl rfl rfl ?_))|refine QC rfl rfl (by first|assumption|omega|(simp;done)|(simp;omega)) ?_|refine QO rfl rfl ?_|refine QZ rfl rfl (W2 _ _ _ _ _) ?_|(refine QX ?_;(first|refine WK rfl rfl ?_|refine Wr rfl rfl ?_))|refine qb [Str.mk [105, 110, 116], Str.mk [98, 111, 111, 108]] rfl rfl (by decide) rfl ?_|refine Qd rfl rfl ?_))|exact ⟨rfl, rfl⟩)) ?_|refine ZT ?_|refine x_sp_t rfl rfl (by omega) ?_|refine x_sp_f rfl rfl (by omega) ?_)))
   all_goals exact e_2 Tryz.results54 (Qg rfl) (Qg rfl) (Qs (by simp [*]))
 by_cases k3 : k = 3
 ·subst k3
  by_cases hc : ks.length = 0 \/ n ≠ 0 \/ m ≠ 0
  ·refine ⟨[], fun B => ?_, fun h => ?_⟩
   ·by_cases h0 : (ks.length : Int) = 0
    ·have h00 : ks.length = 0 := by omega
     refine Qa Tryz.func54 rfl Tryz.ntmps54 rfl (t := [(0, .agg [.i 3, .i n, .i m, QT ks])]) rfl fun E hE => ?_
     (repeat' first|(refine Qe ?_;(first|refine QI rfl ?_|refine QJ rfl ?_|refine Qb rfl rfl rfl ?_|(refine Qo ?_;(first|refine QO rfl rfl ?_|refine ZV rfl rfl ?_))|refine Qz rfl ?_|(refine QX ?_;(first|refine WK rfl rfl ?_|refine Wr rfl rfl ?_))|refine Qd rfl rfl ?_|refine QV rfl rfl (fun _ _ => ?_)))|(refine Qk ?_;(first|refine Qi ?_|refine QK rfl ?_|refine Wx rfl rfl rfl rfl ?_|refine W1 rfl rfl rfl rfl ?_|refine Q7 rfl rfl (by omega) ?_))|(refine Qj ?_;(first|refine Ql ?_|refine Qc ?_|refine Qu ?_|refine Qh rfl ?_|refine Qm rfl ?_|refine Qt ?_)))
     all_goals exact e_2 Tryz.results54 (Qg rfl) (Qg rfl) (Qs (by simp [*]))
    by_cases hn : n = 0
    ·have hm : m ≠ 0 := by omega
     refine Qa Tryz.func54 rfl Tryz.ntmps54 rfl (t := [(0, .agg [.i 3, .i n, .i m, QT ks])]) rfl fun E hE => ?_
     (repeat' first|(refine Qe ?_;(first|refine QI rfl ?_|refine QJ rfl ?_|refine Qb rfl rfl rfl ?_|(refine Qo ?_;(first|refine QO rfl rfl ?_|refine ZV rfl rfl ?_))|refine Qz rfl ?_|refine Wr rfl rfl ?_|refine Qd rfl rfl ?_|refine QV rfl rfl (fun _ _ => ?_)))|(refine Qk ?_;(first|refine Qi ?_|refine QK rfl ?_|refine Wx rfl rfl rfl rfl ?_|refine Q2 rfl rfl (by omega) ?_))|(refine Qj ?_;(first|refine Ql ?_|refine Qc ?_|refine Qu ?_|refine Qm rfl ?_|refine Qq rfl (by omega) ?_|refine Qt ?_)))
     all_goals exact e_2 (Tryz.results54) (Qg rfl) (Qg rfl) (Qs (by simp [WJ, Q3, *]))
    ·refine Qa Tryz.func54 rfl Tryz.ntmps54 rfl (t := [(0, .agg [.i 3, .i n, .i m, QT ks])]) rfl fun E hE => ?_
     (repeat' first|(refine Qe ?_;(first|refine QI rfl ?_|refine QJ rfl ?_|refine Qb rfl rfl rfl ?_|(refine Qo ?_;(first|refine QO rfl rfl ?_|refine ZV rfl rfl ?_))|refine Qz rfl ?_|(refine QX ?_;(first|refine WK rfl rfl ?_|refine Wr rfl rfl ?_))|refine Qd rfl rfl ?_|refine QV rfl rfl (fun _ _ => ?_)))|(refine Qk ?_;(first|refine Qi ?_|refine QK rfl ?_|refine Wx rfl rfl rfl rfl ?_|refine W1 rfl rfl rfl rfl ?_|refine Q7 rfl rfl (by omega) ?_|refine Q2 rfl rfl (by omega) ?_))|(refine Qj ?_;(first|refine Ql ?_|refine Qc ?_|refine Qu ?_|refine Qh rfl ?_|refine Qm rfl ?_|refine Qt ?_)))
     all_goals exact e_2 (Tryz.results54) (Qg rfl) (Qg rfl) (Qs (by simp [WJ, Q3, *]))
   ·simp [WJ, Q3] at h;omega
  ·have hlen : ¬ ks.length = 0 := fun h => hc (.inl h)
   have hn : n = 0 := Classical.byContradiction fun h => hc (.inr (.inl h))
   have hm : m = 0 := Classical.byContradiction fun h => hc (.inr (.inr h))
   have hlz : ¬ (ks.length : Int) = 0 := by omega
   have hlp : 0 < ks.length := by omega
   have hcl := ZO qv ks fun x hx => qL x (Ws hok.2 hx)
   subst hn;subst hm
   refine ⟨if ks.all ZH = true then [114, 101, 99, 32, 40] ++ WO (ks.map qv) ++ [41] else [], fun B => ?_, fun h => ?_⟩
   ·refine Qa Tryz.func54 rfl Tryz.ntmps54 rfl (t := [(0, .agg [.i 3, .i 0, .i 0, QT ks])]) rfl fun E hE => ?_
    (repeat' first|(refine Qe ?_;(first|refine QI rfl ?_|refine QJ rfl ?_|refine Qb rfl rfl rfl ?_|(refine Qo ?_;(first|refine QO rfl rfl ?_|refine ZV rfl rfl ?_))|refine Qz rfl ?_|refine Wr rfl rfl ?_|refine Qd rfl rfl ?_|refine QV rfl rfl (fun _ _ => ?_)))|(refine Qk ?_;(first|refine Qi ?_|refine QK rfl ?_|refine Wx rfl rfl rfl rfl ?_|refine Q2 rfl rfl (by omega) ?_))|(refine Qj ?_;(first|refine Ql ?_|refine Qc ?_|refine Qf ?_|refine Qu ?_|refine Qm rfl ?_)))
    rename_i gb hgb
    refine r_own 4 1 rfl fun gO hgO => ?_
    refine r_loopg (fun (i : Nat) g => ⟨[(1, .ptr 0 gb 0), (4, .ref 1 g 0 ((ks.take i).map fun x => Str.mk (qv x)).length 1), (5, .i i)], [.row gb [.i 3, .i 0, .i 0, QT ks], .row g (WE ((ks.take i).map fun x => Str.mk (qv x)))]⟩) (fun i => i <= ks.length /\ (ks.take i).all ZH = true) (fun i => ks.length - i) 0 gO hgO ?_ (by simp) ?_
    ·exact zal rfl
    intro i g ⟨hil0, hall⟩ hg
    by_cases hil : i < ks.length
    ·obtain ⟨y, hx, hxe⟩ := hi _ (List.getElem_mem hil)
     by_cases hk : ZH ks[i] = true
     ·have hye := hxe hk
      subst hye
      rw [hk] at hx
      have hb2 : ((ks.take (i + 1)).map fun x => Str.mk (qv x)) = ((ks.take i).map fun x => Str.mk (qv x)) ++ [Str.mk (qv ks[i])] := by rw [List.take_succ_eq_append_getElem hil, List.map_append];rfl
      have hal : ((ks.take i).map fun x => Str.mk (qv x)).length <= 1048576 := by simp;omega
      (repeat' first|(refine Qe ?_;(first|refine QI rfl ?_|refine QJ rfl ?_|(refine QB ?_;(first|refine QR rfl ?_|refine Qb rfl rfl rfl ?_))|refine QC rfl rfl (by first|assumption|omega|(simp;done)|(simp;omega)) ?_|(refine Qo ?_;(first|refine QY rfl rfl ?_|refine W7 rfl rfl (by omega) ?_))|(refine Qp ?_;(first|refine QZ rfl rfl (hx) ?_|refine ZL (z := Str.mk _) rfl rfl rfl rfl rfl rfl rfl (by first|omega|(simp;omega)) (by first|omega|(simp;omega)) (fun _ => rfl) (fun _ _ => ?_)|refine Qz rfl ?_))|refine W4 rfl rfl (by decide) rfl ?_|refine Wo rfl ?_|refine Qd rfl rfl ?_|refine QM rfl rfl rfl ?_))|(refine Qk ?_;(first|refine Qi ?_|refine QK rfl ?_))|(refine Qj ?_;(first|refine Ql ?_|refine Qc ?_|refine Qf ?_|refine Qu ?_|refine Qm rfl ?_|refine Qq rfl (by omega) ?_)))
      refine ⟨i + 1, _, ⟨by omega, by rw [List.take_succ_eq_append_getElem hil, List.all_append, hall];simp [hk]⟩, by assumption, by omega, ?_⟩
      rw [hb2]
      exact zal rfl
     ·have hk2 : ZH ks[i] = false := by rw [<- Bool.not_eq_true];exact hk
      rw [hk2] at hx
      have hna : ks.all ZH = false := by
       rw [<- Bool.not_eq_true, List.all_eq_true]
       intro h;exact hk (h _ (List.getElem_mem hil))
      (repeat' first|(refine Qe ?_;(first|refine QI rfl ?_|refine QJ rfl ?_|(refine QB ?_;(first|refine QR rfl ?_|refine Qb rfl rfl rfl ?_))|refine QC rfl rfl (by first|assumption|omega|(simp;done)|(simp;omega)) ?_|refine QY rfl rfl ?_|(refine Qp ?_;(first|refine QZ rfl rfl (hx) ?_|refine Qz rfl ?_))|refine Wo rfl ?_|refine Qd rfl rfl ?_|refine QM rfl rfl rfl ?_))|(refine Qk ?_;(first|refine Qi ?_|refine QK rfl ?_))|(refine Qj ?_;(first|refine Ql ?_|refine Qc ?_|refine Qf ?_|refine Qu ?_|refine Qh rfl ?_|refine Qq rfl (by omega) ?_|refine Qt ?_)))
      exact e_2 (Tryz.results54) (Qg rfl) (Qg rfl) (Qs (by simp [hna]))
    ·have hie : i = ks.length := by omega
     subst hie
     rw [List.take_length] at *
     have hJ : (WO (qm (ks.map fun x => Str.mk (qv x)))).length <= 140737488355328 := by unfold qm;rw [List.map_map];show (WO (ks.map qv)).length <= _;omega
     have hN : (ks.map fun x => Str.mk (qv x)).length <= 1000000000 := by simp;omega
     have hst : qm (ks.map fun x => Str.mk (qv x)) = ks.map qv := by unfold qm;rw [List.map_map];rfl
     have hcl2 : (WO (qm (ks.map fun x => Str.mk (qv x)))).length <= 30 * QQ ks := by rw [hst];exact hcl
     (repeat' first|(refine Qe ?_;(first|refine QI rfl ?_|refine QJ rfl ?_|refine Qb rfl rfl rfl ?_|(refine Qo ?_;(first|refine QY rfl rfl ?_|refine qe rfl rfl ?_))|(refine Qp ?_;(first|refine s_call_v rfl rfl (View.ref rfl (by rw [Q4];rfl) (QN _) View.nil) (r_list_c _ hJ hN) rfl ?_|refine Qz rfl ?_))|refine Qd rfl rfl ?_))|(refine Qk ?_;(first|refine Qi ?_|refine QK rfl ?_))|(refine Qj ?_;(first|refine Ql ?_|refine Qc ?_|refine Qn rfl (by omega) ?_|refine Wp rfl ?_|refine Qt ?_)))
     exact e_2 (Tryz.results54) (Qg rfl) (Qg rfl) (Qs (by rw [hst];simp [hall, WJ, Q3, hlp]))
   ·have ha : ks.all ZH = true := by simp at h;rw [List.all_eq_true];exact h.2
    rw [if_pos ha];simp
 ·refine ⟨[], fun B => ?_, by simp [k0, k1, k2, k3]⟩
  refine Qa Tryz.func54 rfl Tryz.ntmps54 rfl (t := [(0, .agg [.i k, .i n, .i m, QT ks])]) rfl fun E hE => ?_
  (repeat' first|(refine Qe ?_;(first|refine QI rfl ?_|refine QJ rfl ?_|refine Qb rfl rfl rfl ?_|(refine Qo ?_;(first|refine QO rfl rfl ?_|refine ZV rfl rfl ?_))|(refine QX ?_;(first|refine WK rfl rfl ?_|refine Wr rfl rfl ?_))|refine Qd rfl rfl ?_|refine QV rfl rfl (fun _ _ => ?_)))|(refine Qk ?_;(first|refine Qi ?_|refine QK rfl ?_|refine Wx rfl rfl rfl rfl ?_|refine W1 rfl rfl rfl rfl ?_|refine Q7 rfl rfl (by omega) ?_|refine Q2 rfl rfl (by omega) ?_))|(refine Qj ?_;(first|refine Ql ?_|refine Qc ?_|refine Qu ?_|refine Qh rfl ?_|refine Qn rfl (by omega) ?_|refine Qt ?_)))
  all_goals exact e_2 Tryz.results54 (Qg rfl) (Qg rfl) (Qs (by simp [*]))
def RxC (G : Nat -> DV) (t : Nd) : Prop := ∃ x, Go.Av.Pure Tryz.prog G 55 [.agg (Enc.enc t)] (.tup [WA x, .b (Zs t)]) /\ (Zs t = true -> x = exT t)
theorem rexprs_c (ks : List Nd) (hsz : QQ ks <= 1000000) (hi : ∀ x ∈ ks, RxC G x) : Go.Av.Pure Tryz.prog G 98 [QT ks] (.tup [QT (if ks.all Zs = true then ks.map (fun x => Str.mk (exT x)) else []), .b (ks.all Zs)]) := fun B => by
 have hl1 := WV ks
 refine Qa Tryz.func98 rfl Tryz.ntmps98 rfl (t := [(0, QT ks)]) rfl fun E hE => ?_
 (repeat' first|refine QJ rfl ?_|(refine Qk ?_;(first|refine Qi ?_|refine QK rfl ?_))|(refine Qj ?_;(first|refine Ql ?_|refine Qc ?_|refine Qf ?_)))
 refine r_own 4 1 rfl fun gO hgO => ?_
 refine r_loopg (fun (i : Nat) g => ⟨[(0, QT ks), (4, .ref 0 g 0 ((ks.take i).map fun x => Str.mk (exT x)).length 1), (5, .i i)], [.row g (WE ((ks.take i).map fun x => Str.mk (exT x)))]⟩) (fun i => i <= ks.length /\ (ks.take i).all Zs = true) (fun i => ks.length - i) 0 gO hgO ?_ (by simp) ?_
 ·exact zal rfl
 intro i g ⟨hil0, hall⟩ hg
 by_cases hil : i < ks.length
 ·obtain ⟨y, hx, hxe⟩ := hi _ (List.getElem_mem hil)
  by_cases hk : Zs ks[i] = true
  ·have hye := hxe hk
   subst hye
   rw [hk] at hx
   have hb2 : ((ks.take (i + 1)).map fun x => Str.mk (exT x)) = ((ks.take i).map fun x => Str.mk (exT x)) ++ [Str.mk (exT ks[i])] := by rw [List.take_succ_eq_append_getElem hil, List.map_append];rfl
   have hal : ((ks.take i).map fun x => Str.mk (exT x)).length <= 1048576 := by simp;omega
   (repeat' first|(refine Qe ?_;(first|refine QI rfl ?_|refine QJ rfl ?_|refine QR rfl ?_|refine QC rfl rfl (by first|assumption|omega|(simp;done)|(simp;omega)) ?_|(refine Qo ?_;(first|refine QY rfl rfl ?_|refine W7 rfl rfl (by omega) ?_))|(refine Qp ?_;(first|refine ZL (z := Str.mk _) rfl rfl rfl rfl rfl rfl rfl (by first|omega|(simp;omega)) (by first|omega|(simp;omega)) (fun _ => rfl) (fun _ _ => ?_)|refine Qz rfl ?_|refine QZ rfl rfl (hx) ?_))|refine W4 rfl rfl (by decide) rfl ?_|refine Wo rfl ?_|refine QM rfl rfl rfl ?_))|(refine Qk ?_;(first|refine Qi ?_|refine QK rfl ?_))|(refine Qj ?_;(first|refine Ql ?_|refine Qc ?_|refine Qf ?_|refine Qu ?_|refine Qm rfl ?_|refine Qq rfl (by omega) ?_)))
   refine ⟨i + 1, _, ⟨by omega, by rw [List.take_succ_eq_append_getElem hil, List.all_append, hall];simp [hk]⟩, by assumption, by omega, ?_⟩
   rw [hb2]
   exact zal rfl
  ·have hk2 : Zs ks[i] = false := by rw [<- Bool.not_eq_true];exact hk
   rw [hk2] at hx
   have hna : ks.all Zs = false := by
    rw [<- Bool.not_eq_true, List.all_eq_true]
    intro h;exact hk (h _ (List.getElem_mem hil))
   (repeat' first|(refine Qe ?_;(first|refine QI rfl ?_|refine QJ rfl ?_|refine QR rfl ?_|refine QC rfl rfl (by first|assumption|omega|(simp;done)|(simp;omega)) ?_|refine QY rfl rfl ?_|(refine Qp ?_;(first|refine Qz rfl ?_|refine QZ rfl rfl (hx) ?_))|refine Wo rfl ?_|refine QM rfl rfl rfl ?_))|(refine Qk ?_;(first|refine Qi ?_|refine QK rfl ?_))|(refine Qj ?_;(first|refine Ql ?_|refine Qc ?_|refine Qf ?_|refine Qu ?_|refine Qh rfl ?_|refine Qq rfl (by omega) ?_|refine Qt ?_)))
   exact e_2 (Tryz.results98) (Qg rfl) (Qg rfl) (Zm (fun L v h => ZE (fun v hv => Zq (es := 1) hv) h) (Qs (by simp [hna];rfl)))
 ·have hie : i = ks.length := by omega
  subst hie
  rw [List.take_length] at *
  refine r_pub 4 rfl rfl (by rw [Q4];rfl) rfl ?_
  (repeat' first|(refine Qe ?_;(first|refine QI rfl ?_|refine QJ rfl ?_|refine QY rfl rfl ?_|refine Qz rfl ?_))|(refine Qk ?_;(first|refine Qi ?_|refine QK rfl ?_))|(refine Qj ?_;(first|refine Ql ?_|refine Qc ?_|refine Qn rfl (by omega) ?_|refine Wp rfl ?_|refine Qt ?_)))
  exact e_2 (Tryz.results98) (Qg rfl) (Qg rfl) (Ze (σ := []) ⟨by simp [hall];rfl, rfl⟩)
theorem exOk_all (k n m : Int) (ks : List Nd) (h : Zs (.mk k n m ks) = true) : ks.all Zs = true := by
 rw [Zs, W6] at h
 have h0 : ks.length = 0 -> ks.all Zs = true := fun h => by rw [List.eq_nil_of_length_eq_zero h];rfl
 have hp : Q3 m ks.length 0 = true -> ks.all Zs = true := fun h => h0 (by unfold Q3 at h;simp only [Bool.and_eq_true, Bool.or_eq_true, decide_eq_true_eq] at h;omega)
 split at h
 ·simp only [Bool.and_eq_true] at h;exact hp h.1
 split at h
 ·simp only [Bool.and_eq_true] at h;exact hp h.1
 split at h
 ·simp only [Bool.and_eq_true] at h;exact hp h.1
 split at h
 ·simp only [Bool.and_eq_true] at h;exact h.2
 split at h
 ·simp only [Bool.and_eq_true, decide_eq_true_eq] at h;exact h0 h.1.1
 split at h
 ·simp only [Bool.and_eq_true] at h;exact h.2
 split at h
 ·simp only [Bool.and_eq_true] at h;exact h.2
 split at h
 ·simp only [Bool.and_eq_true] at h;exact h.2
 split at h
 ·simp only [Bool.and_eq_true] at h;exact hp h.1
 ·cases h
theorem exOk_small (k n m : Int) (ks : List Nd) (hk : k ≠ 4) (h : Zs (.mk k n m ks) = true) : WX n = true := by
 rw [Zs] at h
 have h5 : decide (n = 0) = true \/ decide (n = 1) = true -> WX n = true := fun h => by simp [WX] at h ⊢;omega
 split at h
 ·exact absurd (by assumption) hk
 split at h
 ·simp only [Bool.and_eq_true, Bool.or_eq_true] at h;exact h5 h.2
 split at h
 ·simp only [Bool.and_eq_true] at h;exact h.2
 split at h
 ·simp only [Bool.and_eq_true] at h;exact h.1.2
 split at h
 ·simp only [Bool.and_eq_true, decide_eq_true_eq] at h;exact h.1.2
 split at h
 ·simp only [Bool.and_eq_true, decide_eq_true_eq] at h;simp [WX];omega
 split at h
 ·simp only [Bool.and_eq_true, WJ, decide_eq_true_eq] at h;simp [WX];omega
 split at h
 ·simp only [Bool.and_eq_true] at h;exact h.1.2
 split at h
 ·simp only [Bool.and_eq_true] at h;exact h.2
 ·cases h
theorem ZN (m : Int) (l : Nat) : Q3 m l (-1) = decide (m = 0) := by unfold Q3;simp
theorem opAt2 {n : Int} (h0 : 0 <= n) (h1 : n < 14) (h : n.toNat < (opTexts.map Str.mk).length) : ((opTexts.map Str.mk)[n.toNat]).l = opTexts.getD n.toNat [] := by
 rw [List.getElem_map, List.getD_eq_getElem?_getD, List.getElem?_eq_getElem (by simpa using h)];rfl
theorem rEx_c (t : Nd) : okN t -> Qx t <= 1000000 -> RxC G t := by
 induction t using Nd.ind with
 | h k n m ks ih =>
 intro hok hsz
 rw [okN] at hok
 rw [Qx] at hsz
 have hl1 := WV ks
 have hes := rexprs_c ks (by omega) fun x hx => ih x hx (Ws hok.2 hx) (by have := Q9 hx;omega)
 have hcl := ZO exT ks (fun x hx => qK x (Ws hok.2 hx))
 have hxl : ∀ x ∈ ks, (exT x).length <= 60000000 := fun x hx => by have := qK x (Ws hok.2 hx);have := Q9 hx;omega
 have hsx := exOk_small k n m ks
 have hax := exOk_all k n m ks
 clear ih
 unfold RxC
 rw [Q0]
 by_cases hall : ks.all Zs = true
 ·rw [hall, if_pos rfl] at hes
  have hst : qm (ks.map fun x => Str.mk (exT x)) = ks.map exT := by unfold qm;rw [List.map_map];rfl
  have hli := r_list_c (G := G) (ks.map fun x => Str.mk (exT x)) (by rw [hst];omega) (by simp;omega)
  rw [hst] at hli
  by_cases k4 : k = 4
  ·subst k4
   by_cases hn : n < 0
   ·have hdig : Go.Av.Pure Tryz.prog G 93 [.i (-(max n (-999)))] (WA (Lib.decDigits (-(max n (-999))).toNat)) := by
     have := qN (G := G) (-(max n (-999))).toNat (by omega)
     rwa [show (((-(max n (-999))).toNat : Nat) : Int) = -(max n (-999)) by omega] at this
    have hdl := digits_len (-(max n (-999))).toNat (by omega)
    have hi := hok.1.2.1.1
    refine ⟨[45] ++ Lib.decDigits (-(max n (-999))).toNat, fun B => ?_, fun h => ?_⟩
    ·by_cases h9 : -999 <= n
     all_goals
      refine Qa Tryz.func55 rfl Tryz.ntmps55 rfl (t := [(0, .agg [.i 4, .i n, .i m, QT ks])]) rfl fun E hE => ?_
      (repeat' first|(refine Qe ?_;(first|refine QI rfl ?_|refine QJ rfl ?_|refine Qb rfl rfl rfl ?_|(refine Qo ?_;(first|refine QY rfl rfl ?_|refine QO rfl rfl ?_))|refine QZ rfl rfl (hes) ?_|refine Wo rfl ?_|refine Qd rfl rfl ?_|refine QM rfl rfl rfl ?_|refine QV rfl rfl (fun _ _ => ?_)))|(refine Qk ?_;(first|refine Qi ?_|refine QK rfl ?_))|(refine Qj ?_;(first|refine Ql ?_|refine Qc ?_|(refine Wn ?_;first|refine Q6 (by rfl) (by kernel_rfl) (by kernel_rfl) ?_|refine Q5 (by kernel_rfl) (by kernel_rfl) ?_)|refine Qu ?_|refine Qh rfl ?_|refine Qm rfl ?_|refine Qq rfl (by omega) ?_|refine Qt ?_))|(refine ZZ ?_;(first|refine x_gn rfl rfl rfl rfl ?_|refine x_op rfl (by (repeat' first|(refine Qe ?_;(first|refine QI rfl ?_|refine QJ rfl ?_|(refine QB ?_;(first|refine WQ rfl rfl ?_|refine Qb rfl rfl rfl ?_))|(refine Qo ?_;(first|refine W8 rfl rfl ?_|refine qe rfl rfl ?_))|(refine Qp ?_;(first|refine s_max rfl rfl ?_|refine QZ rfl rfl (hdig) ?_|refine QZ rfl rfl (W2 _ _ _ _ _) ?_))|(refine QX ?_;(first|refine WK rfl rfl ?_|refine Wr rfl rfl ?_))|refine s_neg rfl (by omega) ?_|refine Qd rfl rfl ?_))|exact ⟨rfl, rfl⟩)) ?_|refine x_gy rfl rfl rfl rfl (by (repeat' first|(refine Qe ?_;(first|refine QI rfl ?_|refine QJ rfl ?_|(refine QB ?_;(first|refine WQ rfl rfl ?_|refine Qb rfl rfl rfl ?_))|(refine Qo ?_;(first|refine W8 rfl rfl ?_|refine qe rfl rfl ?_))|(refine Qp ?_;(first|refine s_max rfl rfl ?_|refine QZ rfl rfl (hdig) ?_|refine QZ rfl rfl (W2 _ _ _ _ _) ?_))|(refine QX ?_;(first|refine WK rfl rfl ?_|refine Wr rfl rfl ?_))|refine s_neg rfl (by omega) ?_|refine Qd rfl rfl ?_))|exact ⟨rfl, rfl⟩)) ?_|refine ZT ?_|refine x_sp_t rfl rfl (by omega) ?_|refine x_sp_f rfl rfl (by omega) ?_)))
      all_goals exact e_2 (Tryz.results55) (Qg rfl) (Qg rfl) (Qs (by rw [Zs, W6];simp [Wq, *]))
    ·rw [Zs] at h
     rw [exT, if_pos rfl]
     have h9 : -999 <= n := by simp [hn] at h;omega
     unfold Lib.itoa
     rw [if_pos hn, show (-(max n (-999))).toNat = n.natAbs by omega];rfl
   ·have hn0 : 0 <= n := by omega
    have hdig : Go.Av.Pure Tryz.prog G 93 [.i n] (WA (Lib.itoa n)) := by
     rw [itoa_nat hn0]
     have := qN (G := G) n.toNat (by have := hok.1.2.1.2;omega)
     rwa [show ((n.toNat : Nat) : Int) = n by omega] at this
    refine ⟨Lib.itoa n, fun B => ?_, fun h => by rw [exT, if_pos rfl]⟩
    by_cases hs : WX n = true
    ·have hsm : Go.Av.Pure Tryz.prog G 92 [.i n] (.b true) := by have := ZM (G := G) n;rwa [hs] at this
     refine Qa Tryz.func55 rfl Tryz.ntmps55 rfl (t := [(0, .agg [.i 4, .i n, .i m, QT ks])]) rfl fun E hE => ?_
     (repeat' first|(refine Qe ?_;(first|refine QI rfl ?_|refine QJ rfl ?_|refine Qb rfl rfl rfl ?_|(refine Qo ?_;(first|refine QY rfl rfl ?_|refine QO rfl rfl ?_))|refine QZ rfl rfl (hes) ?_|refine Wo rfl ?_|refine Qd rfl rfl ?_|refine QM rfl rfl rfl ?_|refine QV rfl rfl (fun _ _ => ?_)))|(refine Qk ?_;(first|refine Qi ?_|refine QK rfl ?_))|(refine Qj ?_;(first|refine Ql ?_|refine Qc ?_|(refine Wn ?_;first|refine Q6 (by rfl) (by kernel_rfl) (by kernel_rfl) ?_|refine Q5 (by kernel_rfl) (by kernel_rfl) ?_)|refine Qu ?_|refine Qh rfl ?_|refine Qm rfl ?_|refine Qn rfl (by omega) ?_|refine Qt ?_))|(refine ZZ ?_;(first|refine x_op rfl (by (repeat' first|(refine Qe ?_;(first|refine QI rfl ?_|refine QJ rfl ?_|(refine QB ?_;(first|refine WQ rfl rfl ?_|refine Qb rfl rfl rfl ?_))|(refine Qp ?_;(first|refine QZ rfl rfl (hdig) ?_|refine QZ rfl rfl (hsm) ?_|refine QZ rfl rfl (W2 _ _ _ _ _) ?_))|refine WK rfl rfl ?_|refine Qd rfl rfl ?_))|exact ⟨rfl, rfl⟩)) ?_|refine x_gy rfl rfl rfl rfl (by (repeat' first|(refine Qe ?_;(first|refine QI rfl ?_|refine QJ rfl ?_|(refine QB ?_;(first|refine WQ rfl rfl ?_|refine Qb rfl rfl rfl ?_))|(refine Qp ?_;(first|refine QZ rfl rfl (hdig) ?_|refine QZ rfl rfl (hsm) ?_|refine QZ rfl rfl (W2 _ _ _ _ _) ?_))|refine WK rfl rfl ?_|refine Qd rfl rfl ?_))|exact ⟨rfl, rfl⟩)) ?_|refine ZT ?_)))
     all_goals exact e_2 (Tryz.results55) (Qg rfl) (Qg rfl) (Qs (by rw [Zs, W6];simp [Wq, *]))
    ·have hs2 : WX n = false := by rw [<- Bool.not_eq_true];exact hs
     have hsm : Go.Av.Pure Tryz.prog G 92 [.i n] (.b false) := by have := ZM (G := G) n;rwa [hs2] at this
     refine Qa Tryz.func55 rfl Tryz.ntmps55 rfl (t := [(0, .agg [.i 4, .i n, .i m, QT ks])]) rfl fun E hE => ?_
     (repeat' first|(refine Qe ?_;(first|refine QI rfl ?_|refine QJ rfl ?_|refine Qb rfl rfl rfl ?_|(refine Qo ?_;(first|refine QY rfl rfl ?_|refine QO rfl rfl ?_))|refine QZ rfl rfl (hes) ?_|refine Wo rfl ?_|refine Qd rfl rfl ?_|refine QM rfl rfl rfl ?_|refine QV rfl rfl (fun _ _ => ?_)))|(refine Qk ?_;(first|refine Qi ?_|refine QK rfl ?_))|(refine Qj ?_;(first|refine Ql ?_|refine Qc ?_|(refine Wn ?_;first|refine Q6 (by rfl) (by kernel_rfl) (by kernel_rfl) ?_|refine Q5 (by kernel_rfl) (by kernel_rfl) ?_)|refine Qu ?_|refine Qh rfl ?_|refine Qm rfl ?_|refine Qn rfl (by omega) ?_|refine Qt ?_))|(refine ZZ ?_;(first|refine x_gn rfl rfl rfl rfl ?_|refine x_op rfl (by (repeat' first|(refine Qe ?_;(first|refine QI rfl ?_|refine QJ rfl ?_|refine Qb rfl rfl rfl ?_|(refine Qp ?_;(first|refine QZ rfl rfl (hdig) ?_|refine QZ rfl rfl (hsm) ?_))|refine Wr rfl rfl ?_|refine Qd rfl rfl ?_))|exact ⟨rfl, rfl⟩)) ?_|refine ZT ?_)))
     all_goals exact e_2 (Tryz.results55) (Qg rfl) (Qg rfl) (Qs (by rw [Zs, W6];simp [Wq, *]))
  have hsx := hsx k4
  by_cases hs : WX n = true
  case neg =>
   have hs2 : WX n = false := by rw [<- Bool.not_eq_true];exact hs
   have hsm : Go.Av.Pure Tryz.prog G 92 [.i n] (.b false) := by have := ZM (G := G) n;rwa [hs2] at this
   have hf : Zs (.mk k n m ks) = false := by rw [<- Bool.not_eq_true];exact fun h => hs (hsx h)
   refine ⟨[], fun B => ?_, fun h => by rw [hf] at h;cases h⟩
   refine Qa Tryz.func55 rfl Tryz.ntmps55 rfl (t := [(0, .agg [.i k, .i n, .i m, QT ks])]) rfl fun E hE => ?_
   (repeat' first|(refine Qe ?_;(first|refine QI rfl ?_|refine QJ rfl ?_|refine Qb rfl rfl rfl ?_|refine QO rfl rfl ?_|(refine Qp ?_;(first|refine QZ rfl rfl (hsm) ?_|refine QZ rfl rfl (hes) ?_))|refine Wo rfl ?_|refine Qd rfl rfl ?_|refine QM rfl rfl rfl ?_|refine QV rfl rfl (fun _ _ => ?_)))|(refine Qk ?_;(first|refine Qi ?_|refine QK rfl ?_))|(refine Qj ?_;(first|refine Ql ?_|refine Qc ?_|refine Qu ?_|refine Qh rfl ?_|refine Qm rfl ?_|refine Qn rfl (by omega) ?_|refine Qt ?_)))
   all_goals exact e_2 (Tryz.results55) (Qg rfl) (Qg rfl) (Qs (by rw [hf]))
  have hsm : Go.Av.Pure Tryz.prog G 92 [.i n] (.b true) := by have := ZM (G := G) n;rwa [hs] at this
  obtain ⟨hn0, hn9⟩ := qO hs
  have hdig : Go.Av.Pure Tryz.prog G 93 [.i n] (WA (Lib.itoa n)) := by
   rw [itoa_nat hn0]
   have := qN (G := G) n.toNat (by omega)
   rwa [show ((n.toNat : Nat) : Int) = n by omega] at this
  have hil := W5 hok.1.2.1
  by_cases k5 : k = 5
  ·subst k5
   refine ⟨if n = 0 then [102, 97, 108, 115, 101] else [116, 114, 117, 101], fun B => ?_, fun h => ?_⟩
   ·by_cases n0 : n = 0
    ·subst n0
     refine Qa Tryz.func55 rfl Tryz.ntmps55 rfl (t := [(0, .agg [.i 5, .i 0, .i m, QT ks])]) rfl fun E hE => ?_
     (repeat' first|(refine Qe ?_;(first|refine QI rfl ?_|refine QJ rfl ?_|refine Qb rfl rfl rfl ?_|refine QO rfl rfl ?_|(refine Qp ?_;(first|refine QZ rfl rfl (hdig) ?_|refine QZ rfl rfl (hsm) ?_|refine QZ rfl rfl (hes) ?_))|refine Wo rfl ?_|refine Qd rfl rfl ?_|refine QM rfl rfl rfl ?_|refine QV rfl rfl (fun _ _ => ?_)))|(refine Qk ?_;(first|refine Qi ?_|refine QK rfl ?_))|(refine Qj ?_;(first|refine Ql ?_|refine Qc ?_|refine Qf ?_|(refine Wn ?_;first|refine Q6 (by rfl) (by kernel_rfl) (by kernel_rfl) ?_|refine Q5 (by kernel_rfl) (by kernel_rfl) ?_)|refine Qu ?_|refine Qh rfl ?_|refine Qm rfl ?_|refine Qt ?_))|(refine ZZ ?_;(first|refine x_op rfl (by (repeat' first|(refine Qe ?_;(first|refine QI rfl ?_|refine QJ rfl ?_|(refine QB ?_;(first|refine WQ rfl rfl ?_|refine QS rfl ?_|refine Qb rfl rfl rfl ?_))|refine QC rfl rfl (by first|assumption|omega|(simp;done)|(simp;omega)) ?_|refine Zd rfl rfl ?_|(refine Qp ?_;(first|refine s_min rfl rfl ?_|refine QZ rfl rfl (W2 _ _ _ _ _) ?_))|refine WK rfl rfl ?_|refine qb [Str.mk [102, 97, 108, 115, 101], Str.mk [116, 114, 117, 101]] rfl rfl (by decide) rfl ?_|refine Qd rfl rfl ?_))|exact ⟨rfl, rfl⟩)) ?_|refine x_gy rfl rfl rfl rfl (by (repeat' first|(refine Qe ?_;(first|refine QI rfl ?_|refine QJ rfl ?_|(refine QB ?_;(first|refine WQ rfl rfl ?_|refine QS rfl ?_|refine Qb rfl rfl rfl ?_))|refine QC rfl rfl (by first|assumption|omega|(simp;done)|(simp;omega)) ?_|refine Zd rfl rfl ?_|(refine Qp ?_;(first|refine s_min rfl rfl ?_|refine QZ rfl rfl (W2 _ _ _ _ _) ?_))|refine WK rfl rfl ?_|refine qb [Str.mk [102, 97, 108, 115, 101], Str.mk [116, 114, 117, 101]] rfl rfl (by decide) rfl ?_|refine Qd rfl rfl ?_))|exact ⟨rfl, rfl⟩)) ?_|refine ZT ?_)))
     all_goals exact e_2 (Tryz.results55) (Qg rfl) (Qg rfl) (Qs (by rw [Zs, W6];simp [Wq, Zc, *]))
    ·have hmin : min n 1 = 1 := by omega
     by_cases n1 : n <= 1
     all_goals
      refine Qa Tryz.func55 rfl Tryz.ntmps55 rfl (t := [(0, .agg [.i 5, .i n, .i m, QT ks])]) rfl fun E hE => ?_
      (repeat' first|(refine Qe ?_;(first|refine QI rfl ?_|refine QJ rfl ?_|refine Qb rfl rfl rfl ?_|refine QO rfl rfl ?_|(refine Qp ?_;(first|refine QZ rfl rfl (hdig) ?_|refine QZ rfl rfl (hsm) ?_|refine QZ rfl rfl (hes) ?_))|refine Wo rfl ?_|refine Qd rfl rfl ?_|refine QM rfl rfl rfl ?_|refine QV rfl rfl (fun _ _ => ?_)))|(refine Qk ?_;(first|refine Qi ?_|refine QK rfl ?_))|(refine Qj ?_;(first|refine Ql ?_|refine Qc ?_|refine Qf ?_|(refine Wn ?_;first|refine Q6 (by rfl) (by kernel_rfl) (by kernel_rfl) ?_|refine Q5 (by kernel_rfl) (by kernel_rfl) ?_)|refine Qu ?_|refine Qh rfl ?_|refine Qm rfl ?_|refine Qt ?_))|(refine ZZ ?_;(first|refine x_gn rfl rfl rfl rfl ?_|refine x_op rfl (by (repeat' first|(refine Qe ?_;(first|refine QI rfl ?_|refine QJ rfl ?_|(refine QB ?_;(first|refine WQ rfl rfl ?_|refine QS rfl ?_|refine Qb rfl rfl rfl ?_))|refine qi rfl rfl (by omega) (by first|assumption|omega|(simp;done)|(simp;omega)) ?_|refine Zd rfl rfl ?_|(refine Qp ?_;(first|refine s_min rfl rfl ?_|refine QZ rfl rfl (W2 _ _ _ _ _) ?_))|(refine QX ?_;(first|refine WK rfl rfl ?_|refine Wr rfl rfl ?_))|refine qb [Str.mk [102, 97, 108, 115, 101], Str.mk [116, 114, 117, 101]] rfl rfl (by decide) rfl ?_|refine Qd rfl rfl ?_))|exact ⟨rfl, rfl⟩)) ?_|refine x_gy rfl rfl rfl rfl (by (repeat' first|(refine Qe ?_;(first|refine QI rfl ?_|refine QJ rfl ?_|(refine QB ?_;(first|refine WQ rfl rfl ?_|refine QS rfl ?_|refine Qb rfl rfl rfl ?_))|refine qi rfl rfl (by omega) (by first|assumption|omega|(simp;done)|(simp;omega)) ?_|refine Zd rfl rfl ?_|(refine Qp ?_;(first|refine s_min rfl rfl ?_|refine QZ rfl rfl (W2 _ _ _ _ _) ?_))|(refine QX ?_;(first|refine WK rfl rfl ?_|refine Wr rfl rfl ?_))|refine qb [Str.mk [102, 97, 108, 115, 101], Str.mk [116, 114, 117, 101]] rfl rfl (by decide) rfl ?_|refine Qd rfl rfl ?_))|exact ⟨rfl, rfl⟩)) ?_|refine ZT ?_|refine x_sp_t rfl rfl (by omega) ?_|refine x_sp_f rfl rfl (by omega) ?_)))
      all_goals exact e_2 (Tryz.results55) (Qg rfl) (Qg rfl) (Qs (by rw [Zs, W6];simp [Wq, Zc, *] <;> omega))
   ·rw [Zs, W6] at h
    rw [exT, qV]
    simp at h ⊢
    rcases h.2 with h|h <;> simp [h]
  by_cases k6 : k = 6
  ·subst k6
   refine ⟨[118] ++ Lib.itoa n, fun B => ?_, fun h => ?_⟩
   ·refine Qa Tryz.func55 rfl Tryz.ntmps55 rfl (t := [(0, .agg [.i 6, .i n, .i m, QT ks])]) rfl fun E hE => ?_
    (repeat' first|(refine Qe ?_;(first|refine QI rfl ?_|refine QJ rfl ?_|(refine QB ?_;(first|refine WQ rfl rfl ?_|refine Qb rfl rfl rfl ?_))|(refine Qo ?_;(first|refine QO rfl rfl ?_|refine qe rfl rfl ?_))|(refine Qp ?_;(first|refine QZ rfl rfl (hdig) ?_|refine QZ rfl rfl (hsm) ?_|refine QZ rfl rfl (hes) ?_|refine QZ rfl rfl (W2 _ _ _ _ _) ?_))|refine Wo rfl ?_|refine Qd rfl rfl ?_|refine QM rfl rfl rfl ?_|refine QV rfl rfl (fun _ _ => ?_)))|(refine Qk ?_;(first|refine Qi ?_|refine QK rfl ?_))|(refine Qj ?_;(first|refine Ql ?_|refine Qc ?_|refine Qf ?_|refine Qu ?_|refine Qh rfl ?_|refine Qm rfl ?_|refine Qt ?_)))
    all_goals exact e_2 (Tryz.results55) (Qg rfl) (Qg rfl) (Qs (by rw [Zs, W6];simp [Wq, Zc, *]))
   ·rw [Zs, W6] at h
    rw [exT, qV]
    simp at h ⊢
  by_cases k7 : k = 7
  ·subst k7
   refine ⟨[118] ++ Lib.itoa n ++ [91] ++ WO (ks.map exT) ++ [93], fun B => ?_, fun h => ?_⟩
   ·refine Qa Tryz.func55 rfl Tryz.ntmps55 rfl (t := [(0, .agg [.i 7, .i n, .i m, QT ks])]) rfl fun E hE => ?_
    (repeat' first|(refine Qe ?_;(first|refine QI rfl ?_|refine QJ rfl ?_|refine Qb rfl rfl rfl ?_|refine QO rfl rfl ?_|(refine Qp ?_;(first|refine QZ rfl rfl (hdig) ?_|refine QZ rfl rfl (hsm) ?_|refine QZ rfl rfl (hes) ?_))|refine Wo rfl ?_|refine Qd rfl rfl ?_|refine QM rfl rfl rfl ?_|refine QV rfl rfl (fun _ _ => ?_)))|(refine Qk ?_;(first|refine Qi ?_|refine QK rfl ?_))|(refine Qj ?_;(first|refine Ql ?_|refine Qc ?_|refine Qf ?_|(refine Wn ?_;first|refine Q6 (by rfl) (by kernel_rfl) (by kernel_rfl) ?_|refine Q5 (by kernel_rfl) (by kernel_rfl) ?_)|refine Qu ?_|refine Qh rfl ?_|refine Qm rfl ?_|refine Qt ?_))|(refine ZZ ?_;(first|refine x_op rfl (by (repeat' first|(refine Qe ?_;(first|refine QI rfl ?_|refine QJ rfl ?_|refine WQ rfl rfl ?_|refine qe rfl rfl ?_|(refine Qp ?_;(first|refine QZ rfl rfl (hli) ?_|refine QZ rfl rfl (W2 _ _ _ _ _) ?_))))|exact ⟨rfl, rfl⟩)) ?_|refine ZT ?_)))
    all_goals exact e_2 (Tryz.results55) (Qg rfl) (Qg rfl) (Qs (by rw [Zs, W6];simp [Wq, Zc, *]))
   ·rw [Zs, W6] at h
    rw [exT, qV]
    simp at h ⊢
  by_cases k8 : k = 8
  ·subst k8
   have hdig2 : Go.Av.Pure Tryz.prog G 93 [.i (max m 0)] (WA (Lib.decDigits m.toNat)) := by
    rw [show max m 0 = (m.toNat : Int) by omega];exact qN _ (by have := hok.1.2.2.2;omega)
   have hdl := digits_len m.toNat (by have := hok.1.2.2.2;omega)
   have hsm2 := ZM (G := G) m
   refine ⟨[118] ++ Lib.itoa n ++ [46] ++ Lib.decDigits m.toNat, fun B => ?_, fun h => ?_⟩
   ·refine Qa Tryz.func55 rfl Tryz.ntmps55 rfl (t := [(0, .agg [.i 8, .i n, .i m, QT ks])]) rfl fun E hE => ?_
    (repeat' first|(refine Qe ?_;(first|refine QI rfl ?_|refine QJ rfl ?_|refine Qb rfl rfl rfl ?_|refine QO rfl rfl ?_|(refine Qp ?_;(first|refine QZ rfl rfl (hdig) ?_|refine QZ rfl rfl (hsm) ?_|refine QZ rfl rfl (hes) ?_))|refine Wo rfl ?_|refine Qd rfl rfl ?_|refine QM rfl rfl rfl ?_|refine QV rfl rfl (fun _ _ => ?_)))|(refine Qk ?_;(first|refine Qi ?_|refine QK rfl ?_))|(refine Qj ?_;(first|refine Ql ?_|refine Qc ?_|refine Qf ?_|(refine Wn ?_;first|refine Q6 (by rfl) (by kernel_rfl) (by kernel_rfl) ?_|refine Q5 (by kernel_rfl) (by kernel_rfl) ?_)|refine Qu ?_|refine Qh rfl ?_|refine Qm rfl ?_|refine Qt ?_))|(refine ZZ ?_;(first|refine x_gn rfl rfl rfl rfl ?_|refine x_op rfl (by (repeat' first|(refine Qe ?_;(first|refine QI rfl ?_|refine QJ rfl ?_|refine Qb rfl rfl rfl ?_|(refine Qo ?_;(first|refine QO rfl rfl ?_|refine qe rfl rfl ?_))|(refine Qp ?_;(first|refine s_max rfl rfl ?_|refine Qz rfl ?_|refine QZ rfl rfl (hdig2) ?_|refine QZ rfl rfl (hsm2) ?_))|(refine QX ?_;(first|refine WK rfl rfl ?_|refine Wr rfl rfl ?_))|refine Qd rfl rfl ?_))|exact ⟨rfl, rfl⟩)) ?_|refine x_gy rfl rfl rfl rfl (by (repeat' first|(refine Qe ?_;(first|refine QI rfl ?_|refine QJ rfl ?_|refine Qb rfl rfl rfl ?_|(refine Qo ?_;(first|refine QO rfl rfl ?_|refine qe rfl rfl ?_))|(refine Qp ?_;(first|refine s_max rfl rfl ?_|refine Qz rfl ?_|refine QZ rfl rfl (hdig2) ?_|refine QZ rfl rfl (hsm2) ?_))|(refine QX ?_;(first|refine WK rfl rfl ?_|refine Wr rfl rfl ?_))|refine Qd rfl rfl ?_))|exact ⟨rfl, rfl⟩)) ?_|refine ZT ?_|refine x_sp rfl rfl (fun _ => ?_) (fun _ => ?_))))
    all_goals exact e_2 (Tryz.results55) (Qg rfl) (Qg rfl) (Qs (by rw [Zs, W6];simp [Wq, Zc, *]))
   ·rw [Zs, W6] at h
    rw [exT, qV]
    simp at h ⊢
    rw [itoa_nat (qO h.2).1]
  by_cases k10 : k = 10
  ·subst k10
   refine ⟨[33] ++ WO (ks.map exT), fun B => ?_, fun h => ?_⟩
   ·refine Qa Tryz.func55 rfl Tryz.ntmps55 rfl (t := [(0, .agg [.i 10, .i n, .i m, QT ks])]) rfl fun E hE => ?_
    (repeat' first|(refine Qe ?_;(first|refine QI rfl ?_|refine QJ rfl ?_|refine Qb rfl rfl rfl ?_|refine QO rfl rfl ?_|(refine Qp ?_;(first|refine QZ rfl rfl (hdig) ?_|refine QZ rfl rfl (hsm) ?_|refine QZ rfl rfl (hes) ?_))|refine Wo rfl ?_|refine Qd rfl rfl ?_|refine QM rfl rfl rfl ?_|refine QV rfl rfl (fun _ _ => ?_)))|(refine Qk ?_;(first|refine Qi ?_|refine QK rfl ?_))|(refine Qj ?_;(first|refine Ql ?_|refine Qc ?_|refine Qf ?_|(refine Wn ?_;first|refine Q6 (by rfl) (by kernel_rfl) (by kernel_rfl) ?_|refine Q5 (by kernel_rfl) (by kernel_rfl) ?_)|refine Qu ?_|refine Qh rfl ?_|refine Qm rfl ?_|refine Qt ?_))|(refine ZZ ?_;(first|refine x_gn rfl rfl rfl rfl ?_|refine x_op rfl (by (repeat' first|(refine Qe ?_;(first|refine QI rfl ?_|refine QJ rfl ?_|(refine QB ?_;(first|refine WQ rfl rfl ?_|refine Qb rfl rfl rfl ?_))|(refine Qo ?_;(first|refine QO rfl rfl ?_|refine qe rfl rfl ?_))|(refine Qp ?_;(first|refine QZ rfl rfl (hli) ?_|refine QZ rfl rfl (W2 _ _ _ _ _) ?_))|(refine QX ?_;(first|refine WK rfl rfl ?_|refine Wr rfl rfl ?_))|refine Qd rfl rfl ?_))|exact ⟨rfl, rfl⟩)) ?_|refine x_gy rfl rfl rfl rfl (by (repeat' first|(refine Qe ?_;(first|refine QI rfl ?_|refine QJ rfl ?_|(refine QB ?_;(first|refine WQ rfl rfl ?_|refine Qb rfl rfl rfl ?_))|(refine Qo ?_;(first|refine QO rfl rfl ?_|refine qe rfl rfl ?_))|(refine Qp ?_;(first|refine QZ rfl rfl (hli) ?_|refine QZ rfl rfl (W2 _ _ _ _ _) ?_))|(refine QX ?_;(first|refine WK rfl rfl ?_|refine Wr rfl rfl ?_))|refine Qd rfl rfl ?_))|exact ⟨rfl, rfl⟩)) ?_|refine ZT ?_|refine x_sp_d rfl rfl (fun _ => ?_) (fun _ => ?_))))
    all_goals exact e_2 (Tryz.results55) (Qg rfl) (Qg rfl) (Qs (by rw [Zs, W6];simp [Wq, Zc, *]))
   ·rw [Zs, W6] at h
    rw [exT, qV]
    simp at h ⊢
  by_cases k11 : k = 11
  ·subst k11
   refine ⟨[102] ++ Lib.itoa n ++ [40] ++ WO (ks.map exT) ++ [41], fun B => ?_, fun h => ?_⟩
   ·refine Qa Tryz.func55 rfl Tryz.ntmps55 rfl (t := [(0, .agg [.i 11, .i n, .i m, QT ks])]) rfl fun E hE => ?_
    (repeat' first|(refine Qe ?_;(first|refine QI rfl ?_|refine QJ rfl ?_|refine Qb rfl rfl rfl ?_|refine QO rfl rfl ?_|(refine Qp ?_;(first|refine QZ rfl rfl (hdig) ?_|refine QZ rfl rfl (hsm) ?_|refine QZ rfl rfl (hes) ?_))|refine Wo rfl ?_|refine Qd rfl rfl ?_|refine QM rfl rfl rfl ?_|refine QV rfl rfl (fun _ _ => ?_)))|(refine Qk ?_;(first|refine Qi ?_|refine QK rfl ?_))|(refine Qj ?_;(first|refine Ql ?_|refine Qc ?_|refine Qf ?_|(refine Wn ?_;first|refine Q6 (by rfl) (by kernel_rfl) (by kernel_rfl) ?_|refine Q5 (by kernel_rfl) (by kernel_rfl) ?_)|refine Qu ?_|refine Qh rfl ?_|refine Qm rfl ?_|refine Qt ?_))|(refine ZZ ?_;(first|refine x_op rfl (by (repeat' first|(refine Qe ?_;(first|refine QI rfl ?_|refine QJ rfl ?_|refine Qb rfl rfl rfl ?_|(refine Qo ?_;(first|refine QO rfl rfl ?_|refine qe rfl rfl ?_))|refine QZ rfl rfl (hli) ?_|refine Qd rfl rfl ?_))|exact ⟨rfl, rfl⟩)) ?_|refine ZT ?_)))
    all_goals exact e_2 (Tryz.results55) (Qg rfl) (Qg rfl) (Qs (by rw [Zs, W6];simp [Wq, Zc, ZN, *]))
   ·rw [Zs, W6] at h
    rw [exT, qV]
    simp at h ⊢
  by_cases k12 : k = 12
  ·subst k12
   refine ⟨[114, 101, 99, 118, 32, 99] ++ Lib.itoa n, fun B => ?_, fun h => ?_⟩
   ·refine Qa Tryz.func55 rfl Tryz.ntmps55 rfl (t := [(0, .agg [.i 12, .i n, .i m, QT ks])]) rfl fun E hE => ?_
    (repeat' first|(refine Qe ?_;(first|refine QI rfl ?_|refine QJ rfl ?_|(refine QB ?_;(first|refine WQ rfl rfl ?_|refine Qb rfl rfl rfl ?_))|(refine Qo ?_;(first|refine QO rfl rfl ?_|refine qe rfl rfl ?_))|(refine Qp ?_;(first|refine QZ rfl rfl (hdig) ?_|refine QZ rfl rfl (hsm) ?_|refine QZ rfl rfl (hes) ?_|refine QZ rfl rfl (W2 _ _ _ _ _) ?_))|refine Wo rfl ?_|refine Qd rfl rfl ?_|refine QM rfl rfl rfl ?_|refine QV rfl rfl (fun _ _ => ?_)))|(refine Qk ?_;(first|refine Qi ?_|refine QK rfl ?_))|(refine Qj ?_;(first|refine Ql ?_|refine Qc ?_|refine Qf ?_|refine Qu ?_|refine Qh rfl ?_|refine Qm rfl ?_|refine Qt ?_)))
    all_goals exact e_2 (Tryz.results55) (Qg rfl) (Qg rfl) (Qs (by rw [Zs, W6];simp [Wq, Zc, *]))
   ·rw [Zs, W6] at h
    rw [exT, qV]
    simp at h ⊢
  by_cases k9 : k = 9
  ·subst k9
   have hops := r_ops_c (G := G)
   by_cases hc : n < 14 /\ bareR m ks.length 2 = true
   ·obtain ⟨hn14, hbr2⟩ := hc
    have h2 : ks.length = 2 := by simp [bareR] at hbr2;omega
    match ks, h2 with
    | [a, b], _ =>
     have hal := hxl a (by simp)
     have hbl := hxl b (by simp)
     have hlt : n.toNat < (opTexts.map Str.mk).length := by show n.toNat < 14;omega
     have hoa := opAt2 hn0 hn14 hlt
     have hol' : ((opTexts.map Str.mk)[n.toNat]).l.length <= 2 := by rw [hoa];exact opTexts_len n.toNat
     have hbr : Go.Av.Pure Tryz.prog G 97 [.agg [.i 9, .i n, .i m, QT [a, b]], .i 2] (.b true) := by have := W2 (G := G) 9 n m [a, b] 2;rwa [hbr2] at this
     obtain ⟨ls, hls⟩ : ∃ ls, ls = [Str.mk (exT a), Str.mk (exT b)] := ⟨_, rfl⟩
     have hes2 : Go.Av.Pure Tryz.prog G 98 [QT [a, b]] (.tup [QT ls, .b true]) := by rw [hls];exact hes
     have hll : ls.length = 2 := by rw [hls];rfl
     have hz0 : 0 < ls.length := by omega
     have hz1 : 1 < ls.length := by omega
     have ha0 : ls[0].l = exT a := by subst hls;rfl
     have hb0 : ls[1].l = exT b := by subst hls;rfl
     have hla : ls[0].l.length <= 60000000 := by rw [ha0];exact hal
     have hlb : ls[1].l.length <= 60000000 := by rw [hb0];exact hbl
     clear hls hes hcl hxl hst hli hax hsx
     refine ⟨[40] ++ exT a ++ [32] ++ ((opTexts.map Str.mk)[n.toNat]).l ++ [32] ++ exT b ++ [41], fun B => ?_, fun h => ?_⟩
     ·refine Qa Tryz.func55 rfl Tryz.ntmps55 rfl (t := [(0, .agg [.i 9, .i n, .i m, QT [a, b]])]) rfl fun E hE => ?_
      (repeat' first|(refine Qe ?_;(first|refine QI rfl ?_|refine QJ rfl ?_|(refine QB ?_;(first|refine WQ rfl rfl ?_|refine Qb rfl rfl rfl ?_))|(refine Qo ?_;(first|refine W8 rfl rfl ?_|refine QO rfl rfl ?_))|(refine Qp ?_;(first|refine QZ rfl rfl (hdig) ?_|refine QZ rfl rfl (hsm) ?_|refine QZ rfl rfl (hbr) ?_|refine QZ rfl rfl (hes2) ?_))|refine Wr rfl rfl ?_|refine Wo rfl ?_|refine Qd rfl rfl ?_|refine QM rfl rfl rfl ?_|refine QV rfl rfl (fun _ _ => ?_)))|(refine Qk ?_;(first|refine Qi ?_|refine QK rfl ?_|refine Wx rfl rfl rfl rfl ?_|refine Q2 rfl rfl (by omega) ?_))|(refine Qj ?_;(first|refine Ql ?_|refine Qc ?_|refine Qf ?_|(refine Wn ?_;first|refine Q6 (by rfl) (by kernel_rfl) (by kernel_rfl) ?_|refine Q5 (by kernel_rfl) (by kernel_rfl) ?_)|refine Qu ?_|refine Qh rfl ?_|refine Qm rfl ?_|refine Qt ?_))|(refine ZZ ?_;(first|refine x_op rfl (by (repeat' first|(refine Qe ?_;(first|refine QI rfl ?_|refine QJ rfl ?_|(refine QB ?_;(first|refine QS rfl ?_|refine Qb rfl rfl rfl ?_))|(refine qJ ?_;(first|refine QC rfl rfl (by first|assumption|omega|(simp;done)|(simp;omega)) ?_|refine qi rfl rfl (by omega) (by first|assumption|omega|(simp;done)|(simp;omega)) ?_))|refine qe rfl rfl ?_|refine QZ rfl rfl (hops) ?_|refine Qd rfl rfl ?_))|exact ⟨rfl, rfl⟩)) ?_|refine ZT ?_)))
      have hbr3 : bareR m 2 2 = true := hbr2
      all_goals exact e_2 (Tryz.results55) (Qg rfl) (Qg rfl) (Qs (by rw [Zs, W6];simp [Wq, Zc, *]))
     ·have hbr3 : bareR m 2 2 = true := hbr2
      rw [exT, qV, hoa]
      simp [Wq, hbr3, hn0, hn14]
   ·refine ⟨[], fun B => ?_, fun h => by rw [Zs] at h;simp [Wq] at h;exact absurd ⟨h.1.2.2, h.1.1⟩ hc⟩
    by_cases hn14 : n < 14
    ·have hbr2 : bareR m ks.length 2 = false := by rw [<- Bool.not_eq_true];exact fun h => hc ⟨hn14, h⟩
     have hbr : Go.Av.Pure Tryz.prog G 97 [.agg [.i 9, .i n, .i m, QT ks], .i 2] (.b false) := by have := W2 (G := G) 9 n m ks 2;rwa [hbr2] at this
     refine Qa Tryz.func55 rfl Tryz.ntmps55 rfl (t := [(0, .agg [.i 9, .i n, .i m, QT ks])]) rfl fun E hE => ?_
     (repeat' first|(refine Qe ?_;(first|refine QI rfl ?_|refine QJ rfl ?_|(refine QB ?_;(first|refine WQ rfl rfl ?_|refine Qb rfl rfl rfl ?_))|(refine Qo ?_;(first|refine W8 rfl rfl ?_|refine QO rfl rfl ?_))|(refine Qp ?_;(first|refine QZ rfl rfl (hdig) ?_|refine QZ rfl rfl (hsm) ?_|refine QZ rfl rfl (hbr) ?_|refine QZ rfl rfl (hes) ?_))|refine Wr rfl rfl ?_|refine Wo rfl ?_|refine Qd rfl rfl ?_|refine QM rfl rfl rfl ?_|refine QV rfl rfl (fun _ _ => ?_)))|(refine Qk ?_;(first|refine Qi ?_|refine QK rfl ?_|refine Wx rfl rfl rfl rfl ?_|refine Q2 rfl rfl (by omega) ?_))|(refine Qj ?_;(first|refine Ql ?_|refine Qc ?_|refine Qf ?_|refine Qu ?_|refine Qh rfl ?_|refine Qm rfl ?_|refine Qt ?_)))
     all_goals exact e_2 (Tryz.results55) (Qg rfl) (Qg rfl) (Qs (by rw [Zs, W6];simp [Wq, Zc, *]))
    ·refine Qa Tryz.func55 rfl Tryz.ntmps55 rfl (t := [(0, .agg [.i 9, .i n, .i m, QT ks])]) rfl fun E hE => ?_
     (repeat' first|(refine Qe ?_;(first|refine QI rfl ?_|refine QJ rfl ?_|refine Qb rfl rfl rfl ?_|(refine Qo ?_;(first|refine W8 rfl rfl ?_|refine QO rfl rfl ?_))|(refine Qp ?_;(first|refine QZ rfl rfl (hdig) ?_|refine QZ rfl rfl (hsm) ?_|refine QZ rfl rfl (hes) ?_))|refine WK rfl rfl ?_|refine Wo rfl ?_|refine Qd rfl rfl ?_|refine QM rfl rfl rfl ?_|refine QV rfl rfl (fun _ _ => ?_)))|(refine Qk ?_;(first|refine Qi ?_|refine QK rfl ?_|refine W1 rfl rfl rfl rfl ?_|refine Q7 rfl rfl (by omega) ?_))|(refine Qj ?_;(first|refine Ql ?_|refine Qc ?_|refine Qf ?_|refine Qu ?_|refine Qh rfl ?_|refine Qm rfl ?_|refine Qt ?_)))
     all_goals exact e_2 (Tryz.results55) (Qg rfl) (Qg rfl) (Qs (by rw [Zs, W6];simp [Wq, Zc, *]))
  refine ⟨[], fun B => ?_, fun h => by rw [Zs] at h;simp [*] at h⟩
  refine Qa Tryz.func55 rfl Tryz.ntmps55 rfl (t := [(0, .agg [.i k, .i n, .i m, QT ks])]) rfl fun E hE => ?_
  (repeat' first|(refine Qe ?_;(first|refine QI rfl ?_|refine QJ rfl ?_|refine Qb rfl rfl rfl ?_|refine QO rfl rfl ?_|(refine Qp ?_;(first|refine QZ rfl rfl (hdig) ?_|refine QZ rfl rfl (hsm) ?_|refine QZ rfl rfl (hes) ?_))|refine Wo rfl ?_|refine Qd rfl rfl ?_|refine QM rfl rfl rfl ?_|refine QV rfl rfl (fun _ _ => ?_)))|(refine Qk ?_;(first|refine Qi ?_|refine QK rfl ?_))|(refine Qj ?_;(first|refine Ql ?_|refine Qc ?_|refine Qf ?_|refine Qu ?_|refine Qm rfl ?_|refine Qn rfl (by omega) ?_|refine Qt ?_)))
  all_goals exact e_2 (Tryz.results55) (Qg rfl) (Qg rfl) (Qs (by rw [Zs, W6];simp [Wq, Zc, *]))
 ·have hall2 : ks.all Zs = false := by rw [<- Bool.not_eq_true];exact hall
  rw [hall2] at hes
  have hf : Zs (.mk k n m ks) = false := by rw [<- Bool.not_eq_true];exact fun h => hall (hax h)
  refine ⟨[], fun B => ?_, fun h => by rw [hf] at h;cases h⟩
  refine Qa Tryz.func55 rfl Tryz.ntmps55 rfl (t := [(0, .agg [.i k, .i n, .i m, QT ks])]) rfl fun E hE => ?_
  (repeat' first|(refine Qe ?_;(first|refine QI rfl ?_|refine QJ rfl ?_|refine Qb rfl rfl rfl ?_|refine QZ rfl rfl (hes) ?_|refine Wo rfl ?_|refine Qd rfl rfl ?_|refine QM rfl rfl rfl ?_|refine QV rfl rfl (fun _ _ => ?_)))|(refine Qk ?_;(first|refine Qi ?_|refine QK rfl ?_))|(refine Qj ?_;(first|refine Ql ?_|refine Qc ?_|refine Qh rfl ?_|refine Qt ?_)))
  exact e_2 (Tryz.results55) (Qg rfl) (Qg rfl) (Qs (by rw [hf]))
theorem simOk_all (k n m : Int) (ks : List Nd) (h : ZA (.mk k n m ks) = true) : ks.all Zs = true := by
 rw [ZA] at h
 have h0 : ks.length = 0 -> ks.all Zs = true := fun h => by rw [List.eq_nil_of_length_eq_zero h];rfl
 have hb : WJ n m ks.length 0 = true -> ks.all Zs = true := fun h => h0 (by unfold WJ Q3 at h;simp only [Bool.and_eq_true, Bool.or_eq_true, decide_eq_true_eq] at h;omega)
 repeat' split at h
 all_goals first|exact hb h|(simp only [Bool.and_eq_true] at h;exact h.2)|cases h
theorem simOk_small (k n m : Int) (ks : List Nd) (h : ZA (.mk k n m ks) = true) : WX n = true := by
 rw [ZA] at h
 have h0 : ∀ c : Int, WJ n m ks.length c = true -> WX n = true := fun c h => by unfold WJ at h;simp only [Bool.and_eq_true, decide_eq_true_eq] at h;simp [WX, h.1]
 repeat' split at h
 all_goals first|exact h0 _ h|(simp only [Bool.and_eq_true] at h;first|exact h.1.2|exact h.1.1.2|exact h0 _ h.1)|cases h
theorem Z1 (a : List UInt8) : WO [a] = a := Lib.join_one _ _
theorem rSim_c (t : Nd) (hok : okN t) (hsz : Qx t <= 1000000) : ∃ x, Go.Av.Pure Tryz.prog G 101 [.agg (Enc.enc t)] (.tup [WA x, .b (ZA t)]) /\ (ZA t = true -> x = simT t) := by
 obtain ⟨k, n, m, ks⟩ := t
 rw [okN] at hok
 rw [Qx] at hsz
 have hl1 := WV ks
 have hes := rexprs_c (G := G) ks (by omega) fun x hx => rEx_c x (Ws hok.2 hx) (by have := Q9 hx;omega)
 have hcl := ZO exT ks (fun x hx => qK x (Ws hok.2 hx))
 have hxl : ∀ x ∈ ks, (exT x).length <= 60000000 := fun x hx => by have := qK x (Ws hok.2 hx);have := Q9 hx;omega
 have hsx := simOk_small k n m ks
 have hax := simOk_all k n m ks
 rw [Q0]
 by_cases hall : ks.all Zs = true
 case neg =>
  have hall2 : ks.all Zs = false := by rw [<- Bool.not_eq_true];exact hall
  rw [hall2] at hes
  have hf : ZA (.mk k n m ks) = false := by rw [<- Bool.not_eq_true];exact fun h => hall (hax h)
  refine ⟨[], fun B => ?_, fun h => by rw [hf] at h;cases h⟩
  refine Qa Tryz.func101 rfl Tryz.ntmps101 rfl (t := [(0, .agg [.i k, .i n, .i m, QT ks])]) rfl fun E hE => ?_
  (repeat' first|(refine Qe ?_;(first|refine QI rfl ?_|refine QJ rfl ?_|refine Qb rfl rfl rfl ?_|refine QZ rfl rfl (hes) ?_|refine WK rfl rfl ?_|refine Wo rfl ?_|refine Qd rfl rfl ?_|refine QM rfl rfl rfl ?_|refine QV rfl rfl (fun _ _ => ?_)))|(refine Qk ?_;(first|refine Qi ?_|refine QK rfl ?_|refine W1 rfl rfl rfl rfl ?_))|(refine Qj ?_;(first|refine Ql ?_|refine Qc ?_|refine Qh rfl ?_|refine Qt ?_)))
  all_goals exact e_2 (Tryz.results101) (Qg rfl) (Qg rfl) (Qs (by rw [hf]))
 rw [hall, if_pos rfl] at hes
 by_cases hs : WX n = true
 case neg =>
  have hs2 : WX n = false := by rw [<- Bool.not_eq_true];exact hs
  have hsm : Go.Av.Pure Tryz.prog G 92 [.i n] (.b false) := by have := ZM (G := G) n;rwa [hs2] at this
  have hf : ZA (.mk k n m ks) = false := by rw [<- Bool.not_eq_true];exact fun h => hs (hsx h)
  refine ⟨[], fun B => ?_, fun h => by rw [hf] at h;cases h⟩
  refine Qa Tryz.func101 rfl Tryz.ntmps101 rfl (t := [(0, .agg [.i k, .i n, .i m, QT ks])]) rfl fun E hE => ?_
  (repeat' first|(refine Qe ?_;(first|refine QI rfl ?_|refine QJ rfl ?_|refine Qb rfl rfl rfl ?_|(refine Qp ?_;(first|refine QZ rfl rfl (hsm) ?_|refine QZ rfl rfl (hes) ?_))|refine Wr rfl rfl ?_|refine Wo rfl ?_|refine Qd rfl rfl ?_|refine QM rfl rfl rfl ?_|refine QV rfl rfl (fun _ _ => ?_)))|(refine Qk ?_;(first|refine Qi ?_|refine QK rfl ?_|refine Wx rfl rfl rfl rfl ?_))|(refine Qj ?_;(first|refine Ql ?_|refine Qc ?_|refine Qh rfl ?_|refine Qt ?_)))
  all_goals exact e_2 (Tryz.results101) (Qg rfl) (Qg rfl) (Qs (by rw [hf]))
 have hsm : Go.Av.Pure Tryz.prog G 92 [.i n] (.b true) := by have := ZM (G := G) n;rwa [hs] at this
 obtain ⟨hn0, hn9⟩ := qO hs
 have hdig : Go.Av.Pure Tryz.prog G 93 [.i n] (WA (Lib.itoa n)) := by
  rw [itoa_nat hn0]
  have := qN (G := G) n.toNat (by omega)
  rwa [show ((n.toNat : Nat) : Int) = n by omega] at this
 have hil := W5 hok.1.2.1
 have hst : qm (ks.map fun x => Str.mk (exT x)) = ks.map exT := by unfold qm;rw [List.map_map];rfl
 have hli := r_list_c (G := G) (ks.map fun x => Str.mk (exT x)) (by rw [hst];omega) (by simp;omega)
 rw [hst] at hli
 clear hsx hax
 by_cases k16 : k = 16
 ·subst k16
  have hdig2 : Go.Av.Pure Tryz.prog G 93 [.i (max m 0)] (WA (Lib.decDigits m.toNat)) := by
   rw [show max m 0 = (m.toNat : Int) by omega];exact qN _ (by have := hok.1.2.2.2;omega)
  have hdl := digits_len m.toNat (by have := hok.1.2.2.2;omega)
  have hsm2 := ZM (G := G) m
  refine ⟨[118] ++ Lib.itoa n ++ [46] ++ Lib.decDigits m.toNat ++ [32, 61, 32] ++ WO (ks.map exT), fun B => ?_, fun h => ?_⟩
  ·by_cases hm : WX m = true
   ·rw [hm] at hsm2
    refine Qa Tryz.func101 rfl Tryz.ntmps101 rfl (t := [(0, .agg [.i 16, .i n, .i m, QT ks])]) rfl fun E hE => ?_
    (repeat' first|(refine Qe ?_;(first|refine QI rfl ?_|refine QJ rfl ?_|refine Qb rfl rfl rfl ?_|refine QO rfl rfl ?_|(refine Qp ?_;(first|refine QZ rfl rfl (hdig) ?_|refine QZ rfl rfl (hsm) ?_|refine QZ rfl rfl (hes) ?_))|refine Wr rfl rfl ?_|refine Wo rfl ?_|refine Qd rfl rfl ?_|refine QM rfl rfl rfl ?_|refine QV rfl rfl (fun _ _ => ?_)))|(refine Qk ?_;(first|refine Qi ?_|refine QK rfl ?_|refine Wx rfl rfl rfl rfl ?_))|(refine Qj ?_;(first|refine Ql ?_|refine Qc ?_|(refine Wn ?_;first|refine Q6 (by rfl) (by kernel_rfl) (by kernel_rfl) ?_|refine Q5 (by kernel_rfl) (by kernel_rfl) ?_)|refine Qu ?_|refine Qh rfl ?_|refine Qm rfl ?_|refine Qt ?_))|(refine ZZ ?_;(first|refine x_op rfl (by (repeat' first|(refine Qe ?_;(first|refine QI rfl ?_|refine QJ rfl ?_|refine Qb rfl rfl rfl ?_|(refine Qo ?_;(first|refine QO rfl rfl ?_|refine qe rfl rfl ?_))|(refine Qp ?_;(first|refine s_max rfl rfl ?_|refine Qz rfl ?_|refine QZ rfl rfl (hdig2) ?_|refine QZ rfl rfl (hsm2) ?_|refine QZ rfl rfl (hli) ?_))|refine WK rfl rfl ?_|refine Qd rfl rfl ?_))|exact ⟨rfl, rfl⟩)) ?_|refine x_gy rfl rfl rfl rfl (by (repeat' first|(refine Qe ?_;(first|refine QI rfl ?_|refine QJ rfl ?_|refine Qb rfl rfl rfl ?_|(refine Qo ?_;(first|refine QO rfl rfl ?_|refine qe rfl rfl ?_))|(refine Qp ?_;(first|refine s_max rfl rfl ?_|refine Qz rfl ?_|refine QZ rfl rfl (hdig2) ?_|refine QZ rfl rfl (hsm2) ?_|refine QZ rfl rfl (hli) ?_))|refine WK rfl rfl ?_|refine Qd rfl rfl ?_))|exact ⟨rfl, rfl⟩)) ?_|refine ZT ?_)))
    all_goals exact e_2 (Tryz.results101) (Qg rfl) (Qg rfl) (Qs (by rw [ZA];simp [Wq, Zc, ZN, hall, hs, Z1, hm, *] <;> omega))
   ·have hm2 : WX m = false := by rw [<- Bool.not_eq_true];exact hm
    rw [hm2] at hsm2
    refine Qa Tryz.func101 rfl Tryz.ntmps101 rfl (t := [(0, .agg [.i 16, .i n, .i m, QT ks])]) rfl fun E hE => ?_
    (repeat' first|(refine Qe ?_;(first|refine QI rfl ?_|refine QJ rfl ?_|refine Qb rfl rfl rfl ?_|refine QO rfl rfl ?_|(refine Qp ?_;(first|refine QZ rfl rfl (hdig) ?_|refine QZ rfl rfl (hsm) ?_|refine QZ rfl rfl (hes) ?_))|refine Wr rfl rfl ?_|refine Wo rfl ?_|refine Qd rfl rfl ?_|refine QM rfl rfl rfl ?_|refine QV rfl rfl (fun _ _ => ?_)))|(refine Qk ?_;(first|refine Qi ?_|refine QK rfl ?_|refine Wx rfl rfl rfl rfl ?_))|(refine Qj ?_;(first|refine Ql ?_|refine Qc ?_|(refine Wn ?_;first|refine Q6 (by rfl) (by kernel_rfl) (by kernel_rfl) ?_|refine Q5 (by kernel_rfl) (by kernel_rfl) ?_)|refine Qu ?_|refine Qh rfl ?_|refine Qm rfl ?_|refine Qt ?_))|(refine ZZ ?_;(first|refine x_gn rfl rfl rfl rfl ?_|refine x_op rfl (by (repeat' first|(refine Qe ?_;(first|refine QI rfl ?_|refine QJ rfl ?_|refine Qb rfl rfl rfl ?_|refine qe rfl rfl ?_|(refine Qp ?_;(first|refine s_max rfl rfl ?_|refine QZ rfl rfl (hdig2) ?_|refine QZ rfl rfl (hsm2) ?_|refine QZ rfl rfl (hli) ?_))|refine Wr rfl rfl ?_|refine Qd rfl rfl ?_))|exact ⟨rfl, rfl⟩)) ?_|refine ZT ?_)))
    all_goals exact e_2 (Tryz.results101) (Qg rfl) (Qg rfl) (Qs (by rw [ZA];simp [Wq, Zc, ZN, hall, hs, Z1, hm2, *]))
  ·rw [ZA] at h
   rw [simT]
   simp at h ⊢
   rw [itoa_nat (qO h.1.2).1, if_pos h.1.1.1]
 by_cases k23 : k = 23
 ·subst k23
  refine ⟨[115, 112, 97, 119, 110, 32, 102] ++ Lib.itoa n ++ [40] ++ WO (ks.map exT) ++ [41], fun B => ?_, fun h => ?_⟩
  ·refine Qa Tryz.func101 rfl Tryz.ntmps101 rfl (t := [(0, .agg [.i 23, .i n, .i m, QT ks])]) rfl fun E hE => ?_
   (repeat' first|(refine Qe ?_;(first|refine QI rfl ?_|refine QJ rfl ?_|refine Qb rfl rfl rfl ?_|refine QO rfl rfl ?_|(refine Qp ?_;(first|refine QZ rfl rfl (hdig) ?_|refine QZ rfl rfl (hsm) ?_|refine QZ rfl rfl (hes) ?_))|refine Wr rfl rfl ?_|refine Wo rfl ?_|refine Qd rfl rfl ?_|refine QM rfl rfl rfl ?_|refine QV rfl rfl (fun _ _ => ?_)))|(refine Qk ?_;(first|refine Qi ?_|refine QK rfl ?_|refine Wx rfl rfl rfl rfl ?_))|(refine Qj ?_;(first|refine Ql ?_|refine Qc ?_|(refine Wn ?_;first|refine Q6 (by rfl) (by kernel_rfl) (by kernel_rfl) ?_|refine Q5 (by kernel_rfl) (by kernel_rfl) ?_)|refine Qu ?_|refine Qh rfl ?_|refine Qm rfl ?_|refine Qt ?_))|(refine ZZ ?_;(first|refine x_op rfl (by (repeat' first|(refine Qe ?_;(first|refine QI rfl ?_|refine QJ rfl ?_|refine Qb rfl rfl rfl ?_|(refine Qo ?_;(first|refine QO rfl rfl ?_|refine qe rfl rfl ?_))|refine QZ rfl rfl (hli) ?_|refine Qd rfl rfl ?_))|exact ⟨rfl, rfl⟩)) ?_|refine ZT ?_)))
   all_goals exact e_2 (Tryz.results101) (Qg rfl) (Qg rfl) (Qs (by rw [ZA];simp [Wq, Zc, ZN, hall, hs, Z1, *]))
  ·rw [ZA] at h
   rw [simT]
   simp [ZN] at h ⊢
   exact h.1.1
 by_cases k25 : k = 25
 ·subst k25
  refine ⟨[115, 107, 105, 112], fun B => ?_, fun h => ?_⟩
  ·by_cases hn : n = 0
   all_goals
    refine Qa Tryz.func101 rfl Tryz.ntmps101 rfl (t := [(0, .agg [.i 25, .i n, .i m, QT ks])]) rfl fun E hE => ?_
    (repeat' first|(refine Qe ?_;(first|refine QI rfl ?_|refine QJ rfl ?_|(refine QB ?_;(first|refine WQ rfl rfl ?_|refine Qb rfl rfl rfl ?_))|refine QO rfl rfl ?_|(refine Qp ?_;(first|refine QZ rfl rfl (hdig) ?_|refine QZ rfl rfl (hsm) ?_|refine QZ rfl rfl (hes) ?_|refine QZ rfl rfl (W2 _ _ _ _ _) ?_))|(refine QX ?_;(first|refine WK rfl rfl ?_|refine Wr rfl rfl ?_))|refine Wo rfl ?_|refine Qd rfl rfl ?_|refine QM rfl rfl rfl ?_|refine QV rfl rfl (fun _ _ => ?_)))|(refine Qk ?_;(first|refine Qi ?_|refine QK rfl ?_|refine Wx rfl rfl rfl rfl ?_|refine W1 rfl rfl rfl rfl ?_|refine Q7 rfl rfl (by omega) ?_|refine Q2 rfl rfl (by omega) ?_))|(refine Qj ?_;(first|refine Ql ?_|refine Qc ?_|refine Qu ?_|refine Qh rfl ?_|refine Qm rfl ?_|refine Qt ?_)))
    all_goals exact e_2 (Tryz.results101) (Qg rfl) (Qg rfl) (Qs (by rw [ZA];simp [Wq, Zc, ZN, hall, hs, Z1, *]))
  ·rw [ZA] at h
   rw [simT]
   simp at h ⊢
   exact h
 by_cases k15 : k = 15
 ·subst k15
  by_cases hbp : bareR m ks.length 2 = true
  ·have hbr : Go.Av.Pure Tryz.prog G 97 [.agg [.i 15, .i n, .i m, QT ks], .i 2] (.b true) := by have := W2 (G := G) 15 n m ks 2;rwa [hbp] at this
   have h2 : ks.length = 2 := by simp [bareR] at hbp;omega
   match ks, h2 with
   | [a, b], _ =>
    have hal := hxl a (by simp)
    have hbl := hxl b (by simp)
    obtain ⟨ls, hls⟩ : ∃ ls, ls = [Str.mk (exT a), Str.mk (exT b)] := ⟨_, rfl⟩
    have hes2 : Go.Av.Pure Tryz.prog G 98 [QT [a, b]] (.tup [QT ls, .b true]) := by rw [hls];exact hes
    have hll : ls.length = 2 := by rw [hls];rfl
    have hz0 : 0 < ls.length := by omega
    have hz1 : 1 < ls.length := by omega
    have ha0 : ls[0].l = exT a := by subst hls;rfl
    have hb0 : ls[1].l = exT b := by subst hls;rfl
    have hla : ls[0].l.length <= 60000000 := by rw [ha0];exact hal
    have hlb : ls[1].l.length <= 60000000 := by rw [hb0];exact hbl
    have hbp3 : bareR m 2 2 = true := hbp
    clear hls hes hcl hxl hst hli
    refine ⟨[118] ++ Lib.itoa n ++ [91] ++ exT a ++ [93, 32, 61, 32] ++ exT b, fun B => ?_, fun h => ?_⟩
    ·refine Qa Tryz.func101 rfl Tryz.ntmps101 rfl (t := [(0, .agg [.i 15, .i n, .i m, QT [a, b]])]) rfl fun E hE => ?_
     (repeat' first|(refine Qe ?_;(first|refine QI rfl ?_|refine QJ rfl ?_|(refine QB ?_;(first|refine WQ rfl rfl ?_|refine Qb rfl rfl rfl ?_))|refine QO rfl rfl ?_|(refine Qp ?_;(first|refine QZ rfl rfl (hdig) ?_|refine QZ rfl rfl (hsm) ?_|refine QZ rfl rfl (hbr) ?_|refine QZ rfl rfl (hes2) ?_))|refine Wr rfl rfl ?_|refine Wo rfl ?_|refine Qd rfl rfl ?_|refine QM rfl rfl rfl ?_|refine QV rfl rfl (fun _ _ => ?_)))|(refine Qk ?_;(first|refine Qi ?_|refine QK rfl ?_|refine Wx rfl rfl rfl rfl ?_))|(refine Qj ?_;(first|refine Ql ?_|refine Qc ?_|(refine Wn ?_;first|refine Q6 (by rfl) (by kernel_rfl) (by kernel_rfl) ?_|refine Q5 (by kernel_rfl) (by kernel_rfl) ?_)|refine Qu ?_|refine Qh rfl ?_|refine Qm rfl ?_|refine Qt ?_))|(refine ZZ ?_;(first|refine x_op rfl (by (repeat' first|(refine Qe ?_;(first|refine QI rfl ?_|refine QJ rfl ?_|refine QS rfl ?_|refine QC rfl rfl (by first|assumption|omega|(simp;done)|(simp;omega)) ?_|refine qe rfl rfl ?_))|exact ⟨rfl, rfl⟩)) ?_|refine ZT ?_)))
     all_goals exact e_2 (Tryz.results101) (Qg rfl) (Qg rfl) (Qs (by rw [ZA];have hall2 := hall;simp at hall2;simp [Wq, hs, *]))
    ·rw [simT]
     simp [Wq, hbp3]
  ·have hbp2 : bareR m ks.length 2 = false := by rw [<- Bool.not_eq_true];exact hbp
   have hbr : Go.Av.Pure Tryz.prog G 97 [.agg [.i 15, .i n, .i m, QT ks], .i 2] (.b false) := by have := W2 (G := G) 15 n m ks 2;rwa [hbp2] at this
   refine ⟨[], fun B => ?_, fun h => by rw [ZA] at h;simp [Wq, hbp2] at h⟩
   refine Qa Tryz.func101 rfl Tryz.ntmps101 rfl (t := [(0, .agg [.i 15, .i n, .i m, QT ks])]) rfl fun E hE => ?_
   (repeat' first|(refine Qe ?_;(first|refine QI rfl ?_|refine QJ rfl ?_|(refine QB ?_;(first|refine WQ rfl rfl ?_|refine Qb rfl rfl rfl ?_))|refine QO rfl rfl ?_|(refine Qp ?_;(first|refine QZ rfl rfl (hdig) ?_|refine QZ rfl rfl (hsm) ?_|refine QZ rfl rfl (hbr) ?_|refine QZ rfl rfl (hes) ?_))|refine Wr rfl rfl ?_|refine Wo rfl ?_|refine Qd rfl rfl ?_|refine QM rfl rfl rfl ?_|refine QV rfl rfl (fun _ _ => ?_)))|(refine Qk ?_;(first|refine Qi ?_|refine QK rfl ?_|refine Wx rfl rfl rfl rfl ?_))|(refine Qj ?_;(first|refine Ql ?_|refine Qc ?_|refine Qu ?_|refine Qh rfl ?_|refine Qm rfl ?_|refine Qt ?_)))
   all_goals exact e_2 (Tryz.results101) (Qg rfl) (Qg rfl) (Qs (by rw [ZA];simp [Wq, Zc, ZN, hall, hs, Z1, *]))
 by_cases hbp : bareR m ks.length 1 = true
 case neg =>
  have hbp2 : bareR m ks.length 1 = false := by rw [<- Bool.not_eq_true];exact hbp
  have hbr : Go.Av.Pure Tryz.prog G 97 [.agg [.i k, .i n, .i m, QT ks], .i 1] (.b false) := by have := W2 (G := G) k n m ks 1;rwa [hbp2] at this
  have hf : ZA (.mk k n m ks) = false := by rw [ZA];simp [Wq, Zc, *]
  refine ⟨[], fun B => ?_, fun h => by rw [hf] at h;cases h⟩
  refine Qa Tryz.func101 rfl Tryz.ntmps101 rfl (t := [(0, .agg [.i k, .i n, .i m, QT ks])]) rfl fun E hE => ?_
  (repeat' first|(refine Qe ?_;(first|refine QI rfl ?_|refine QJ rfl ?_|(refine QB ?_;(first|refine WQ rfl rfl ?_|refine Qb rfl rfl rfl ?_))|refine QO rfl rfl ?_|(refine Qp ?_;(first|refine QZ rfl rfl (hdig) ?_|refine QZ rfl rfl (hsm) ?_|refine QZ rfl rfl (hbr) ?_|refine QZ rfl rfl (hes) ?_))|refine Wr rfl rfl ?_|refine Wo rfl ?_|refine Qd rfl rfl ?_|refine QM rfl rfl rfl ?_|refine QV rfl rfl (fun _ _ => ?_)))|(refine Qk ?_;(first|refine Qi ?_|refine QK rfl ?_|refine Wx rfl rfl rfl rfl ?_))|(refine Qj ?_;(first|refine Ql ?_|refine Qc ?_|refine Qu ?_|refine Qh rfl ?_|refine Qm rfl ?_|refine Qn rfl (by omega) ?_|refine Qt ?_)))
  all_goals exact e_2 (Tryz.results101) (Qg rfl) (Qg rfl) (Qs (by rw [hf]))
 have hbr : ∀ k, Go.Av.Pure Tryz.prog G 97 [.agg [.i k, .i n, .i m, QT ks], .i 1] (.b true) := fun k => by have := W2 (G := G) k n m ks 1;rwa [hbp] at this
 have h1 : ks.length = 1 := by simp [bareR] at hbp;omega
 match ks, h1 with
 | [a], _ =>
 have hal := hxl a (by simp)
 obtain ⟨ls, hls⟩ : ∃ ls, ls = [Str.mk (exT a)] := ⟨_, rfl⟩
 have hes2 : Go.Av.Pure Tryz.prog G 98 [QT [a]] (.tup [QT ls, .b true]) := by rw [hls];exact hes
 have hll : ls.length = 1 := by rw [hls];rfl
 have hz0 : 0 < ls.length := by omega
 have ha0 : ls[0].l = exT a := by subst hls;rfl
 have hla : ls[0].l.length <= 60000000 := by rw [ha0];exact hal
 have hall2 : Zs a = true := by simpa using hall
 have hbp3 : bareR m 1 1 = true := hbp
 have hbp4 : ∀ c, Q3 m [a].length c = decide (c < 0 \/ c = 1) := fun c => by
  have hm : m = 0 := by simp [bareR] at hbp3;exact hbp3
  unfold Q3;subst hm;simp [eq_comm]
 have hp11 : Q3 m 1 1 = true := by have := hbp4 1;simpa using this
 clear hls hes hcl hxl hst hli hall hbp
 by_cases k14 : k = 14
 ·subst k14
  refine ⟨[118] ++ Lib.itoa n ++ [32, 61, 32] ++ exT a, fun B => ?_, fun h => ?_⟩
  ·have hbr1 := hbr 14
   refine Qa Tryz.func101 rfl Tryz.ntmps101 rfl (t := [(0, .agg [.i 14, .i n, .i m, QT [a]])]) rfl fun E hE => ?_
   (repeat' first|(refine Qe ?_;(first|refine QI rfl ?_|refine QJ rfl ?_|(refine QB ?_;(first|refine WQ rfl rfl ?_|refine QS rfl ?_|refine Qb rfl rfl rfl ?_))|refine QC rfl rfl (by first|assumption|omega|(simp;done)|(simp;omega)) ?_|(refine Qo ?_;(first|refine QO rfl rfl ?_|refine qe rfl rfl ?_))|(refine Qp ?_;(first|refine QZ rfl rfl (hdig) ?_|refine QZ rfl rfl (hsm) ?_|refine QZ rfl rfl (hbr1) ?_|refine QZ rfl rfl (hes2) ?_))|refine Wr rfl rfl ?_|refine Wo rfl ?_|refine Qd rfl rfl ?_|refine QM rfl rfl rfl ?_|refine QV rfl rfl (fun _ _ => ?_)))|(refine Qk ?_;(first|refine Qi ?_|refine QK rfl ?_|refine Wx rfl rfl rfl rfl ?_))|(refine Qj ?_;(first|refine Ql ?_|refine Qc ?_|refine Qf ?_|refine Qu ?_|refine Qh rfl ?_|refine Qm rfl ?_|refine Qt ?_)))
   all_goals exact e_2 (Tryz.results101) (Qg rfl) (Qg rfl) (Qs (by rw [ZA];simp [WJ, hp11, *]))
  ·rw [ZA] at h
   rw [simT]
   simp [WJ, hbp4, Z1] at h ⊢
   try simp [h]
 by_cases k22 : k = 22
 ·subst k22
  refine ⟨[115, 101, 110, 100, 32, 99] ++ Lib.itoa n ++ [32] ++ exT a, fun B => ?_, fun h => ?_⟩
  ·have hbr1 := hbr 22
   refine Qa Tryz.func101 rfl Tryz.ntmps101 rfl (t := [(0, .agg [.i 22, .i n, .i m, QT [a]])]) rfl fun E hE => ?_
   (repeat' first|(refine Qe ?_;(first|refine QI rfl ?_|refine QJ rfl ?_|(refine QB ?_;(first|refine WQ rfl rfl ?_|refine QS rfl ?_|refine Qb rfl rfl rfl ?_))|refine QC rfl rfl (by first|assumption|omega|(simp;done)|(simp;omega)) ?_|(refine Qo ?_;(first|refine QO rfl rfl ?_|refine qe rfl rfl ?_))|(refine Qp ?_;(first|refine QZ rfl rfl (hdig) ?_|refine QZ rfl rfl (hsm) ?_|refine QZ rfl rfl (hbr1) ?_|refine QZ rfl rfl (hes2) ?_))|refine Wr rfl rfl ?_|refine Wo rfl ?_|refine Qd rfl rfl ?_|refine QM rfl rfl rfl ?_|refine QV rfl rfl (fun _ _ => ?_)))|(refine Qk ?_;(first|refine Qi ?_|refine QK rfl ?_|refine Wx rfl rfl rfl rfl ?_))|(refine Qj ?_;(first|refine Ql ?_|refine Qc ?_|refine Qf ?_|refine Qu ?_|refine Qh rfl ?_|refine Qm rfl ?_|refine Qt ?_)))
   all_goals exact e_2 (Tryz.results101) (Qg rfl) (Qg rfl) (Qs (by rw [ZA];simp [WJ, hp11, *]))
  ·rw [ZA] at h
   rw [simT]
   simp [WJ, hbp4, Z1] at h ⊢
   try simp [h]
 by_cases k19 : k = 19
 ·subst k19
  refine ⟨[114, 101, 116, 117, 114, 110, 32] ++ exT a, fun B => ?_, fun h => ?_⟩
  ·have hbr1 := hbr 19
   refine Qa Tryz.func101 rfl Tryz.ntmps101 rfl (t := [(0, .agg [.i 19, .i n, .i m, QT [a]])]) rfl fun E hE => ?_
   (repeat' first|(refine Qe ?_;(first|refine QI rfl ?_|refine QJ rfl ?_|(refine QB ?_;(first|refine WQ rfl rfl ?_|refine Qb rfl rfl rfl ?_))|refine QO rfl rfl ?_|(refine Qp ?_;(first|refine QZ rfl rfl (hdig) ?_|refine QZ rfl rfl (hsm) ?_|refine QZ rfl rfl (hbr1) ?_|refine QZ rfl rfl (hes2) ?_))|refine Wr rfl rfl ?_|refine Wo rfl ?_|refine Qd rfl rfl ?_|refine QM rfl rfl rfl ?_|refine QV rfl rfl (fun _ _ => ?_)))|(refine Qk ?_;(first|refine Qi ?_|refine QK rfl ?_|refine Wx rfl rfl rfl rfl ?_))|(refine Qj ?_;(first|refine Ql ?_|refine Qc ?_|refine Qf ?_|(refine Wn ?_;first|refine Q6 (by rfl) (by kernel_rfl) (by kernel_rfl) ?_|refine Q5 (by kernel_rfl) (by kernel_rfl) ?_)|refine Qu ?_|refine Qh rfl ?_|refine Qm rfl ?_|refine Qt ?_))|(refine ZZ ?_;(first|refine x_op rfl (by (repeat' first|(refine Qe ?_;(first|refine QI rfl ?_|refine QJ rfl ?_|(refine QB ?_;(first|refine QS rfl ?_|refine Qb rfl rfl rfl ?_))|refine QC rfl rfl (by first|assumption|omega|(simp;done)|(simp;omega)) ?_|(refine Qo ?_;(first|refine QO rfl rfl ?_|refine qe rfl rfl ?_))|refine Qd rfl rfl ?_))|exact ⟨rfl, rfl⟩)) ?_|refine ZT ?_)))
   all_goals exact e_2 (Tryz.results101) (Qg rfl) (Qg rfl) (Qs (by rw [ZA];simp [WJ, hp11, *]))
  ·rw [ZA] at h
   rw [simT]
   simp [WJ, hbp4, Z1] at h ⊢
   try simp [h]
 by_cases k20 : k = 20
 ·subst k20
  refine ⟨[116, 104, 114, 111, 119, 32] ++ exT a, fun B => ?_, fun h => ?_⟩
  ·have hbr1 := hbr 20
   refine Qa Tryz.func101 rfl Tryz.ntmps101 rfl (t := [(0, .agg [.i 20, .i n, .i m, QT [a]])]) rfl fun E hE => ?_
   (repeat' first|(refine Qe ?_;(first|refine QI rfl ?_|refine QJ rfl ?_|(refine QB ?_;(first|refine WQ rfl rfl ?_|refine Qb rfl rfl rfl ?_))|refine QO rfl rfl ?_|(refine Qp ?_;(first|refine QZ rfl rfl (hdig) ?_|refine QZ rfl rfl (hsm) ?_|refine QZ rfl rfl (hbr1) ?_|refine QZ rfl rfl (hes2) ?_))|refine Wr rfl rfl ?_|refine Wo rfl ?_|refine Qd rfl rfl ?_|refine QM rfl rfl rfl ?_|refine QV rfl rfl (fun _ _ => ?_)))|(refine Qk ?_;(first|refine Qi ?_|refine QK rfl ?_|refine Wx rfl rfl rfl rfl ?_))|(refine Qj ?_;(first|refine Ql ?_|refine Qc ?_|refine Qf ?_|(refine Wn ?_;first|refine Q6 (by rfl) (by kernel_rfl) (by kernel_rfl) ?_|refine Q5 (by kernel_rfl) (by kernel_rfl) ?_)|refine Qu ?_|refine Qh rfl ?_|refine Qm rfl ?_|refine Qt ?_))|(refine ZZ ?_;(first|refine x_op rfl (by (repeat' first|(refine Qe ?_;(first|refine QI rfl ?_|refine QJ rfl ?_|(refine QB ?_;(first|refine QS rfl ?_|refine Qb rfl rfl rfl ?_))|refine QC rfl rfl (by first|assumption|omega|(simp;done)|(simp;omega)) ?_|(refine Qo ?_;(first|refine QO rfl rfl ?_|refine qe rfl rfl ?_))|refine Qd rfl rfl ?_))|exact ⟨rfl, rfl⟩)) ?_|refine ZT ?_)))
   all_goals exact e_2 (Tryz.results101) (Qg rfl) (Qg rfl) (Qs (by rw [ZA];simp [WJ, hp11, *]))
  ·rw [ZA] at h
   rw [simT]
   simp [WJ, hbp4, Z1] at h ⊢
   try simp [h]
 by_cases k24 : k = 24
 ·subst k24
  refine ⟨[111, 117, 116, 32] ++ exT a, fun B => ?_, fun h => ?_⟩
  ·have hbr1 := hbr 24
   refine Qa Tryz.func101 rfl Tryz.ntmps101 rfl (t := [(0, .agg [.i 24, .i n, .i m, QT [a]])]) rfl fun E hE => ?_
   (repeat' first|(refine Qe ?_;(first|refine QI rfl ?_|refine QJ rfl ?_|(refine QB ?_;(first|refine WQ rfl rfl ?_|refine Qb rfl rfl rfl ?_))|refine QO rfl rfl ?_|(refine Qp ?_;(first|refine QZ rfl rfl (hdig) ?_|refine QZ rfl rfl (hsm) ?_|refine QZ rfl rfl (hbr1) ?_|refine QZ rfl rfl (hes2) ?_))|refine Wr rfl rfl ?_|refine Wo rfl ?_|refine Qd rfl rfl ?_|refine QM rfl rfl rfl ?_|refine QV rfl rfl (fun _ _ => ?_)))|(refine Qk ?_;(first|refine Qi ?_|refine QK rfl ?_|refine Wx rfl rfl rfl rfl ?_))|(refine Qj ?_;(first|refine Ql ?_|refine Qc ?_|refine Qf ?_|(refine Wn ?_;first|refine Q6 (by rfl) (by kernel_rfl) (by kernel_rfl) ?_|refine Q5 (by kernel_rfl) (by kernel_rfl) ?_)|refine Qu ?_|refine Qh rfl ?_|refine Qm rfl ?_|refine Qt ?_))|(refine ZZ ?_;(first|refine x_op rfl (by (repeat' first|(refine Qe ?_;(first|refine QI rfl ?_|refine QJ rfl ?_|(refine QB ?_;(first|refine QS rfl ?_|refine Qb rfl rfl rfl ?_))|refine QC rfl rfl (by first|assumption|omega|(simp;done)|(simp;omega)) ?_|(refine Qo ?_;(first|refine QO rfl rfl ?_|refine qe rfl rfl ?_))|refine Qd rfl rfl ?_))|exact ⟨rfl, rfl⟩)) ?_|refine ZT ?_)))
   all_goals exact e_2 (Tryz.results101) (Qg rfl) (Qg rfl) (Qs (by rw [ZA];simp [WJ, hp11, *]))
  ·rw [ZA] at h
   rw [simT]
   simp [WJ, hbp4, Z1] at h ⊢
   try simp [h]
 refine ⟨[], fun B => ?_, fun h => by rw [ZA] at h;simp [*] at h⟩
 have hbr1 := hbr k
 have hk16 : ¬ k = 16 := k16
 refine Qa Tryz.func101 rfl Tryz.ntmps101 rfl (t := [(0, .agg [.i k, .i n, .i m, QT [a]])]) rfl fun E hE => ?_
 (repeat' first|(refine Qe ?_;(first|refine QI rfl ?_|refine QJ rfl ?_|(refine QB ?_;(first|refine WQ rfl rfl ?_|refine Qb rfl rfl rfl ?_))|refine QO rfl rfl ?_|(refine Qp ?_;(first|refine QZ rfl rfl (hdig) ?_|refine QZ rfl rfl (hsm) ?_|refine QZ rfl rfl (hbr1) ?_|refine QZ rfl rfl (hes2) ?_))|refine Wr rfl rfl ?_|refine Wo rfl ?_|refine Qd rfl rfl ?_|refine QM rfl rfl rfl ?_|refine QV rfl rfl (fun _ _ => ?_)))|(refine Qk ?_;(first|refine Qi ?_|refine QK rfl ?_|refine Wx rfl rfl rfl rfl ?_))|(refine Qj ?_;(first|refine Ql ?_|refine Qc ?_|refine Qf ?_|refine Qu ?_|refine Qm rfl ?_|refine Qn rfl (by omega) ?_|refine Qt ?_)))
 all_goals exact e_2 (Tryz.results101) (Qg rfl) (Qg rfl) (Qs (by rw [ZA];simp [*]))
end Go.Proofs
end
section
namespace Go.Av
open Classical
section
variable {P : Program} {G : Nat -> DV}
theorem Own.view {f : FuncId} {args args' : List DV} {len es : Nat} {cs : List DV} (h : Own P G f args' len es cs) (hc : ∀ d ∈ cs, d.flat = true) {B : Nat} {σ : List ABlk} (hvw : View σ args args') : ACalls P G B f args σ (fun d' σ' => ∃ g, B < g /\ d' = .ref σ.length g 0 len es /\ σ' = σ ++ [.row g cs]) := fun X vs hS hσ hB hG hv => by
 subst hσ
 obtain ⟨k1, k2⟩ := hvw.get hS
 refine (h X.N (X.aside True) vs (hS.aside _) rfl (Nat.le_refl _) (fun g => ⟨(hG g).1, (hG g).2.mono (aside_le _)⟩) ⟨by rw [hv.1, k1], fun j e hj => (by
  have hlt : j < args.length := by rw [k1];exact (List.getElem?_eq_some_iff.1 hj).1
  exact k2 j _ e _ (List.getElem?_eq_getElem hlt) hj (hv.2 j _ (List.getElem?_eq_getElem hlt)))⟩).mono ?_
 rintro e w' ⟨v, he, Y, hw, hY, hE, d', hr, g, hg, rfl, hσ'⟩
 subst hw
 have hback := hS.back hE
 have hEb := WExt.back hS hE
 have hY0 : Y.σ[0]? = some (.row g cs) := by rw [hσ'];rfl
 have hlY : Y.live 0 g := WI hY0
 have hgN : g <= Y.N := hY.gen 0 g hlY
 have hnew : ∀ b n, Y.ρ 0 = some (b, n) -> X.w.heap.size <= b := fun b n hb => by
  rcases Nat.lt_or_ge b X.w.heap.size with hlt|hge
  ·exact absurd ⟨0, g, n, hlY, hb⟩ (hE.old b hlt Z9).2
  ·exact hge
 let Z : AX := { w := Y.w, ρ := fun i => if i = X.σ.length then Y.ρ 0 else X.ρ i, σ := X.σ ++ [.row g cs], N := Y.N, hid := X.hid }
 have hlive : ∀ k g', Z.live k g' ↔ (k < X.σ.length /\ X.live k g') \/ (k = X.σ.length /\ g' = g) := fun k g' => by
  have := AX.push_live (X := X) (w' := Y.w) (ob := Y.ρ 0) (B := .row g cs) (k := k) (g := g')
  simp only [ABlk.gen?, Option.some.injEq] at this
  rw [show Z.live k g' ↔ (X.push Y.w (Y.ρ 0) (.row g cs)).live k g' from Iff.rfl, this]
  constructor <;> (rintro (h|⟨h1, h2⟩);exact .inl h;exact .inr ⟨h1, h2.symm⟩)
 have hρ1 : ∀ k, k < X.σ.length -> Z.ρ k = X.ρ k := fun k hk => by simp only [Z];rw [if_neg (by omega)]
 have hρ2 : Z.ρ X.σ.length = Y.ρ 0 := by simp only [Z, if_true]
 have hmut : ∀ b, Z.mut b -> X.mut b \/ X.w.heap.size <= b := fun b ⟨k, g', n, hl, hr⟩ => by
  rcases (hlive k g').1 hl with ⟨h1, h2⟩|⟨h1, _⟩
  ·rw [hρ1 k h1] at hr;exact .inl ⟨k, g', n, h2, hr⟩
  ·rw [h1, hρ2] at hr;exact .inr (hnew b n hr)
 have hEZ : WExt X Z := {
  hid := rfl, top := hE.top, os := hE.os, tape := hE.tape, output := hE.output, size := hE.size
  old := fun b hb hm => ⟨(hE.old b hb Z9).1, fun hz => by rcases hmut b hz with h|h;exact hm h;omega⟩
  rows := fun k g' hg' hl => by
   rcases (hlive k g').1 hl with ⟨h1, h2⟩|⟨h1, h2⟩
   ·exact ⟨h2, hρ1 k h1⟩
   ·omega
  shp := hE.shp }
 have hSZ : Sto Z := {
  inj := fun k k' g1 g1' b n n' hl hl' hr hr' => by
   rcases (hlive k g1).1 hl with ⟨h1, h2⟩|⟨h1, h2⟩ <;> rcases (hlive k' g1').1 hl' with ⟨h1', h2'⟩|⟨h1', h2'⟩
   ·rw [hρ1 k h1] at hr;rw [hρ1 k' h1'] at hr';exact hS.inj k k' g1 g1' b n n' h2 h2' hr hr'
   ·rw [hρ1 k h1] at hr;rw [h1', hρ2] at hr';have := hS.ρ_lt h2 hr;have := hnew b n' hr';omega
   ·rw [hρ1 k' h1'] at hr';rw [h1, hρ2] at hr;have := hS.ρ_lt h2' hr';have := hnew b n hr;omega
   ·rw [h1, h1']
  gen := fun k g' hl => by
   rcases (hlive k g').1 hl with ⟨h1, h2⟩|⟨h1, h2⟩
   ·exact Nat.le_trans (hS.gen k g' h2) hE.top
   ·rw [h2];exact hgN
  hid := fun b ⟨k, g', n, hl, hr⟩ hh => by
   rcases (hlive k g').1 hl with ⟨h1, h2⟩|⟨h1, h2⟩
   ·rw [hρ1 k h1] at hr;exact hS.hid b ⟨k, g', n, h2, hr⟩ hh
   ·rw [h1, hρ2] at hr;have := hnew b n hr;have := hS.hidlt b hh;omega
  hidlt := fun b hb => Nat.lt_of_lt_of_le (hS.hidlt b hb) hE.size
  holds := fun k B' hB' => by
   simp only [Z, List.getElem?_append] at hB'
   split at hB'
   ·rename_i hlt
    rw [hρ1 k hlt]
    cases hg' : B'.gen? with
    | none => cases B' <;> first|trivial|cases hg'
    | some g' => exact (hS.holds k B' hB').mono hEZ.le fun b n hb => (hE.old b (hS.ρ_lt ((AX.live_get hB').2 hg') hb) Z9).1
   ·rename_i hge
    have hkl : k = X.σ.length := by
     rcases Nat.lt_or_ge (k - X.σ.length) 1 with h'|h'
     ·omega
     ·rw [List.getElem?_eq_none (by simpa using h')] at hB';cases hB'
    subst hkl
    simp at hB'
    subst hB'
    rw [hρ2]
    have hh := hY.holds 0 _ hY0
    cases hρ0 : Y.ρ 0 with
    | none => rw [hρ0] at hh;exact hh
    | some x =>
     obtain ⟨b, n⟩ := x
     rw [hρ0] at hh
     obtain ⟨arr, T, fr, q1, q2, q3, q4, q5⟩ := hh
     exact ⟨arr, T, fr, q1, q2, q3, q4, fun j d hj => ⟨(q5 j d hj).1, (q5 j d hj).2.flat (hc d (List.mem_of_getElem? hj))⟩⟩ }
 have hinv := hr.ref_inv hY0
 refine ⟨v, he, Z, rfl, hSZ, hEZ, .ref X.σ.length g 0 len es, ?_, g, by omega, rfl, rfl⟩
 cases hr with|ref _ _ _ _ _ a l c _ _ =>
 refine .ref _ _ _ _ _ _ _ _ hgN fun ob hob => ?_
 rw [AX.row_mk ((hlive _ _).2 (.inr ⟨rfl, rfl⟩)), hρ2] at hob
 rw [<- Option.some.inj hob]
 exact hinv
variable {B : Nat} {f : Operand -> DV} {σ : List ABlk} {K : DV -> List ABlk -> Prop} {dst : Option Tmp} {type : TypeId} {pos : String} {after : Array Edge} {gd : Option (Nat × Bool)}
theorem s_call_vo {args : Array Operand} {ts : Array TypeId} {fid : FuncId} {ds ds' cs : List DV} {len es : Nat} [FnOk P fid] (hx : f (.func fid) = .fn (.func fid) [] []) (hds : reL (args.toList.map f) = some ds) (hv : View σ ds ds') (h : Own P G fid ds' len es cs) (hc : ∀ d ∈ cs, d.flat = true) (k : ∀ g, B < g -> K (.ref σ.length g 0 len es) (σ ++ [.row g cs])) :
  OpSem P G B ⟨dst, .call ⟨.value (.func fid), args, ts⟩, type, pos, after, gd⟩ f σ K := s_call hx hds ((h.view hc hv).mono fun _ _ ⟨g, hg, h1, h2⟩ => by rw [h1, h2];exact k g hg)
end
end Go.Av
end
section
namespace Go.Proofs
open Go.Av
variable {G : Nat -> DV}
attribute [local irreducible] OpSem Zh ZB ZP ACalls qu AClose RV
open Go.Bl
theorem encs_flat_str (l : List Str) : ∀ d ∈ WE l, d.flat = true := fun d hd => by
 unfold WE at hd
 obtain ⟨x, _, hx⟩ := List.mem_flatMap.1 hd
 rw [List.mem_singleton.1 hx];rfl
theorem lines_own (fl b : List UInt8) (l : List Str) (hl : l.length <= 1000000000) : Own Tryz.prog G 95 [WA fl, QT l, WA b] ([Str.mk fl] ++ l ++ [Str.mk b]).length 1 (WE ([Str.mk fl] ++ l ++ [Str.mk b])) := fun B => by
 refine Qa Tryz.func95 rfl Tryz.ntmps95 rfl (t := [(0, WA fl), (1, QT l), (2, WA b)]) rfl fun E hE => ?_
 (repeat' first|(refine Qe ?_;(first|refine QI rfl ?_|refine QJ rfl ?_|(refine Qp ?_;(first|refine ZL (z := Str.mk _) rfl rfl rfl rfl rfl rfl rfl (by first|omega|(simp;omega)) (by first|omega|(simp;omega)) (fun _ => rfl) (fun _ _ => ?_)|refine s_app_r rfl rfl rfl rfl rfl rfl rfl (by first|omega|(simp;omega)) (by first|omega|(simp;omega)) (fun _ => rfl) (fun _ _ => ?_)))|(refine g_buildSlice ?_;(first|refine qP (cs := WE [Str.mk fl]) rfl rfl (by decide) rfl rfl (fun _ _ => ?_)|refine W4 rfl rfl (by decide) rfl ?_))))|(refine Qk ?_;(first|refine Qi ?_|refine QK rfl ?_))|(refine Qj ?_;(first|refine Ql ?_|refine Qc ?_|refine Qt ?_)))
 exact e_1 Tryz.results95 (Qg rfl) (c_ownedB hE rfl rfl rfl rfl)
def RsC (G : Nat -> DV) (t : Nd) : Prop := (qh t = true -> Go.Av.Pure Tryz.prog G 56 [.agg (Enc.enc t)] (.tup [QT (strs (stL t)), .b true])) /\ (qh t = false -> ∃ x : List Str, Go.Av.Pure Tryz.prog G 56 [.agg (Enc.enc t)] (.tup [QT x, .b false]))
def inLo (t : Nd) : List (List UInt8) := if inOk t = true then inL t else []
def RiC (G : Nat -> DV) (t : Nd) : Prop := OwnT Tryz.prog G 94 [.agg (Enc.enc t)] (inLo t).length 1 (WE (strs (inLo t))) (.bool (inOk t))
theorem inside_own (k n m : Int) (ks : List Nd) (hok : okN (.mk k n m ks)) (hsz : Qx (.mk k n m ks) <= 1000000) (hst : ∀ x ∈ ks, RsC G x) : RiC G (.mk k n m ks) := fun B => by
 have hok2 := hok
 rw [okN] at hok
 rw [Qx] at hsz
 have hl1 := WV ks
 have hln := (stL_len (.mk 13 0 0 ks)).2
 rw [inL, ind_len, Qx] at hln
 rw [Q0]
 unfold inLo
 by_cases hh : k = 13 /\ n = 0 /\ m = 0
 case neg =>
  have hf : inOk (.mk k n m ks) = false := by rw [inOk];simp [WJ, ZN];omega
  rw [hf]
  by_cases k13 : k = 13
  ·by_cases n0 : n = 0
   ·have m0 : ¬ m = 0 := by omega
    refine Qa Tryz.func94 rfl Tryz.ntmps94 rfl (t := [(0, .agg [.i k, .i n, .i m, QT ks])]) rfl fun E hE => ?_
    (repeat' first|(refine Qe ?_;(first|refine QI rfl ?_|refine QJ rfl ?_|refine Qb rfl rfl rfl ?_|refine ZV rfl rfl ?_|refine Wr rfl rfl ?_|refine Qd rfl rfl ?_|refine QV rfl rfl (fun _ _ => ?_)))|(refine Qk ?_;(first|refine Qi ?_|refine QK rfl ?_|refine Wx rfl rfl rfl rfl ?_|refine Q2 rfl rfl (by omega) ?_))|(refine Qj ?_;(first|refine Ql ?_|refine Qc ?_|refine Qq rfl (by omega) ?_|refine Qt ?_)))
    all_goals exact e_2 (Tryz.results94) (Qg rfl) (Qg rfl) (c_nil_fstB hE rfl rfl rfl rfl)
   ·refine Qa Tryz.func94 rfl Tryz.ntmps94 rfl (t := [(0, .agg [.i k, .i n, .i m, QT ks])]) rfl fun E hE => ?_
    (repeat' first|(refine Qe ?_;(first|refine QI rfl ?_|refine QJ rfl ?_|refine Qb rfl rfl rfl ?_|refine ZV rfl rfl ?_|(refine QX ?_;(first|refine WK rfl rfl ?_|refine Wr rfl rfl ?_))|refine Qd rfl rfl ?_|refine QV rfl rfl (fun _ _ => ?_)))|(refine Qk ?_;(first|refine Qi ?_|refine QK rfl ?_|refine Wx rfl rfl rfl rfl ?_|refine W1 rfl rfl rfl rfl ?_|refine Q7 rfl rfl (by omega) ?_|refine Q2 rfl rfl (by omega) ?_))|(refine Qj ?_;(first|refine Ql ?_|refine Qc ?_|refine Qh rfl ?_|refine Qt ?_)))
    all_goals exact e_2 (Tryz.results94) (Qg rfl) (Qg rfl) (c_nil_fstB hE rfl rfl rfl rfl)
  ·refine Qa Tryz.func94 rfl Tryz.ntmps94 rfl (t := [(0, .agg [.i k, .i n, .i m, QT ks])]) rfl fun E hE => ?_
   (repeat' first|(refine Qe ?_;(first|refine QI rfl ?_|refine QJ rfl ?_|refine Qb rfl rfl rfl ?_|refine ZV rfl rfl ?_|refine WK rfl rfl ?_|refine Qd rfl rfl ?_|refine QV rfl rfl (fun _ _ => ?_)))|(refine Qk ?_;(first|refine Qi ?_|refine QK rfl ?_|refine W1 rfl rfl rfl rfl ?_|refine Q7 rfl rfl (by omega) ?_))|(refine Qj ?_;(first|refine Ql ?_|refine Qc ?_|refine Qh rfl ?_|refine Qt ?_)))
   all_goals exact e_2 (Tryz.results94) (Qg rfl) (Qg rfl) (c_nil_fstB hE rfl rfl rfl rfl)
 obtain ⟨rfl, rfl, rfl⟩ := hh
 have hin : inOk (.mk 13 0 0 ks) = ks.all qh := by rw [inOk, stOks_eq];simp [WJ, ZN]
 rw [hin]
 have hsts : inL (.mk 13 0 0 ks) = ind (stsL ks) := by rw [inL]
 rw [hsts]
 clear hin hsts
 refine Qa Tryz.func94 rfl Tryz.ntmps94 rfl (t := [(0, .agg [.i 13, .i 0, .i 0, QT ks])]) rfl fun E hE => ?_
 (repeat' first|(refine Qe ?_;(first|refine QI rfl ?_|refine QJ rfl ?_|refine Qb rfl rfl rfl ?_|refine ZV rfl rfl ?_|refine Wr rfl rfl ?_|refine Qd rfl rfl ?_|refine QV rfl rfl (fun _ _ => ?_)))|(refine Qk ?_;(first|refine Qi ?_|refine QK rfl ?_|refine Wx rfl rfl rfl rfl ?_))|(refine Qj ?_;(first|refine Ql ?_|refine Qc ?_|refine Qf ?_|refine Qu ?_|refine Qm rfl ?_)))
 rename_i gb hgb
 refine r_own 4 1 rfl fun gO hgO => ?_
 refine r_loopg (fun (i : Nat) g => ⟨[(1, .ptr 0 gb 0), (4, .ref 1 g 0 (strs (ind (stsL (ks.take i)))).length 1), (5, .i i)], [.row gb [.i 13, .i 0, .i 0, QT ks], .row g (WE (strs (ind (stsL (ks.take i)))))]⟩) (fun i => i <= ks.length /\ (ks.take i).all qh = true) (fun i => ks.length - i) 0 gO hgO ?_ (by simp) ?_
 ·exact zal rfl
 intro i g ⟨hil0, hall⟩ hg
 by_cases hil : i < ks.length
 ·have hmem := List.getElem_mem hil
  obtain ⟨hx1, hx2⟩ := hst _ hmem
  have hsm := Q9 hmem
  by_cases hk : qh ks[i] = true
  ·have hx := hx1 hk
   clear hx1 hx2 hst
   have hlx := (stL_line _ (Ws hok.2 hmem)).1
   have hcx := (stL_len ks[i]).1
   have hle : (stsL (ks.take i)).length + (stL ks[i]).length <= 3000000 := by
    have h1 := stsL_take hil
    have h2 : (stsL ks).length = (stsL (ks.take (i + 1))).length + (stsL (ks.drop (i + 1))).length := by rw [<- List.length_append, <- stsL_app, List.take_append_drop]
    rw [h1, List.length_append] at h2;omega
   have htk := stsL_take hil
   obtain ⟨ls, hls⟩ : ∃ ls, ls = strs (stL ks[i]) := ⟨_, rfl⟩
   rw [<- hls] at hx
   have hll : ls.length = (stL ks[i]).length := by rw [hls, qa]
   obtain ⟨A, hA⟩ : ∃ A, A = stsL (ks.take i) := ⟨_, rfl⟩
   rw [<- hA] at hle htk ⊢
   have hget : ∀ (j : Nat) (h : j < ls.length), ls[j].l.length <= 100000000 := fun j h => by
    have e : ls[j].l = (stL ks[i])[j]'(by omega) := by subst hls;simp [strs]
    rw [e]
    have := hlx _ (List.getElem_mem (show j < (stL ks[i]).length by omega));omega
   have hnx : ∀ (j : Nat) (h : j < ls.length), strs (ind (A ++ (stL ks[i]).take (j + 1))) = strs (ind (A ++ (stL ks[i]).take j)) ++ [Str.mk ([32, 32] ++ ls[j].l)] := fun j h => by
    have e : ls[j].l = (stL ks[i])[j]'(by omega) := by subst hls;simp [strs]
    rw [e, List.take_succ_eq_append_getElem (show j < (stL ks[i]).length by omega), <- List.append_assoc, ind_app, strs_app];rfl
   have hlen : ∀ j, (strs (ind (A ++ (stL ks[i]).take j))).length <= 3000000 := fun j => by rw [qa, ind_len, List.length_append, List.length_take];omega
   generalize stL ks[i] = sx at *
   (repeat' first|(refine Qe ?_;(first|refine QI rfl ?_|refine QJ rfl ?_|(refine QB ?_;(first|refine QR rfl ?_|refine Qb rfl rfl rfl ?_))|refine QC rfl rfl (by first|assumption|omega|(simp;done)|(simp;omega)) ?_|refine QY rfl rfl ?_|(refine Qp ?_;(first|refine QZ rfl rfl (hx) ?_|refine Qz rfl ?_))|refine Wo rfl ?_|refine Qd rfl rfl ?_|refine QM rfl rfl rfl ?_))|(refine Qk ?_;(first|refine Qi ?_|refine QK rfl ?_))|(refine Qj ?_;(first|refine Ql ?_|refine Qc ?_|refine Qf ?_|refine Qu ?_|refine Qm rfl ?_|refine Qq rfl (by omega) ?_)))
   refine r_loopg (fun (j : Nat) g => ⟨[(1, .ptr 0 gb 0), (4, .ref 1 g 0 (strs (ind (A ++ sx.take j))).length 1), (5, .i i), (6, QT ls), (8, .i j)], [.row gb [.i 13, .i 0, .i 0, QT ks], .row g (WE (strs (ind (A ++ sx.take j))))]⟩) (fun j => j <= ls.length) (fun j => ls.length - j) 0 g hg ?_ (by simp) ?_
   ·rw [List.take_zero, List.append_nil]
    exact zal rfl
   intro j g2 hj0 hg2
   by_cases hjl : j < ls.length
   ·have hlj := hget j hjl
    have hlA := hlen j
    (repeat' first|(refine Qe ?_;(first|refine QI rfl ?_|refine QJ rfl ?_|refine QS rfl ?_|refine QC rfl rfl (by first|assumption|omega|(simp;done)|(simp;omega)) ?_|(refine Qo ?_;(first|refine QY rfl rfl ?_|refine W7 rfl rfl (by omega) ?_|refine qe rfl rfl ?_))|(refine Qp ?_;(first|refine ZL (z := Str.mk _) rfl rfl rfl rfl rfl rfl rfl (by first|omega|(simp;omega)) (by first|omega|(simp;omega)) (fun _ => rfl) (fun _ _ => ?_)|refine Qz rfl ?_))|refine W4 rfl rfl (by decide) rfl ?_))|(refine Qk ?_;(first|refine Qi ?_|refine QK rfl ?_))|(refine Qj ?_;(first|refine Ql ?_|refine Qc ?_|refine Qf ?_|refine Qu ?_|refine Qq rfl (by omega) ?_)))
    refine ⟨j + 1, _, by omega, by assumption, by omega, ?_⟩
    rw [hnx j hjl]
    exact zal rfl
   ·have hje : j = sx.length := by omega
    subst hje
    (repeat' first|(refine Qe ?_;(first|refine QI rfl ?_|refine QJ rfl ?_|(refine Qo ?_;(first|refine QY rfl rfl ?_|refine W7 rfl rfl (by omega) ?_))|refine Qz rfl ?_))|(refine Qk ?_;(first|refine Qi ?_|refine QK rfl ?_))|(refine Qj ?_;(first|refine Ql ?_|refine Qc ?_|refine Qn rfl (by omega) ?_|refine Wp rfl ?_)))
    refine ⟨i + 1, _, ⟨by omega, by rw [List.take_succ_eq_append_getElem hil, List.all_append, hall];simp [hk]⟩, by assumption, by omega, ?_⟩
    rw [htk, List.take_length]
    exact zal rfl
  ·have hk2 : qh ks[i] = false := by rw [<- Bool.not_eq_true];exact hk
   obtain ⟨x, hx⟩ := hx2 hk2
   have hna : ks.all qh = false := by
    rw [<- Bool.not_eq_true, List.all_eq_true]
    intro h;exact hk (h _ hmem)
   (repeat' first|(refine Qe ?_;(first|refine QI rfl ?_|refine QJ rfl ?_|(refine QB ?_;(first|refine QR rfl ?_|refine Qb rfl rfl rfl ?_))|refine QC rfl rfl (by first|assumption|omega|(simp;done)|(simp;omega)) ?_|refine QY rfl rfl ?_|(refine Qp ?_;(first|refine QZ rfl rfl (hx) ?_|refine Qz rfl ?_))|refine Wo rfl ?_|refine Qd rfl rfl ?_|refine QM rfl rfl rfl ?_))|(refine Qk ?_;(first|refine Qi ?_|refine QK rfl ?_))|(refine Qj ?_;(first|refine Ql ?_|refine Qc ?_|refine Qf ?_|refine Qu ?_|refine Qh rfl ?_|refine Qq rfl (by omega) ?_|refine Qt ?_)))
   exact e_2 (Tryz.results94) (Qg rfl) (Qg rfl) (c_nil_fstB hE (by rw [hna];rfl) (by rw [hna];rfl) rfl (by rw [hna]))
 ·have hie : i = ks.length := by omega
  subst hie
  rw [List.take_length] at *
  (repeat' first|(refine Qe ?_;(first|refine QI rfl ?_|refine QJ rfl ?_|refine Qb rfl rfl rfl ?_|refine QY rfl rfl ?_|refine Qz rfl ?_|refine Qd rfl rfl ?_))|(refine Qk ?_;(first|refine Qi ?_|refine QK rfl ?_))|(refine Qj ?_;(first|refine Ql ?_|refine Qc ?_|refine Qn rfl (by omega) ?_|refine Wp rfl ?_|refine Qt ?_)))
  exact e_2 (Tryz.results94) (Qg rfl) (Qg rfl) (c_own_fstB hE rfl (by rw [hall, if_pos rfl, qa]) (by rw [hall, if_pos rfl]) rfl (by rw [hall]))
theorem two_c (f m : List UInt8) (a b : Nd) (ha : RiC G a) (hb : RiC G b) (hla : (inLo a).length <= 100000000) (hlb : (inLo b).length <= 100000000) : Go.Av.Pure Tryz.prog G 100 [WA f, .agg (Enc.enc a), WA m, .agg (Enc.enc b)] (.tup [QT (strs (f :: (inLo a ++ m :: (inLo b ++ [sClose])))), .b (inOk a && inOk b)]) := fun B => by
 unfold RiC at ha hb
 have hca : (strs (inLo a)).length <= 100000000 := by rw [qa];exact hla
 have hcb : (strs (inLo b)).length <= 100000000 := by rw [qa];exact hlb
 have e1 := qa (inLo a)
 have e2 := qa (inLo b)
 rw [<- e1] at ha
 rw [<- e2] at hb
 cases hka : inOk a <;> rw [hka] at ha
 all_goals
  refine Qa Tryz.func100 rfl Tryz.ntmps100 rfl (t := [(0, WA f), (1, .agg (Enc.enc a)), (2, WA m), (3, .agg (Enc.enc b))]) rfl fun E hE => ?_
  (repeat' first|(refine Qe ?_;(first|refine QI rfl ?_|refine QJ rfl ?_|refine WQ rfl rfl ?_|(refine Qp ?_;(first|refine s_call_vo rfl rfl (.same (.ref rfl (by rw [Q4];rfl) (QN _) (.same .nil))) (lines_own _ _ _ (by omega)) (encs_flat_str _) (fun _ _ => ?_)|refine s_call_ot rfl rfl (ha) (by repeat' first|exact Enc.clo _|exact WZ|refine Wl ?_ ?_|exact Wm|exact WD _|exact WH (QN _)|exact QN _|refine ZG ?_ ?_|refine Zy ?_|refine WS ?_|refine WF ?_) (by first|exact QN _) (fun _ _ => ?_)|refine s_call_ot rfl rfl (hb) (by repeat' first|exact Enc.clo _|exact WZ|refine Wl ?_ ?_|exact Wm|exact WD _|exact WH (QN _)|exact QN _|refine ZG ?_ ?_|refine Zy ?_|refine WS ?_|refine WF ?_) (by first|exact QN _) (fun _ _ => ?_)|refine s_app (α := Str) rfl rfl rfl rfl rfl (srcOf_refOf rfl rfl) (by first|omega|(simp;omega)) (by first|omega|(simp;omega)) (fun _ => rfl) (fun _ _ => ?_)|refine ZL (z := Str.mk _) rfl rfl rfl rfl rfl rfl rfl (by first|omega|(simp;omega)) (by first|omega|(simp;omega)) (fun _ => rfl) (fun _ _ => ?_)))|(refine QX ?_;(first|refine WK rfl rfl ?_|refine Wr rfl rfl ?_))|refine W4 rfl rfl (by decide) rfl ?_|refine QM rfl rfl rfl ?_|refine QV rfl rfl (fun _ _ => ?_)))|(refine Qk ?_;(first|refine Qi ?_|refine QK rfl ?_|refine Wx rfl rfl rfl rfl ?_|refine W1 rfl rfl rfl rfl ?_))|(refine Qj ?_;(first|refine Ql ?_|refine Qc ?_|refine Qt ?_)))
  exact e_2 (Tryz.results100) (Qg rfl) (Qg rfl) (qS rfl (by rw [Q4]) (Qs (by rw [show strs (f :: (inLo a ++ m :: (inLo b ++ [sClose]))) = [Str.mk f] ++ strs (inLo a) ++ [Str.mk m] ++ (strs (inLo b) ++ [Str.mk sClose]) by simp [strs]];first|rw [Bool.true_and];rfl|rw [Bool.false_and];rfl)))
def RsE (G : Nat -> DV) (t : Nd) : Prop := ∃ x : List Str, Go.Av.Pure Tryz.prog G 56 [.agg (Enc.enc t)] (.tup [QT x, .b (qh t)]) /\ (qh t = true -> x = strs (stL t))
theorem RsE.to {t : Nd} (h : RsE G t) : RsC G t := by
 obtain ⟨x, h1, h2⟩ := h
 refine ⟨fun hk => ?_, fun hk => ⟨x, by rwa [hk] at h1⟩⟩
 rw [hk, h2 hk] at h1;exact h1
theorem inOk_of {k n m : Int} {ks : List Nd} (h : k = 13) : inOk (.mk k n m ks) = qh (.mk k n m ks) := by rw [inOk, qh, if_pos h];simp [h]
theorem inLo_len (t : Nd) (h : Qx t <= 1000000) : (inLo t).length <= 3000000 := by
 have := (stL_len t).2
 unfold inLo;split
 ·omega
 ·simp
theorem rSt_c (t : Nd) : okN t -> Qx t <= 1000000 -> RsC G t /\ RiC G t := by
 induction t using Nd.ind with
 | h k n m ks ih =>
 intro hok hsz
 have hok0 := hok
 have hsz0 := hsz
 rw [okN] at hok
 rw [Qx] at hsz
 have hl1 := WV ks
 have hkid : ∀ x ∈ ks, RsC G x /\ RiC G x := fun x hx => ih x hx (Ws hok.2 hx) (by have := Q9 hx;omega)
 have hins := inside_own (G := G) k n m ks hok0 hsz0 fun x hx => (hkid x hx).1
 refine ⟨RsE.to ?_, hins⟩
 have hil := inLo_len _ hsz0
 have hxl : ∀ x ∈ ks, (exT x).length <= 60000000 := fun x hx => by have := qK x (Ws hok.2 hx);have := Q9 hx;omega
 have hll : ∀ x ∈ ks, (inLo x).length <= 3000000 := fun x hx => inLo_len x (by have := Q9 hx;omega)
 clear ih
 unfold RsE
 unfold RiC at hins
 rw [Q0] at hins ⊢
 by_cases k13 : k = 13
 ·subst k13
  rw [inOk_of rfl] at hins
  rw [<- qa] at hins hil
  refine ⟨[Str.mk sOpen] ++ strs (inLo (.mk 13 n m ks)) ++ [Str.mk sClose], fun B => ?_, fun h => ?_⟩
  ·refine Qa Tryz.func56 rfl Tryz.ntmps56 rfl (t := [(0, .agg [.i 13, .i n, .i m, QT ks])]) rfl fun E hE => ?_
   (repeat' first|(refine Qe ?_;(first|refine QI rfl ?_|refine QJ rfl ?_|(refine QB ?_;(first|refine WQ rfl rfl ?_|refine Qb rfl rfl rfl ?_))|refine QO rfl rfl ?_|(refine Qp ?_;(first|refine s_call_vo rfl rfl (.same (.ref rfl (by rw [Q4];rfl) (QN _) (.same .nil))) (lines_own _ _ _ (by omega)) (encs_flat_str _) (fun _ _ => ?_)|refine s_call_ot rfl rfl (hins) (by repeat' first|exact Enc.clo _|exact WZ|refine Wl ?_ ?_|exact Wm|exact WD _|exact WH (QN _)|exact QN _|refine ZG ?_ ?_|refine Zy ?_|refine WS ?_|refine WF ?_) (by first|exact QN _) (fun _ _ => ?_)))|refine Qd rfl rfl ?_|refine QM rfl rfl rfl ?_|refine QV rfl rfl (fun _ _ => ?_)))|(refine Qk ?_;(first|refine Qi ?_|refine QK rfl ?_))|(refine Qj ?_;(first|refine Ql ?_|refine Qc ?_|refine Qh rfl ?_|refine Qt ?_)))
   exact e_2 (Tryz.results56) (Qg rfl) (Qg rfl) (qS rfl (by rw [Q4];try rfl) (Qs rfl))
  ·rw [stL]
   unfold inLo
   rw [inOk_of rfl, h, inL]
   simp [strs]
 clear hins hil
 by_cases k17 : k = 17
 ·subst k17
  by_cases h0 : (ks.length : Int) = 0
  ·have h00 : ks.length = 0 := by omega
   have hf : qh (.mk 17 n m ks) = false := by rw [qh];simp [WJ, Q3, h00]
   refine ⟨[], fun B => ?_, fun h => by rw [hf] at h;cases h⟩
   refine Qa Tryz.func56 rfl Tryz.ntmps56 rfl (t := [(0, .agg [.i 17, .i n, .i m, QT ks])]) rfl fun E hE => ?_
   (repeat' first|(refine Qe ?_;(first|refine QI rfl ?_|refine QJ rfl ?_|refine Qb rfl rfl rfl ?_|refine QO rfl rfl ?_|refine Qz rfl ?_|refine WK rfl rfl ?_|refine Qd rfl rfl ?_|refine QV rfl rfl (fun _ _ => ?_)))|(refine Qk ?_;(first|refine Qi ?_|refine QK rfl ?_|refine W1 rfl rfl rfl rfl ?_|refine Q7 rfl rfl (by omega) ?_))|(refine Qj ?_;(first|refine Ql ?_|refine Qc ?_|refine Qu ?_|refine Qh rfl ?_|refine Qm rfl ?_|refine Qt ?_)))
   all_goals exact e_2 (Tryz.results56) (Qg rfl) (Qg rfl) (Zm (fun L v h => ZE (fun v hv => Zq (es := 1) hv) h) (Qs (by rw [hf];rfl)))
  have hp0 : 0 < ks.length := by omega
  by_cases hn : n = 0
  case neg =>
   have hf : qh (.mk 17 n m ks) = false := by rw [qh];simp [WJ, hn]
   refine ⟨[], fun B => ?_, fun h => by rw [hf] at h;cases h⟩
   refine Qa Tryz.func56 rfl Tryz.ntmps56 rfl (t := [(0, .agg [.i 17, .i n, .i m, QT ks])]) rfl fun E hE => ?_
   (repeat' first|(refine Qe ?_;(first|refine QI rfl ?_|refine QJ rfl ?_|refine Qb rfl rfl rfl ?_|(refine Qo ?_;(first|refine QO rfl rfl ?_|refine ZV rfl rfl ?_))|refine Qz rfl ?_|(refine QX ?_;(first|refine WK rfl rfl ?_|refine Wr rfl rfl ?_))|refine Qd rfl rfl ?_|refine QV rfl rfl (fun _ _ => ?_)))|(refine Qk ?_;(first|refine Qi ?_|refine QK rfl ?_|refine Wx rfl rfl rfl rfl ?_|refine W1 rfl rfl rfl rfl ?_|refine Q7 rfl rfl (by omega) ?_|refine Q2 rfl rfl (by omega) ?_))|(refine Qj ?_;(first|refine Ql ?_|refine Qc ?_|refine Qu ?_|refine Qh rfl ?_|refine Qm rfl ?_|refine Qt ?_)))
   all_goals exact e_2 (Tryz.results56) (Qg rfl) (Qg rfl) (Zm (fun L v h => ZE (fun v hv => Zq (es := 1) hv) h) (Qs (by rw [hf];rfl)))
  by_cases hm : m = 0
  case neg =>
   have hf : qh (.mk 17 n m ks) = false := by rw [qh];simp [WJ, Q3, hm]
   refine ⟨[], fun B => ?_, fun h => by rw [hf] at h;cases h⟩
   refine Qa Tryz.func56 rfl Tryz.ntmps56 rfl (t := [(0, .agg [.i 17, .i n, .i m, QT ks])]) rfl fun E hE => ?_
   (repeat' first|(refine Qe ?_;(first|refine QI rfl ?_|refine QJ rfl ?_|refine Qb rfl rfl rfl ?_|(refine Qo ?_;(first|refine QO rfl rfl ?_|refine ZV rfl rfl ?_))|refine Qz rfl ?_|(refine QX ?_;(first|refine WK rfl rfl ?_|refine Wr rfl rfl ?_))|refine Qd rfl rfl ?_|refine QV rfl rfl (fun _ _ => ?_)))|(refine Qk ?_;(first|refine Qi ?_|refine QK rfl ?_|refine Wx rfl rfl rfl rfl ?_|refine W1 rfl rfl rfl rfl ?_|refine Q2 rfl rfl (by omega) ?_))|(refine Qj ?_;(first|refine Ql ?_|refine Qc ?_|refine Qu ?_|refine Qh rfl ?_|refine Qm rfl ?_|refine Qq rfl (by omega) ?_|refine Qt ?_)))
   all_goals exact e_2 (Tryz.results56) (Qg rfl) (Qg rfl) (Zm (fun L v h => ZE (fun v hv => Zq (es := 1) hv) h) (Qs (by rw [hf];rfl)))
  subst hn;subst hm
  obtain ⟨tx, hx, htx⟩ := rEx_c (G := G) ks[0] (Ws hok.2 (List.getElem_mem hp0)) (by have := Q9 (List.getElem_mem hp0);omega)
  have hg0 : (ks.map Zs).getD 0 false = Zs ks[0] := by rw [List.getD_eq_getElem?_getD, List.getElem?_map, List.getElem?_eq_getElem hp0];rfl
  by_cases hk0 : Zs ks[0] = true
  case neg =>
   have hk2 : Zs ks[0] = false := by rw [<- Bool.not_eq_true];exact hk0
   have hf : qh (.mk 17 0 0 ks) = false := by rw [qh, hg0];simp [hk2]
   rw [hk2] at hx
   refine ⟨[], fun B => ?_, fun h => by rw [hf] at h;cases h⟩
   refine Qa Tryz.func56 rfl Tryz.ntmps56 rfl (t := [(0, .agg [.i 17, .i 0, .i 0, QT ks])]) rfl fun E hE => ?_
   (repeat' first|(refine Qe ?_;(first|refine QI rfl ?_|refine QJ rfl ?_|(refine QB ?_;(first|refine QR rfl ?_|refine Qb rfl rfl rfl ?_))|refine QC rfl rfl (by first|assumption|omega|(simp;done)|(simp;omega)) ?_|(refine Qo ?_;(first|refine QO rfl rfl ?_|refine ZV rfl rfl ?_))|(refine Qp ?_;(first|refine QZ rfl rfl (hx) ?_|refine Qz rfl ?_))|(refine QX ?_;(first|refine WK rfl rfl ?_|refine Wr rfl rfl ?_))|refine Wo rfl ?_|refine Qd rfl rfl ?_|refine QM rfl rfl rfl ?_|refine QV rfl rfl (fun _ _ => ?_)))|(refine Qk ?_;(first|refine Qi ?_|refine QK rfl ?_|refine Wx rfl rfl rfl rfl ?_|refine W1 rfl rfl rfl rfl ?_|refine Q2 rfl rfl (by omega) ?_))|(refine Qj ?_;(first|refine Ql ?_|refine Qc ?_|refine Qu ?_|refine Qh rfl ?_|refine Qm rfl ?_|refine Qt ?_)))
   all_goals exact e_2 (Tryz.results56) (Qg rfl) (Qg rfl) (Zm (fun L v h => ZE (fun v hv => Zq (es := 1) hv) h) (Qs (by rw [hf];rfl)))
  rw [hk0] at hx
  have hxe := htx hk0
  subst hxe
  have hxl0 := hxl _ (List.getElem_mem hp0)
  by_cases h3 : (ks.length : Int) = 3
  case neg =>
   have h30 : ¬ ks.length = 3 := by omega
   have hf : qh (.mk 17 0 0 ks) = false := by rw [qh];simp [WJ, Q3, h3, h30]
   refine ⟨[], fun B => ?_, fun h => by rw [hf] at h;cases h⟩
   refine Qa Tryz.func56 rfl Tryz.ntmps56 rfl (t := [(0, .agg [.i 17, .i 0, .i 0, QT ks])]) rfl fun E hE => ?_
   (repeat' first|(refine Qe ?_;(first|refine QI rfl ?_|refine QJ rfl ?_|(refine QB ?_;(first|refine QR rfl ?_|refine Qb rfl rfl rfl ?_))|refine QC rfl rfl (by first|assumption|omega|(simp;done)|(simp;omega)) ?_|(refine Qo ?_;(first|refine QO rfl rfl ?_|refine ZV rfl rfl ?_))|(refine Qp ?_;(first|refine QZ rfl rfl (hx) ?_|refine Qz rfl ?_))|(refine QX ?_;(first|refine WK rfl rfl ?_|refine Wr rfl rfl ?_))|refine Wo rfl ?_|refine Qd rfl rfl ?_|refine QM rfl rfl rfl ?_|refine QV rfl rfl (fun _ _ => ?_)))|(refine Qk ?_;(first|refine Qi ?_|refine QK rfl ?_|refine Wx rfl rfl rfl rfl ?_|refine W1 rfl rfl rfl rfl ?_|refine Q2 rfl rfl (by omega) ?_))|(refine Qj ?_;(first|refine Ql ?_|refine Qc ?_|refine Qu ?_|refine Qh rfl ?_|refine Qm rfl ?_|refine Qq rfl (by omega) ?_|refine Qt ?_)))
   all_goals exact e_2 (Tryz.results56) (Qg rfl) (Qg rfl) (Zm (fun L v h => ZE (fun v hv => Zq (es := 1) hv) h) (Qs (by rw [hf];rfl)))
  have h30 : ks.length = 3 := by omega
  match ks, h30 with
  | [c, a, b], _ =>
   have ha := (hkid a (by simp)).2
   have hb := (hkid b (by simp)).2
   have htwo := two_c (G := G) (sIf ++ exT c ++ sBr) sElse a b ha hb (by have := hll a (by simp);omega) (by have := hll b (by simp);omega)
   have hbb : WJ 0 0 [c, a, b].length 3 = true := rfl
   have hke : Zs c = true := hk0
   have hce : (exT c).length <= 60000000 := hxl0
   have hx2 : Go.Av.Pure Tryz.prog G 55 [.agg (Enc.enc c)] (.tup [WA (exT c), .b true]) := hx
   refine ⟨strs ((sIf ++ exT c ++ sBr) :: (inLo a ++ sElse :: (inLo b ++ [sClose]))), fun B => ?_, fun h => ?_⟩
   ·refine Qa Tryz.func56 rfl Tryz.ntmps56 rfl (t := [(0, .agg [.i 17, .i 0, .i 0, QT [c, a, b]])]) rfl fun E hE => ?_
    (repeat' first|(refine Qe ?_;(first|refine QI rfl ?_|refine QJ rfl ?_|(refine QB ?_;(first|refine QR rfl ?_|refine Qb rfl rfl rfl ?_))|refine QC rfl rfl (by first|assumption|omega|(simp;done)|(simp;omega)) ?_|(refine Qo ?_;(first|refine QO rfl rfl ?_|refine ZV rfl rfl ?_))|(refine Qp ?_;(first|refine QZ rfl rfl (hx) ?_|refine Qz rfl ?_))|(refine QX ?_;(first|refine WK rfl rfl ?_|refine Wr rfl rfl ?_))|refine Wo rfl ?_|refine Qd rfl rfl ?_|refine QM rfl rfl rfl ?_|refine QV rfl rfl (fun _ _ => ?_)))|(refine Qk ?_;(first|refine Qi ?_|refine QK rfl ?_|refine Wx rfl rfl rfl rfl ?_|refine W1 rfl rfl rfl rfl ?_))|(refine Qj ?_;(first|refine Ql ?_|refine Qc ?_|(refine Wn ?_;first|refine Q6 (by rfl) (by kernel_rfl) (by kernel_rfl) ?_|refine Q5 (by kernel_rfl) (by kernel_rfl) ?_)|refine Qu ?_|refine Qh rfl ?_|refine Qm rfl ?_|refine Qt ?_))|(refine ZZ ?_;(first|refine x_op rfl (by (repeat' first|(refine Qe ?_;(first|refine QI rfl ?_|refine QJ rfl ?_|(refine QB ?_;(first|refine QR rfl ?_|refine Qb rfl rfl rfl ?_))|refine QC rfl rfl (by first|assumption|omega|(simp;done)|(simp;omega)) ?_|refine qe rfl rfl ?_|refine QZ rfl rfl (htwo) ?_|refine Qd rfl rfl ?_|refine QM rfl rfl rfl ?_))|exact ⟨rfl, rfl⟩)) ?_|refine ZT ?_)))
    exact e_2 (Tryz.results56) (Qg rfl) (Qg rfl) (Qs (by rw [qh, ql, hbb];simp [hke, QT]))
   ·rw [qh, ql] at h
    simp [hke] at h
    rw [stL, insL_eq]
    unfold inLo
    simp [h.1.2, h.2]
 by_cases k18 : k = 18
 ·subst k18
  by_cases h0 : (ks.length : Int) = 0
  ·have h00 : ks.length = 0 := by omega
   have hf : qh (.mk 18 n m ks) = false := by rw [qh];simp [WJ, Q3, h00]
   refine ⟨[], fun B => ?_, fun h => by rw [hf] at h;cases h⟩
   refine Qa Tryz.func56 rfl Tryz.ntmps56 rfl (t := [(0, .agg [.i 18, .i n, .i m, QT ks])]) rfl fun E hE => ?_
   (repeat' first|(refine Qe ?_;(first|refine QI rfl ?_|refine QJ rfl ?_|refine Qb rfl rfl rfl ?_|refine QO rfl rfl ?_|refine Qz rfl ?_|(refine QX ?_;(first|refine WK rfl rfl ?_|refine Wr rfl rfl ?_))|refine Qd rfl rfl ?_|refine QV rfl rfl (fun _ _ => ?_)))|(refine Qk ?_;(first|refine Qi ?_|refine QK rfl ?_|refine Wx rfl rfl rfl rfl ?_|refine W1 rfl rfl rfl rfl ?_|refine Q7 rfl rfl (by omega) ?_))|(refine Qj ?_;(first|refine Ql ?_|refine Qc ?_|refine Qu ?_|refine Qh rfl ?_|refine Qm rfl ?_|refine Qt ?_)))
   all_goals exact e_2 (Tryz.results56) (Qg rfl) (Qg rfl) (Zm (fun L v h => ZE (fun v hv => Zq (es := 1) hv) h) (Qs (by rw [hf];rfl)))
  have hp0 : 0 < ks.length := by omega
  by_cases hn : n = 0
  case neg =>
   have hf : qh (.mk 18 n m ks) = false := by rw [qh];simp [WJ, hn]
   refine ⟨[], fun B => ?_, fun h => by rw [hf] at h;cases h⟩
   refine Qa Tryz.func56 rfl Tryz.ntmps56 rfl (t := [(0, .agg [.i 18, .i n, .i m, QT ks])]) rfl fun E hE => ?_
   (repeat' first|(refine Qe ?_;(first|refine QI rfl ?_|refine QJ rfl ?_|refine Qb rfl rfl rfl ?_|(refine Qo ?_;(first|refine QO rfl rfl ?_|refine ZV rfl rfl ?_))|refine Qz rfl ?_|(refine QX ?_;(first|refine WK rfl rfl ?_|refine Wr rfl rfl ?_))|refine Qd rfl rfl ?_|refine QV rfl rfl (fun _ _ => ?_)))|(refine Qk ?_;(first|refine Qi ?_|refine QK rfl ?_|refine Wx rfl rfl rfl rfl ?_|refine W1 rfl rfl rfl rfl ?_|refine Q7 rfl rfl (by omega) ?_|refine Q2 rfl rfl (by omega) ?_))|(refine Qj ?_;(first|refine Ql ?_|refine Qc ?_|refine Qu ?_|refine Qh rfl ?_|refine Qm rfl ?_|refine Qt ?_)))
   all_goals exact e_2 (Tryz.results56) (Qg rfl) (Qg rfl) (Zm (fun L v h => ZE (fun v hv => Zq (es := 1) hv) h) (Qs (by rw [hf];rfl)))
  by_cases hm : m = 0
  case neg =>
   have hf : qh (.mk 18 n m ks) = false := by rw [qh];simp [WJ, Q3, hm]
   refine ⟨[], fun B => ?_, fun h => by rw [hf] at h;cases h⟩
   refine Qa Tryz.func56 rfl Tryz.ntmps56 rfl (t := [(0, .agg [.i 18, .i n, .i m, QT ks])]) rfl fun E hE => ?_
   (repeat' first|(refine Qe ?_;(first|refine QI rfl ?_|refine QJ rfl ?_|refine Qb rfl rfl rfl ?_|(refine Qo ?_;(first|refine QO rfl rfl ?_|refine ZV rfl rfl ?_))|refine Qz rfl ?_|refine Wr rfl rfl ?_|refine Qd rfl rfl ?_|refine QV rfl rfl (fun _ _ => ?_)))|(refine Qk ?_;(first|refine Qi ?_|refine QK rfl ?_|refine Wx rfl rfl rfl rfl ?_|refine Q2 rfl rfl (by omega) ?_))|(refine Qj ?_;(first|refine Ql ?_|refine Qc ?_|refine Qu ?_|refine Qh rfl ?_|refine Qm rfl ?_|refine Qq rfl (by omega) ?_|refine Qt ?_)))
   all_goals exact e_2 (Tryz.results56) (Qg rfl) (Qg rfl) (Zm (fun L v h => ZE (fun v hv => Zq (es := 1) hv) h) (Qs (by rw [hf];rfl)))
  subst hn;subst hm
  obtain ⟨tx, hx, htx⟩ := rEx_c (G := G) ks[0] (Ws hok.2 (List.getElem_mem hp0)) (by have := Q9 (List.getElem_mem hp0);omega)
  have hg0 : (ks.map Zs).getD 0 false = Zs ks[0] := by rw [List.getD_eq_getElem?_getD, List.getElem?_map, List.getElem?_eq_getElem hp0];rfl
  by_cases hk0 : Zs ks[0] = true
  case neg =>
   have hk2 : Zs ks[0] = false := by rw [<- Bool.not_eq_true];exact hk0
   have hf : qh (.mk 18 0 0 ks) = false := by rw [qh, hg0];simp [hk2]
   rw [hk2] at hx
   refine ⟨[], fun B => ?_, fun h => by rw [hf] at h;cases h⟩
   refine Qa Tryz.func56 rfl Tryz.ntmps56 rfl (t := [(0, .agg [.i 18, .i 0, .i 0, QT ks])]) rfl fun E hE => ?_
   (repeat' first|(refine Qe ?_;(first|refine QI rfl ?_|refine QJ rfl ?_|(refine QB ?_;(first|refine QR rfl ?_|refine Qb rfl rfl rfl ?_))|refine QC rfl rfl (by first|assumption|omega|(simp;done)|(simp;omega)) ?_|(refine Qo ?_;(first|refine QO rfl rfl ?_|refine ZV rfl rfl ?_))|(refine Qp ?_;(first|refine QZ rfl rfl (hx) ?_|refine Qz rfl ?_))|refine Wr rfl rfl ?_|refine Wo rfl ?_|refine Qd rfl rfl ?_|refine QM rfl rfl rfl ?_|refine QV rfl rfl (fun _ _ => ?_)))|(refine Qk ?_;(first|refine Qi ?_|refine QK rfl ?_|refine Wx rfl rfl rfl rfl ?_|refine Q2 rfl rfl (by omega) ?_))|(refine Qj ?_;(first|refine Ql ?_|refine Qc ?_|refine Qu ?_|refine Qh rfl ?_|refine Qm rfl ?_|refine Qt ?_)))
   all_goals exact e_2 (Tryz.results56) (Qg rfl) (Qg rfl) (Zm (fun L v h => ZE (fun v hv => Zq (es := 1) hv) h) (Qs (by rw [hf];rfl)))
  rw [hk0] at hx
  have hxe := htx hk0
  subst hxe
  have hxl0 := hxl _ (List.getElem_mem hp0)
  by_cases h2 : (ks.length : Int) = 2
  case neg =>
   have h20 : ¬ ks.length = 2 := by omega
   have hf : qh (.mk 18 0 0 ks) = false := by rw [qh];simp [WJ, Q3, h2, h20]
   refine ⟨[], fun B => ?_, fun h => by rw [hf] at h;cases h⟩
   refine Qa Tryz.func56 rfl Tryz.ntmps56 rfl (t := [(0, .agg [.i 18, .i 0, .i 0, QT ks])]) rfl fun E hE => ?_
   (repeat' first|(refine Qe ?_;(first|refine QI rfl ?_|refine QJ rfl ?_|(refine QB ?_;(first|refine QR rfl ?_|refine Qb rfl rfl rfl ?_))|refine QC rfl rfl (by first|assumption|omega|(simp;done)|(simp;omega)) ?_|(refine Qo ?_;(first|refine QO rfl rfl ?_|refine ZV rfl rfl ?_))|(refine Qp ?_;(first|refine QZ rfl rfl (hx) ?_|refine Qz rfl ?_))|refine Wr rfl rfl ?_|refine Wo rfl ?_|refine Qd rfl rfl ?_|refine QM rfl rfl rfl ?_|refine QV rfl rfl (fun _ _ => ?_)))|(refine Qk ?_;(first|refine Qi ?_|refine QK rfl ?_|refine Wx rfl rfl rfl rfl ?_|refine Q2 rfl rfl (by omega) ?_))|(refine Qj ?_;(first|refine Ql ?_|refine Qc ?_|refine Qu ?_|refine Qh rfl ?_|refine Qm rfl ?_|refine Qq rfl (by omega) ?_|refine Qt ?_)))
   all_goals exact e_2 (Tryz.results56) (Qg rfl) (Qg rfl) (Zm (fun L v h => ZE (fun v hv => Zq (es := 1) hv) h) (Qs (by rw [hf];rfl)))
  have h20 : ks.length = 2 := by omega
  match ks, h20 with
  | [c, a], _ =>
   have hins := (hkid a (by simp)).2
   have hil := hll a (by simp)
   unfold RiC at hins
   rw [<- qa] at hins hil
   have hbb : WJ 0 0 [c, a].length 2 = true := rfl
   have hke : Zs c = true := hk0
   have hce : (exT c).length <= 60000000 := hxl0
   have hx2 : Go.Av.Pure Tryz.prog G 55 [.agg (Enc.enc c)] (.tup [WA (exT c), .b true]) := hx
   refine ⟨[Str.mk (sWhile ++ exT c ++ sBr)] ++ strs (inLo a) ++ [Str.mk sClose], fun B => ?_, fun h => ?_⟩
   ·refine Qa Tryz.func56 rfl Tryz.ntmps56 rfl (t := [(0, .agg [.i 18, .i 0, .i 0, QT [c, a]])]) rfl fun E hE => ?_
    (repeat' first|(refine Qe ?_;(first|refine QI rfl ?_|refine QJ rfl ?_|(refine QB ?_;(first|refine QR rfl ?_|refine Qb rfl rfl rfl ?_))|refine QC rfl rfl (by first|assumption|omega|(simp;done)|(simp;omega)) ?_|(refine Qo ?_;(first|refine QO rfl rfl ?_|refine ZV rfl rfl ?_|refine qe rfl rfl ?_))|(refine Qp ?_;(first|refine s_call_vo rfl rfl (.same (.ref rfl (by rw [Q4];rfl) (QN _) (.same .nil))) (lines_own _ _ _ (by omega)) (encs_flat_str _) (fun _ _ => ?_)|refine QZ rfl rfl (hx) ?_|refine s_call_ot rfl rfl (hins) (by repeat' first|exact Enc.clo _|exact WZ|refine Wl ?_ ?_|exact Wm|exact WD _|exact WH (QN _)|exact QN _|refine ZG ?_ ?_|refine Zy ?_|refine WS ?_|refine WF ?_) (by first|exact QN _) (fun _ _ => ?_)|refine Qz rfl ?_))|refine Wr rfl rfl ?_|refine Wo rfl ?_|refine Qd rfl rfl ?_|refine QM rfl rfl rfl ?_|refine QV rfl rfl (fun _ _ => ?_)))|(refine Qk ?_;(first|refine Qi ?_|refine QK rfl ?_|refine Wx rfl rfl rfl rfl ?_))|(refine Qj ?_;(first|refine Ql ?_|refine Qc ?_|refine Qu ?_|refine Qh rfl ?_|refine Qm rfl ?_|refine Qt ?_)))
    exact e_2 (Tryz.results56) (Qg rfl) (Qg rfl) (qS rfl (by rw [Q4];try rfl) (Qs (by rw [qh, ql, hbb];simp [hke, QT];try rfl)))
   ·rw [qh, ql] at h
    simp [hke] at h
    rw [stL, insL_eq]
    unfold inLo
    simp [h.2, strs]
 by_cases k21 : k = 21
 ·subst k21
  have hbr := W2 (G := G) 21 n m ks 2
  have hsm := ZM (G := G) n
  by_cases hb : bareR m ks.length 2 = true
  case neg =>
   have hb2 : bareR m ks.length 2 = false := by rw [<- Bool.not_eq_true];exact hb
   have hf : qh (.mk 21 n m ks) = false := by rw [qh];simp [Wq, hb2]
   rw [hb2] at hbr
   refine ⟨[], fun B => ?_, fun h => by rw [hf] at h;cases h⟩
   refine Qa Tryz.func56 rfl Tryz.ntmps56 rfl (t := [(0, .agg [.i 21, .i n, .i m, QT ks])]) rfl fun E hE => ?_
   (repeat' first|(refine Qe ?_;(first|refine QI rfl ?_|refine QJ rfl ?_|(refine QB ?_;(first|refine WQ rfl rfl ?_|refine Qb rfl rfl rfl ?_))|refine QO rfl rfl ?_|refine QZ rfl rfl (hbr) ?_|(refine QX ?_;(first|refine WK rfl rfl ?_|refine Wr rfl rfl ?_))|refine Wo rfl ?_|refine Qd rfl rfl ?_|refine QV rfl rfl (fun _ _ => ?_)))|(refine Qk ?_;(first|refine Qi ?_|refine QK rfl ?_|refine Wx rfl rfl rfl rfl ?_|refine W1 rfl rfl rfl rfl ?_))|(refine Qj ?_;(first|refine Ql ?_|refine Qc ?_|refine Qu ?_|refine Qh rfl ?_|refine Qm rfl ?_|refine Qt ?_)))
   all_goals exact e_2 (Tryz.results56) (Qg rfl) (Qg rfl) (Zm (fun L v h => ZE (fun v hv => Zq (es := 1) hv) h) (Qs (by rw [hf];rfl)))
  rw [hb] at hbr
  by_cases hs : WX n = true
  case neg =>
   have hs2 : WX n = false := by rw [<- Bool.not_eq_true];exact hs
   have hf : qh (.mk 21 n m ks) = false := by rw [qh];simp [hs2]
   rw [hs2] at hsm
   refine ⟨[], fun B => ?_, fun h => by rw [hf] at h;cases h⟩
   refine Qa Tryz.func56 rfl Tryz.ntmps56 rfl (t := [(0, .agg [.i 21, .i n, .i m, QT ks])]) rfl fun E hE => ?_
   (repeat' first|(refine Qe ?_;(first|refine QI rfl ?_|refine QJ rfl ?_|(refine QB ?_;(first|refine WQ rfl rfl ?_|refine Qb rfl rfl rfl ?_))|refine QO rfl rfl ?_|(refine Qp ?_;(first|refine QZ rfl rfl (hsm) ?_|refine QZ rfl rfl (hbr) ?_))|refine Wr rfl rfl ?_|refine Wo rfl ?_|refine Qd rfl rfl ?_|refine QV rfl rfl (fun _ _ => ?_)))|(refine Qk ?_;(first|refine Qi ?_|refine QK rfl ?_|refine Wx rfl rfl rfl rfl ?_))|(refine Qj ?_;(first|refine Ql ?_|refine Qc ?_|refine Qu ?_|refine Qh rfl ?_|refine Qm rfl ?_|refine Qt ?_)))
   all_goals exact e_2 (Tryz.results56) (Qg rfl) (Qg rfl) (Zm (fun L v h => ZE (fun v hv => Zq (es := 1) hv) h) (Qs (by rw [hf];rfl)))
  rw [hs] at hsm
  obtain ⟨hn0, hn9⟩ := qO hs
  have hdig : Go.Av.Pure Tryz.prog G 93 [.i n] (WA (Lib.itoa n)) := by
   rw [itoa_nat hn0]
   have := qN (G := G) n.toNat (by omega)
   rwa [show ((n.toNat : Nat) : Int) = n by omega] at this
  have hdl := W5 hok.1.2.1
  have h20 : ks.length = 2 := by simp [bareR] at hb;omega
  match ks, h20 with
  | [a, b], _ =>
   have ha := (hkid a (by simp)).2
   have hbk := (hkid b (by simp)).2
   have htwo := two_c (G := G) sTry (sCatch ++ Lib.itoa n ++ sBr) a b ha hbk (by have := hll a (by simp);omega) (by have := hll b (by simp);omega)
   have hb3 : bareR m 2 2 = true := hb
   refine ⟨strs (sTry :: (inLo a ++ (sCatch ++ Lib.itoa n ++ sBr) :: (inLo b ++ [sClose]))), fun B => ?_, fun h => ?_⟩
   ·refine Qa Tryz.func56 rfl Tryz.ntmps56 rfl (t := [(0, .agg [.i 21, .i n, .i m, QT [a, b]])]) rfl fun E hE => ?_
    (repeat' first|(refine Qe ?_;(first|refine QI rfl ?_|refine QJ rfl ?_|(refine QB ?_;(first|refine WQ rfl rfl ?_|refine Qb rfl rfl rfl ?_))|refine QO rfl rfl ?_|(refine Qp ?_;(first|refine QZ rfl rfl (hsm) ?_|refine QZ rfl rfl (hbr) ?_))|refine Wr rfl rfl ?_|refine Wo rfl ?_|refine Qd rfl rfl ?_|refine QV rfl rfl (fun _ _ => ?_)))|(refine Qk ?_;(first|refine Qi ?_|refine QK rfl ?_|refine Wx rfl rfl rfl rfl ?_))|(refine Qj ?_;(first|refine Ql ?_|refine Qc ?_|(refine Wn ?_;first|refine Q6 (by rfl) (by kernel_rfl) (by kernel_rfl) ?_|refine Q5 (by kernel_rfl) (by kernel_rfl) ?_)|refine Qu ?_|refine Qh rfl ?_|refine Qm rfl ?_|refine Qt ?_))|(refine ZZ ?_;(first|refine x_op rfl (by (repeat' first|(refine Qe ?_;(first|refine QJ rfl ?_|(refine QB ?_;(first|refine QR rfl ?_|refine Qb rfl rfl rfl ?_))|refine QC rfl rfl (by first|assumption|omega|(simp;done)|(simp;omega)) ?_|refine qe rfl rfl ?_|(refine Qp ?_;(first|refine QZ rfl rfl (hdig) ?_|refine QZ rfl rfl (htwo) ?_))|refine Qd rfl rfl ?_|refine QM rfl rfl rfl ?_))|exact ⟨rfl, rfl⟩)) ?_|refine ZT ?_)))
    exact e_2 (Tryz.results56) (Qg rfl) (Qg rfl) (Qs (by rw [qh, ql];simp [Wq, hb3, hs, QT]))
   ·rw [qh, ql] at h
    simp [hs] at h
    rw [stL, insL_eq]
    unfold inLo
    simp [h.1.2, h.2]
 ·obtain ⟨x, hsim, hxe⟩ := rSim_c (G := G) (.mk k n m ks) hok0 hsz0
  rw [Q0] at hsim
  have hso : qh (.mk k n m ks) = ZA (.mk k n m ks) := by rw [qh, if_neg k13, if_neg k17, if_neg k18, if_neg k21]
  rw [hso]
  refine ⟨[Str.mk x], fun B => ?_, fun h => ?_⟩
  ·refine Qa Tryz.func56 rfl Tryz.ntmps56 rfl (t := [(0, .agg [.i k, .i n, .i m, QT ks])]) rfl fun E hE => ?_
   (repeat' first|(refine Qe ?_;(first|refine QI rfl ?_|refine QJ rfl ?_|(refine QB ?_;(first|refine WQ rfl rfl ?_|refine Qb rfl rfl rfl ?_))|refine QO rfl rfl ?_|refine QZ rfl rfl (hsim) ?_|refine Wr rfl rfl ?_|refine Qd rfl rfl ?_|refine QM rfl rfl rfl ?_|refine W4 rfl rfl (by decide) rfl ?_|refine QV rfl rfl (fun _ _ => ?_)))|(refine Qk ?_;(first|refine Qi ?_|refine QK rfl ?_|refine Wx rfl rfl rfl rfl ?_|refine Q2 rfl rfl (by omega) ?_))|(refine Qj ?_;(first|refine Ql ?_|refine Qc ?_|refine Qu ?_|refine Qn rfl (by omega) ?_|refine Qt ?_)))
   exact e_2 (Tryz.results56) (Qg rfl) (Qg rfl) (Qs rfl)
  ·rw [hxe h, stL, if_neg k13, if_neg k17, if_neg k18, if_neg k21];rfl
theorem line0 (s : List UInt8) : ZR 0 s = s ++ [10] := by simp [ZR, Lib.repeatL]
theorem joinN_take {l : List (List UInt8)} {j : Nat} (h : j < l.length) : Z2 0 (l.take (j + 1)) = Z2 0 (l.take j) ++ (l[j] ++ [10]) := by
 rw [List.take_succ_eq_append_getElem h, Z6]
 show Z2 0 (l.take j) ++ (ZR 0 l[j] ++ []) = _
 rw [line0, List.append_nil]
theorem joinN_take_le (l : List (List UInt8)) (j : Nat) : (Z2 0 (l.take j)).length <= (Z2 0 l).length := by
 have := Z6 0 (l.take j) (l.drop j)
 rw [List.take_append_drop] at this
 rw [this, List.length_append];omega
theorem joined_c (l : List (List UInt8)) (hl : (Z2 0 l).length <= 140737480000000) (hn : l.length <= 1000000000) : Go.Av.Pure Tryz.prog G 52 [QT (strs l)] (WA (Z2 0 l)) := fun B => by
 obtain ⟨ls, hls⟩ : ∃ ls, ls = strs l := ⟨_, rfl⟩
 rw [<- hls]
 have hll : ls.length = l.length := by rw [hls, qa]
 refine Qa Tryz.func52 rfl Tryz.ntmps52 rfl (t := [(0, QT ls)]) rfl fun E hE => ?_
 (repeat' first|refine QJ rfl ?_|(refine Qk ?_;(first|refine Qi ?_|refine QK rfl ?_))|(refine Qj ?_;(first|refine Ql ?_|refine Qc ?_|refine Qf ?_)))
 refine ZQ (fun (j : Nat) => ⟨[(0, QT ls), (3, WA (Z2 0 (l.take j))), (4, .i j)], []⟩) (fun j => j <= ls.length) (fun j => ls.length - j) 0 ?_ (by omega) ?_
 ·exact zal rfl
 intro j hj
 by_cases hjl : j < ls.length
 ·have hjl2 : j < l.length := by omega
  have e : ls[j].l = l[j] := by subst hls;simp [strs]
  have hle := joinN_take_le l (j + 1)
  have htk := joinN_take hjl2
  rw [<- e] at htk
  rw [htk] at hle
  have hb : (Z2 0 (l.take j)).length + ls[j].l.length + 1 <= 140737480000000 := by simp only [List.length_append, List.length_cons, List.length_nil] at hle;omega
  clear hle e
  (repeat' first|(refine Qe ?_;(first|refine QI rfl ?_|refine QJ rfl ?_|refine QS rfl ?_|refine QC rfl rfl (by first|assumption|omega|(simp;done)|(simp;omega)) ?_|(refine Qo ?_;(first|refine QY rfl rfl ?_|refine W7 rfl rfl (by omega) ?_|refine qe rfl rfl ?_))|refine Qz rfl ?_))|(refine Qk ?_;(first|refine Qi ?_|refine QK rfl ?_))|(refine Qj ?_;(first|refine Ql ?_|refine Qc ?_|refine Qf ?_|refine Qu ?_|refine Qq rfl (by omega) ?_)))
  refine ⟨j + 1, by omega, by omega, ?_⟩
  rw [htk, <- List.append_assoc]
  exact zal rfl
 ·have hje : j = l.length := by omega
  subst hje
  (repeat' first|(refine Qe ?_;(first|refine QI rfl ?_|refine QJ rfl ?_|refine QY rfl rfl ?_|refine Qz rfl ?_))|(refine Qk ?_;(first|refine Qi ?_|refine QK rfl ?_))|(refine Qj ?_;(first|refine Ql ?_|refine Qc ?_|refine Qn rfl (by omega) ?_|refine Wp rfl ?_|refine Qt ?_)))
  refine e_1 Tryz.results52 (Qg rfl) (Qs ?_)
  rw [List.take_length]
abbrev sFun : List UInt8 := [102, 117, 110, 32]
abbrev sPar : List UInt8 := [32, 40]
abbrev sEnd : List UInt8 := [41, 32, 123]
def lastN (ks : List Nd) : Nd := ks.getD (ks.length - 1) (.mk 0 0 0 [])
def funHd (n : Int) (ks : List Nd) : List UInt8 := sFun ++ Lib.itoa n ++ sPar ++ WO ((ks.take (ks.length - 1)).map qv) ++ sEnd
def funL : Nd -> List (List UInt8)
 | .mk k n m ks => funHd n ks :: (inL (lastN ks) ++ [sClose])
theorem fun_lines (t : Nd) (h : ZF t = true) : funT t = Z2 0 (funL t) := by
 obtain ⟨k, n, m, ks⟩ := t
 rw [ZF] at h
 simp only [Bool.and_eq_true] at h
 rw [funT, if_pos (by simp only [Bool.and_eq_true];exact h.1.1.1), (st_lines _ 0).2 h.2]
 show _ = Z2 0 (funHd n ks :: (inL (lastN ks) ++ [sClose]))
 rw [qt, Z6]
 unfold funHd lastN
 congr 1
 try congr 1
 try simp [Z2]
theorem funL_len (t : Nd) : (funL t).length <= 3 * Qx t := by
 obtain ⟨k, n, m, ks⟩ := t
 rw [funL, List.length_cons, List.length_append, List.length_singleton, Qx]
 rcases Nat.eq_zero_or_pos ks.length with h0|h0
 ·rw [List.eq_nil_of_length_eq_zero h0]
  have : (inL (lastN [])).length = 0 := rfl
  omega
 ·have h1 := (stL_len (lastN ks)).2
  have h2 := Q9 (last_mem h0)
  have h3 : Qx (lastN ks) <= QQ ks := h2
  omega
def RfE (G : Nat -> DV) (t : Nd) : Prop := ∃ x : List Str, Go.Av.Pure Tryz.prog G 53 [.agg (Enc.enc t)] (.tup [QT x, .b (ZF t)]) /\ (ZF t = true -> x = strs (funL t))
theorem rFun_c (t : Nd) (hok : okN t) (hsz : Qx t <= 1000000) : RfE G t := by
 obtain ⟨k, n, m, ks⟩ := t
 rw [okN] at hok
 rw [Qx] at hsz
 have hl1 := WV ks
 unfold RfE
 rw [Q0]
 have hsm := ZM (G := G) n
 by_cases k26 : k = 26
 case neg =>
  have hf : ZF (.mk k n m ks) = false := by rw [ZF];simp [k26]
  refine ⟨[], fun B => ?_, fun h => by rw [hf] at h;cases h⟩
  refine Qa Tryz.func53 rfl Tryz.ntmps53 rfl (t := [(0, .agg [.i k, .i n, .i m, QT ks])]) rfl fun E hE => ?_
  (repeat' first|(refine Qe ?_;(first|refine QI rfl ?_|refine QJ rfl ?_|refine Qb rfl rfl rfl ?_|refine ZV rfl rfl ?_|refine WK rfl rfl ?_|refine Qd rfl rfl ?_|refine QV rfl rfl (fun _ _ => ?_)))|(refine Qk ?_;(first|refine Qi ?_|refine QK rfl ?_|refine W1 rfl rfl rfl rfl ?_|refine Q7 rfl rfl (by omega) ?_))|(refine Qj ?_;(first|refine Ql ?_|refine Qc ?_|refine Qh rfl ?_|refine Qt ?_)))
  all_goals exact e_2 (Tryz.results53) (Qg rfl) (Qg rfl) (Zm (fun L v h => ZE (fun v hv => Zq (es := 1) hv) h) (Qs (by rw [hf];rfl)))
 subst k26
 by_cases hm : m = 0
 case neg =>
  have hf : ZF (.mk 26 n m ks) = false := by rw [ZF];simp [ZN, hm]
  refine ⟨[], fun B => ?_, fun h => by rw [hf] at h;cases h⟩
  refine Qa Tryz.func53 rfl Tryz.ntmps53 rfl (t := [(0, .agg [.i 26, .i n, .i m, QT ks])]) rfl fun E hE => ?_
  (repeat' first|(refine Qe ?_;(first|refine QI rfl ?_|refine QJ rfl ?_|refine Qb rfl rfl rfl ?_|refine ZV rfl rfl ?_|(refine QX ?_;(first|refine WK rfl rfl ?_|refine Wr rfl rfl ?_))|refine Qd rfl rfl ?_|refine QV rfl rfl (fun _ _ => ?_)))|(refine Qk ?_;(first|refine Qi ?_|refine QK rfl ?_|refine Wx rfl rfl rfl rfl ?_|refine W1 rfl rfl rfl rfl ?_|refine Q7 rfl rfl (by omega) ?_))|(refine Qj ?_;(first|refine Ql ?_|refine Qc ?_|refine Qh rfl ?_|refine Qt ?_)))
  all_goals exact e_2 (Tryz.results53) (Qg rfl) (Qg rfl) (Zm (fun L v h => ZE (fun v hv => Zq (es := 1) hv) h) (Qs (by rw [hf];rfl)))
 subst hm
 by_cases hs : WX n = true
 case neg =>
  have hs2 : WX n = false := by rw [<- Bool.not_eq_true];exact hs
  have hf : ZF (.mk 26 n 0 ks) = false := by rw [ZF];simp [hs2]
  rw [hs2] at hsm
  refine ⟨[], fun B => ?_, fun h => by rw [hf] at h;cases h⟩
  refine Qa Tryz.func53 rfl Tryz.ntmps53 rfl (t := [(0, .agg [.i 26, .i n, .i 0, QT ks])]) rfl fun E hE => ?_
  (repeat' first|(refine Qe ?_;(first|refine QI rfl ?_|refine QJ rfl ?_|refine Qb rfl rfl rfl ?_|refine ZV rfl rfl ?_|refine QZ rfl rfl (hsm) ?_|(refine QX ?_;(first|refine WK rfl rfl ?_|refine Wr rfl rfl ?_))|refine Wo rfl ?_|refine Qd rfl rfl ?_|refine QV rfl rfl (fun _ _ => ?_)))|(refine Qk ?_;(first|refine Qi ?_|refine QK rfl ?_|refine Wx rfl rfl rfl rfl ?_|refine W1 rfl rfl rfl rfl ?_))|(refine Qj ?_;(first|refine Ql ?_|refine Qc ?_|refine Qh rfl ?_|refine Qt ?_)))
  all_goals exact e_2 (Tryz.results53) (Qg rfl) (Qg rfl) (Zm (fun L v h => ZE (fun v hv => Zq (es := 1) hv) h) (Qs (by rw [hf];rfl)))
 rw [hs] at hsm
 by_cases h0 : (ks.length : Int) = 0
 ·have h00 : ks.length = 0 := by omega
  have hf : ZF (.mk 26 n 0 ks) = false := by rw [ZF];simp [h00]
  refine ⟨[], fun B => ?_, fun h => by rw [hf] at h;cases h⟩
  refine Qa Tryz.func53 rfl Tryz.ntmps53 rfl (t := [(0, .agg [.i 26, .i n, .i 0, QT ks])]) rfl fun E hE => ?_
  (repeat' first|(refine Qe ?_;(first|refine QI rfl ?_|refine QJ rfl ?_|refine Qb rfl rfl rfl ?_|(refine Qo ?_;(first|refine QO rfl rfl ?_|refine ZV rfl rfl ?_))|(refine Qp ?_;(first|refine QZ rfl rfl (hsm) ?_|refine Qz rfl ?_))|refine Wr rfl rfl ?_|refine Wo rfl ?_|refine Qd rfl rfl ?_|refine QV rfl rfl (fun _ _ => ?_)))|(refine Qk ?_;(first|refine Qi ?_|refine QK rfl ?_|refine Wx rfl rfl rfl rfl ?_))|(refine Qj ?_;(first|refine Ql ?_|refine Qc ?_|refine Qq rfl (by omega) ?_|refine Qt ?_)))
  all_goals exact e_2 (Tryz.results53) (Qg rfl) (Qg rfl) (Zm (fun L v h => ZE (fun v hv => Zq (es := 1) hv) h) (Qs (by rw [hf];rfl)))
 have hp0 : 0 < ks.length := by omega
 obtain ⟨hn0, hn9⟩ := qO hs
 have hdig : Go.Av.Pure Tryz.prog G 93 [.i n] (WA (Lib.itoa n)) := by
  rw [itoa_nat hn0]
  have := qN (G := G) n.toNat (by omega)
  rwa [show ((n.toNat : Nat) : Int) = n by omega] at this
 have hdl := W5 hok.1.2.1
 obtain ⟨c, hc⟩ : ∃ c, c = ks.length - 1 := ⟨_, rfl⟩
 have hcl : c < ks.length := by omega
 have hlast : lastN ks = ks[c] := by
  unfold lastN
  rw [List.getD_eq_getElem?_getD, <- hc, List.getElem?_eq_getElem hcl];rfl
 have hins := (rSt_c (G := G) ks[c] (Ws hok.2 (List.getElem_mem hcl)) (by have := Q9 (List.getElem_mem hcl);omega)).2
 have hil := inLo_len ks[c] (by have := Q9 (List.getElem_mem hcl);omega)
 have hio : inLo ks[c] = inLo (lastN ks) := by rw [hlast]
 have hfo : ZF (.mk 26 n 0 ks) = ((ks.take c).all ZH && inOk ks[c]) := by
  rw [ZF]
  simp [hs, hp0, ZN]
  rw [<- hc]
  congr 1
  rw [List.getElem?_eq_getElem hcl];rfl
 have hfl : funL (.mk 26 n 0 ks) = (sFun ++ Lib.itoa n ++ sPar ++ WO ((ks.take c).map qv) ++ sEnd) :: (inL ks[c] ++ [sClose]) := by
  rw [funL, hlast];unfold funHd;rw [<- hc]
 rw [hfo, hfl]
 unfold RiC at hins
 rw [<- qa] at hins hil
 have hit : ∀ x ∈ ks, ∃ y, Go.Av.Pure Tryz.prog G 54 [.agg (Enc.enc x)] (.tup [WA y, .b (ZH x)]) /\ (ZH x = true -> y = qv x) := fun x hx => rTy_c x (Ws hok.2 hx) (by have := Q9 hx;omega)
 have hcm := Z8 qv (M := 30) ks c fun x hx => qL x (Ws hok.2 hx)
 have hst := WP ks c
 have hst2 : qm ((ks.take c).map fun x => Str.mk (qv x)) = (ks.take c).map qv := by unfold qm;rw [List.map_map];rfl
 have hJ : (WO (qm ((ks.take c).map fun x => Str.mk (qv x)))).length <= 140737488355328 := by rw [hst2];omega
 have hJ2 : (WO (qm ((ks.take c).map fun x => Str.mk (qv x)))).length <= 30000000 := by rw [hst2];omega
 have hN : ((ks.take c).map fun x => Str.mk (qv x)).length <= 1000000000 := by simp;omega
 refine ⟨if (ks.take c).all ZH = true then [Str.mk (sFun ++ Lib.itoa n ++ sPar ++ WO ((ks.take c).map qv) ++ sEnd)] ++ strs (inLo ks[c]) ++ [Str.mk sClose] else [], fun B => ?_, fun h => ?_⟩
 ·clear hio hfo hfl hlast
  refine Qa Tryz.func53 rfl Tryz.ntmps53 rfl (t := [(0, .agg [.i 26, .i n, .i 0, QT ks])]) rfl fun E hE => ?_
  (repeat' first|(refine Qe ?_;(first|refine QI rfl ?_|refine QJ rfl ?_|refine Qb rfl rfl rfl ?_|(refine Qo ?_;(first|refine QO rfl rfl ?_|refine ZV rfl rfl ?_|refine Zk rfl rfl (by omega) ?_))|(refine Qp ?_;(first|refine QZ rfl rfl (hsm) ?_|refine Qz rfl ?_))|refine Wr rfl rfl ?_|refine Wo rfl ?_|refine Qd rfl rfl ?_|refine QV rfl rfl (fun _ _ => ?_)))|(refine Qk ?_;(first|refine Qi ?_|refine QK rfl ?_|refine Wx rfl rfl rfl rfl ?_))|(refine Qj ?_;(first|refine Ql ?_|refine Qc ?_|refine Qf ?_|refine Qu ?_|refine Qn rfl (by omega) ?_)))
  rename_i gb hgb
  refine r_own 5 1 rfl fun gO hgO => ?_
  refine r_loopg (fun (i : Nat) g => ⟨[(1, .ptr 0 gb 0), (4, .i c), (5, .ref 1 g 0 ((ks.take i).map fun x => Str.mk (qv x)).length 1), (6, .i i)], [.row gb [.i 26, .i n, .i 0, QT ks], .row g (WE ((ks.take i).map fun x => Str.mk (qv x)))]⟩) (fun i => i <= c /\ (ks.take i).all ZH = true) (fun i => c - i) 0 gO hgO ?_ (by simp) ?_
  ·rw [show ((c : Nat) : Int) = (ks.length : Int) - 1 by omega]
   exact zal rfl
  intro i g ⟨hil0, hall⟩ hg
  by_cases hic : i < c
  ·have hil2 : i < ks.length := by omega
   obtain ⟨y, hx, hxe⟩ := hit _ (List.getElem_mem hil2)
   by_cases hk : ZH ks[i] = true
   ·have hye := hxe hk
    subst hye
    rw [hk] at hx
    have hb2 : ((ks.take (i + 1)).map fun x => Str.mk (qv x)) = ((ks.take i).map fun x => Str.mk (qv x)) ++ [Str.mk (qv ks[i])] := by rw [List.take_succ_eq_append_getElem hil2, List.map_append];rfl
    have hal : ((ks.take i).map fun x => Str.mk (qv x)).length <= 1048576 := by simp;omega
    (repeat' first|(refine Qe ?_;(first|refine QI rfl ?_|refine QJ rfl ?_|(refine QB ?_;(first|refine QR rfl ?_|refine Qb rfl rfl rfl ?_))|refine QC rfl rfl (by first|assumption|omega|(simp;done)|(simp;omega)) ?_|(refine Qo ?_;(first|refine QY rfl rfl ?_|refine W7 rfl rfl (by omega) ?_))|(refine Qp ?_;(first|refine QZ rfl rfl (hx) ?_|refine ZL (z := Str.mk _) rfl rfl rfl rfl rfl rfl rfl (by first|omega|(simp;omega)) (by first|omega|(simp;omega)) (fun _ => rfl) (fun _ _ => ?_)))|refine Wo rfl ?_|refine Qd rfl rfl ?_|refine QM rfl rfl rfl ?_|refine W4 rfl rfl (by decide) rfl ?_))|(refine Qk ?_;(first|refine Qi ?_|refine QK rfl ?_))|(refine Qj ?_;(first|refine Ql ?_|refine Qc ?_|refine Qf ?_|refine Qu ?_|refine Qm rfl ?_|refine Qq rfl (by omega) ?_)))
    refine ⟨i + 1, _, ⟨by omega, by rw [List.take_succ_eq_append_getElem hil2, List.all_append, hall];simp [hk]⟩, by assumption, by omega, ?_⟩
    rw [hb2]
    exact zal rfl
   ·have hk2 : ZH ks[i] = false := by rw [<- Bool.not_eq_true];exact hk
    rw [hk2] at hx
    have hna : (ks.take c).all ZH = false := by
     rw [<- Bool.not_eq_true, List.all_eq_true]
     intro h
     refine hk (h _ ?_)
     exact List.mem_take_iff_getElem.2 ⟨i, by omega, rfl⟩
    (repeat' first|(refine Qe ?_;(first|refine QI rfl ?_|refine QJ rfl ?_|(refine QB ?_;(first|refine QR rfl ?_|refine Qb rfl rfl rfl ?_))|refine QC rfl rfl (by first|assumption|omega|(simp;done)|(simp;omega)) ?_|refine QY rfl rfl ?_|refine QZ rfl rfl (hx) ?_|refine Wo rfl ?_|refine Qd rfl rfl ?_|refine QM rfl rfl rfl ?_))|(refine Qk ?_;(first|refine Qi ?_|refine QK rfl ?_))|(refine Qj ?_;(first|refine Ql ?_|refine Qc ?_|refine Qf ?_|refine Qu ?_|refine Qh rfl ?_|refine Qq rfl (by omega) ?_|refine Qt ?_)))
    exact e_2 (Tryz.results53) (Qg rfl) (Qg rfl) (Zm (fun L v h => ZE (fun v hv => Zq (es := 1) hv) h) (Qs (by rw [hna];rfl)))
  ·have hie : i = c := by omega
   subst hie
   (repeat' first|(refine Qe ?_;(first|refine QI rfl ?_|refine QJ rfl ?_|(refine QB ?_;(first|refine QR rfl ?_|refine Qb rfl rfl rfl ?_))|refine QC rfl rfl (by first|assumption|omega|(simp;done)|(simp;omega)) ?_|(refine Qo ?_;(first|refine QY rfl rfl ?_|refine qe rfl rfl ?_))|(refine Qp ?_;(first|refine s_call_vo rfl rfl (.same (.ref rfl (by rw [Q4];rfl) (QN _) (.same .nil))) (lines_own _ _ _ (by omega)) (encs_flat_str _) (fun _ _ => ?_)|refine s_call_v rfl rfl (View.ref rfl (by rw [Q4];rfl) (QN _) View.nil) (r_list_c _ hJ hN) rfl ?_|refine QZ rfl rfl (hdig) ?_|refine s_call_ot rfl rfl (hins) (by repeat' first|exact Enc.clo _|exact WZ|refine Wl ?_ ?_|exact Wm|exact WD _|exact WH (QN _)|exact QN _|refine ZG ?_ ?_|refine Zy ?_|refine WS ?_|refine WF ?_) (by first|exact QN _) (fun _ _ => ?_)))|refine Qd rfl rfl ?_|refine QM rfl rfl rfl ?_))|(refine Qk ?_;(first|refine Qi ?_|refine QK rfl ?_))|(refine Qj ?_;(first|refine Ql ?_|refine Qc ?_|refine Qn rfl (by omega) ?_|refine Wp rfl ?_|refine Qt ?_)))
   exact e_2 (Tryz.results53) (Qg rfl) (Qg rfl) (qS rfl (by rw [Q4];try rfl) (Qs (by rw [hall, if_pos rfl, hst2, Bool.true_and];rfl)))
 ·simp only [Bool.and_eq_true] at h
  rw [if_pos h.1]
  unfold inLo
  rw [if_pos h.2]
  simp [strs]
end Go.Proofs
end
