/-
  Part 4 of the proof: V1 V2 LX RB RC EL TS T8 TA TL KX KP KS GM PV AS GA BN AT LN.
-/
import Derived.WalkKit
import Derived.LoopTactic
import Derived.WalkSmall
import Derived.Laws.RangeString
import Derived.Test.YtnppaoeijmgneaaGreatDoorZD1
import Derived.Test.YtnppaoeijmgneaaGreatDoorZD2
import Derived.Test.YtnppaoeijmgneaaGreatDoorZD3
set_option linter.unusedSimpArgs false
set_option linter.unusedVariables false
set_option maxRecDepth 10000
set_option maxHeartbeats 4000000
section
namespace Go.Proofs
open Go.Av
variable {G : Nat -> DV}
attribute [local irreducible] OpSem Zh ZB ZP ACalls qu AClose RV
open Go.Bl
theorem s_sub_as {P : Program} {G : Nat -> DV} {B : Nat} {f : Operand -> DV} {σ : List ABlk} {K : DV -> List ABlk -> Prop} {dst : Option Tmp} {type : TypeId} {pos : String} {after : Array Edge} {gd : Option (Nat × Bool)} {t t' : TypeId} {x y : Operand} {a b c : Int} (hx : f x = .sc (.int .i64 a)) (hy : f y = .sc (.int .i64 b)) (hc : a - b = c) (h : -9223372036854775808 <= c /\ c <= 9223372036854775807)
  (k : K (.sc (.int .i64 c)) σ) : OpSem P G B ⟨dst, .binOp .sub t x y t', type, pos, after, gd⟩ f σ K :=
 Zk hx hy (by rw [hc];exact h) (by rw [hc];exact k)
theorem funFits_c (k n m : Int) (ks : List Nd) (hl : ks.length <= 1048576) (hn : 0 <= n /\ n <= 3) (hx : ∀ x ∈ ks, ∀ w, Go.Av.Pure Tryz.prog G 75 [.agg (Enc.enc x), .i w] (.b (WG x w))) :
  Go.Av.Pure Tryz.prog G 123 [.agg [.i k, .i n, .i m, QT ks]] (.b (funB n (ks.map WG))) := fun B => by
 have hml : (ks.map WG).length = ks.length := List.length_map _
 by_cases h0 : ks.length = 0
 ·have hF : funB n (ks.map WG) = false := by
   unfold funB
   rw [hml, decide_eq_false (by omega : ¬ n <= (ks.length : Int) - 1)];rfl
  have hvs : (ks.length : Int) - 1 = -1 := by omega
  rw [hF]
  refine Qa Tryz.func123 rfl Tryz.ntmps123 rfl (t := [(0, .agg [.i k, .i n, .i m, QT ks])]) rfl fun E hE => ?_
  (repeat' first|(refine Qe ?_;(first|refine QI rfl ?_|refine QJ rfl ?_|refine Qb rfl rfl rfl ?_|(refine Qo ?_;(first|refine s_sub_as rfl rfl hvs ⟨by omega, by omega⟩ ?_|refine QY rfl rfl ?_))|refine Qz rfl ?_|refine WK rfl rfl ?_|refine Qd rfl rfl ?_|refine QV rfl rfl (fun _ _ => ?_)))|(refine Qk ?_;(first|refine Qi ?_|refine QK rfl ?_|refine W1 rfl rfl rfl rfl ?_|refine Q7 rfl rfl (by omega) ?_))|(refine Qj ?_;(first|refine Ql ?_|refine Qc ?_|refine Qh rfl ?_|refine Qt ?_)))
  exact e_1 (Tryz.results123) (Qg rfl) (Ze (σ := []) (r := [_]) ⟨rfl, rfl⟩)
 obtain ⟨v, hv⟩ : ∃ v : Nat, ks.length = v + 1 := ⟨ks.length - 1, by omega⟩
 have hvs : (ks.length : Int) - 1 = (v : Int) := by omega
 have hvk : v < ks.length := by omega
 have hfl : (ks.map WG).getD v noF = WG ks[v] := qk ks WG hvk
 have hlast := hx _ (List.getElem_mem hvk) 6
 have hfun : funB n (ks.map WG) = (((decide (n <= (v : Int)) && decide ((v : Int) <= 6)) && WG ks[v] 6) && allI (fun i => (ks.map WG).getD i noF (if (i : Int) < n then 3 else 2)) v) := by
  unfold funB
  rw [hml, hvs, show ks.length - 1 = v by omega, hfl]
 by_cases hc : n <= (v : Int) /\ (v : Int) <= 6
 case neg =>
  have hF : funB n (ks.map WG) = false := by
   rw [hfun]
   rcases Classical.not_and_iff_not_or_not.1 hc with h|h
   ·rw [decide_eq_false h];rfl
   ·rw [decide_eq_false h, Bool.and_false];rfl
  rw [hF]
  refine Qa Tryz.func123 rfl Tryz.ntmps123 rfl (t := [(0, .agg [.i k, .i n, .i m, QT ks])]) rfl fun E hE => ?_
  (repeat' first|(refine Qe ?_;(first|refine QI rfl ?_|refine QJ rfl ?_|refine Qb rfl rfl rfl ?_|(refine Qo ?_;(first|refine s_sub_as rfl rfl hvs ⟨by omega, by omega⟩ ?_|refine QY rfl rfl ?_|refine ZC rfl rfl ?_))|refine Qz rfl ?_|(refine QX ?_;(first|refine WK rfl rfl ?_|refine Wr rfl rfl ?_))|refine Qd rfl rfl ?_|refine QV rfl rfl (fun _ _ => ?_)))|(refine Qk ?_;(first|refine Qi ?_|refine QK rfl ?_|refine Wx rfl rfl rfl rfl ?_|refine W1 rfl rfl rfl rfl ?_|refine Q7 rfl rfl (by omega) ?_|refine qY rfl rfl (fun _ => ?_) (fun _ => ?_)))|(refine Qj ?_;(first|refine Ql ?_|refine Qc ?_|refine Qh rfl ?_|refine Qt ?_)))
  all_goals exact e_1 (Tryz.results123) (Qg rfl) (Ze (σ := []) (r := [_]) ⟨rfl, rfl⟩)
 cases hb : WG ks[v] 6 with
 | false =>
  have hF : funB n (ks.map WG) = false := by rw [hfun, hb];simp
  rw [hF]
  rw [hb] at hlast
  refine Qa Tryz.func123 rfl Tryz.ntmps123 rfl (t := [(0, .agg [.i k, .i n, .i m, QT ks])]) rfl fun E hE => ?_
  (repeat' first|(refine Qe ?_;(first|refine QI rfl ?_|refine QJ rfl ?_|(refine QB ?_;(first|refine QR rfl ?_|refine Qb rfl rfl rfl ?_))|refine QC rfl rfl (by first|assumption|omega|(simp;done)|(simp;omega)) ?_|(refine Qo ?_;(first|refine s_sub_as rfl rfl hvs ⟨by omega, by omega⟩ ?_|refine QY rfl rfl ?_|refine ZC rfl rfl ?_))|(refine Qp ?_;(first|refine Qz rfl ?_|refine QZ rfl rfl (hlast) ?_))|refine Wr rfl rfl ?_|refine Wo rfl ?_|refine Qd rfl rfl ?_|refine QV rfl rfl (fun _ _ => ?_)))|(refine Qk ?_;(first|refine Qi ?_|refine QK rfl ?_|refine Wx rfl rfl rfl rfl ?_|refine Q2 rfl rfl (by omega) ?_))|(refine Qj ?_;(first|refine Ql ?_|refine Qc ?_|refine Qh rfl ?_|refine Qt ?_)))
  all_goals exact e_1 (Tryz.results123) (Qg rfl) (Ze (σ := []) (r := [_]) ⟨rfl, rfl⟩)
 | true =>
  rw [hb] at hlast
  rw [hfun, hb, decide_eq_true hc.1, decide_eq_true hc.2, Bool.and_true, Bool.and_true, Bool.true_and]
  have hl2 : ∀ (i : Nat) (h : i < (ks.take v).length), ∀ w, Go.Av.Pure Tryz.prog G 75 [.agg (Enc.enc (ks.take v)[i]), .i w] (.b ((ks.map WG).getD i noF w)) := fun i h w => by
   have hi : i < ks.length := by rw [List.length_take] at h;omega
   rw [qk ks WG hi, List.getElem_take]
   exact hx _ (List.getElem_mem hi) w
  have htl : (ks.take v).length = v := by rw [List.length_take];omega
  clear hx hfun hfl
  generalize (fun (i : Nat) (w : Int) => (ks.map WG).getD i noF w) = ff at *
  refine Qa Tryz.func123 rfl Tryz.ntmps123 rfl (t := [(0, .agg [.i k, .i n, .i m, QT ks])]) rfl fun E hE => ?_
  (repeat' first|(refine Qe ?_;(first|refine QI rfl ?_|refine QJ rfl ?_|(refine QB ?_;(first|refine QR rfl ?_|refine Qb rfl rfl rfl ?_))|refine QC rfl rfl (by first|assumption|omega|(simp;done)|(simp;omega)) ?_|(refine Qo ?_;(first|refine s_sub_as rfl rfl hvs ⟨by omega, by omega⟩ ?_|refine QY rfl rfl ?_|refine ZC rfl rfl ?_))|(refine Qp ?_;(first|refine Qz rfl ?_|refine QZ rfl rfl (hlast) ?_))|refine Wr rfl rfl ?_|refine Wo rfl ?_|refine Qd rfl rfl ?_|refine s_slice_hn rfl rfl (by omega) ?_|refine QV rfl rfl (fun _ _ => ?_)))|(refine Qk ?_;(first|refine Qi ?_|refine QK rfl ?_|refine Wx rfl rfl rfl rfl ?_|refine Q2 rfl rfl (by omega) ?_))|(refine Qj ?_;(first|refine Ql ?_|refine Qc ?_|refine Qf ?_|refine Qu ?_|refine Qm rfl ?_)))
  rename_i g1 hg1
  generalize hfs : ks.map WG = fs at *
  generalize hlt : ks.take v = l at *
  refine ZQ (fun (i : Nat) => ⟨[(1, .ptr 0 g1 0), (2, .b false), (31, QT l), (32, .i l.length), (33, .i i)], [.row g1 [.i k, .i n, .i m, QT ks]]⟩) (fun i => i <= v /\ ∀ j, j < i -> fs.getD j noF (if (j : Int) < n then 3 else 2) = true) (fun i => v - i) 0 ?_ ⟨by omega, fun j hj => by omega⟩ ?_
  ·exact zal rfl
  intro i ⟨hi, hall⟩
  by_cases hil : i < v
  ·by_cases hin : (i : Int) < n
   ·have hfi := hl2 i (by omega) 3
    cases hbi : fs.getD i noF 3 with
    | false =>
     have hA : allI (fun i => fs.getD i noF (if (i : Int) < n then 3 else 2)) v = false := by
      rw [Bool.eq_false_iff]
      intro h
      have := allI_iff.1 h i hil
      rw [if_pos hin, hbi] at this;cases this
     rw [hA]
     rw [hbi] at hfi
     clear hl2
     (repeat' first|(refine Qe ?_;(first|refine QI rfl ?_|refine QJ rfl ?_|(refine QB ?_;(first|refine WQ rfl rfl ?_|refine QR rfl ?_|refine Qb rfl rfl rfl ?_))|refine QC rfl rfl (by first|assumption|omega|(simp;done)|(simp;omega)) ?_|refine QY rfl rfl ?_|refine QZ rfl rfl (hfi) ?_|refine WR rfl rfl rfl rfl ?_|refine Wo rfl ?_|refine Qd rfl rfl ?_|refine QD (fun _ _ => ?_)))|(refine Qk ?_;(first|refine Qi ?_|refine QK rfl ?_|refine Q1 ?_))|(refine Qj ?_;(first|refine Ql ?_|refine Qc ?_|refine Qf ?_|refine Qu ?_|refine Qh rfl ?_|refine Qq rfl (by omega) ?_|refine Qt ?_)))
     all_goals exact e_1 (Tryz.results123) (Qg rfl) (Ze (σ := []) ⟨rfl, rfl⟩)
    | true =>
     rw [hbi] at hfi
     clear hl2
     (repeat' first|(refine Qe ?_;(first|refine QI rfl ?_|refine QJ rfl ?_|(refine QB ?_;(first|refine WQ rfl rfl ?_|refine QR rfl ?_|refine Qb rfl rfl rfl ?_))|refine QC rfl rfl (by first|assumption|omega|(simp;done)|(simp;omega)) ?_|(refine Qo ?_;(first|refine QY rfl rfl ?_|refine W7 rfl rfl (by omega) ?_))|refine QZ rfl rfl (hfi) ?_|refine WR rfl rfl rfl rfl ?_|refine Wo rfl ?_|refine Qd rfl rfl ?_|refine QD (fun _ _ => ?_)))|(refine Qk ?_;(first|refine Qi ?_|refine QK rfl ?_|refine Q1 ?_))|(refine Qj ?_;(first|refine Ql ?_|refine Qc ?_|refine Qf ?_|refine Qu ?_|refine Qm rfl ?_|refine Qq rfl (by omega) ?_)))
     refine ⟨i + 1, ⟨by omega, fun j hj => ?_⟩, by omega, ?_⟩
     ·rcases Nat.lt_or_ge j i with h|h
      ·exact hall j h
      ·have : j = i := by omega
       subst this;rw [if_pos hin];exact hbi
     ·exact zal rfl
   ·have hfi := hl2 i (by omega) 2
    cases hbi : fs.getD i noF 2 with
    | false =>
     have hA : allI (fun i => fs.getD i noF (if (i : Int) < n then 3 else 2)) v = false := by
      rw [Bool.eq_false_iff]
      intro h
      have := allI_iff.1 h i hil
      rw [if_neg hin, hbi] at this;cases this
     rw [hA]
     rw [hbi] at hfi
     clear hl2
     (repeat' first|(refine Qe ?_;(first|refine QI rfl ?_|refine QJ rfl ?_|(refine QB ?_;(first|refine WQ rfl rfl ?_|refine QR rfl ?_|refine Qb rfl rfl rfl ?_))|refine QC rfl rfl (by first|assumption|omega|(simp;done)|(simp;omega)) ?_|refine QY rfl rfl ?_|refine QZ rfl rfl (hfi) ?_|refine WR rfl rfl rfl rfl ?_|refine Wo rfl ?_|refine Qd rfl rfl ?_|refine QD (fun _ _ => ?_)))|(refine Qk ?_;(first|refine Qi ?_|refine QK rfl ?_|refine Q1 ?_))|(refine Qj ?_;(first|refine Ql ?_|refine Qc ?_|refine Qf ?_|refine Qu ?_|refine Qh rfl ?_|refine Qq rfl (by omega) ?_|refine Qn rfl (by omega) ?_|refine Qt ?_)))
     all_goals exact e_1 (Tryz.results123) (Qg rfl) (Ze (σ := []) ⟨rfl, rfl⟩)
    | true =>
     rw [hbi] at hfi
     clear hl2
     (repeat' first|(refine Qe ?_;(first|refine QI rfl ?_|refine QJ rfl ?_|(refine QB ?_;(first|refine WQ rfl rfl ?_|refine QR rfl ?_|refine Qb rfl rfl rfl ?_))|refine QC rfl rfl (by first|assumption|omega|(simp;done)|(simp;omega)) ?_|(refine Qo ?_;(first|refine QY rfl rfl ?_|refine W7 rfl rfl (by omega) ?_))|refine QZ rfl rfl (hfi) ?_|refine WR rfl rfl rfl rfl ?_|refine Wo rfl ?_|refine Qd rfl rfl ?_|refine QD (fun _ _ => ?_)))|(refine Qk ?_;(first|refine Qi ?_|refine QK rfl ?_|refine Q1 ?_))|(refine Qj ?_;(first|refine Ql ?_|refine Qc ?_|refine Qf ?_|refine Qu ?_|refine Qm rfl ?_|refine Qq rfl (by omega) ?_|refine Qn rfl (by omega) ?_)))
     refine ⟨i + 1, ⟨by omega, fun j hj => ?_⟩, by omega, ?_⟩
     ·rcases Nat.lt_or_ge j i with h|h
      ·exact hall j h
      ·have : j = i := by omega
       subst this;rw [if_neg hin];exact hbi
     ·exact zal rfl
  ·have hiv : i = v := by omega
   subst hiv
   have hA : allI (fun j => fs.getD j noF (if (j : Int) < n then 3 else 2)) i = true := allI_iff.2 hall
   rw [hA]
   clear hl2
   (repeat' first|(refine Qe ?_;(first|refine QJ rfl ?_|refine QY rfl rfl ?_))|(refine Qk ?_;(first|refine Qi ?_|refine QK rfl ?_))|(refine Qj ?_;(first|refine Ql ?_|refine Qc ?_|refine Qn rfl (by omega) ?_|refine Wp rfl ?_|refine Qt ?_)))
   exact e_1 (Tryz.results123) (Qg rfl) (Ze (σ := []) (r := [_]) ⟨rfl, rfl⟩)
instance : Enc Sh where
 enc s := [.i s.is, .i s.low, .i s.high, .i s.last, QT s.kids, .i s.more, .i s.least, .i s.som]
 es := 8
 len _ := rfl
 one _ d hd := by
  simp only [List.mem_cons, List.not_mem_nil, or_false] at hd
  rcases hd with rfl|rfl|rfl|rfl|rfl|rfl|rfl|rfl <;> rfl
 clo r d hd := by
  simp only [List.mem_cons, List.not_mem_nil, or_false] at hd
  rcases hd with rfl|rfl|rfl|rfl|rfl|rfl|rfl|rfl <;> first|exact Wm|exact WD _
 pos := by decide
def shapesT : DV := .ep (WE shapesL)
theorem shape_at {k : Int} (h0 : 0 <= k) (h1 : k < 28) : ∃ is low high last kids more least som, shapesL.getD k.toNat noSh = ⟨is, low, high, last, kids, more, least, som⟩ /\ kids.length <= 3 /\ (k = 26 -> is = 1 /\ low = 0 /\ high = 3 /\ last = 0) /\
  partD ((WE shapesL).drop (k.toNat * 8)) 0 8 = some [.i is, .i low, .i high, .i last, QT kids, .i more, .i least, .i som] := by
 have : k = 0 \/ k = 1 \/ k = 2 \/ k = 3 \/ k = 4 \/ k = 5 \/ k = 6 \/ k = 7 \/ k = 8 \/ k = 9 \/ k = 10 \/ k = 11 \/ k = 12 \/ k = 13 \/ k = 14 \/ k = 15 \/ k = 16 \/ k = 17 \/ k = 18 \/ k = 19 \/ k = 20 \/ k = 21 \/ k = 22 \/ k = 23 \/ k = 24 \/ k = 25 \/ k = 26 \/ k = 27 := by omega
 rcases this with rfl|rfl|rfl|rfl|rfl|rfl|rfl|rfl|rfl|rfl|rfl|rfl|rfl|rfl|rfl|rfl|rfl|rfl|rfl|rfl|rfl|rfl|rfl|rfl|rfl|rfl|rfl|rfl <;> exact ⟨_, _, _, _, _, _, _, _, rfl, by decide, by decide, rfl⟩
theorem fits_c (hG0 : G 0 = shapesT) (t : Nd) : Qx t <= 1000000 -> ∀ w, Go.Av.Pure Tryz.prog G 75 [.agg (Enc.enc t), .i w] (.b (WG t w)) := by
 induction t using Nd.ind with
 | h k n m ks ih =>
 intro hsz w B
 have hse : Qx (.mk k n m ks) = 1 + QQ ks := by rw [Qx]
 rw [hse] at hsz
 have hln := WV ks
 have hx : ∀ x ∈ ks, ∀ w, Go.Av.Pure Tryz.prog G 75 [.agg (Enc.enc x), .i w] (.b (WG x w)) := fun x hx w => ih x hx (by have := Q9 hx;omega) w
 clear ih
 rw [WG, fitsF_eq, Q0]
 have hml : (ks.map WG).length = ks.length := List.length_map _
 by_cases hk : 0 <= k /\ k < 28
 case neg =>
  rw [if_neg hk]
  clear hx
  refine Qa Tryz.func75 rfl Tryz.ntmps75 rfl (t := [(0, .agg [.i k, .i n, .i m, QT ks]), (1, .i w)]) rfl fun E hE => ?_
  (repeat' first|(refine Qe ?_;(first|refine QI rfl ?_|refine QJ rfl ?_|refine Qb rfl rfl rfl ?_|(refine Qo ?_;(first|refine QY rfl rfl ?_|refine W8 rfl rfl ?_))|(refine QX ?_;(first|refine WK rfl rfl ?_|refine Wr rfl rfl ?_))|refine Qd rfl rfl ?_|refine QV rfl rfl (fun _ _ => ?_)))|(refine Qk ?_;(first|refine Qi ?_|refine QK rfl ?_|refine Wx rfl rfl rfl rfl ?_|refine W1 rfl rfl rfl rfl ?_|refine qY rfl rfl (fun _ => ?_) (fun _ => ?_)))|(refine Qj ?_;(first|refine Ql ?_|refine Qc ?_|refine Qh rfl ?_|refine Qq rfl (by omega) ?_|refine Qt ?_)))
  all_goals exact e_1 (Tryz.results75) (Qg rfl) (Ze (σ := []) (r := [_]) ⟨rfl, rfl⟩)
 rw [if_pos hk]
 obtain ⟨is, low, high, last, kids, more, least, som, hs, hkl, h26, hpart⟩ := shape_at hk.1 hk.2
 rw [hs]
 clear hs
 by_cases hI : isB ⟨is, low, high, last, kids, more, least, som⟩ w = true
 case neg =>
  have hI2 : is ≠ w /\ ¬ (is = 3 /\ w = 2) /\ ¬ (is = 6 /\ w = 5) := by
   have : ¬ ((is = w \/ (is = 3 /\ w = 2)) \/ (is = 6 /\ w = 5)) := by simpa [isB] using hI
   omega
  rw [show isB ⟨is, low, high, last, kids, more, least, som⟩ w = false by simpa using hI, Bool.false_and, Bool.false_and]
  clear hx hI h26
  refine Qa Tryz.func75 rfl Tryz.ntmps75 rfl (t := [(0, .agg [.i k, .i n, .i m, QT ks]), (1, .i w)]) rfl fun E hE => ?_
  (repeat' first|(refine Qe ?_;(first|refine QI rfl ?_|refine QJ rfl ?_|(refine QB ?_;(first|refine ZK rfl hpart rfl ?_|refine Qb rfl rfl rfl ?_))|refine qx (cs := WE shapesL) hG0 rfl (by omega) (by omega) ?_|(refine Qo ?_;(first|refine QY rfl rfl ?_|refine W8 rfl rfl ?_|refine QO rfl rfl ?_))|(refine QX ?_;(first|refine WK rfl rfl ?_|refine Wr rfl rfl ?_))|refine WR rfl rfl rfl rfl ?_|(refine g_unOp ?_;(first|refine s_not_d rfl ?_|refine Wo rfl ?_))|refine Qd rfl rfl ?_|refine QD (fun _ _ => ?_)|refine QV rfl rfl (fun _ _ => ?_)))|(refine Qk ?_;(first|refine Qi ?_|refine QK rfl ?_|refine Q1 ?_|refine Wx rfl rfl rfl rfl ?_|refine W1 rfl rfl rfl rfl ?_|refine Q7 rfl rfl (by omega) ?_|refine Q2 rfl rfl (by omega) ?_|refine qY rfl rfl (fun _ => ?_) (fun _ => ?_)))|(refine Qj ?_;(first|refine Ql ?_|refine Qc ?_|refine Qu ?_|refine Qh rfl ?_|refine Qn rfl (by omega) ?_|refine Qt ?_)))
  all_goals exact e_1 (Tryz.results75) (Qg rfl) (Ze (σ := []) (r := [_, _]) ⟨rfl, rfl⟩)
 rw [hI, Bool.true_and]
 have hI3 : is = w \/ (is ≠ w /\ is = 3 /\ w = 2) \/ (is ≠ w /\ is ≠ 3 /\ is = 6 /\ w = 5) := by
  have : (is = w \/ (is = 3 /\ w = 2)) \/ (is = 6 /\ w = 5) := by simpa [isB] using hI
  omega
 clear hI
 have hrng : rngB ⟨is, low, high, last, kids, more, least, som⟩ n m = true ↔ (low <= n /\ n <= high) /\ 0 <= m /\ m <= last := by simp [rngB]
 have hcnt : cntB ⟨is, low, high, last, kids, more, least, som⟩ ks.length = true ↔ least <= (ks.length : Int) - (kids.length : Int) /\ (ks.length : Int) - (kids.length : Int) <= more := by simp [cntB]
 have hkd : kidsB ⟨is, low, high, last, kids, more, least, som⟩ (ks.map WG) = allI (fun i => (ks.map WG).getD i noF (if i < kids.length then kids.getD i 0 else som)) ks.length := by unfold kidsB;rw [hml];rfl
 have hfun0 := fun (h : 0 <= n /\ n <= 3) => funFits_c (G := G) k n m ks (by omega) h hx
 have hl2 : ∀ (i : Nat) (h : i < ks.length), ∀ w, Go.Av.Pure Tryz.prog G 75 [.agg (Enc.enc ks[i]), .i w] (.b ((ks.map WG).getD i noF w)) := fun i h w => by
  rw [qk ks WG h]
  exact hx _ (List.getElem_mem h) w
 clear hx
 generalize ks.map WG = fs at *
 rcases hI3 with hI3|hI3|hI3
 ·by_cases hr : (low <= n /\ n <= high) /\ 0 <= m /\ m <= last
  case neg =>
   rw [show rngB ⟨is, low, high, last, kids, more, least, som⟩ n m = false from Bool.eq_false_iff.2 fun h => hr (hrng.1 h), Bool.false_and]
   clear hl2 hfun0 hrng hcnt hkd h26
   refine Qa Tryz.func75 rfl Tryz.ntmps75 rfl (t := [(0, .agg [.i k, .i n, .i m, QT ks]), (1, .i w)]) rfl fun E hE => ?_
   (repeat' first|(refine Qe ?_;(first|refine QI rfl ?_|refine QJ rfl ?_|(refine QB ?_;(first|refine ZK rfl hpart rfl ?_|refine Qb rfl rfl rfl ?_))|refine qx (cs := WE shapesL) hG0 rfl (by omega) (by omega) ?_|(refine Qo ?_;(first|refine QY rfl rfl ?_|refine ZC rfl rfl ?_|refine W8 rfl rfl ?_|refine QO rfl rfl ?_))|(refine QX ?_;(first|refine WK rfl rfl ?_|refine Wr rfl rfl ?_))|refine WR rfl rfl rfl rfl ?_|refine Wo rfl ?_|refine Qd rfl rfl ?_|refine QD (fun _ _ => ?_)|refine QV rfl rfl (fun _ _ => ?_)))|(refine Qk ?_;(first|refine Qi ?_|refine QK rfl ?_|refine Q1 ?_|refine Wx rfl rfl rfl rfl ?_|refine W1 rfl rfl rfl rfl ?_|refine o_gu rfl rfl rfl rfl rfl ?_|refine Q7 rfl rfl (by omega) ?_|refine Q2 rfl rfl (by omega) ?_|refine qY rfl rfl (fun _ => ?_) (fun _ => ?_)))|(refine Qj ?_;(first|refine Ql ?_|refine Qc ?_|refine Qu ?_|refine Qh rfl ?_|refine Qq rfl (by omega) ?_|refine Qn rfl (by omega) ?_|refine Qt ?_)))
   all_goals exact e_1 (Tryz.results75) (Qg rfl) (Ze (σ := []) (r := [_, _]) ⟨rfl, rfl⟩)
  rw [hrng.2 hr, Bool.true_and]
  by_cases k26 : k = 26
  ·rw [if_pos k26]
   obtain ⟨e1, e2, e3, e4⟩ := h26 k26
   have hfun := hfun0 ⟨by omega, by omega⟩
   clear hl2 hfun0 hrng hcnt hkd h26
   refine Qa Tryz.func75 rfl Tryz.ntmps75 rfl (t := [(0, .agg [.i k, .i n, .i m, QT ks]), (1, .i w)]) rfl fun E hE => ?_
   (repeat' first|(refine Qe ?_;(first|refine QI rfl ?_|refine QJ rfl ?_|(refine QB ?_;(first|refine WQ rfl rfl ?_|refine ZK rfl hpart rfl ?_|refine Qb rfl rfl rfl ?_))|refine qx (cs := WE shapesL) hG0 rfl (by omega) (by omega) ?_|(refine Qo ?_;(first|refine QY rfl rfl ?_|refine ZC rfl rfl ?_|refine W8 rfl rfl ?_|refine QO rfl rfl ?_))|refine QZ rfl rfl (hfun) ?_|(refine QX ?_;(first|refine WK rfl rfl ?_|refine Wr rfl rfl ?_))|refine WR rfl rfl rfl rfl ?_|refine Wo rfl ?_|refine Qd rfl rfl ?_|refine QD (fun _ _ => ?_)|refine QV rfl rfl (fun _ _ => ?_)))|(refine Qk ?_;(first|refine Qi ?_|refine QK rfl ?_|refine Q1 ?_|refine Wx rfl rfl rfl rfl ?_|refine W1 rfl rfl rfl rfl ?_|refine o_gu rfl rfl rfl rfl rfl ?_|refine Q7 rfl rfl (by omega) ?_|refine Q2 rfl rfl (by omega) ?_))|(refine Qj ?_;(first|refine Ql ?_|refine Qc ?_|refine Qu ?_|refine Qq rfl (by omega) ?_|refine Qn rfl (by omega) ?_|refine Qt ?_)))
   exact e_1 (Tryz.results75) (Qg rfl) (Ze (σ := []) (r := [_, _]) ⟨rfl, rfl⟩)
  rw [if_neg k26]
  by_cases hc : least <= (ks.length : Int) - (kids.length : Int) /\ (ks.length : Int) - (kids.length : Int) <= more
  case neg =>
   rw [show cntB ⟨is, low, high, last, kids, more, least, som⟩ ks.length = false from Bool.eq_false_iff.2 fun h => hc (hcnt.1 h), Bool.false_and]
   clear hl2 hfun0 hrng hcnt hkd h26
   refine Qa Tryz.func75 rfl Tryz.ntmps75 rfl (t := [(0, .agg [.i k, .i n, .i m, QT ks]), (1, .i w)]) rfl fun E hE => ?_
   (repeat' first|(refine Qe ?_;(first|refine QI rfl ?_|refine QJ rfl ?_|(refine QB ?_;(first|refine ZK rfl hpart rfl ?_|refine Qb rfl rfl rfl ?_))|refine qx (cs := WE shapesL) hG0 rfl (by omega) (by omega) ?_|(refine Qo ?_;(first|refine QY rfl rfl ?_|refine ZC rfl rfl ?_|refine W8 rfl rfl ?_|refine QO rfl rfl ?_|refine Zk rfl rfl (by omega) ?_))|refine Qz rfl ?_|(refine QX ?_;(first|refine WK rfl rfl ?_|refine Wr rfl rfl ?_))|refine WR rfl rfl rfl rfl ?_|refine Wo rfl ?_|refine Qd rfl rfl ?_|refine QD (fun _ _ => ?_)|refine QV rfl rfl (fun _ _ => ?_)))|(refine Qk ?_;(first|refine Qi ?_|refine QK rfl ?_|refine Q1 ?_|refine Wx rfl rfl rfl rfl ?_|refine W1 rfl rfl rfl rfl ?_|refine o_gu rfl rfl rfl rfl rfl ?_|refine Q7 rfl rfl (by omega) ?_|refine Q2 rfl rfl (by omega) ?_|refine qY rfl rfl (fun _ => ?_) (fun _ => ?_)))|(refine Qj ?_;(first|refine Ql ?_|refine Qc ?_|refine Qu ?_|refine Qh rfl ?_|refine Qq rfl (by omega) ?_|refine Qn rfl (by omega) ?_|refine Qt ?_)))
   all_goals exact e_1 (Tryz.results75) (Qg rfl) (Ze (σ := []) (r := [_, _]) ⟨rfl, rfl⟩)
  rw [hcnt.2 hc, Bool.true_and, hkd]
  clear hfun0 hrng hcnt hkd h26
  refine Qa Tryz.func75 rfl Tryz.ntmps75 rfl (t := [(0, .agg [.i k, .i n, .i m, QT ks]), (1, .i w)]) rfl fun E hE => ?_
  (repeat' first|(refine Qe ?_;(first|refine QI rfl ?_|refine QJ rfl ?_|(refine QB ?_;(first|refine ZK rfl hpart rfl ?_|refine Qb rfl rfl rfl ?_))|refine qx (cs := WE shapesL) hG0 rfl (by omega) (by omega) ?_|(refine Qo ?_;(first|refine QY rfl rfl ?_|refine ZC rfl rfl ?_|refine W8 rfl rfl ?_|refine QO rfl rfl ?_|refine Zk rfl rfl (by omega) ?_))|refine Qz rfl ?_|(refine QX ?_;(first|refine WK rfl rfl ?_|refine Wr rfl rfl ?_))|refine WR rfl rfl rfl rfl ?_|refine Wo rfl ?_|refine Qd rfl rfl ?_|refine QD (fun _ _ => ?_)|refine QV rfl rfl (fun _ _ => ?_)))|(refine Qk ?_;(first|refine Qi ?_|refine QK rfl ?_|refine Q1 ?_|refine Wx rfl rfl rfl rfl ?_|refine W1 rfl rfl rfl rfl ?_|refine o_gu rfl rfl rfl rfl rfl ?_|refine Q7 rfl rfl (by omega) ?_|refine Q2 rfl rfl (by omega) ?_))|(refine Qj ?_;(first|refine Ql ?_|refine Qc ?_|refine Qf ?_|refine Qu ?_|refine Qn rfl (by omega) ?_)))
  rename_i g1 hg1 g2 hg2
  refine ZQ (fun (i : Nat) => ⟨[(2, .ptr 0 g1 0), (4, .b false), (5, .ptr 1 g2 0), (96, QT ks), (97, .i ks.length), (98, .i i)], [.row g1 [.i k, .i n, .i m, QT ks], .row g2 [.i is, .i low, .i high, .i last, QT kids, .i more, .i least, .i som]]⟩) (fun i => i <= ks.length /\ ∀ j, j < i -> fs.getD j noF (if j < kids.length then kids.getD j 0 else som) = true) (fun i => ks.length - i) 0 ?_ ⟨by omega, fun j hj => by omega⟩ ?_
  ·exact zal rfl
  intro i ⟨hi, hall⟩
  by_cases hil : i < ks.length
  ·by_cases hik : i < kids.length
   ·have hgd : kids.getD i 0 = kids[i] := by rw [List.getD_eq_getElem?_getD, List.getElem?_eq_getElem hik];rfl
    have hfi := hl2 i hil kids[i]
    cases hbi : fs.getD i noF kids[i] with
    | false =>
     have hA : allI (fun i => fs.getD i noF (if i < kids.length then kids.getD i 0 else som)) ks.length = false := by
      rw [Bool.eq_false_iff]
      intro h
      have := allI_iff.1 h i hil
      rw [if_pos hik, hgd, hbi] at this;cases this
     rw [hA]
     rw [hbi] at hfi
     clear hl2 hall
     (repeat' first|(refine Qe ?_;(first|refine QI rfl ?_|refine QJ rfl ?_|(refine QB ?_;(first|refine WQ rfl rfl ?_|refine QS rfl ?_|refine QR rfl ?_|refine Qb rfl rfl rfl ?_))|refine QC rfl rfl (by first|assumption|omega|(simp;done)|(simp;omega)) ?_|refine QY rfl rfl ?_|(refine Qp ?_;(first|refine Qz rfl ?_|refine QZ rfl rfl (hfi) ?_))|refine WR rfl rfl rfl rfl ?_|refine Wo rfl ?_|refine Qd rfl rfl ?_|refine QD (fun _ _ => ?_)))|(refine Qk ?_;(first|refine Qi ?_|refine QK rfl ?_|refine Q1 ?_))|(refine Qj ?_;(first|refine Ql ?_|refine Qc ?_|refine Qf ?_|refine Qu ?_|refine Qh rfl ?_|refine Qq rfl (by omega) ?_|refine Qt ?_)))
     all_goals exact e_1 (Tryz.results75) (Qg rfl) (Ze (σ := []) ⟨rfl, rfl⟩)
    | true =>
     rw [hbi] at hfi
     clear hl2
     (repeat' first|(refine Qe ?_;(first|refine QI rfl ?_|refine QJ rfl ?_|(refine QB ?_;(first|refine WQ rfl rfl ?_|refine QS rfl ?_|refine QR rfl ?_|refine Qb rfl rfl rfl ?_))|refine QC rfl rfl (by first|assumption|omega|(simp;done)|(simp;omega)) ?_|(refine Qo ?_;(first|refine QY rfl rfl ?_|refine W7 rfl rfl (by omega) ?_))|(refine Qp ?_;(first|refine Qz rfl ?_|refine QZ rfl rfl (hfi) ?_))|refine WR rfl rfl rfl rfl ?_|refine Wo rfl ?_|refine Qd rfl rfl ?_|refine QD (fun _ _ => ?_)))|(refine Qk ?_;(first|refine Qi ?_|refine QK rfl ?_|refine Q1 ?_))|(refine Qj ?_;(first|refine Ql ?_|refine Qc ?_|refine Qf ?_|refine Qu ?_|refine Qm rfl ?_|refine Qq rfl (by omega) ?_)))
     refine ⟨i + 1, ⟨by omega, fun j hj => ?_⟩, by omega, ?_⟩
     ·rcases Nat.lt_or_ge j i with h|h
      ·exact hall j h
      ·have : j = i := by omega
       subst this;rw [if_pos hik, hgd];exact hbi
     ·exact zal rfl
   ·have hfi := hl2 i hil som
    cases hbi : fs.getD i noF som with
    | false =>
     have hA : allI (fun i => fs.getD i noF (if i < kids.length then kids.getD i 0 else som)) ks.length = false := by
      rw [Bool.eq_false_iff]
      intro h
      have := allI_iff.1 h i hil
      rw [if_neg hik, hbi] at this;cases this
     rw [hA]
     rw [hbi] at hfi
     clear hl2 hall
     (repeat' first|(refine Qe ?_;(first|refine QI rfl ?_|refine QJ rfl ?_|(refine QB ?_;(first|refine WQ rfl rfl ?_|refine QR rfl ?_|refine Qb rfl rfl rfl ?_))|refine QC rfl rfl (by first|assumption|omega|(simp;done)|(simp;omega)) ?_|refine QY rfl rfl ?_|(refine Qp ?_;(first|refine Qz rfl ?_|refine QZ rfl rfl (hfi) ?_))|refine WR rfl rfl rfl rfl ?_|refine Wo rfl ?_|refine Qd rfl rfl ?_|refine QD (fun _ _ => ?_)))|(refine Qk ?_;(first|refine Qi ?_|refine QK rfl ?_|refine Q1 ?_))|(refine Qj ?_;(first|refine Ql ?_|refine Qc ?_|refine Qf ?_|refine Qu ?_|refine Qh rfl ?_|refine Qq rfl (by omega) ?_|refine Qn rfl (by omega) ?_|refine Qt ?_)))
     all_goals exact e_1 (Tryz.results75) (Qg rfl) (Ze (σ := []) ⟨rfl, rfl⟩)
    | true =>
     rw [hbi] at hfi
     clear hl2
     (repeat' first|(refine Qe ?_;(first|refine QI rfl ?_|refine QJ rfl ?_|(refine QB ?_;(first|refine WQ rfl rfl ?_|refine QR rfl ?_|refine Qb rfl rfl rfl ?_))|refine QC rfl rfl (by first|assumption|omega|(simp;done)|(simp;omega)) ?_|(refine Qo ?_;(first|refine QY rfl rfl ?_|refine W7 rfl rfl (by omega) ?_))|(refine Qp ?_;(first|refine Qz rfl ?_|refine QZ rfl rfl (hfi) ?_))|refine WR rfl rfl rfl rfl ?_|refine Wo rfl ?_|refine Qd rfl rfl ?_|refine QD (fun _ _ => ?_)))|(refine Qk ?_;(first|refine Qi ?_|refine QK rfl ?_|refine Q1 ?_))|(refine Qj ?_;(first|refine Ql ?_|refine Qc ?_|refine Qf ?_|refine Qu ?_|refine Qm rfl ?_|refine Qq rfl (by omega) ?_|refine Qn rfl (by omega) ?_)))
     refine ⟨i + 1, ⟨by omega, fun j hj => ?_⟩, by omega, ?_⟩
     ·rcases Nat.lt_or_ge j i with h|h
      ·exact hall j h
      ·have : j = i := by omega
       subst this;rw [if_neg hik];exact hbi
     ·exact zal rfl
  ·have hiv : i = ks.length := by omega
   subst hiv
   have hA : allI (fun i => fs.getD i noF (if i < kids.length then kids.getD i 0 else som)) ks.length = true := allI_iff.2 hall
   rw [hA]
   clear hl2 hall
   (repeat' first|(refine Qe ?_;(first|refine QJ rfl ?_|refine QY rfl rfl ?_))|(refine Qk ?_;(first|refine Qi ?_|refine QK rfl ?_))|(refine Qj ?_;(first|refine Ql ?_|refine Qc ?_|refine Qn rfl (by omega) ?_|refine Wp rfl ?_|refine Qt ?_)))
   exact e_1 (Tryz.results75) (Qg rfl) (Ze (σ := []) (r := [_, _]) ⟨rfl, rfl⟩)
 ·by_cases hr : (low <= n /\ n <= high) /\ 0 <= m /\ m <= last
  case neg =>
   rw [show rngB ⟨is, low, high, last, kids, more, least, som⟩ n m = false from Bool.eq_false_iff.2 fun h => hr (hrng.1 h), Bool.false_and]
   clear hl2 hfun0 hrng hcnt hkd h26
   refine Qa Tryz.func75 rfl Tryz.ntmps75 rfl (t := [(0, .agg [.i k, .i n, .i m, QT ks]), (1, .i w)]) rfl fun E hE => ?_
   (repeat' first|(refine Qe ?_;(first|refine QI rfl ?_|refine QJ rfl ?_|(refine QB ?_;(first|refine ZK rfl hpart rfl ?_|refine Qb rfl rfl rfl ?_))|refine qx (cs := WE shapesL) hG0 rfl (by omega) (by omega) ?_|(refine Qo ?_;(first|refine QY rfl rfl ?_|refine ZC rfl rfl ?_|refine W8 rfl rfl ?_|refine QO rfl rfl ?_))|(refine QX ?_;(first|refine WK rfl rfl ?_|refine Wr rfl rfl ?_))|refine WR rfl rfl rfl rfl ?_|refine Wo rfl ?_|refine Qd rfl rfl ?_|refine QD (fun _ _ => ?_)|refine QV rfl rfl (fun _ _ => ?_)))|(refine Qk ?_;(first|refine Qi ?_|refine QK rfl ?_|refine Q1 ?_|refine Wx rfl rfl rfl rfl ?_|refine W1 rfl rfl rfl rfl ?_|refine o_gu rfl rfl rfl rfl rfl ?_|refine Q7 rfl rfl (by omega) ?_|refine Q2 rfl rfl (by omega) ?_|refine qY rfl rfl (fun _ => ?_) (fun _ => ?_)))|(refine Qj ?_;(first|refine Ql ?_|refine Qc ?_|refine Qu ?_|refine Qh rfl ?_|refine Qq rfl (by omega) ?_|refine Qn rfl (by omega) ?_|refine Qt ?_)))
   all_goals exact e_1 (Tryz.results75) (Qg rfl) (Ze (σ := []) (r := [_, _]) ⟨rfl, rfl⟩)
  rw [hrng.2 hr, Bool.true_and]
  by_cases k26 : k = 26
  ·rw [if_pos k26]
   exfalso
   have := h26 k26
   omega
  rw [if_neg k26]
  by_cases hc : least <= (ks.length : Int) - (kids.length : Int) /\ (ks.length : Int) - (kids.length : Int) <= more
  case neg =>
   rw [show cntB ⟨is, low, high, last, kids, more, least, som⟩ ks.length = false from Bool.eq_false_iff.2 fun h => hc (hcnt.1 h), Bool.false_and]
   clear hl2 hfun0 hrng hcnt hkd h26
   refine Qa Tryz.func75 rfl Tryz.ntmps75 rfl (t := [(0, .agg [.i k, .i n, .i m, QT ks]), (1, .i w)]) rfl fun E hE => ?_
   (repeat' first|(refine Qe ?_;(first|refine QI rfl ?_|refine QJ rfl ?_|(refine QB ?_;(first|refine ZK rfl hpart rfl ?_|refine Qb rfl rfl rfl ?_))|refine qx (cs := WE shapesL) hG0 rfl (by omega) (by omega) ?_|(refine Qo ?_;(first|refine QY rfl rfl ?_|refine ZC rfl rfl ?_|refine W8 rfl rfl ?_|refine QO rfl rfl ?_|refine Zk rfl rfl (by omega) ?_))|refine Qz rfl ?_|(refine QX ?_;(first|refine WK rfl rfl ?_|refine Wr rfl rfl ?_))|refine WR rfl rfl rfl rfl ?_|refine Wo rfl ?_|refine Qd rfl rfl ?_|refine QD (fun _ _ => ?_)|refine QV rfl rfl (fun _ _ => ?_)))|(refine Qk ?_;(first|refine Qi ?_|refine QK rfl ?_|refine Q1 ?_|refine Wx rfl rfl rfl rfl ?_|refine W1 rfl rfl rfl rfl ?_|refine o_gu rfl rfl rfl rfl rfl ?_|refine Q7 rfl rfl (by omega) ?_|refine Q2 rfl rfl (by omega) ?_|refine qY rfl rfl (fun _ => ?_) (fun _ => ?_)))|(refine Qj ?_;(first|refine Ql ?_|refine Qc ?_|refine Qu ?_|refine Qh rfl ?_|refine Qq rfl (by omega) ?_|refine Qn rfl (by omega) ?_|refine Qt ?_)))
   all_goals exact e_1 (Tryz.results75) (Qg rfl) (Ze (σ := []) (r := [_, _]) ⟨rfl, rfl⟩)
  rw [hcnt.2 hc, Bool.true_and, hkd]
  clear hfun0 hrng hcnt hkd h26
  refine Qa Tryz.func75 rfl Tryz.ntmps75 rfl (t := [(0, .agg [.i k, .i n, .i m, QT ks]), (1, .i w)]) rfl fun E hE => ?_
  (repeat' first|(refine Qe ?_;(first|refine QI rfl ?_|refine QJ rfl ?_|(refine QB ?_;(first|refine ZK rfl hpart rfl ?_|refine Qb rfl rfl rfl ?_))|refine qx (cs := WE shapesL) hG0 rfl (by omega) (by omega) ?_|(refine Qo ?_;(first|refine QY rfl rfl ?_|refine ZC rfl rfl ?_|refine W8 rfl rfl ?_|refine QO rfl rfl ?_|refine Zk rfl rfl (by omega) ?_))|refine Qz rfl ?_|(refine QX ?_;(first|refine WK rfl rfl ?_|refine Wr rfl rfl ?_))|refine WR rfl rfl rfl rfl ?_|refine Wo rfl ?_|refine Qd rfl rfl ?_|refine QD (fun _ _ => ?_)|refine QV rfl rfl (fun _ _ => ?_)))|(refine Qk ?_;(first|refine Qi ?_|refine QK rfl ?_|refine Q1 ?_|refine Wx rfl rfl rfl rfl ?_|refine W1 rfl rfl rfl rfl ?_|refine o_gu rfl rfl rfl rfl rfl ?_|refine Q7 rfl rfl (by omega) ?_|refine Q2 rfl rfl (by omega) ?_))|(refine Qj ?_;(first|refine Ql ?_|refine Qc ?_|refine Qf ?_|refine Qu ?_|refine Qn rfl (by omega) ?_)))
  rename_i g1 hg1 g2 hg2
  refine ZQ (fun (i : Nat) => ⟨[(2, .ptr 0 g1 0), (4, .b false), (5, .ptr 1 g2 0), (96, QT ks), (97, .i ks.length), (98, .i i)], [.row g1 [.i k, .i n, .i m, QT ks], .row g2 [.i is, .i low, .i high, .i last, QT kids, .i more, .i least, .i som]]⟩) (fun i => i <= ks.length /\ ∀ j, j < i -> fs.getD j noF (if j < kids.length then kids.getD j 0 else som) = true) (fun i => ks.length - i) 0 ?_ ⟨by omega, fun j hj => by omega⟩ ?_
  ·exact zal rfl
  intro i ⟨hi, hall⟩
  by_cases hil : i < ks.length
  ·by_cases hik : i < kids.length
   ·have hgd : kids.getD i 0 = kids[i] := by rw [List.getD_eq_getElem?_getD, List.getElem?_eq_getElem hik];rfl
    have hfi := hl2 i hil kids[i]
    cases hbi : fs.getD i noF kids[i] with
    | false =>
     have hA : allI (fun i => fs.getD i noF (if i < kids.length then kids.getD i 0 else som)) ks.length = false := by
      rw [Bool.eq_false_iff]
      intro h
      have := allI_iff.1 h i hil
      rw [if_pos hik, hgd, hbi] at this;cases this
     rw [hA]
     rw [hbi] at hfi
     clear hl2 hall
     (repeat' first|(refine Qe ?_;(first|refine QI rfl ?_|refine QJ rfl ?_|(refine QB ?_;(first|refine WQ rfl rfl ?_|refine QS rfl ?_|refine QR rfl ?_|refine Qb rfl rfl rfl ?_))|refine QC rfl rfl (by first|assumption|omega|(simp;done)|(simp;omega)) ?_|refine QY rfl rfl ?_|(refine Qp ?_;(first|refine Qz rfl ?_|refine QZ rfl rfl (hfi) ?_))|refine WR rfl rfl rfl rfl ?_|refine Wo rfl ?_|refine Qd rfl rfl ?_|refine QD (fun _ _ => ?_)))|(refine Qk ?_;(first|refine Qi ?_|refine QK rfl ?_|refine Q1 ?_))|(refine Qj ?_;(first|refine Ql ?_|refine Qc ?_|refine Qf ?_|refine Qu ?_|refine Qh rfl ?_|refine Qq rfl (by omega) ?_|refine Qt ?_)))
     all_goals exact e_1 (Tryz.results75) (Qg rfl) (Ze (σ := []) ⟨rfl, rfl⟩)
    | true =>
     rw [hbi] at hfi
     clear hl2
     (repeat' first|(refine Qe ?_;(first|refine QI rfl ?_|refine QJ rfl ?_|(refine QB ?_;(first|refine WQ rfl rfl ?_|refine QS rfl ?_|refine QR rfl ?_|refine Qb rfl rfl rfl ?_))|refine QC rfl rfl (by first|assumption|omega|(simp;done)|(simp;omega)) ?_|(refine Qo ?_;(first|refine QY rfl rfl ?_|refine W7 rfl rfl (by omega) ?_))|(refine Qp ?_;(first|refine Qz rfl ?_|refine QZ rfl rfl (hfi) ?_))|refine WR rfl rfl rfl rfl ?_|refine Wo rfl ?_|refine Qd rfl rfl ?_|refine QD (fun _ _ => ?_)))|(refine Qk ?_;(first|refine Qi ?_|refine QK rfl ?_|refine Q1 ?_))|(refine Qj ?_;(first|refine Ql ?_|refine Qc ?_|refine Qf ?_|refine Qu ?_|refine Qm rfl ?_|refine Qq rfl (by omega) ?_)))
     refine ⟨i + 1, ⟨by omega, fun j hj => ?_⟩, by omega, ?_⟩
     ·rcases Nat.lt_or_ge j i with h|h
      ·exact hall j h
      ·have : j = i := by omega
       subst this;rw [if_pos hik, hgd];exact hbi
     ·exact zal rfl
   ·have hfi := hl2 i hil som
    cases hbi : fs.getD i noF som with
    | false =>
     have hA : allI (fun i => fs.getD i noF (if i < kids.length then kids.getD i 0 else som)) ks.length = false := by
      rw [Bool.eq_false_iff]
      intro h
      have := allI_iff.1 h i hil
      rw [if_neg hik, hbi] at this;cases this
     rw [hA]
     rw [hbi] at hfi
     clear hl2 hall
     (repeat' first|(refine Qe ?_;(first|refine QI rfl ?_|refine QJ rfl ?_|(refine QB ?_;(first|refine WQ rfl rfl ?_|refine QR rfl ?_|refine Qb rfl rfl rfl ?_))|refine QC rfl rfl (by first|assumption|omega|(simp;done)|(simp;omega)) ?_|refine QY rfl rfl ?_|(refine Qp ?_;(first|refine Qz rfl ?_|refine QZ rfl rfl (hfi) ?_))|refine WR rfl rfl rfl rfl ?_|refine Wo rfl ?_|refine Qd rfl rfl ?_|refine QD (fun _ _ => ?_)))|(refine Qk ?_;(first|refine Qi ?_|refine QK rfl ?_|refine Q1 ?_))|(refine Qj ?_;(first|refine Ql ?_|refine Qc ?_|refine Qf ?_|refine Qu ?_|refine Qh rfl ?_|refine Qq rfl (by omega) ?_|refine Qn rfl (by omega) ?_|refine Qt ?_)))
     all_goals exact e_1 (Tryz.results75) (Qg rfl) (Ze (σ := []) ⟨rfl, rfl⟩)
    | true =>
     rw [hbi] at hfi
     clear hl2
     (repeat' first|(refine Qe ?_;(first|refine QI rfl ?_|refine QJ rfl ?_|(refine QB ?_;(first|refine WQ rfl rfl ?_|refine QR rfl ?_|refine Qb rfl rfl rfl ?_))|refine QC rfl rfl (by first|assumption|omega|(simp;done)|(simp;omega)) ?_|(refine Qo ?_;(first|refine QY rfl rfl ?_|refine W7 rfl rfl (by omega) ?_))|(refine Qp ?_;(first|refine Qz rfl ?_|refine QZ rfl rfl (hfi) ?_))|refine WR rfl rfl rfl rfl ?_|refine Wo rfl ?_|refine Qd rfl rfl ?_|refine QD (fun _ _ => ?_)))|(refine Qk ?_;(first|refine Qi ?_|refine QK rfl ?_|refine Q1 ?_))|(refine Qj ?_;(first|refine Ql ?_|refine Qc ?_|refine Qf ?_|refine Qu ?_|refine Qm rfl ?_|refine Qq rfl (by omega) ?_|refine Qn rfl (by omega) ?_)))
     refine ⟨i + 1, ⟨by omega, fun j hj => ?_⟩, by omega, ?_⟩
     ·rcases Nat.lt_or_ge j i with h|h
      ·exact hall j h
      ·have : j = i := by omega
       subst this;rw [if_neg hik];exact hbi
     ·exact zal rfl
  ·have hiv : i = ks.length := by omega
   subst hiv
   have hA : allI (fun i => fs.getD i noF (if i < kids.length then kids.getD i 0 else som)) ks.length = true := allI_iff.2 hall
   rw [hA]
   clear hl2 hall
   (repeat' first|(refine Qe ?_;(first|refine QJ rfl ?_|refine QY rfl rfl ?_))|(refine Qk ?_;(first|refine Qi ?_|refine QK rfl ?_))|(refine Qj ?_;(first|refine Ql ?_|refine Qc ?_|refine Qn rfl (by omega) ?_|refine Wp rfl ?_|refine Qt ?_)))
   exact e_1 (Tryz.results75) (Qg rfl) (Ze (σ := []) (r := [_, _]) ⟨rfl, rfl⟩)
 ·by_cases hr : (low <= n /\ n <= high) /\ 0 <= m /\ m <= last
  case neg =>
   rw [show rngB ⟨is, low, high, last, kids, more, least, som⟩ n m = false from Bool.eq_false_iff.2 fun h => hr (hrng.1 h), Bool.false_and]
   clear hl2 hfun0 hrng hcnt hkd h26
   refine Qa Tryz.func75 rfl Tryz.ntmps75 rfl (t := [(0, .agg [.i k, .i n, .i m, QT ks]), (1, .i w)]) rfl fun E hE => ?_
   (repeat' first|(refine Qe ?_;(first|refine QI rfl ?_|refine QJ rfl ?_|(refine QB ?_;(first|refine ZK rfl hpart rfl ?_|refine Qb rfl rfl rfl ?_))|refine qx (cs := WE shapesL) hG0 rfl (by omega) (by omega) ?_|(refine Qo ?_;(first|refine QY rfl rfl ?_|refine ZC rfl rfl ?_|refine W8 rfl rfl ?_|refine QO rfl rfl ?_))|(refine QX ?_;(first|refine WK rfl rfl ?_|refine Wr rfl rfl ?_))|refine WR rfl rfl rfl rfl ?_|refine s_not_d rfl ?_|refine Qd rfl rfl ?_|refine QD (fun _ _ => ?_)|refine QV rfl rfl (fun _ _ => ?_)))|(refine Qk ?_;(first|refine Qi ?_|refine QK rfl ?_|refine Q1 ?_|refine Wx rfl rfl rfl rfl ?_|refine W1 rfl rfl rfl rfl ?_|refine Q7 rfl rfl (by omega) ?_|refine Q2 rfl rfl (by omega) ?_|refine qY rfl rfl (fun _ => ?_) (fun _ => ?_)))|(refine Qj ?_;(first|refine Ql ?_|refine Qc ?_|refine Qu ?_|refine Qh rfl ?_|refine Qq rfl (by omega) ?_|refine Qn rfl (by omega) ?_|refine Qt ?_)))
   all_goals exact e_1 (Tryz.results75) (Qg rfl) (Ze (σ := []) (r := [_, _]) ⟨rfl, rfl⟩)
  rw [hrng.2 hr, Bool.true_and]
  by_cases k26 : k = 26
  ·rw [if_pos k26]
   exfalso
   have := h26 k26
   omega
  rw [if_neg k26]
  by_cases hc : least <= (ks.length : Int) - (kids.length : Int) /\ (ks.length : Int) - (kids.length : Int) <= more
  case neg =>
   rw [show cntB ⟨is, low, high, last, kids, more, least, som⟩ ks.length = false from Bool.eq_false_iff.2 fun h => hc (hcnt.1 h), Bool.false_and]
   clear hl2 hfun0 hrng hcnt hkd h26
   refine Qa Tryz.func75 rfl Tryz.ntmps75 rfl (t := [(0, .agg [.i k, .i n, .i m, QT ks]), (1, .i w)]) rfl fun E hE => ?_
   (repeat' first|(refine Qe ?_;(first|refine QI rfl ?_|refine QJ rfl ?_|(refine QB ?_;(first|refine ZK rfl hpart rfl ?_|refine Qb rfl rfl rfl ?_))|refine qx (cs := WE shapesL) hG0 rfl (by omega) (by omega) ?_|(refine Qo ?_;(first|refine QY rfl rfl ?_|refine ZC rfl rfl ?_|refine W8 rfl rfl ?_|refine QO rfl rfl ?_|refine Zk rfl rfl (by omega) ?_))|refine Qz rfl ?_|(refine QX ?_;(first|refine WK rfl rfl ?_|refine Wr rfl rfl ?_))|refine WR rfl rfl rfl rfl ?_|refine s_not_d rfl ?_|refine Qd rfl rfl ?_|refine QD (fun _ _ => ?_)|refine QV rfl rfl (fun _ _ => ?_)))|(refine Qk ?_;(first|refine Qi ?_|refine QK rfl ?_|refine Q1 ?_|refine Wx rfl rfl rfl rfl ?_|refine W1 rfl rfl rfl rfl ?_|refine Q7 rfl rfl (by omega) ?_|refine Q2 rfl rfl (by omega) ?_|refine qY rfl rfl (fun _ => ?_) (fun _ => ?_)))|(refine Qj ?_;(first|refine Ql ?_|refine Qc ?_|refine Qu ?_|refine Qh rfl ?_|refine Qq rfl (by omega) ?_|refine Qn rfl (by omega) ?_|refine Qt ?_)))
   all_goals exact e_1 (Tryz.results75) (Qg rfl) (Ze (σ := []) (r := [_, _]) ⟨rfl, rfl⟩)
  rw [hcnt.2 hc, Bool.true_and, hkd]
  clear hfun0 hrng hcnt hkd h26
  refine Qa Tryz.func75 rfl Tryz.ntmps75 rfl (t := [(0, .agg [.i k, .i n, .i m, QT ks]), (1, .i w)]) rfl fun E hE => ?_
  (repeat' first|(refine Qe ?_;(first|refine QI rfl ?_|refine QJ rfl ?_|(refine QB ?_;(first|refine ZK rfl hpart rfl ?_|refine Qb rfl rfl rfl ?_))|refine qx (cs := WE shapesL) hG0 rfl (by omega) (by omega) ?_|(refine Qo ?_;(first|refine QY rfl rfl ?_|refine ZC rfl rfl ?_|refine W8 rfl rfl ?_|refine QO rfl rfl ?_|refine Zk rfl rfl (by omega) ?_))|refine Qz rfl ?_|(refine QX ?_;(first|refine WK rfl rfl ?_|refine Wr rfl rfl ?_))|refine WR rfl rfl rfl rfl ?_|refine s_not_d rfl ?_|refine Qd rfl rfl ?_|refine QD (fun _ _ => ?_)|refine QV rfl rfl (fun _ _ => ?_)))|(refine Qk ?_;(first|refine Qi ?_|refine QK rfl ?_|refine Q1 ?_|refine Wx rfl rfl rfl rfl ?_|refine W1 rfl rfl rfl rfl ?_|refine Q7 rfl rfl (by omega) ?_|refine Q2 rfl rfl (by omega) ?_))|(refine Qj ?_;(first|refine Ql ?_|refine Qc ?_|refine Qf ?_|refine Qu ?_|refine Qn rfl (by omega) ?_)))
  rename_i g1 hg1 g2 hg2
  refine ZQ (fun (i : Nat) => ⟨[(2, .ptr 0 g1 0), (4, .b false), (5, .ptr 1 g2 0), (96, QT ks), (97, .i ks.length), (98, .i i)], [.row g1 [.i k, .i n, .i m, QT ks], .row g2 [.i is, .i low, .i high, .i last, QT kids, .i more, .i least, .i som]]⟩) (fun i => i <= ks.length /\ ∀ j, j < i -> fs.getD j noF (if j < kids.length then kids.getD j 0 else som) = true) (fun i => ks.length - i) 0 ?_ ⟨by omega, fun j hj => by omega⟩ ?_
  ·exact zal rfl
  intro i ⟨hi, hall⟩
  by_cases hil : i < ks.length
  ·by_cases hik : i < kids.length
   ·have hgd : kids.getD i 0 = kids[i] := by rw [List.getD_eq_getElem?_getD, List.getElem?_eq_getElem hik];rfl
    have hfi := hl2 i hil kids[i]
    cases hbi : fs.getD i noF kids[i] with
    | false =>
     have hA : allI (fun i => fs.getD i noF (if i < kids.length then kids.getD i 0 else som)) ks.length = false := by
      rw [Bool.eq_false_iff]
      intro h
      have := allI_iff.1 h i hil
      rw [if_pos hik, hgd, hbi] at this;cases this
     rw [hA]
     rw [hbi] at hfi
     clear hl2 hall
     (repeat' first|(refine Qe ?_;(first|refine QI rfl ?_|refine QJ rfl ?_|(refine QB ?_;(first|refine WQ rfl rfl ?_|refine QS rfl ?_|refine QR rfl ?_|refine Qb rfl rfl rfl ?_))|refine QC rfl rfl (by first|assumption|omega|(simp;done)|(simp;omega)) ?_|refine QY rfl rfl ?_|(refine Qp ?_;(first|refine Qz rfl ?_|refine QZ rfl rfl (hfi) ?_))|refine WR rfl rfl rfl rfl ?_|refine Wo rfl ?_|refine Qd rfl rfl ?_|refine QD (fun _ _ => ?_)))|(refine Qk ?_;(first|refine Qi ?_|refine QK rfl ?_|refine Q1 ?_))|(refine Qj ?_;(first|refine Ql ?_|refine Qc ?_|refine Qf ?_|refine Qu ?_|refine Qh rfl ?_|refine Qq rfl (by omega) ?_|refine Qt ?_)))
     all_goals exact e_1 (Tryz.results75) (Qg rfl) (Ze (σ := []) ⟨rfl, rfl⟩)
    | true =>
     rw [hbi] at hfi
     clear hl2
     (repeat' first|(refine Qe ?_;(first|refine QI rfl ?_|refine QJ rfl ?_|(refine QB ?_;(first|refine WQ rfl rfl ?_|refine QS rfl ?_|refine QR rfl ?_|refine Qb rfl rfl rfl ?_))|refine QC rfl rfl (by first|assumption|omega|(simp;done)|(simp;omega)) ?_|(refine Qo ?_;(first|refine QY rfl rfl ?_|refine W7 rfl rfl (by omega) ?_))|(refine Qp ?_;(first|refine Qz rfl ?_|refine QZ rfl rfl (hfi) ?_))|refine WR rfl rfl rfl rfl ?_|refine Wo rfl ?_|refine Qd rfl rfl ?_|refine QD (fun _ _ => ?_)))|(refine Qk ?_;(first|refine Qi ?_|refine QK rfl ?_|refine Q1 ?_))|(refine Qj ?_;(first|refine Ql ?_|refine Qc ?_|refine Qf ?_|refine Qu ?_|refine Qm rfl ?_|refine Qq rfl (by omega) ?_)))
     refine ⟨i + 1, ⟨by omega, fun j hj => ?_⟩, by omega, ?_⟩
     ·rcases Nat.lt_or_ge j i with h|h
      ·exact hall j h
      ·have : j = i := by omega
       subst this;rw [if_pos hik, hgd];exact hbi
     ·exact zal rfl
   ·have hfi := hl2 i hil som
    cases hbi : fs.getD i noF som with
    | false =>
     have hA : allI (fun i => fs.getD i noF (if i < kids.length then kids.getD i 0 else som)) ks.length = false := by
      rw [Bool.eq_false_iff]
      intro h
      have := allI_iff.1 h i hil
      rw [if_neg hik, hbi] at this;cases this
     rw [hA]
     rw [hbi] at hfi
     clear hl2 hall
     (repeat' first|(refine Qe ?_;(first|refine QI rfl ?_|refine QJ rfl ?_|(refine QB ?_;(first|refine WQ rfl rfl ?_|refine QR rfl ?_|refine Qb rfl rfl rfl ?_))|refine QC rfl rfl (by first|assumption|omega|(simp;done)|(simp;omega)) ?_|refine QY rfl rfl ?_|(refine Qp ?_;(first|refine Qz rfl ?_|refine QZ rfl rfl (hfi) ?_))|refine WR rfl rfl rfl rfl ?_|refine Wo rfl ?_|refine Qd rfl rfl ?_|refine QD (fun _ _ => ?_)))|(refine Qk ?_;(first|refine Qi ?_|refine QK rfl ?_|refine Q1 ?_))|(refine Qj ?_;(first|refine Ql ?_|refine Qc ?_|refine Qf ?_|refine Qu ?_|refine Qh rfl ?_|refine Qq rfl (by omega) ?_|refine Qn rfl (by omega) ?_|refine Qt ?_)))
     all_goals exact e_1 (Tryz.results75) (Qg rfl) (Ze (σ := []) ⟨rfl, rfl⟩)
    | true =>
     rw [hbi] at hfi
     clear hl2
     (repeat' first|(refine Qe ?_;(first|refine QI rfl ?_|refine QJ rfl ?_|(refine QB ?_;(first|refine WQ rfl rfl ?_|refine QR rfl ?_|refine Qb rfl rfl rfl ?_))|refine QC rfl rfl (by first|assumption|omega|(simp;done)|(simp;omega)) ?_|(refine Qo ?_;(first|refine QY rfl rfl ?_|refine W7 rfl rfl (by omega) ?_))|(refine Qp ?_;(first|refine Qz rfl ?_|refine QZ rfl rfl (hfi) ?_))|refine WR rfl rfl rfl rfl ?_|refine Wo rfl ?_|refine Qd rfl rfl ?_|refine QD (fun _ _ => ?_)))|(refine Qk ?_;(first|refine Qi ?_|refine QK rfl ?_|refine Q1 ?_))|(refine Qj ?_;(first|refine Ql ?_|refine Qc ?_|refine Qf ?_|refine Qu ?_|refine Qm rfl ?_|refine Qq rfl (by omega) ?_|refine Qn rfl (by omega) ?_)))
     refine ⟨i + 1, ⟨by omega, fun j hj => ?_⟩, by omega, ?_⟩
     ·rcases Nat.lt_or_ge j i with h|h
      ·exact hall j h
      ·have : j = i := by omega
       subst this;rw [if_neg hik];exact hbi
     ·exact zal rfl
  ·have hiv : i = ks.length := by omega
   subst hiv
   have hA : allI (fun i => fs.getD i noF (if i < kids.length then kids.getD i 0 else som)) ks.length = true := allI_iff.2 hall
   rw [hA]
   clear hl2 hall
   (repeat' first|(refine Qe ?_;(first|refine QJ rfl ?_|refine QY rfl rfl ?_))|(refine Qk ?_;(first|refine Qi ?_|refine QK rfl ?_))|(refine Qj ?_;(first|refine Ql ?_|refine Qc ?_|refine Qn rfl (by omega) ?_|refine Wp rfl ?_|refine Qt ?_)))
   exact e_1 (Tryz.results75) (Qg rfl) (Ze (σ := []) (r := [_, _]) ⟨rfl, rfl⟩)
theorem valid_c (hG0 : G 0 = shapesT) (t : Nd) (hsz : Qx t <= 1000000) : Go.Av.Pure Tryz.prog G 31 [.agg (Enc.enc t)] (.b (validM t)) := fun B => by
 have hsiz := trSize_c (G := G) t (by omega)
 have hdep := trDepth_c (G := G) t (by omega)
 have hfit := fits_c hG0 t hsz 0
 unfold validM
 by_cases h1 : Qx t <= 256
 ·by_cases h2 : WB t <= 16
  ·rw [decide_eq_true h1, decide_eq_true h2, Bool.true_and, Bool.true_and]
   refine Qa Tryz.func31 rfl Tryz.ntmps31 rfl (t := [(0, .agg (Enc.enc t))]) rfl fun E hE => ?_
   (repeat' first|(refine Qe ?_;(first|refine QI rfl ?_|refine QJ rfl ?_|refine WQ rfl rfl ?_|refine Zd rfl rfl ?_|(refine Qp ?_;(first|refine QZ rfl rfl (hsiz) ?_|refine QZ rfl rfl (hdep) ?_|refine QZ rfl rfl (hfit) ?_))|refine WK rfl rfl ?_|refine QV rfl rfl (fun _ _ => ?_)))|(refine Qk ?_;(first|refine Qi ?_|refine QK rfl ?_|refine Wx rfl rfl rfl rfl ?_|refine Q7 rfl rfl (by omega) ?_))|(refine Qj ?_;(first|refine Ql ?_|refine Qc ?_|refine Qt ?_)))
   all_goals exact e_1 (Tryz.results31) (Qg rfl) (Ze (σ := []) (r := [_]) ⟨rfl, rfl⟩)
  ·rw [decide_eq_true h1, decide_eq_false h2, Bool.true_and, Bool.false_and]
   refine Qa Tryz.func31 rfl Tryz.ntmps31 rfl (t := [(0, .agg (Enc.enc t))]) rfl fun E hE => ?_
   (repeat' first|(refine Qe ?_;(first|refine QI rfl ?_|refine QJ rfl ?_|refine WQ rfl rfl ?_|refine Zd rfl rfl ?_|(refine Qp ?_;(first|refine QZ rfl rfl (hsiz) ?_|refine QZ rfl rfl (hdep) ?_))|(refine QX ?_;(first|refine WK rfl rfl ?_|refine Wr rfl rfl ?_))|refine QV rfl rfl (fun _ _ => ?_)))|(refine Qk ?_;(first|refine Qi ?_|refine QK rfl ?_|refine Wx rfl rfl rfl rfl ?_|refine W1 rfl rfl rfl rfl ?_|refine Q7 rfl rfl (by omega) ?_|refine Q2 rfl rfl (by omega) ?_))|(refine Qj ?_;(first|refine Ql ?_|refine Qc ?_|refine Qt ?_)))
   all_goals exact e_1 (Tryz.results31) (Qg rfl) (Ze (σ := []) (r := [_]) ⟨rfl, rfl⟩)
 ·rw [decide_eq_false h1, Bool.false_and, Bool.false_and]
  refine Qa Tryz.func31 rfl Tryz.ntmps31 rfl (t := [(0, .agg (Enc.enc t))]) rfl fun E hE => ?_
  (repeat' first|(refine Qe ?_;(first|refine QI rfl ?_|refine QJ rfl ?_|refine WQ rfl rfl ?_|refine Zd rfl rfl ?_|refine QZ rfl rfl (hsiz) ?_|refine Wr rfl rfl ?_|refine QV rfl rfl (fun _ _ => ?_)))|(refine Qk ?_;(first|refine Qi ?_|refine QK rfl ?_|refine W1 rfl rfl rfl rfl ?_|refine Q2 rfl rfl (by omega) ?_))|(refine Qj ?_;(first|refine Ql ?_|refine Qc ?_|refine Qt ?_)))
  all_goals exact e_1 (Tryz.results31) (Qg rfl) (Ze (σ := []) (r := [_]) ⟨rfl, rfl⟩)
end Go.Proofs
end
section
namespace Go.Proofs
open Go.Av Go.Bl
theorem scan_nil {s : List UInt8} {a : Nat} (h : Wk (s.dropWhile spB) = []) : Wy s a = ([], a + (s.length - (s.dropWhile spB).length)) := by
 rw [Wy];simp only;rw [dif_pos h]
theorem scan_cons {s r t : List UInt8} {a b : Nat} (hr : s.dropWhile spB = r) (ht : Wk r = t) (h : t ≠ []) (hb : b = a + (s.length - r.length)) :
  Wy s a = ((t, b) :: (Wy (r.drop t.length) (b + t.length)).1, (Wy (r.drop t.length) (b + t.length)).2) := by
 subst hr ht hb
 rw [Wy];simp only;rw [dif_neg h]
theorem first_space {b : UInt8} {q : List UInt8} (h : spB b = true) : Wk (b :: q) = [] := by
 have hb : b = 32 \/ b = 10 := by
  unfold spB at h
  simpa using h
 rcases hb with rfl|rfl <;> rfl
theorem first_nil : Wk [] = [] := rfl
def Hd (r : List UInt8) : Prop := ∀ b ∈ r.head?, spB b = false
theorem hd_first {r : List UInt8} (h : Wk r ≠ []) : Hd r := by
 cases r with
 | nil => exact absurd first_nil h
 | cons b q =>
  intro b' hb
  have : b = b' := by simpa using hb
  subst this
  cases hs : spB b with
  | false => rfl
  | true => exact absurd (first_space hs) h
theorem dw_app {sp r : List UInt8} (h : sp.all spB = true) (hr : Hd r) : (sp ++ r).dropWhile spB = r := by
 induction sp with
 | nil =>
  cases r with
  | nil => rfl
  | cons b q =>
   have hb := hr b (by simp)
   show (b :: q).dropWhile spB = b :: q
   rw [List.dropWhile_cons, if_neg (by rw [hb];simp)]
 | cons b q ih =>
  simp only [List.all_cons, Bool.and_eq_true] at h
  rw [List.cons_append, List.dropWhile_cons, if_pos h.1]
  exact ih h.2
def Nx (r : List UInt8) : Prop := ∀ b ∈ r.head?, letB b = false /\ digB b = false
theorem take_run {p : UInt8 -> Bool} {w r : List UInt8} (hw : w.all p = true) (hr : ∀ b ∈ r.head?, p b = false) : (w ++ r).takeWhile p = w := by
 induction w with
 | nil =>
  cases r with
  | nil => rfl
  | cons b q => rw [List.nil_append, List.takeWhile_cons, if_neg (by rw [hr b (by simp)];simp)]
 | cons b q ih =>
  simp only [List.all_cons, Bool.and_eq_true] at hw
  rw [List.cons_append, List.takeWhile_cons, if_pos hw.1, ih hw.2]
theorem tw_mem {p : UInt8 -> Bool} : ∀ {l : List UInt8} {x : UInt8}, x ∈ l.takeWhile p -> p x = true
 | b :: r, x, h => by
  by_cases hb : p b = true
  ·rw [List.takeWhile_cons, if_pos hb] at h
   rcases List.mem_cons.1 h with rfl|h
   ·exact hb
   ·exact tw_mem h
  ·rw [List.takeWhile_cons, if_neg hb] at h;cases h
theorem run_nx {a : UInt8} {r : List UInt8} (h : Nx r) : ∀ b ∈ r.head?, runB a b = false := fun b hb => by
 obtain ⟨h1, h2⟩ := h b hb
 unfold runB
 rw [h1, h2];simp
theorem first_signs (t r : List UInt8) (b : UInt8) (hb : spB b = true) (ht : t ∈ signsT) : Wk (t ++ b :: r) = t := by
 have hb : b = 32 \/ b = 10 := by
  unfold spB at hb
  simpa using hb
 unfold signsT at ht
 simp only [List.mem_cons, List.not_mem_nil, or_false] at ht
 rcases hb with rfl|rfl <;> rcases ht with rfl|rfl|rfl|rfl|rfl|rfl|rfl|rfl|rfl|rfl|rfl|rfl|rfl|rfl|rfl|rfl|rfl|rfl|rfl|rfl|rfl|rfl|rfl|rfl <;> rfl
theorem first_signs_end (t : List UInt8) (ht : t ∈ signsT) : Wk (t ++ []) = t := by
 unfold signsT at ht
 simp only [List.mem_cons, List.not_mem_nil, or_false] at ht
 rcases ht with rfl|rfl|rfl|rfl|rfl|rfl|rfl|rfl|rfl|rfl|rfl|rfl|rfl|rfl|rfl|rfl|rfl|rfl|rfl|rfl|rfl|rfl|rfl|rfl <;> rfl
theorem sp_nx {y : List UInt8} (hy : ∀ b ∈ y.head?, spB b = true) : Nx y := fun b hb => by
 have h := hy b hb
 have hb : b = 32 \/ b = 10 := by
  unfold spB at h
  simpa using h
 rcases hb with rfl|rfl <;> exact ⟨rfl, rfl⟩
theorem sign_mem {u : List UInt8} (h : signM u ≠ []) : signM u ∈ signsT /\ signM u <+: u := by
 unfold signM at h ⊢
 cases hf : signsT.find? (fun t => Lib.hasPrefix u t) with
 | none => rw [hf] at h;exact absurd rfl h
 | some t =>
  have h2 := List.find?_some hf
  exact ⟨List.mem_of_find?_eq_some hf, List.isPrefixOf_iff_prefix.1 h2⟩
theorem first_stop {u t y : List UInt8} (h : Wk u = t) (ht : t ≠ []) (hy : ∀ b ∈ y.head?, spB b = true) : Wk (t ++ y) = t := by
 unfold Wk at h
 split at h
 ·rename_i h0
  split at h
  ·rename_i h1
   rw [h] at h1
   have hall : t.all (runB (u.getD 0 0)) = true := by
    rw [<- h];unfold Zv
    rw [List.all_eq_true]
    intro x hx
    exact tw_mem hx
   have h00 : t.getD 0 0 = u.getD 0 0 := by
    unfold Zv at h
    have := List.takeWhile_prefix (l := u) (runB (u.getD 0 0))
    rw [h] at this
    obtain ⟨q, hq⟩ := this
    cases t with
    | nil => exact absurd rfl ht
    | cons b r => rw [<- hq];rfl
   rw [<- h00] at h1 hall
   have hp : Zv (t ++ y) = t := by
    unfold Zv
    rw [show (t ++ y).getD 0 0 = t.getD 0 0 by cases t with|nil => exact absurd rfl ht|cons b r => rfl]
    exact take_run hall (run_nx (sp_nx hy))
   unfold Wk
   rw [hp, show (t ++ y).getD 0 0 = t.getD 0 0 by cases t with|nil => exact absurd rfl ht|cons b r => rfl, if_pos (by cases t with|nil => exact absurd rfl ht|cons b r => simp), if_pos h1]
  ·exact absurd h.symm ht
 ·obtain ⟨h1, h2⟩ := sign_mem (u := u) (by rw [h];exact ht)
  rw [h] at h1
  cases y with
  | nil => exact first_signs_end t h1
  | cons b r => exact first_signs t r b (hy b (by simp)) h1
theorem tw_loc {p : UInt8 -> Bool} : ∀ {u v : List UInt8}, u.take ((u.takeWhile p).length + 1) = v.take ((u.takeWhile p).length + 1) -> v.takeWhile p = u.takeWhile p
 | [], v, h => by
  cases v with
  | nil => rfl
  | cons b q => simp at h
 | b :: r, v, h => by
  cases v with
  | nil => simp at h
  | cons c q =>
   rw [List.take_succ_cons, List.take_succ_cons] at h
   simp only [List.cons.injEq] at h
   obtain ⟨rfl, h⟩ := h
   by_cases hb : p b = true
   ·rw [List.takeWhile_cons, if_pos hb] at h ⊢
    rw [List.takeWhile_cons, if_pos hb]
    rw [List.length_cons] at h
    rw [tw_loc h]
   ·rw [List.takeWhile_cons, if_neg hb, List.takeWhile_cons, if_neg hb]
theorem pre_loc {u v t : List UInt8} (h : u.take (t.length) = v.take (t.length)) : Lib.hasPrefix v t = Lib.hasPrefix u t := by
 unfold Lib.hasPrefix
 rw [Bool.eq_iff_iff, List.isPrefixOf_iff_prefix, List.isPrefixOf_iff_prefix, List.prefix_iff_eq_take, List.prefix_iff_eq_take, h]
theorem signs_le {t : List UInt8} (h : t ∈ signsT) : 1 <= t.length /\ t.length <= 2 := by
 have : ∀ t ∈ signsT, 1 <= t.length /\ t.length <= 2 := by decide
 exact this t h
theorem take_le {u v : List UInt8} {m n : Nat} (h : u.take n = v.take n) (hm : m <= n) : u.take m = v.take m := by
 have := congrArg (List.take m) h
 rwa [List.take_take, List.take_take, Nat.min_eq_left hm] at this
theorem head_take {u v : List UInt8} {n : Nat} (h : u.take (n + 1) = v.take (n + 1)) : u.getD 0 0 = v.getD 0 0 /\ u.head? = v.head? := by
 cases u with
 | nil => cases v with|nil => exact ⟨rfl, rfl⟩|cons b q => simp at h
 | cons b q =>
  cases v with
  | nil => simp at h
  | cons c r =>
   simp only [List.take_succ_cons, List.cons.injEq] at h
   obtain ⟨rfl, _⟩ := h
   exact ⟨rfl, rfl⟩
theorem first_loc {u v t : List UInt8} (h : Wk u = t) (ht : t ≠ []) (hv : u.take (t.length + 1) = v.take (t.length + 1)) : Wk v = t := by
 obtain ⟨hg, _⟩ := head_take hv
 unfold Wk at h ⊢
 split at h
 ·rename_i h0
  split at h
  ·rename_i h1
   have hpv : Zv v = Zv u := by
    unfold Zv at h ⊢
    rw [<- hg]
    exact tw_loc (by rw [h];exact hv)
   rw [hpv, if_pos h0, <- hg, if_pos h1, h]
  ·exact absurd h.symm ht
 ·rename_i h0
  have hpu : Zv u = [] := List.eq_nil_of_length_eq_zero (by omega)
  have hpv : Zv v = Zv u := by
   unfold Zv at hpu ⊢
   rw [<- hg]
   exact tw_loc (by rw [hpu];exact take_le hv (by simp))
  rw [hpv, if_neg h0, <- h]
  obtain ⟨h1, h2⟩ := sign_mem (u := u) (by rw [h];exact ht)
  have hle := signs_le h1
  rw [h] at hle
  unfold signM
  congr 1
  have : ∀ l : List (List UInt8), (∀ x ∈ l, x ∈ signsT) -> l.find? (fun t => Lib.hasPrefix v t) = l.find? (fun t => Lib.hasPrefix u t) := by
   intro l
   induction l with
   | nil => intro _;rfl
   | cons x r ih =>
    intro hl
    have hx := signs_le (hl x (by simp))
    rw [List.find?_cons, List.find?_cons, pre_loc (take_le hv (show x.length <= t.length + 1 by omega)), ih fun y hy => hl y (by simp [hy])]
  exact this _ fun _ hx => hx
theorem first_pre {u t : List UInt8} (h : Wk u = t) (ht : t ≠ []) : t <+: u := by
 unfold Wk at h
 split at h
 ·split at h
  ·rw [<- h];exact List.takeWhile_prefix _
  ·exact absurd h.symm ht
 ·have := (sign_mem (u := u) (by rw [h];exact ht)).2
  rwa [h] at this
theorem scan_loc : ∀ (i : Nat) (u v y : List UInt8) (a : Nat) (t : List UInt8) (o : Nat), (Wy u a).1[i]? = some (t, o) -> (∀ b ∈ y.head?, spB b = true) -> v = u.take (o - a + t.length) ++ y ->
  a <= o /\ o - a + t.length <= u.length /\ 1 <= t.length /\ (Wy v a).1.take (i + 1) = (Wy u a).1.take (i + 1)
 | i, u, v, y, a, t, o, h, hy, hv => by
  have hsp : u = (u.takeWhile spB) ++ u.dropWhile spB := (List.takeWhile_append_dropWhile ..).symm
  have hall : (u.takeWhile spB).all spB = true := by rw [List.all_eq_true];intro x hx;exact tw_mem hx
  generalize hspd : u.takeWhile spB = sp at *
  generalize hrd : u.dropWhile spB = r at *
  by_cases hf : Wk r = []
  ·rw [scan_nil (by rw [hrd];exact hf)] at h
   simp at h
  have hlen : u.length = sp.length + r.length := by rw [hsp];simp
  have e := scan_cons (s := u) (a := a) (t := Wk r) (b := a + sp.length) hrd rfl hf (by omega)
  have hpre := first_pre rfl hf
  have htl : 1 <= (Wk r).length := by
   cases hq : Wk r with
   | nil => exact absurd hq hf
   | cons b q => simp
  have htr : (Wk r).length <= r.length := hpre.length_le
  generalize hft : Wk r = w at *
  have hrw : r = w ++ r.drop w.length := by
   obtain ⟨q, hq⟩ := hpre
   rw [<- hq];simp
  rw [e] at h ⊢
  cases i with
  | zero =>
   simp at h
   obtain ⟨rfl, rfl⟩ := h
   have hv2 : v = sp ++ (w ++ y) := by
    rw [hv, show a + sp.length - a + w.length = sp.length + w.length by omega, hsp, List.take_append, List.take_of_length_le (by omega), show sp.length + w.length - sp.length = w.length by omega]
    rw [hrw, List.take_left, List.append_assoc]
   have hst := first_stop hft hf hy
   have hd : Hd (w ++ y) := hd_first (by rw [hst];exact hf)
   refine ⟨by omega, by omega, htl, ?_⟩
   rw [scan_cons (s := v) (a := a) (b := a + sp.length) (by rw [hv2];exact dw_app hall hd) hst hf (by rw [hv2];simp)]
   rfl
  | succ i =>
   rw [List.getElem?_cons_succ] at h
   have ih := scan_loc i (r.drop w.length) ((r.drop w.length).take (o - (a + sp.length + w.length) + t.length) ++ y) y (a + sp.length + w.length) t o h hy rfl
   obtain ⟨i1, i2, i3, i4⟩ := ih
   rw [List.length_drop] at i2
   have hv2 : v = sp ++ (w ++ ((r.drop w.length).take (o - (a + sp.length + w.length) + t.length) ++ y)) := by
    rw [hv, hsp, List.take_append, List.take_of_length_le (by omega)]
    rw [show o - a + t.length - sp.length = w.length + (o - (a + sp.length + w.length) + t.length) by omega]
    rw [List.append_assoc]
    congr 1
    conv => lhs;rw [hrw]
    rw [List.take_append, List.take_of_length_le (by omega), List.append_assoc]
    congr 2
    rw [show w.length + (o - (a + sp.length + w.length) + t.length) - w.length = o - (a + sp.length + w.length) + t.length by omega]
   have hloc : Wk (w ++ ((r.drop w.length).take (o - (a + sp.length + w.length) + t.length) ++ y)) = w := by
    refine first_loc hft hf ?_
    conv => lhs;rw [hrw]
    rw [List.take_append, List.take_append, List.take_of_length_le (show w.length <= w.length + 1 by omega)]
    congr 1
    rw [show w.length + 1 - w.length = 1 by omega, List.take_append, List.take_take, Nat.min_eq_left (by omega), List.length_take, List.length_drop, show 1 - min (o - (a + sp.length + w.length) + t.length) (r.length - w.length) = 0 by omega]
    simp
   have hd : Hd (w ++ ((r.drop w.length).take (o - (a + sp.length + w.length) + t.length) ++ y)) := hd_first (by rw [hloc];exact hf)
   refine ⟨by omega, by omega, i3, ?_⟩
   rw [scan_cons (s := v) (a := a) (b := a + sp.length) (by rw [hv2];exact dw_app hall hd) hloc hf (by rw [hv2];simp)]
   rw [List.drop_left, List.take_succ_cons, List.take_succ_cons, i4]
end Go.Proofs
end
section
namespace Go.Proofs
open Go.Av
variable {G : Nat -> DV}
attribute [local irreducible] OpSem Zh ZB ZP ACalls qu AClose RV
open Go.Bl
def parseM (z : Nd) (s : List UInt8) : Nd × Int :=
 if 8192 < s.length then (zNd, 8192)
 else if (Zj (Wy s 0).1 z ((Wy s 0).1.length + 3)).2.bad = true then
  (if h : (Zj (Wy s 0).1 z ((Wy s 0).1.length + 3)).2.p < (Wy s 0).1.length then (zNd, ((Wy s 0).1[(Zj (Wy s 0).1 z ((Wy s 0).1.length + 3)).2.p].2 : Int)) else (zNd, ((Wy s 0).2 : Int)))
 else if (Wy s 0).2 < s.length then (zNd, ((Wy s 0).2 : Int))
 else if validM (Zj (Wy s 0).1 z ((Wy s 0).1.length + 3)).1 = true then ((Zj (Wy s 0).1 z ((Wy s 0).1.length + 3)).1, -1) else (zNd, 0)
theorem tup_nil {L : Lay} {a b c d : DV} {es : Nat} {v : Value} (h : VRep L (.tup [.agg [a, b, c, .sc (.slice none 0 0)], d]) v) : VRep L (.tup [.agg [a, b, c, .sl es []], d]) v := by
 cases h with|tup _ vs hl hg =>
 refine .tup _ _ hl fun j e hj => ?_
 match j with
 | 0 => simp at hj;subst hj;exact agg4_nil (hg 0 _ rfl)
 | j + 1 => exact hg (j + 1) e hj
theorem scan_ok (s : List UInt8) (hs : s.length <= 8192) : OkL (Wy s 0).1 /\ (Wy s 0).2 <= s.length /\ (Wy s 0).1.length <= s.length /\ ∀ x ∈ (Wy s 0).1, x.2 <= s.length := by
 have key : ∀ (n : Nat) (u : List UInt8) (a : Nat), u.length = n -> ((Wy u a).2 <= a + u.length /\ (Wy u a).1.length <= u.length /\ ∀ x ∈ (Wy u a).1, x.1 ≠ [] /\ x.1.length <= u.length /\ x.2 <= a + u.length) := by
  intro n
  induction n using Nat.strongRecOn with
  | _ n ih =>
  intro u a hu
  have hd := (List.dropWhile_sublist (l := u) spB).length_le
  by_cases hf : Wk (u.dropWhile spB) = []
  ·rw [scan_nil hf]
   refine ⟨by show a + (u.length - (u.dropWhile spB).length) <= a + u.length;omega, Nat.zero_le _, fun x hx => by cases hx⟩
  ·have hle := qQ (u.dropWhile spB)
   have hpos : 1 <= (Wk (u.dropWhile spB)).length := by
    cases hq : Wk (u.dropWhile spB) with
    | nil => exact absurd hq hf
    | cons b q => simp
   rw [scan_cons rfl rfl hf rfl]
   have hdl : ((u.dropWhile spB).drop (Wk (u.dropWhile spB)).length).length = (u.dropWhile spB).length - (Wk (u.dropWhile spB)).length := List.length_drop
   obtain ⟨i1, i2, i3⟩ := ih _ (by rw [hdl];omega) ((u.dropWhile spB).drop (Wk (u.dropWhile spB)).length) (a + (u.length - (u.dropWhile spB).length) + (Wk (u.dropWhile spB)).length) rfl
   rw [hdl] at i1 i2 i3
   refine ⟨by dsimp only;omega, by rw [List.length_cons];omega, fun x hx => ?_⟩
   rcases List.mem_cons.1 hx with rfl|hx
   ·exact ⟨hf, by dsimp only;omega, by dsimp only;omega⟩
   ·obtain ⟨j1, j2, j3⟩ := i3 x hx
    exact ⟨j1, by omega, by omega⟩
 obtain ⟨h1, h2, h3⟩ := key _ s 0 rfl
 exact ⟨⟨by omega, fun x hx => ⟨(h3 x hx).1, by have := (h3 x hx).2.1;omega⟩⟩, by omega, h2, fun x hx => by have := (h3 x hx).2.2;omega⟩
theorem parse_c (hG0 : G 0 = shapesT) (hG1 : G 1 = spaceT) (s : List UInt8) (hsl : s.length <= 1000000000) : Go.Av.Pure Tryz.prog G 23 [WA s] (.tup [.agg (Enc.enc (parseM zP s).1), .i (parseM zP s).2]) := fun B => by
 unfold parseM
 by_cases h8 : 8192 < s.length
 ·rw [if_pos h8]
  refine Qa Tryz.func23 rfl Tryz.ntmps23 rfl (t := [(0, WA s)]) rfl fun E hE => ?_
  (repeat' first|(refine Qe ?_;(first|refine QI rfl ?_|refine QJ rfl ?_|refine ZC rfl rfl ?_|refine QW rfl ?_|refine WR rfl rfl rfl rfl ?_|refine QH rfl rfl ?_|refine QD (fun _ _ => ?_)))|(refine Qk ?_;(first|refine Qi ?_|refine QK rfl ?_|refine Q1 ?_))|(refine Qj ?_;(first|refine Ql ?_|refine Qc ?_|refine Qq rfl (by omega) ?_|refine Qt ?_)))
  exact e_2 (Tryz.results23) (QA (size := 4) rfl rfl rfl rfl) (Qg rfl) (Zm (d2 := .tup [.agg [.i 0, .i 0, .i 0, .sl 4 []], .i 8192]) (fun L v h => tup_nil h) (Qs (by show _ = DV.tup [.agg (Enc.enc zNd), .i 8192];unfold zNd;rw [Q0];rfl)))
 rw [if_neg h8]
 have hscan := scan_c (G := G) hG1 s (by omega)
 obtain ⟨hL, he, hlen, hat⟩ := scan_ok s (by omega)
 generalize (Wy s 0).2 = e at *
 generalize (Wy s 0).1 = L at *
 obtain ⟨q, hqq⟩ : ∃ q, q = L.length + 3 := ⟨_, rfl⟩
 rw [<- hqq]
 have hq : L.length + 3 <= q := by omega
 have hfn := fun Q => fun_rc (G := G) hG1 L hL q hq (by omega) Q
 have hea := eats_fun L zP q
 have hkw := kw_fun (L := L) (z := zP) q
 have hps := fun h => Nat.le_trans (prog_size (L := L) (z := zP) q h) (prog_in q)
 have hpa : Zj L zP q = (Nd.mk 27 (Qy L (Q8 L W9 ⟨0, false⟩)).1 0 (Wc L (Zr L zP q) q [] (Qy L (Q8 L W9 ⟨0, false⟩)).2).1, (Wc L (Zr L zP q) q [] (Qy L (Q8 L W9 ⟨0, false⟩)).2).2) := rfl
 rw [hpa] at hps ⊢
 clear hpa
 generalize Zr L zP q = F at *
 have htk := take_c (G := G) L ⟨0, false⟩ hL W9 (by decide)
 have hmt := (mm_take (L := L) (S := ⟨0, false⟩) W9 (by decide)).1
 have hr0 : rM L ⟨0, false⟩ = L.length := by unfold rM;simp
 generalize Q8 L W9 ⟨0, false⟩ = S1 at *
 have hnm := qr (G := G) L S1 hL
 have hmn := (jr (L := L) (F := Qy L) (fun i => J.numeral (Ag.refl L i)) S1).2
 generalize (Qy L S1).1 = v at *
 generalize (Qy L S1).2 = S2 at *
 have htl : (tks L).length = L.length := by simp [tks]
 dsimp only at hps ⊢
 refine Qa Tryz.func23 rfl Tryz.ntmps23 rfl (t := [(0, WA s)]) rfl fun E hE => ?_
 (repeat' first|(refine Qe ?_;(first|refine QI rfl ?_|refine QJ rfl ?_|refine ZC rfl rfl ?_|(refine Qp ?_;(first|refine QW rfl ?_|refine QZ rfl rfl (hscan) ?_|refine Wg 1 (htk) rfl rfl rfl rfl ?_|refine Wg 1 (hnm) rfl rfl rfl rfl ?_))|refine WR rfl rfl rfl rfl ?_|refine QM rfl rfl rfl ?_|refine QH rfl rfl ?_|refine QD (fun _ _ => ?_)|refine QV rfl rfl (fun _ _ => ?_)))|(refine Qk ?_;(first|refine Qi ?_|refine QK rfl ?_|refine Q1 ?_))|(refine Qj ?_;(first|refine Ql ?_|refine Qc ?_|refine Qf ?_|refine Qu ?_|refine Qn rfl (by omega) ?_)))
 rename_i g2 hg2 gr hgr gn hgn
 refine r_ownin 2 3 4 rfl rfl (fun _ => rfl) (fun gk hgk => ?_)
 refine r_loop3n (fun (o : List Nd) (Q : RS) (gg : Nat) => ⟨[(0, WA s), (2, .ptr 0 g2 0), (4, QT (tks L)), (5, .i e), (6, .ptr 1 gr 0), (7, .ptr 2 gn 0)], [.row g2 [.i 0, .i 0, .i 0, .nil], .row gr (rdC L Q), .row gn [.i 27, .i v, .i 0, .ref 3 gg 0 o.length 4], .row gg (WE o)]⟩) (fun o Q gg => E.N < gg /\ o.length + mM L Q <= L.length /\ ∃ k', Wc L F q [] S2 = Wc L F k' o Q /\ mM L Q + 1 <= k') (fun o Q gg => mM L Q) [] S2 gk ?_ ⟨hgk, by simp;omega, q, rfl, by omega⟩ ?_
 ·exact zal rfl
 intro o Q gg ⟨hgg, hq2, k', hk1, hk2⟩
 have hol : o.length <= 2000000 := by omega
 rw [hk1] at hps ⊢
 have c1 := Q4 o
 cases hb : Q.bad with
 | true =>
  have hend : Wc L F k' o Q = (o, Q) := by
   cases k' with
   | zero => rfl
   | succ k2 => rw [Wc, if_neg (by rw [hb];simp)]
  rw [hend]
  dsimp only
  rw [if_pos hb]
  clear hps hk1 hend hfn hkw hea
  have ecell : rdC L Q = [QT (tks L), .i (Q.p : Nat), .i (Q.p : Nat)] := by unfold rdC badI;rw [if_pos hb]
  rw [ecell]
  by_cases hpl : Q.p < L.length
  ·rw [dif_pos hpl]
   have hpl2 : Q.p < (tks L).length := by omega
   have hta : ((tks L)[Q.p].a : Int) = (L[Q.p].2 : Int) := by rw [tks_get hpl]
   (repeat' first|(refine Qe ?_;(first|refine QI rfl ?_|refine QJ rfl ?_|refine Qb rfl rfl rfl ?_|(refine Qo ?_;(first|refine QY rfl rfl ?_|refine W8 rfl rfl ?_))|refine Qz rfl ?_|(refine QX ?_;(first|refine WK rfl rfl ?_|refine Wr rfl rfl ?_))|refine WR rfl rfl rfl rfl ?_|refine Qd rfl rfl ?_|refine Qv rfl rfl ?_))|(refine Qk ?_;(first|refine Qi ?_|refine QK rfl ?_|refine Wx rfl rfl rfl rfl ?_|refine W1 rfl rfl rfl rfl ?_))|(refine Qj ?_;(first|refine Ql ?_|refine Qc ?_|refine Qf ?_|(refine Wn ?_;first|(refine QG (fun p => p.1 :: .row gr [QT (tks L), .i (Q.p : Nat), .i (Q.p : Nat)] :: p.2) 100 [(1, true), (2, true), (3, true), (4, true), (5, true), (6, true), (7, true), (8, true), (0, true), (9, false), (10, true)] (by rfl) (by rfl) (by kernel_rfl) (by decide +kernel) (by decide +kernel) ⟨(_, _), rfl⟩ ?_)|(refine QG (fun p => .row g2 [.i 0, .i 0, .i 0, .nil] :: p.1 :: .row gn [.i 27, .i v, .i 0, .ref 3 gg 0 o.length 4] :: p.2) 7 [(0, true), (1, true), (2, true), (3, false), (4, true), (5, false), (6, true), (7, false)] (by rfl) (by rfl) (by kernel_rfl) (by decide +kernel) (by decide +kernel) ⟨(_, _), rfl⟩ ?_)|refine Q6 (by rfl) (by kernel_rfl) (by kernel_rfl) ?_|refine Q5 (by kernel_rfl) (by kernel_rfl) ?_)|refine Qm rfl ?_|refine Qq rfl (by omega) ?_|refine Wp rfl ?_|refine Qt ?_))|(refine Zf ?_;(first|refine ZY ?_|refine i_st rfl rfl (fun _ => (by (repeat' first|(refine Qe ?_;(first|refine QI rfl ?_|refine QJ rfl ?_|(refine QB ?_;(first|refine QS rfl ?_|refine Qb rfl rfl rfl ?_))|refine QC rfl rfl (by first|assumption|omega|(simp;done)|(simp;omega)) ?_|(refine g_fieldAddr ?_;(first|refine Qd rfl rfl ?_|refine s_fld_ep rfl rfl ?_))|refine QH rfl rfl ?_|refine Qv rfl rfl ?_))|exact ⟨rfl, rfl⟩))) ?_|refine i_ef0 ?_))|refine And.intro (Exists.intro ((_, _)) rfl) ?_)
   exact e_2 (Tryz.results23) (QA (size := 4) rfl rfl rfl rfl) (Qg rfl) (Zm (d2 := .tup [.agg [.i 0, .i 0, .i 0, .sl 4 []], .i (tks L)[Q.p].a]) (fun L v h => tup_nil h) (Qs (by rw [hta];show _ = DV.tup [.agg (Enc.enc zNd), _];unfold zNd;rw [Q0];rfl)))
  ·rw [dif_neg hpl]
   (repeat' first|(refine Qe ?_;(first|refine QI rfl ?_|refine QJ rfl ?_|refine Qb rfl rfl rfl ?_|(refine Qo ?_;(first|refine QY rfl rfl ?_|refine W8 rfl rfl ?_))|refine Qz rfl ?_|(refine QX ?_;(first|refine WK rfl rfl ?_|refine Wr rfl rfl ?_))|refine WR rfl rfl rfl rfl ?_|refine Qd rfl rfl ?_|refine QH rfl rfl ?_|refine Qv rfl rfl ?_))|(refine Qk ?_;(first|refine Qi ?_|refine QK rfl ?_|refine Q1 ?_|refine Wx rfl rfl rfl rfl ?_|refine W1 rfl rfl rfl rfl ?_))|(refine Qj ?_;(first|refine Ql ?_|refine Qc ?_|refine Qf ?_|refine Qh rfl ?_|refine Qm rfl ?_|refine Qn rfl (by omega) ?_|refine Wp rfl ?_|refine Qt ?_)))
   exact e_2 (Tryz.results23) (QA (size := 4) rfl rfl rfl rfl) (Qg rfl) (Zm (d2 := .tup [.agg [.i 0, .i 0, .i 0, .sl 4 []], .i e]) (fun L v h => tup_nil h) (Qs (by show _ = DV.tup [.agg (Enc.enc zNd), _];unfold zNd;rw [Q0];rfl)))
 | false =>
  have hbi := bad_neg hb
  match k', hk1, hk2 with
  | k2 + 1, hk1, hk2 =>
  by_cases hpl : Q.p < L.length
  ·have hrec : Wc L F (k2 + 1) o Q = Wc L F k2 (o ++ [(F Q).1]) (F Q).2 := by rw [Wc, if_pos ⟨hb, hpl⟩]
   have hlt := hea Q hb
   have hfun := hfn Q
   clear hps hk1 hfn hkw hea
   generalize hx2 : (F Q).1 = xb at *
   generalize hS2 : (F Q).2 = S3 at *
   (repeat' first|(refine Qe ?_;(first|refine QI rfl ?_|refine Qb rfl rfl rfl ?_|refine QY rfl rfl ?_|(refine Qp ?_;(first|refine ZL (z := xb) rfl rfl rfl rfl rfl rfl rfl (by first|omega|(simp;omega)) (by first|omega|(simp;omega)) (fun _ => rfl) (fun _ _ => ?_)|refine Qz rfl ?_|refine Wg 1 (hfun) rfl rfl rfl rfl ?_))|refine WK rfl rfl ?_|refine We rfl rfl rfl rfl (by rfl) (by rfl) (by rfl) ?_|refine Qd rfl rfl ?_|refine Qv rfl rfl ?_))|(refine Qk ?_;(first|refine Qi ?_|refine QK rfl ?_|refine Wx rfl rfl rfl rfl ?_|refine Q7 rfl rfl (by omega) ?_))|(refine Qj ?_;(first|refine Ql ?_|refine Qc ?_|refine Qf ?_|(refine Wn ?_;first|(refine QG (fun p => p.1 :: .row gr [QT (tks L), .i (Q.p : Nat), .i (Q.p : Nat)] :: p.2) 100 [(1, true), (2, true), (3, true), (4, true), (5, true), (6, true), (7, true), (8, true), (0, true), (9, false), (10, true)] (by rfl) (by rfl) (by kernel_rfl) (by decide +kernel) (by decide +kernel) ⟨(_, _), rfl⟩ ?_)|(refine QG (fun p => .row g2 [.i 0, .i 0, .i 0, .nil] :: p.1 :: .row gn [.i 27, .i v, .i 0, .ref 3 gg 0 o.length 4] :: p.2) 7 [(0, true), (1, true), (2, true), (3, false), (4, true), (5, false), (6, true), (7, false)] (by rfl) (by rfl) (by kernel_rfl) (by decide +kernel) (by decide +kernel) ⟨(_, _), rfl⟩ ?_)|refine Q6 (by rfl) (by kernel_rfl) (by kernel_rfl) ?_|refine Q5 (by kernel_rfl) (by kernel_rfl) ?_)|refine Qu ?_|refine Qq rfl (by omega) ?_))|(refine Zf ?_;(first|refine ZY ?_|refine i_z0 ?_|refine i_st rfl rfl (fun _ => (by (repeat' first|(refine Qe ?_;(first|refine QI rfl ?_|refine Qb rfl rfl rfl ?_|refine Wf (z := xb) rfl rfl (by decide) ?_|refine Qd rfl rfl ?_))|exact ⟨rfl, rfl⟩))) ?_|refine i_ef rfl ?_))|refine And.intro (Exists.intro ((_, _)) rfl) ?_)
   refine ⟨o ++ [xb], S3, _, ⟨by assumption, by simp;omega, k2, hrec, by omega⟩, by omega, ?_⟩
   exact zal rfl
  ·have hend : Wc L F (k2 + 1) o Q = (o, Q) := by rw [Wc, if_neg (by rw [hb];simp;omega)]
   rw [hend] at hps ⊢
   dsimp only at hps ⊢
   rw [if_neg (by rw [hb];decide)]
   have hsz : Qx (.mk 27 v 0 o) <= 1000000 := by
    have := hps hb
    omega
   have hval := valid_c hG0 (.mk 27 v 0 o) hsz
   rw [Q0] at hval
   clear hps hk1 hend hfn hkw hea
   refine r_pubin 2 3 rfl rfl rfl c1.symm rfl rfl ?_
   by_cases hes : e < s.length
   ·rw [if_pos hes]
    (repeat' first|(refine Qe ?_;(first|refine QI rfl ?_|refine QJ rfl ?_|refine Qb rfl rfl rfl ?_|(refine Qo ?_;(first|refine QY rfl rfl ?_|refine W8 rfl rfl ?_))|(refine Qp ?_;(first|refine Qz rfl ?_|refine QW rfl ?_))|(refine QX ?_;(first|refine WK rfl rfl ?_|refine Wr rfl rfl ?_))|refine WR rfl rfl rfl rfl ?_|refine Qd rfl rfl ?_|refine QH rfl rfl ?_|refine Qv rfl rfl ?_))|(refine Qk ?_;(first|refine Qi ?_|refine QK rfl ?_|refine Q1 ?_|refine Wx rfl rfl rfl rfl ?_|refine W1 rfl rfl rfl rfl ?_|refine Q7 rfl rfl (by omega) ?_|refine Q2 rfl rfl (by omega) ?_))|(refine Qj ?_;(first|refine Ql ?_|refine Qc ?_|refine Qf ?_|refine Qm rfl ?_|refine Qq rfl (by omega) ?_|refine Qn rfl (by omega) ?_|refine Wp rfl ?_|refine Qt ?_)))
    exact e_2 (Tryz.results23) (QA (size := 4) rfl rfl rfl rfl) (Qg rfl) (Zm (d2 := .tup [.agg [.i 0, .i 0, .i 0, .sl 4 []], .i e]) (fun L v h => tup_nil h) (Qs (by show _ = DV.tup [.agg (Enc.enc zNd), _];unfold zNd;rw [Q0];rfl)))
   ·rw [if_neg hes]
    cases hvv : validM (.mk 27 v 0 o) with
    | true =>
     rw [hvv] at hval
     rw [if_pos rfl]
     (repeat' first|(refine Qe ?_;(first|refine QI rfl ?_|refine QJ rfl ?_|(refine QB ?_;(first|refine WQ rfl rfl ?_|refine Qb rfl rfl rfl ?_))|(refine Qo ?_;(first|refine QY rfl rfl ?_|refine W8 rfl rfl ?_))|(refine Qp ?_;(first|refine Qz rfl ?_|refine QW rfl ?_|refine QZ rfl rfl (hval) ?_))|(refine QX ?_;(first|refine WK rfl rfl ?_|refine Wr rfl rfl ?_))|refine WR rfl rfl rfl rfl ?_|refine Wo rfl ?_|refine Qd rfl rfl ?_|refine Qv rfl rfl ?_))|(refine Qk ?_;(first|refine Qi ?_|refine QK rfl ?_|refine Q1 ?_|refine Wx rfl rfl rfl rfl ?_|refine W1 rfl rfl rfl rfl ?_|refine Q7 rfl rfl (by omega) ?_|refine Q2 rfl rfl (by omega) ?_))|(refine Qj ?_;(first|refine Ql ?_|refine Qc ?_|refine Qf ?_|refine Qu ?_|refine Qm rfl ?_|refine Qn rfl (by omega) ?_|refine Wp rfl ?_|refine Qt ?_)))
     exact e_2 (Tryz.results23) (QA (size := 4) rfl rfl rfl rfl) (Qg rfl) (Qs (by rw [Q0];rfl))
    | false =>
     rw [hvv] at hval
     rw [if_neg (by decide)]
     (repeat' first|(refine Qe ?_;(first|refine QI rfl ?_|refine QJ rfl ?_|(refine QB ?_;(first|refine WQ rfl rfl ?_|refine Qb rfl rfl rfl ?_))|(refine Qo ?_;(first|refine QY rfl rfl ?_|refine W8 rfl rfl ?_))|(refine Qp ?_;(first|refine Qz rfl ?_|refine QW rfl ?_|refine QZ rfl rfl (hval) ?_))|(refine QX ?_;(first|refine WK rfl rfl ?_|refine Wr rfl rfl ?_))|refine WR rfl rfl rfl rfl ?_|refine Wo rfl ?_|refine Qd rfl rfl ?_|refine QH rfl rfl ?_|refine Qv rfl rfl ?_))|(refine Qk ?_;(first|refine Qi ?_|refine QK rfl ?_|refine Q1 ?_|refine Wx rfl rfl rfl rfl ?_|refine W1 rfl rfl rfl rfl ?_|refine Q7 rfl rfl (by omega) ?_|refine Q2 rfl rfl (by omega) ?_))|(refine Qj ?_;(first|refine Ql ?_|refine Qc ?_|refine Qf ?_|refine Qh rfl ?_|refine Qm rfl ?_|refine Qn rfl (by omega) ?_|refine Wp rfl ?_|refine Qt ?_)))
     exact e_2 (Tryz.results23) (QA (size := 4) rfl rfl rfl rfl) (Qg rfl) (Zm (d2 := .tup [.agg [.i 0, .i 0, .i 0, .sl 4 []], .i 0]) (fun L v h => tup_nil h) (Qs (by show _ = DV.tup [.agg (Enc.enc zNd), _];unfold zNd;rw [Q0];rfl)))
def parseQ (q : Nat) (z : Nd) (s : List UInt8) : Nd × Int :=
 if 8192 < s.length then (zNd, 8192)
 else if (Zj (Wy s 0).1 z q).2.bad = true then
  (if h : (Zj (Wy s 0).1 z q).2.p < (Wy s 0).1.length then (zNd, ((Wy s 0).1[(Zj (Wy s 0).1 z q).2.p].2 : Int)) else (zNd, ((Wy s 0).2 : Int)))
 else if (Wy s 0).2 < s.length then (zNd, ((Wy s 0).2 : Int))
 else if validM (Zj (Wy s 0).1 z q).1 = true then ((Zj (Wy s 0).1 z q).1, -1) else (zNd, 0)
theorem parse_cq (q : Nat) (hq1 : 8195 <= q) (hq2' : q <= 100000) (hG0 : G 0 = shapesT) (hG1 : G 1 = spaceT) (s : List UInt8) (hsl : s.length <= 1000000000) : Go.Av.Pure Tryz.prog G 23 [WA s] (.tup [.agg (Enc.enc (parseQ q zP s).1), .i (parseQ q zP s).2]) := fun B => by
 unfold parseQ
 by_cases h8 : 8192 < s.length
 ·rw [if_pos h8]
  refine Qa Tryz.func23 rfl Tryz.ntmps23 rfl (t := [(0, WA s)]) rfl fun E hE => ?_
  (repeat' first|(refine Qe ?_;(first|refine QI rfl ?_|refine QJ rfl ?_|refine ZC rfl rfl ?_|refine QW rfl ?_|refine WR rfl rfl rfl rfl ?_|refine QH rfl rfl ?_|refine QD (fun _ _ => ?_)))|(refine Qk ?_;(first|refine Qi ?_|refine QK rfl ?_|refine Q1 ?_))|(refine Qj ?_;(first|refine Ql ?_|refine Qc ?_|refine Qq rfl (by omega) ?_|refine Qt ?_)))
  exact e_2 (Tryz.results23) (QA (size := 4) rfl rfl rfl rfl) (Qg rfl) (Zm (d2 := .tup [.agg [.i 0, .i 0, .i 0, .sl 4 []], .i 8192]) (fun L v h => tup_nil h) (Qs (by show _ = DV.tup [.agg (Enc.enc zNd), .i 8192];unfold zNd;rw [Q0];rfl)))
 rw [if_neg h8]
 have hscan := scan_c (G := G) hG1 s (by omega)
 obtain ⟨hL, he, hlen, hat⟩ := scan_ok s (by omega)
 generalize (Wy s 0).2 = e at *
 generalize (Wy s 0).1 = L at *
 have hq : L.length + 3 <= q := by omega
 have hfn := fun Q => fun_rc (G := G) hG1 L hL q hq (by omega) Q
 have hea := eats_fun L zP q
 have hkw := kw_fun (L := L) (z := zP) q
 have hps := fun h => Nat.le_trans (prog_size (L := L) (z := zP) q h) (prog_in q)
 have hpa : Zj L zP q = (Nd.mk 27 (Qy L (Q8 L W9 ⟨0, false⟩)).1 0 (Wc L (Zr L zP q) q [] (Qy L (Q8 L W9 ⟨0, false⟩)).2).1, (Wc L (Zr L zP q) q [] (Qy L (Q8 L W9 ⟨0, false⟩)).2).2) := rfl
 rw [hpa] at hps ⊢
 clear hpa
 generalize Zr L zP q = F at *
 have htk := take_c (G := G) L ⟨0, false⟩ hL W9 (by decide)
 have hmt := (mm_take (L := L) (S := ⟨0, false⟩) W9 (by decide)).1
 have hr0 : rM L ⟨0, false⟩ = L.length := by unfold rM;simp
 generalize Q8 L W9 ⟨0, false⟩ = S1 at *
 have hnm := qr (G := G) L S1 hL
 have hmn := (jr (L := L) (F := Qy L) (fun i => J.numeral (Ag.refl L i)) S1).2
 generalize (Qy L S1).1 = v at *
 generalize (Qy L S1).2 = S2 at *
 have htl : (tks L).length = L.length := by simp [tks]
 dsimp only at hps ⊢
 refine Qa Tryz.func23 rfl Tryz.ntmps23 rfl (t := [(0, WA s)]) rfl fun E hE => ?_
 (repeat' first|(refine Qe ?_;(first|refine QI rfl ?_|refine QJ rfl ?_|refine ZC rfl rfl ?_|(refine Qp ?_;(first|refine QW rfl ?_|refine QZ rfl rfl (hscan) ?_|refine Wg 1 (htk) rfl rfl rfl rfl ?_|refine Wg 1 (hnm) rfl rfl rfl rfl ?_))|refine WR rfl rfl rfl rfl ?_|refine QM rfl rfl rfl ?_|refine QH rfl rfl ?_|refine QD (fun _ _ => ?_)|refine QV rfl rfl (fun _ _ => ?_)))|(refine Qk ?_;(first|refine Qi ?_|refine QK rfl ?_|refine Q1 ?_))|(refine Qj ?_;(first|refine Ql ?_|refine Qc ?_|refine Qf ?_|refine Qu ?_|refine Qn rfl (by omega) ?_)))
 rename_i g2 hg2 gr hgr gn hgn
 refine r_ownin 2 3 4 rfl rfl (fun _ => rfl) (fun gk hgk => ?_)
 refine r_loop3n (fun (o : List Nd) (Q : RS) (gg : Nat) => ⟨[(0, WA s), (2, .ptr 0 g2 0), (4, QT (tks L)), (5, .i e), (6, .ptr 1 gr 0), (7, .ptr 2 gn 0)], [.row g2 [.i 0, .i 0, .i 0, .nil], .row gr (rdC L Q), .row gn [.i 27, .i v, .i 0, .ref 3 gg 0 o.length 4], .row gg (WE o)]⟩) (fun o Q gg => E.N < gg /\ o.length + mM L Q <= L.length /\ ∃ k', Wc L F q [] S2 = Wc L F k' o Q /\ mM L Q + 1 <= k') (fun o Q gg => mM L Q) [] S2 gk ?_ ⟨hgk, by simp;omega, q, rfl, by omega⟩ ?_
 ·exact zal rfl
 intro o Q gg ⟨hgg, hq2, k', hk1, hk2⟩
 have hol : o.length <= 2000000 := by omega
 rw [hk1] at hps ⊢
 have c1 := Q4 o
 cases hb : Q.bad with
 | true =>
  have hend : Wc L F k' o Q = (o, Q) := by
   cases k' with
   | zero => rfl
   | succ k2 => rw [Wc, if_neg (by rw [hb];simp)]
  rw [hend]
  dsimp only
  rw [if_pos hb]
  clear hps hk1 hend hfn hkw hea
  have ecell : rdC L Q = [QT (tks L), .i (Q.p : Nat), .i (Q.p : Nat)] := by unfold rdC badI;rw [if_pos hb]
  rw [ecell]
  by_cases hpl : Q.p < L.length
  ·rw [dif_pos hpl]
   have hpl2 : Q.p < (tks L).length := by omega
   have hta : ((tks L)[Q.p].a : Int) = (L[Q.p].2 : Int) := by rw [tks_get hpl]
   (repeat' first|(refine Qe ?_;(first|refine QI rfl ?_|refine QJ rfl ?_|refine Qb rfl rfl rfl ?_|(refine Qo ?_;(first|refine QY rfl rfl ?_|refine W8 rfl rfl ?_))|refine Qz rfl ?_|(refine QX ?_;(first|refine WK rfl rfl ?_|refine Wr rfl rfl ?_))|refine WR rfl rfl rfl rfl ?_|refine Qd rfl rfl ?_|refine Qv rfl rfl ?_))|(refine Qk ?_;(first|refine Qi ?_|refine QK rfl ?_|refine Wx rfl rfl rfl rfl ?_|refine W1 rfl rfl rfl rfl ?_))|(refine Qj ?_;(first|refine Ql ?_|refine Qc ?_|refine Qf ?_|(refine Wn ?_;first|(refine QG (fun p => p.1 :: .row gr [QT (tks L), .i (Q.p : Nat), .i (Q.p : Nat)] :: p.2) 100 [(1, true), (2, true), (3, true), (4, true), (5, true), (6, true), (7, true), (8, true), (0, true), (9, false), (10, true)] (by rfl) (by rfl) (by kernel_rfl) (by decide +kernel) (by decide +kernel) ⟨(_, _), rfl⟩ ?_)|(refine QG (fun p => .row g2 [.i 0, .i 0, .i 0, .nil] :: p.1 :: .row gn [.i 27, .i v, .i 0, .ref 3 gg 0 o.length 4] :: p.2) 7 [(0, true), (1, true), (2, true), (3, false), (4, true), (5, false), (6, true), (7, false)] (by rfl) (by rfl) (by kernel_rfl) (by decide +kernel) (by decide +kernel) ⟨(_, _), rfl⟩ ?_)|refine Q6 (by rfl) (by kernel_rfl) (by kernel_rfl) ?_|refine Q5 (by kernel_rfl) (by kernel_rfl) ?_)|refine Qm rfl ?_|refine Qq rfl (by omega) ?_|refine Wp rfl ?_|refine Qt ?_))|(refine Zf ?_;(first|refine ZY ?_|refine i_st rfl rfl (fun _ => (by (repeat' first|(refine Qe ?_;(first|refine QI rfl ?_|refine QJ rfl ?_|(refine QB ?_;(first|refine QS rfl ?_|refine Qb rfl rfl rfl ?_))|refine QC rfl rfl (by first|assumption|omega|(simp;done)|(simp;omega)) ?_|(refine g_fieldAddr ?_;(first|refine Qd rfl rfl ?_|refine s_fld_ep rfl rfl ?_))|refine QH rfl rfl ?_|refine Qv rfl rfl ?_))|exact ⟨rfl, rfl⟩))) ?_|refine i_ef0 ?_))|refine And.intro (Exists.intro ((_, _)) rfl) ?_)
   exact e_2 (Tryz.results23) (QA (size := 4) rfl rfl rfl rfl) (Qg rfl) (Zm (d2 := .tup [.agg [.i 0, .i 0, .i 0, .sl 4 []], .i (tks L)[Q.p].a]) (fun L v h => tup_nil h) (Qs (by rw [hta];show _ = DV.tup [.agg (Enc.enc zNd), _];unfold zNd;rw [Q0];rfl)))
  ·rw [dif_neg hpl]
   (repeat' first|(refine Qe ?_;(first|refine QI rfl ?_|refine QJ rfl ?_|refine Qb rfl rfl rfl ?_|(refine Qo ?_;(first|refine QY rfl rfl ?_|refine W8 rfl rfl ?_))|refine Qz rfl ?_|(refine QX ?_;(first|refine WK rfl rfl ?_|refine Wr rfl rfl ?_))|refine WR rfl rfl rfl rfl ?_|refine Qd rfl rfl ?_|refine QH rfl rfl ?_|refine Qv rfl rfl ?_))|(refine Qk ?_;(first|refine Qi ?_|refine QK rfl ?_|refine Q1 ?_|refine Wx rfl rfl rfl rfl ?_|refine W1 rfl rfl rfl rfl ?_))|(refine Qj ?_;(first|refine Ql ?_|refine Qc ?_|refine Qf ?_|refine Qh rfl ?_|refine Qm rfl ?_|refine Qn rfl (by omega) ?_|refine Wp rfl ?_|refine Qt ?_)))
   exact e_2 (Tryz.results23) (QA (size := 4) rfl rfl rfl rfl) (Qg rfl) (Zm (d2 := .tup [.agg [.i 0, .i 0, .i 0, .sl 4 []], .i e]) (fun L v h => tup_nil h) (Qs (by show _ = DV.tup [.agg (Enc.enc zNd), _];unfold zNd;rw [Q0];rfl)))
 | false =>
  have hbi := bad_neg hb
  match k', hk1, hk2 with
  | k2 + 1, hk1, hk2 =>
  by_cases hpl : Q.p < L.length
  ·have hrec : Wc L F (k2 + 1) o Q = Wc L F k2 (o ++ [(F Q).1]) (F Q).2 := by rw [Wc, if_pos ⟨hb, hpl⟩]
   have hlt := hea Q hb
   have hfun := hfn Q
   clear hps hk1 hfn hkw hea
   generalize hx2 : (F Q).1 = xb at *
   generalize hS2 : (F Q).2 = S3 at *
   (repeat' first|(refine Qe ?_;(first|refine QI rfl ?_|refine Qb rfl rfl rfl ?_|refine QY rfl rfl ?_|(refine Qp ?_;(first|refine ZL (z := xb) rfl rfl rfl rfl rfl rfl rfl (by first|omega|(simp;omega)) (by first|omega|(simp;omega)) (fun _ => rfl) (fun _ _ => ?_)|refine Qz rfl ?_|refine Wg 1 (hfun) rfl rfl rfl rfl ?_))|refine WK rfl rfl ?_|refine We rfl rfl rfl rfl (by rfl) (by rfl) (by rfl) ?_|refine Qd rfl rfl ?_|refine Qv rfl rfl ?_))|(refine Qk ?_;(first|refine Qi ?_|refine QK rfl ?_|refine Wx rfl rfl rfl rfl ?_|refine Q7 rfl rfl (by omega) ?_))|(refine Qj ?_;(first|refine Ql ?_|refine Qc ?_|refine Qf ?_|(refine Wn ?_;first|(refine QG (fun p => p.1 :: .row gr [QT (tks L), .i (Q.p : Nat), .i (Q.p : Nat)] :: p.2) 100 [(1, true), (2, true), (3, true), (4, true), (5, true), (6, true), (7, true), (8, true), (0, true), (9, false), (10, true)] (by rfl) (by rfl) (by kernel_rfl) (by decide +kernel) (by decide +kernel) ⟨(_, _), rfl⟩ ?_)|(refine QG (fun p => .row g2 [.i 0, .i 0, .i 0, .nil] :: p.1 :: .row gn [.i 27, .i v, .i 0, .ref 3 gg 0 o.length 4] :: p.2) 7 [(0, true), (1, true), (2, true), (3, false), (4, true), (5, false), (6, true), (7, false)] (by rfl) (by rfl) (by kernel_rfl) (by decide +kernel) (by decide +kernel) ⟨(_, _), rfl⟩ ?_)|refine Q6 (by rfl) (by kernel_rfl) (by kernel_rfl) ?_|refine Q5 (by kernel_rfl) (by kernel_rfl) ?_)|refine Qu ?_|refine Qq rfl (by omega) ?_))|(refine Zf ?_;(first|refine ZY ?_|refine i_z0 ?_|refine i_st rfl rfl (fun _ => (by (repeat' first|(refine Qe ?_;(first|refine QI rfl ?_|refine Qb rfl rfl rfl ?_|refine Wf (z := xb) rfl rfl (by decide) ?_|refine Qd rfl rfl ?_))|exact ⟨rfl, rfl⟩))) ?_|refine i_ef rfl ?_))|refine And.intro (Exists.intro ((_, _)) rfl) ?_)
   refine ⟨o ++ [xb], S3, _, ⟨by assumption, by simp;omega, k2, hrec, by omega⟩, by omega, ?_⟩
   exact zal rfl
  ·have hend : Wc L F (k2 + 1) o Q = (o, Q) := by rw [Wc, if_neg (by rw [hb];simp;omega)]
   rw [hend] at hps ⊢
   dsimp only at hps ⊢
   rw [if_neg (by rw [hb];decide)]
   have hsz : Qx (.mk 27 v 0 o) <= 1000000 := by
    have := hps hb
    omega
   have hval := valid_c hG0 (.mk 27 v 0 o) hsz
   rw [Q0] at hval
   clear hps hk1 hend hfn hkw hea
   refine r_pubin 2 3 rfl rfl rfl c1.symm rfl rfl ?_
   by_cases hes : e < s.length
   ·rw [if_pos hes]
    (repeat' first|(refine Qe ?_;(first|refine QI rfl ?_|refine QJ rfl ?_|refine Qb rfl rfl rfl ?_|(refine Qo ?_;(first|refine QY rfl rfl ?_|refine W8 rfl rfl ?_))|(refine Qp ?_;(first|refine Qz rfl ?_|refine QW rfl ?_))|(refine QX ?_;(first|refine WK rfl rfl ?_|refine Wr rfl rfl ?_))|refine WR rfl rfl rfl rfl ?_|refine Qd rfl rfl ?_|refine QH rfl rfl ?_|refine Qv rfl rfl ?_))|(refine Qk ?_;(first|refine Qi ?_|refine QK rfl ?_|refine Q1 ?_|refine Wx rfl rfl rfl rfl ?_|refine W1 rfl rfl rfl rfl ?_|refine Q7 rfl rfl (by omega) ?_|refine Q2 rfl rfl (by omega) ?_))|(refine Qj ?_;(first|refine Ql ?_|refine Qc ?_|refine Qf ?_|refine Qm rfl ?_|refine Qq rfl (by omega) ?_|refine Qn rfl (by omega) ?_|refine Wp rfl ?_|refine Qt ?_)))
    exact e_2 (Tryz.results23) (QA (size := 4) rfl rfl rfl rfl) (Qg rfl) (Zm (d2 := .tup [.agg [.i 0, .i 0, .i 0, .sl 4 []], .i e]) (fun L v h => tup_nil h) (Qs (by show _ = DV.tup [.agg (Enc.enc zNd), _];unfold zNd;rw [Q0];rfl)))
   ·rw [if_neg hes]
    cases hvv : validM (.mk 27 v 0 o) with
    | true =>
     rw [hvv] at hval
     rw [if_pos rfl]
     (repeat' first|(refine Qe ?_;(first|refine QI rfl ?_|refine QJ rfl ?_|(refine QB ?_;(first|refine WQ rfl rfl ?_|refine Qb rfl rfl rfl ?_))|(refine Qo ?_;(first|refine QY rfl rfl ?_|refine W8 rfl rfl ?_))|(refine Qp ?_;(first|refine Qz rfl ?_|refine QW rfl ?_|refine QZ rfl rfl (hval) ?_))|(refine QX ?_;(first|refine WK rfl rfl ?_|refine Wr rfl rfl ?_))|refine WR rfl rfl rfl rfl ?_|refine Wo rfl ?_|refine Qd rfl rfl ?_|refine Qv rfl rfl ?_))|(refine Qk ?_;(first|refine Qi ?_|refine QK rfl ?_|refine Q1 ?_|refine Wx rfl rfl rfl rfl ?_|refine W1 rfl rfl rfl rfl ?_|refine Q7 rfl rfl (by omega) ?_|refine Q2 rfl rfl (by omega) ?_))|(refine Qj ?_;(first|refine Ql ?_|refine Qc ?_|refine Qf ?_|refine Qu ?_|refine Qm rfl ?_|refine Qn rfl (by omega) ?_|refine Wp rfl ?_|refine Qt ?_)))
     exact e_2 (Tryz.results23) (QA (size := 4) rfl rfl rfl rfl) (Qg rfl) (Qs (by rw [Q0];rfl))
    | false =>
     rw [hvv] at hval
     rw [if_neg (by decide)]
     (repeat' first|(refine Qe ?_;(first|refine QI rfl ?_|refine QJ rfl ?_|(refine QB ?_;(first|refine WQ rfl rfl ?_|refine Qb rfl rfl rfl ?_))|(refine Qo ?_;(first|refine QY rfl rfl ?_|refine W8 rfl rfl ?_))|(refine Qp ?_;(first|refine Qz rfl ?_|refine QW rfl ?_|refine QZ rfl rfl (hval) ?_))|(refine QX ?_;(first|refine WK rfl rfl ?_|refine Wr rfl rfl ?_))|refine WR rfl rfl rfl rfl ?_|refine Wo rfl ?_|refine Qd rfl rfl ?_|refine QH rfl rfl ?_|refine Qv rfl rfl ?_))|(refine Qk ?_;(first|refine Qi ?_|refine QK rfl ?_|refine Q1 ?_|refine Wx rfl rfl rfl rfl ?_|refine W1 rfl rfl rfl rfl ?_|refine Q7 rfl rfl (by omega) ?_|refine Q2 rfl rfl (by omega) ?_))|(refine Qj ?_;(first|refine Ql ?_|refine Qc ?_|refine Qf ?_|refine Qh rfl ?_|refine Qm rfl ?_|refine Qn rfl (by omega) ?_|refine Wp rfl ?_|refine Qt ?_)))
     exact e_2 (Tryz.results23) (QA (size := 4) rfl rfl rfl rfl) (Qg rfl) (Zm (d2 := .tup [.agg [.i 0, .i 0, .i 0, .sl 4 []], .i 0]) (fun L v h => tup_nil h) (Qs (by show _ = DV.tup [.agg (Enc.enc zNd), _];unfold zNd;rw [Q0];rfl)))
end Go.Proofs
end
section
namespace Go.Proofs
open Go.Av Go.Bl
theorem drop_dw (p : UInt8 -> Bool) (u : List UInt8) : u.drop (u.length - (u.dropWhile p).length) = u.dropWhile p := by
 have h : u = u.takeWhile p ++ u.dropWhile p := (List.takeWhile_append_dropWhile ..).symm
 have hl : u.length = (u.takeWhile p).length + (u.dropWhile p).length := by rw [<- List.length_append, <- h]
 have e : u.length - (u.dropWhile p).length = (u.takeWhile p).length := by omega
 rw [e]
 have h2 := List.drop_left (l₁ := u.takeWhile p) (l₂ := u.dropWhile p)
 rwa [<- h] at h2
theorem scan_mem : ∀ (n : Nat) (u : List UInt8) (a : Nat), u.length = n -> (∀ x ∈ (Wy u a).1, a <= x.2 /\ x.2 + x.1.length <= a + u.length /\ Wk (u.drop (x.2 - a)) = x.1 /\ x.1 ≠ []) /\ a <= (Wy u a).2 /\ (Wy u a).2 <= a + u.length /\ Wk (u.drop ((Wy u a).2 - a)) = [] := by
 intro n
 induction n using Nat.strongRecOn with
 | _ n ih =>
 intro u a hu
 have hd := (List.dropWhile_sublist (l := u) spB).length_le
 have hdw := drop_dw spB u
 by_cases hf : Wk (u.dropWhile spB) = []
 ·rw [scan_nil hf]
  refine ⟨fun x hx => (by cases hx), by dsimp only;omega, by dsimp only;omega, ?_⟩
  dsimp only
  rw [show a + (u.length - (u.dropWhile spB).length) - a = u.length - (u.dropWhile spB).length by omega, hdw]
  exact hf
 ·have hle := qQ (u.dropWhile spB)
  have hpos : 1 <= (Wk (u.dropWhile spB)).length := by
   cases hq : Wk (u.dropWhile spB) with
   | nil => exact absurd hq hf
   | cons b q => simp
  rw [scan_cons rfl rfl hf rfl]
  generalize hr : u.dropWhile spB = r at *
  generalize ht : Wk r = t at *
  have hdl : (r.drop t.length).length = r.length - t.length := List.length_drop
  obtain ⟨i1, i2, i3, i4⟩ := ih _ (by rw [hdl];omega) (r.drop t.length) (a + (u.length - r.length) + t.length) rfl
  rw [hdl] at i1 i3
  have hdd : ∀ o, a + (u.length - r.length) + t.length <= o -> u.drop (o - a) = (r.drop t.length).drop (o - (a + (u.length - r.length) + t.length)) := fun o ho => by
   have key : ∀ m, r.drop m = u.drop (u.length - r.length + m) := fun m => by rw [<- List.drop_drop, hdw]
   rw [List.drop_drop, key]
   congr 1;omega
  refine ⟨fun x hx => ?_, by dsimp only;omega, by dsimp only;omega, ?_⟩
  ·rcases List.mem_cons.1 hx with rfl|hx
   ·refine ⟨by dsimp only;omega, by dsimp only;omega, ?_, hf⟩
    dsimp only
    rw [show a + (u.length - r.length) - a = u.length - r.length by omega, hdw]
    exact ht
   ·obtain ⟨j1, j2, j3, j4⟩ := i1 x hx
    refine ⟨by omega, by omega, ?_, j4⟩
    rw [hdd _ j1];exact j3
  ·dsimp only
   rw [hdd _ i2];exact i4
theorem err_law {q : Nat} {z : Nd} {s : List UInt8} {n : Nat} (h : (parseQ q z s).2 = (n : Int)) (h0 : 0 < n) (ht : Wk (s.drop n) ≠ []) (y : List UInt8) (hy : ∀ b ∈ y.head?, spB b = true) :
  (parseQ q z (s.take (n + (Wk (s.drop n)).length) ++ y)).2 ≠ -1 := by
 have hfl := qQ (s.drop n)
 rw [List.length_drop] at hfl
 have hpos : 1 <= (Wk (s.drop n)).length := by
  cases hq : Wk (s.drop n) with
  | nil => exact absurd hq ht
  | cons b q => simp
 obtain ⟨m1, m2, m3, m4⟩ := scan_mem _ s 0 rfl
 unfold parseQ at h
 by_cases h8 : 8192 < s.length
 ·rw [if_pos h8] at h
  have hn : n = 8192 := by
   have : (8192 : Int) = n := h
   omega
  unfold parseQ
  rw [if_pos (by rw [List.length_append, List.length_take];omega)]
  dsimp only;omega
 rw [if_neg h8] at h
 by_cases hb : (Zj (Wy s 0).1 z q).2.bad = true
 ·rw [if_pos hb] at h
  by_cases hp : (Zj (Wy s 0).1 z q).2.p < (Wy s 0).1.length
  ·rw [dif_pos hp] at h
   generalize hi : (Zj (Wy s 0).1 z q).2.p = i at *
   have hmem := m1 _ (List.getElem_mem hp)
   have hat : (Wy s 0).1[i].2 = n := by
    have : (((Wy s 0).1[i].2 : Nat) : Int) = n := h
    omega
   obtain ⟨k1, k2, k3, k4⟩ := hmem
   rw [hat, Nat.sub_zero] at k3
   rw [k3]
   have hget : (Wy s 0).1[i]? = some ((Wy s 0).1[i].1, n) := by
    rw [List.getElem?_eq_getElem hp, <- hat]
   obtain ⟨l1, l2, l3, l4⟩ := scan_loc i s (s.take (n + (Wy s 0).1[i].1.length) ++ y) y 0 _ n hget hy (by rw [Nat.sub_zero])
   generalize s.take (n + (Wy s 0).1[i].1.length) ++ y = v at *
   generalize (Wy s 0).1 = L at *
   have hag : Ag L (Wy v 0).1 i := by
    have hlen : i < (Wy v 0).1.length := by
     have := congrArg List.length l4
     rw [List.length_take, List.length_take] at this
     omega
    refine ⟨fun j hj => ?_, fun j hj => ⟨fun _ => by omega, fun _ => by omega⟩⟩
    have e : (Wy v 0).1[j]? = L[j]? := by
     have h1 : ((Wy v 0).1.take (i + 1))[j]? = (L.take (i + 1))[j]? := by rw [l4]
     rwa [List.getElem?_take, List.getElem?_take, if_pos (by omega), if_pos (by omega)] at h1
    rw [List.getD_eq_getElem?_getD, List.getD_eq_getElem?_getD, e]
   have hj := (J.prog (z := z) (z' := z) hag q (by rw [hi];exact Nat.le_refl _)).1
   unfold parseQ
   split
   ·dsimp only;omega
   ·rw [if_pos (by rw [hj];exact hb)]
    split
    ·dsimp only;omega
    ·dsimp only;omega
  ·rw [dif_neg hp] at h
   exfalso
   have : ((Wy s 0).2 : Int) = n := h
   have e : (Wy s 0).2 = n := by omega
   rw [e, Nat.sub_zero] at m4
   exact ht m4
 ·rw [if_neg hb] at h
  exfalso
  split at h
  ·have : ((Wy s 0).2 : Int) = n := h
   have e : (Wy s 0).2 = n := by omega
   rw [e, Nat.sub_zero] at m4
   exact ht m4
  ·split at h
   ·have : (-1 : Int) = n := h
    omega
   ·have : (0 : Int) = n := h
    omega
theorem parseQ_range (q : Nat) (z : Nd) (s : List UInt8) : -1 <= (parseQ q z s).2 /\ (parseQ q z s).2 <= 8192 := by
 obtain ⟨m1, m2, m3, m4⟩ := scan_mem _ s 0 rfl
 unfold parseQ
 by_cases h8 : 8192 < s.length
 ·rw [if_pos h8];dsimp only;omega
 rw [if_neg h8]
 split
 ·split
  ·rename_i hp
   have := m1 _ (List.getElem_mem hp)
   dsimp only;omega
  ·dsimp only;omega
 ·split
  ·dsimp only;omega
  ·split
   ·dsimp only;omega
   ·dsimp only;omega
def moreT (t o : List UInt8) : List (List UInt8) := [[], t ++ [32] ++ t, o, [40] ++ t ++ [41], [118, 49], [55], [45], [48, 120], [49, 50, 51, 52], [35], [48, 48, 55], [45, 48], [118, 48, 49], [101, 108, 115, 101], [57]]
theorem moreT_len (t o : List UInt8) : ∀ x ∈ moreT t o, x.length <= 2 * t.length + o.length + 4 := by
 intro x hx
 unfold moreT at hx
 simp only [List.mem_cons, List.not_mem_nil, or_false] at hx
 rcases hx with rfl|rfl|rfl|rfl|rfl|rfl|rfl|rfl|rfl|rfl|rfl|rfl|rfl|rfl|rfl
 all_goals try simp only [List.length_append, List.length_cons, List.length_nil]
 all_goals omega
def simT : Nd -> List UInt8
 | .mk k n m ks =>
  if k = 14 then (if Q3 m ks.length 1 = true then [118] ++ Lib.itoa n ++ [32, 61, 32] ++ WO (ks.map exT) else []) else
  if k = 15 then (if Q3 m ks.length 2 = true then [118] ++ Lib.itoa n ++ [91] ++ (ks.map exT).getD 0 [] ++ [93, 32, 61, 32] ++ (ks.map exT).getD 1 [] else []) else
  if k = 16 then (if ks.length = 1 then [118] ++ Lib.itoa n ++ [46] ++ Lib.itoa m ++ [32, 61, 32] ++ WO (ks.map exT) else []) else
  if k = 19 then (if WJ n m ks.length 1 = true then [114, 101, 116, 117, 114, 110, 32] ++ WO (ks.map exT) else []) else
  if k = 20 then (if WJ n m ks.length 1 = true then [116, 104, 114, 111, 119, 32] ++ WO (ks.map exT) else []) else
  if k = 24 then (if WJ n m ks.length 1 = true then [111, 117, 116, 32] ++ WO (ks.map exT) else []) else
  if k = 25 then (if WJ n m ks.length 0 = true then [115, 107, 105, 112] else []) else
  if k = 22 then (if Q3 m ks.length 1 = true then [115, 101, 110, 100, 32, 99] ++ Lib.itoa n ++ [32] ++ WO (ks.map exT) else []) else
  if k = 23 then (if Q3 m ks.length (-1) = true then [115, 112, 97, 119, 110, 32, 102] ++ Lib.itoa n ++ [40] ++ WO (ks.map exT) ++ [41] else []) else []
def ZA : Nd -> Bool
 | .mk k n m ks =>
  if k = 14 then Q3 m ks.length 1 && WX n && ks.all Zs else if k = 15 then Q3 m ks.length 2 && WX n && ks.all Zs else if k = 16 then decide (ks.length = 1) && WX n && WX m && ks.all Zs else
  if k = 19 then WJ n m ks.length 1 && ks.all Zs else if k = 20 then WJ n m ks.length 1 && ks.all Zs else if k = 24 then WJ n m ks.length 1 && ks.all Zs else if k = 25 then WJ n m ks.length 0 else
  if k = 22 then Q3 m ks.length 1 && WX n && ks.all Zs else if k = 23 then Q3 m ks.length (-1) && WX n && ks.all Zs else false
theorem exs_len {ks : List Nd} (h : okL ks) : ∀ x ∈ ks, (exT x).length + 2 <= 60 * Qx x := fun x hx => qK x (Ws h hx)
theorem getD2_len {ks : List Nd} (h : okL ks) (h2 : ks.length = 2) : ((ks.map exT).getD 0 []).length + ((ks.map exT).getD 1 []).length <= 60 * QQ ks := by
 match ks, h2 with
 | [a, b], _ =>
  have ha := exs_len h a (by simp)
  have hb := exs_len h b (by simp)
  simp only [List.map_cons, List.map_nil, List.getD_cons_zero, List.getD_cons_succ, QQ];omega
theorem simT_len (t : Nd) (hok : okN t) : (simT t).length <= 60 * Qx t := by
 obtain ⟨k, n, m, ks⟩ := t
 rw [okN] at hok
 have hn := W5 hok.1.2.1
 have hm := W5 hok.1.2.2
 have hs := ZO exT ks (exs_len hok.2)
 have h2 : Q3 m ks.length 2 = true -> ((ks.map exT).getD 0 []).length + ((ks.map exT).getD 1 []).length <= 60 * QQ ks := fun h => getD2_len hok.2 (by simp [Q3] at h;omega)
 rw [simT]
 rw [Qx]
 repeat' split
 all_goals (try have h2 := h2 (by assumption));simp only [List.length_append, List.length_cons, List.length_nil];omega
def ZR (i : Nat) (s : List UInt8) : List UInt8 := Lib.repeatL [32, 32] i ++ s ++ [10]
theorem Wh (i : Nat) (s : List UInt8) : (ZR i s).length = 2 * i + s.length + 1 := by
 unfold ZR
 rw [List.length_append, List.length_append, Lib.repeatL_length]
 show i * 2 + s.length + 1 = _
 omega
abbrev sOpen : List UInt8 := [123]
abbrev sClose : List UInt8 := [125]
abbrev sElse : List UInt8 := [125, 32, 101, 108, 115, 101, 32, 123]
abbrev sIf : List UInt8 := [105, 102, 32]
abbrev sWhile : List UInt8 := [119, 104, 105, 108, 101, 32]
abbrev sTry : List UInt8 := [116, 114, 121, 32, 123]
abbrev sCatch : List UInt8 := [125, 32, 99, 97, 116, 99, 104, 32, 118]
abbrev sBr : List UInt8 := [32, 123]
mutual
def stT : Nd -> Nat -> List UInt8
 | .mk k n m ks, i =>
  if k = 13 then ZR i sOpen ++ (if WJ n m ks.length (-1) = true then stTs ks (i + 1) else []) ++ ZR i sClose else
  if k = 17 /\ WJ n m ks.length 3 = true then ZR i (sIf ++ (ks.map exT).getD 0 [] ++ sBr) ++ (inTs ks i).getD 1 [] ++ ZR i sElse ++ (inTs ks i).getD 2 [] ++ ZR i sClose else
  if k = 18 /\ WJ n m ks.length 2 = true then ZR i (sWhile ++ (ks.map exT).getD 0 [] ++ sBr) ++ (inTs ks i).getD 1 [] ++ ZR i sClose else
  if k = 21 /\ Q3 m ks.length 2 = true then ZR i sTry ++ (inTs ks i).getD 0 [] ++ ZR i (sCatch ++ Lib.itoa n ++ sBr) ++ (inTs ks i).getD 1 [] ++ ZR i sClose else
  ZR i (simT (.mk k n m ks))
def stTs : List Nd -> Nat -> List UInt8
 | [], _ => []
 | x :: r, i => stT x i ++ stTs r i
def inT : Nd -> Nat -> List UInt8
 | .mk k n m ks, i => if (decide (k = 13) && WJ n m ks.length (-1)) = true then stTs ks (i + 1) else []
def inTs : List Nd -> Nat -> List (List UInt8)
 | [], _ => []
 | x :: r, i => inT x i :: inTs r i
end
theorem inTs_eq (i : Nat) : ∀ ks, inTs ks i = ks.map fun x => inT x i
 | [] => rfl
 | x :: r => by rw [inTs, inTs_eq i r];rfl
mutual
def qh : Nd -> Bool
 | .mk k n m ks =>
  if k = 13 then WJ n m ks.length (-1) && stOks ks else
  if k = 17 then WJ n m ks.length 3 && (ks.map Zs).getD 0 false && (inOks ks).getD 1 false && (inOks ks).getD 2 false else
  if k = 18 then WJ n m ks.length 2 && (ks.map Zs).getD 0 false && (inOks ks).getD 1 false else
  if k = 21 then Q3 m ks.length 2 && WX n && (inOks ks).getD 0 false && (inOks ks).getD 1 false else ZA (.mk k n m ks)
def stOks : List Nd -> Bool
 | [] => true
 | x :: r => qh x && stOks r
def inOk : Nd -> Bool
 | .mk k n m ks => decide (k = 13) && WJ n m ks.length (-1) && stOks ks
def inOks : List Nd -> List Bool
 | [] => []
 | x :: r => inOk x :: inOks r
end
theorem ql : ∀ ks, inOks ks = ks.map inOk
 | [] => rfl
 | x :: r => by rw [inOks, ql r];rfl
theorem stOks_eq : ∀ ks, stOks ks = ks.all qh
 | [] => rfl
 | x :: r => by rw [stOks, stOks_eq r];rfl
theorem stTs_app (a b : List Nd) (i : Nat) : stTs (a ++ b) i = stTs a i ++ stTs b i := by
 induction a with
 | nil => simp [stTs]
 | cons x r ih => rw [List.cons_append, stTs, stTs, ih, List.append_assoc]
theorem stTs_take {ks : List Nd} {j : Nat} (h : j < ks.length) (i : Nat) : stTs (ks.take (j + 1)) i = stTs (ks.take j) i ++ stT ks[j] i := by
 rw [List.take_succ_eq_append_getElem h, stTs_app, stTs, stTs, List.append_nil]
theorem stOks_take {ks : List Nd} {j : Nat} (h : j < ks.length) : stOks (ks.take (j + 1)) = (stOks (ks.take j) && qh ks[j]) := by
 rw [stOks_eq, stOks_eq, List.take_succ_eq_append_getElem h, List.all_append];simp
def bnd (i s : Nat) : Nat := (6 * (i + s) + 100) * s
theorem stTs_len {C : Nat} : ∀ (ks : List Nd) (i : Nat), (∀ x ∈ ks, (stT x i).length <= C * Qx x) -> (stTs ks i).length <= C * QQ ks
 | [], i, _ => by simp [stTs]
 | x :: r, i, h => by
  have h1 := h x (by simp)
  have h2 := stTs_len r i fun y hy => h y (by simp [hy])
  rw [stTs, QQ, List.length_append, Nat.mul_add];omega
theorem getD_map_le {ks : List Nd} {f : Nd -> List UInt8} {C : Nat} (h : ∀ x ∈ ks, (f x).length <= C * Qx x) (j : Nat) (hj : j < ks.length) : ((ks.map f).getD j []).length <= C * Qx ks[j] := by
 rw [List.getD_eq_getElem?_getD, List.getElem?_map, List.getElem?_eq_getElem hj]
 exact h _ (List.getElem_mem hj)
theorem st_len (t : Nd) : okN t -> ∀ i, (stT t i).length <= bnd i (Qx t) /\ (inT t i).length <= (6 * (i + Qx t) + 100) * (Qx t - 1) := by
 induction t using Nd.ind with
 | h k n m ks ih =>
 intro hok0 i
 have hsim := simT_len (.mk k n m ks) hok0
 have hok := hok0
 rw [okN] at hok
 have hn := W5 hok.1.2.1
 rw [Qx] at hsim ⊢
 have hin : (stTs ks (i + 1)).length <= (6 * (i + (1 + QQ ks)) + 100) * QQ ks := by
  refine stTs_len ks (i + 1) fun x hx => ?_
  refine Nat.le_trans (ih x hx (Ws hok.2 hx) (i + 1)).1 (Nat.mul_le_mul ?_ (Nat.le_refl _))
  have := Q9 hx;omega
 have hC : (6 * (i + (1 + QQ ks)) + 100) * (1 + QQ ks) = (6 * (i + (1 + QQ ks)) + 100) + (6 * (i + (1 + QQ ks)) + 100) * QQ ks := by rw [Nat.mul_add, Nat.mul_one]
 have hex : ∀ x ∈ ks, (exT x).length <= (6 * (i + (1 + QQ ks)) + 100) * Qx x := fun x hx => by
  have := exs_len hok.2 x hx
  have : 60 * Qx x <= (6 * (i + (1 + QQ ks)) + 100) * Qx x := Nat.mul_le_mul (by omega) (Nat.le_refl _)
  omega
 have hib : ∀ x ∈ ks, (inT x i).length <= (6 * (i + (1 + QQ ks)) + 100) * Qx x := fun x hx => by
  refine Nat.le_trans (ih x hx (Ws hok.2 hx) i).2 (Nat.mul_le_mul ?_ (by omega))
  have := Q9 hx;omega
 have h60 : 60 * (1 + QQ ks) <= 60 + (6 * (i + (1 + QQ ks)) + 100) * QQ ks := by
  have : 60 * QQ ks <= (6 * (i + (1 + QQ ks)) + 100) * QQ ks := Nat.mul_le_mul (by omega) (Nat.le_refl _)
  omega
 have h2 : ks.length = 2 -> ((6 * (i + (1 + QQ ks)) + 100) * Qx (ks.getD 0 (.mk 0 0 0 [])) + (6 * (i + (1 + QQ ks)) + 100) * Qx (ks.getD 1 (.mk 0 0 0 []))) <= (6 * (i + (1 + QQ ks)) + 100) * QQ ks := fun h => by
  match ks, h with
  | [a, b], _ =>
   rw [<- Nat.mul_add]
   refine Nat.mul_le_mul (Nat.le_refl _) ?_
   show Qx a + Qx b <= _
   rw [QQ, QQ, QQ];omega
 have h3 : ks.length = 3 -> ((6 * (i + (1 + QQ ks)) + 100) * Qx (ks.getD 0 (.mk 0 0 0 [])) + (6 * (i + (1 + QQ ks)) + 100) * Qx (ks.getD 1 (.mk 0 0 0 [])) + (6 * (i + (1 + QQ ks)) + 100) * Qx (ks.getD 2 (.mk 0 0 0 []))) <= (6 * (i + (1 + QQ ks)) + 100) * QQ ks := fun h => by
  match ks, h with
  | [a, b, c], _ =>
   rw [<- Nat.mul_add, <- Nat.mul_add]
   refine Nat.mul_le_mul (Nat.le_refl _) ?_
   show Qx a + Qx b + Qx c <= _
   rw [QQ, QQ, QQ, QQ];omega
 have gx : ∀ j, j < ks.length -> ((ks.map exT).getD j []).length <= (6 * (i + (1 + QQ ks)) + 100) * Qx (ks.getD j (.mk 0 0 0 [])) := fun j hj => by
  have := getD_map_le hex j hj
  rwa [List.getD_eq_getElem?_getD (l := ks), List.getElem?_eq_getElem hj]
 have gi : ∀ j, j < ks.length -> ((inTs ks i).getD j []).length <= (6 * (i + (1 + QQ ks)) + 100) * Qx (ks.getD j (.mk 0 0 0 [])) := fun j hj => by
  rw [inTs_eq]
  have := getD_map_le hib j hj
  rwa [List.getD_eq_getElem?_getD (l := ks), List.getElem?_eq_getElem hj]
 refine ⟨?_, ?_⟩
 ·rw [stT]
  unfold bnd
  rw [hC]
  generalize (6 * (i + (1 + QQ ks)) + 100) * QQ ks = W at *
  clear ih hex hib hok hok0
  split
  ·split
   ·simp only [List.length_append, Wh, List.length_cons, List.length_nil];omega
   ·simp only [List.length_append, Wh, List.length_cons, List.length_nil];omega
  split
  ·rename_i h
   have hl : ks.length = 3 := by have := h.2;simp [WJ, Q3] at this;omega
   have e0 := gx 0 (by omega)
   have e1 := gi 1 (by omega)
   have e2 := gi 2 (by omega)
   have := h3 hl
   simp only [List.length_append, Wh, List.length_cons, List.length_nil];omega
  split
  ·rename_i h
   have hl : ks.length = 2 := by have := h.2;simp [WJ, Q3] at this;omega
   have e0 := gx 0 (by omega)
   have e1 := gi 1 (by omega)
   have := h2 hl
   simp only [List.length_append, Wh, List.length_cons, List.length_nil];omega
  split
  ·rename_i h
   have hl : ks.length = 2 := by have := h.2;simp [Q3] at this;omega
   have e0 := gi 0 (by omega)
   have e1 := gi 1 (by omega)
   have := h2 hl
   simp only [List.length_append, Wh, List.length_cons, List.length_nil];omega
  ·rw [Wh];omega
 ·rw [inT]
  split
  ·rw [Nat.add_sub_cancel_left];exact hin
  ·simp
def funT : Nd -> List UInt8
 | .mk k n m ks =>
  if (decide (k = 26) && decide (0 < ks.length) && Q3 m ks.length (-1)) = true then
   ZR 0 ([102, 117, 110, 32] ++ Lib.itoa n ++ [32, 40] ++ WO ((ks.take (ks.length - 1)).map qv) ++ [41, 32, 123]) ++ (inT (ks.getD (ks.length - 1) (.mk 0 0 0 [])) 0 ++ ZR 0 sClose)
  else []
def ZF : Nd -> Bool
 | .mk k n m ks => decide (k = 26) && decide (0 < ks.length) && Q3 m ks.length (-1) && WX n && (ks.take (ks.length - 1)).all ZH && inOk (ks.getD (ks.length - 1) (.mk 0 0 0 []))
def prT : Nd -> List UInt8
 | .mk k n m ks =>
  if k = 27 then ZR 0 ([112, 114, 111, 103, 114, 97, 109, 32] ++ Lib.itoa n) ++ (ks.map funT).flatten else
  if k = 26 then funT (.mk k n m ks) else if 0 <= k /\ k <= 3 then qv (.mk k n m ks) else if 4 <= k /\ k <= 12 then exT (.mk k n m ks) else stT (.mk k n m ks) 0
def prOk : Nd -> Bool
 | .mk k n m ks =>
  if k = 27 then Q3 m ks.length (-1) && WX n && ks.all ZF else
  if k = 26 then ZF (.mk k n m ks) else if 0 <= k /\ k <= 3 then ZH (.mk k n m ks) else if 4 <= k /\ k <= 12 then Zs (.mk k n m ks) else qh (.mk k n m ks)
def ZD (t : Nd) : List UInt8 := if prOk t = true then prT t else []
theorem Z8 (f : Nd -> List UInt8) {M : Nat} (ks : List Nd) (j : Nat) (h : ∀ x ∈ ks, (f x).length + 2 <= M * Qx x) : (WO ((ks.take j).map f)).length <= M * QQ (ks.take j) := ZO f _ fun x hx => h x (List.mem_of_mem_take hx)
theorem sizeL_last {ks : List Nd} (h : 0 < ks.length) : QQ (ks.take (ks.length - 1)) + Qx (ks.getD (ks.length - 1) (.mk 0 0 0 [])) = QQ ks := by
 have h1 := qG ks (ks.length - 1) (by omega)
 rw [show ks.length - 1 + 1 = ks.length by omega, List.take_length] at h1
 rw [List.getD_eq_getElem?_getD, List.getElem?_eq_getElem (show ks.length - 1 < ks.length by omega)]
 exact h1.symm
theorem last_mem {ks : List Nd} (h : 0 < ks.length) : ks.getD (ks.length - 1) (.mk 0 0 0 []) ∈ ks := by
 rw [List.getD_eq_getElem?_getD, List.getElem?_eq_getElem (show ks.length - 1 < ks.length by omega)]
 exact List.getElem_mem _
theorem funT_len (t : Nd) (hok : okN t) (hs : Qx t <= 1000000) : (funT t).length <= 7000000 * Qx t := by
 obtain ⟨k, n, m, ks⟩ := t
 rw [okN] at hok
 rw [Qx] at hs ⊢
 have hn := W5 hok.1.2.1
 rw [funT]
 split
 ·rename_i h
  have hk : 0 < ks.length := by simp at h;omega
  have hl := sizeL_last hk
  have hb := (st_len _ (Ws hok.2 (last_mem hk)) 0).2
  have hc := Z8 qv (M := 30) ks (ks.length - 1) fun x hx => qL x (Ws hok.2 hx)
  generalize ks.getD (ks.length - 1) (.mk 0 0 0 []) = b at *
  have hb2 : (6 * (0 + Qx b) + 100) * (Qx b - 1) <= 7000000 * (Qx b - 1) := Nat.mul_le_mul (by omega) (Nat.le_refl _)
  simp only [List.length_append, Wh, List.length_cons, List.length_nil]
  omega
 ·simp
theorem funs_len : ∀ (ks : List Nd), okL ks -> QQ ks <= 1000000 -> ((ks.map funT).flatten).length <= 7000000 * QQ ks
 | [], _, _ => by simp
 | x :: r, h, hs => by
  rw [okL] at h
  rw [QQ] at hs
  have h1 := funT_len x h.1 (by omega)
  have h2 := funs_len r h.2 (by omega)
  rw [List.map_cons, List.flatten_cons, List.length_append, QQ, Nat.mul_add];omega
theorem flatten_take {ks : List Nd} {j : Nat} (f : Nd -> List UInt8) (h : j < ks.length) : ((ks.take (j + 1)).map f).flatten = ((ks.take j).map f).flatten ++ f ks[j] := by
 rw [List.take_succ_eq_append_getElem h, List.map_append, List.flatten_append];simp
def strs (l : List (List UInt8)) : List Str := l.map Str.mk
theorem qa (l : List (List UInt8)) : (strs l).length = l.length := List.length_map _
theorem strs_app (a b : List (List UInt8)) : strs (a ++ b) = strs a ++ strs b := List.map_append
def ind (l : List (List UInt8)) : List (List UInt8) := l.map fun s => [32, 32] ++ s
mutual
def stL : Nd -> List (List UInt8)
 | .mk k n m ks =>
  if k = 13 then sOpen :: (ind (stsL ks) ++ [sClose]) else
  if k = 17 then (sIf ++ (ks.map exT).getD 0 [] ++ sBr) :: ((insL ks).getD 1 [] ++ sElse :: ((insL ks).getD 2 [] ++ [sClose])) else
  if k = 18 then (sWhile ++ (ks.map exT).getD 0 [] ++ sBr) :: ((insL ks).getD 1 [] ++ [sClose]) else
  if k = 21 then sTry :: ((insL ks).getD 0 [] ++ (sCatch ++ Lib.itoa n ++ sBr) :: ((insL ks).getD 1 [] ++ [sClose])) else [simT (.mk k n m ks)]
def stsL : List Nd -> List (List UInt8)
 | [] => []
 | x :: r => stL x ++ stsL r
def inL : Nd -> List (List UInt8)
 | .mk k n m ks => ind (stsL ks)
def insL : List Nd -> List (List (List UInt8))
 | [] => []
 | x :: r => inL x :: insL r
end
theorem insL_eq : ∀ ks, insL ks = ks.map inL
 | [] => rfl
 | x :: r => by rw [insL, insL_eq r];rfl
theorem stsL_app (a b : List Nd) : stsL (a ++ b) = stsL a ++ stsL b := by
 induction a with
 | nil => simp [stsL]
 | cons x r ih => rw [List.cons_append, stsL, stsL, ih, List.append_assoc]
theorem stsL_take {ks : List Nd} {j : Nat} (h : j < ks.length) : stsL (ks.take (j + 1)) = stsL (ks.take j) ++ stL ks[j] := by
 rw [List.take_succ_eq_append_getElem h, stsL_app, stsL, stsL, List.append_nil]
theorem ind_app (a b : List (List UInt8)) : ind (a ++ b) = ind a ++ ind b := List.map_append
theorem ind_len (a : List (List UInt8)) : (ind a).length = a.length := List.length_map _
def Z2 (i : Nat) (l : List (List UInt8)) : List UInt8 := (l.map (ZR i)).flatten
theorem Z6 (i : Nat) (a b : List (List UInt8)) : Z2 i (a ++ b) = Z2 i a ++ Z2 i b := by unfold Z2;rw [List.map_append, List.flatten_append]
theorem qt (i : Nat) (a : List UInt8) (b : List (List UInt8)) : Z2 i (a :: b) = ZR i a ++ Z2 i b := by unfold Z2;rw [List.map_cons, List.flatten_cons]
theorem repeat_succ (s : List UInt8) (i : Nat) : Lib.repeatL s (i + 1) = Lib.repeatL s i ++ s := by
 induction i with
 | zero => simp [Lib.repeatL]
 | succ i ih =>
  show s ++ Lib.repeatL s (i + 1) = (s ++ Lib.repeatL s i) ++ s
  rw [ih, List.append_assoc]
theorem line_ind (i : Nat) (s : List UInt8) : ZR (i + 1) s = ZR i ([32, 32] ++ s) := by
 unfold ZR
 rw [repeat_succ];simp
theorem joinN_ind (i : Nat) (l : List (List UInt8)) : Z2 i (ind l) = Z2 (i + 1) l := by
 unfold Z2 ind
 rw [List.map_map]
 congr 1
 refine List.map_congr_left fun s _ => ?_
 exact (line_ind i s).symm
theorem st_lines (t : Nd) : ∀ i, (qh t = true -> stT t i = Z2 i (stL t)) /\ (inOk t = true -> inT t i = Z2 i (inL t)) := by
 induction t using Nd.ind with
 | h k n m ks ih =>
 intro i
 have hsts : ∀ i, stOks ks = true -> stTs ks i = Z2 i (stsL ks) := fun j => by
  clear i
  induction ks with
  | nil => intro _;simp [stTs, stsL, Z2]
  | cons x r ihr =>
   intro h
   rw [stOks] at h
   simp only [Bool.and_eq_true] at h
   rw [stTs, stsL, Z6, (ih x (by simp) j).1 h.1, ihr (fun y hy => ih y (by simp [hy])) h.2]
 have hin : inOk (.mk k n m ks) = true -> inT (.mk k n m ks) i = Z2 i (inL (.mk k n m ks)) := fun h => by
  rw [inOk] at h
  simp only [Bool.and_eq_true, decide_eq_true_eq] at h
  rw [inT, inL, joinN_ind, if_pos (by simp [h.1.1, h.1.2]), hsts _ h.2]
 refine ⟨fun h => ?_, hin⟩
 have hi2 : ∀ j, j < ks.length -> (ks.map inOk).getD j false = true -> (ks.map fun x => inT x i).getD j [] = Z2 i ((ks.map inL).getD j []) := fun j hj hb => by
  rw [List.getD_eq_getElem?_getD, List.getElem?_map, List.getElem?_eq_getElem hj] at *
  rw [List.getD_eq_getElem?_getD, List.getElem?_map, List.getElem?_eq_getElem hj]
  exact (ih _ (List.getElem_mem hj) i).2 hb
 have hlen : ∀ j, (ks.map inOk).getD j false = true -> j < ks.length := fun j hb => by
  rcases Nat.lt_or_ge j ks.length with h|h
  ·exact h
  ·rw [List.getD_eq_getElem?_getD, List.getElem?_eq_none (by simpa using h)] at hb;cases hb
 rw [qh, ql] at h
 rw [stT, stL, inTs_eq, insL_eq]
 by_cases k13 : k = 13
 ·rw [if_pos k13] at h ⊢
  rw [if_pos k13]
  simp only [Bool.and_eq_true] at h
  rw [if_pos h.1, qt, Z6, joinN_ind, hsts _ h.2]
  simp [Z2]
 rw [if_neg k13] at h ⊢
 rw [if_neg k13]
 by_cases k17 : k = 17
 ·rw [if_pos k17] at h
  simp only [Bool.and_eq_true] at h
  rw [if_pos ⟨k17, h.1.1.1⟩, if_pos k17, hi2 1 (hlen _ h.1.2) h.1.2, hi2 2 (hlen _ h.2) h.2, qt, Z6, qt, Z6]
  simp [Z2]
 rw [if_neg k17] at h
 rw [if_neg (fun h => k17 h.1), if_neg k17]
 by_cases k18 : k = 18
 ·rw [if_pos k18] at h
  simp only [Bool.and_eq_true] at h
  rw [if_pos ⟨k18, h.1.1⟩, if_pos k18, hi2 1 (hlen _ h.2) h.2, qt, Z6]
  simp [Z2]
 rw [if_neg k18] at h
 rw [if_neg (fun h => k18 h.1), if_neg k18]
 by_cases k21 : k = 21
 ·rw [if_pos k21] at h
  simp only [Bool.and_eq_true] at h
  rw [if_pos ⟨k21, h.1.1.1⟩, if_pos k21, hi2 0 (hlen _ h.1.2) h.1.2, hi2 1 (hlen _ h.2) h.2, qt, Z6, qt, Z6]
  simp [Z2]
 rw [if_neg (fun h => k21 h.1), if_neg k21]
 simp [Z2]
theorem getD_sum {ks : List Nd} (f : Nd -> List (List UInt8)) {C : Nat} (h : ∀ x ∈ ks, (f x).length <= C * Qx x) : ((ks.map f).getD 1 []).length + ((ks.map f).getD 2 []).length <= C * QQ ks /\ ((ks.map f).getD 0 []).length + ((ks.map f).getD 1 []).length <= C * QQ ks := by
 match ks with
 | [] => simp
 | [a] => have := h a (by simp);simp [QQ];omega
 | [a, b] => have h1 := h a (by simp);have h2 := h b (by simp);simp [QQ, Nat.mul_add];omega
 | a :: b :: c :: r => have h1 := h a (by simp);have h2 := h b (by simp);have h3 := h c (by simp);simp [QQ, Nat.mul_add];omega
theorem stL_len (t : Nd) : (stL t).length <= 3 * Qx t /\ (inL t).length <= 3 * (Qx t - 1) := by
 induction t using Nd.ind with
 | h k n m ks ih =>
 have hs : (stsL ks).length <= 3 * QQ ks := by
  clear k n m
  induction ks with
  | nil => simp [stsL]
  | cons x r ihr =>
   have h1 := (ih x (by simp)).1
   have h2 := ihr fun y hy => ih y (by simp [hy])
   rw [stsL, QQ, List.length_append];omega
 have hg := getD_sum (ks := ks) inL (C := 3) fun x hx => Nat.le_trans (ih x hx).2 (by omega)
 refine ⟨?_, by rw [inL, ind_len, Qx];omega⟩
 rw [stL, Qx, insL_eq]
 repeat' split
 ·simp only [List.length_cons, List.length_append, ind_len, List.length_nil];omega
 ·simp only [List.length_cons, List.length_append, List.length_nil];omega
 ·simp only [List.length_cons, List.length_append, List.length_nil];omega
 ·simp only [List.length_cons, List.length_append, List.length_nil];omega
 ·simp only [List.length_cons, List.length_nil];omega
theorem getD_line {ks : List Nd} (f : Nd -> List (List UInt8)) {C : Nat} (h : ∀ x ∈ ks, ∀ s ∈ f x, s.length <= C * Qx x) (j : Nat) : ∀ s ∈ (ks.map f).getD j [], s.length <= C * QQ ks := fun s hs => by
 rw [List.getD_eq_getElem?_getD, List.getElem?_map] at hs
 rcases Nat.lt_or_ge j ks.length with hj|hj
 ·rw [List.getElem?_eq_getElem hj] at hs
  exact Nat.le_trans (h _ (List.getElem_mem hj) s hs) (Nat.mul_le_mul (Nat.le_refl _) (Q9 (List.getElem_mem hj)))
 ·rw [List.getElem?_eq_none hj] at hs;cases hs
theorem stL_line (t : Nd) : okN t -> (∀ s ∈ stL t, s.length <= 100 * Qx t) /\ (∀ s ∈ inL t, s.length <= 100 * Qx t) := by
 induction t using Nd.ind with
 | h k n m ks ih =>
 intro hok
 have hsim := simT_len (.mk k n m ks) hok
 rw [okN] at hok
 have hn := W5 hok.1.2.1
 have hs : ∀ s ∈ stsL ks, s.length <= 100 * QQ ks := by
  have hok2 := hok.2
  clear hok hn hsim k n m
  induction ks with
  | nil => intro s hs;simp [stsL] at hs
  | cons x r ihr =>
   rw [okL] at hok2
   intro s hs
   rw [stsL, List.mem_append] at hs
   rw [QQ]
   rcases hs with hs|hs
   ·have := (ih x (by simp) hok2.1).1 s hs;omega
   ·have := ihr (fun y hy => ih y (by simp [hy])) hok2.2 s hs;omega
 have hsi : ∀ s ∈ ind (stsL ks), s.length <= 100 * (1 + QQ ks) := fun s h => by
  unfold ind at h
  obtain ⟨u, hu, rfl⟩ := List.mem_map.1 h
  have := hs u hu
  simp;omega
 have hg := fun j => getD_line (ks := ks) inL (C := 100) (fun x hx => (ih x hx (Ws hok.2 hx)).2) j
 have hx : ((ks.map exT).getD 0 []).length <= 60 * QQ ks := by
  match ks with
  | [] => simp
  | a :: r =>
   have h1 := qK a (Ws hok.2 (by simp))
   have h2 := Q9 (show a ∈ a :: r by simp)
   show (exT a).length <= _
   omega
 rw [Qx] at hsim
 refine ⟨?_, by rw [inL, Qx];exact hsi⟩
 have c1 : sOpen.length = 1 := rfl
 have c2 : sClose.length = 1 := rfl
 have c3 : sElse.length = 8 := rfl
 have c4 : sIf.length = 3 := rfl
 have c5 : sWhile.length = 6 := rfl
 have c6 : sTry.length = 5 := rfl
 have c7 : sCatch.length = 9 := rfl
 have c8 : sBr.length = 2 := rfl
 rw [stL, Qx, insL_eq]
 intro s hs
 split at hs
 ·simp only [List.mem_cons, List.mem_append, List.not_mem_nil, or_false] at hs
  rcases hs with rfl|hs|rfl
  ·omega
  ·exact hsi s hs
  ·omega
 split at hs
 ·simp only [List.mem_cons, List.mem_append, List.not_mem_nil, or_false] at hs
  rcases hs with rfl|hs|rfl|hs|rfl
  ·simp only [List.length_append];omega
  ·have := hg 1 s hs;omega
  ·omega
  ·have := hg 2 s hs;omega
  ·omega
 split at hs
 ·simp only [List.mem_cons, List.mem_append, List.not_mem_nil, or_false] at hs
  rcases hs with rfl|hs|rfl
  ·simp only [List.length_append];omega
  ·have := hg 1 s hs;omega
  ·omega
 split at hs
 ·simp only [List.mem_cons, List.mem_append, List.not_mem_nil, or_false] at hs
  rcases hs with rfl|hs|rfl|hs|rfl
  ·omega
  ·have := hg 0 s hs;omega
  ·simp only [List.length_append];omega
  ·have := hg 1 s hs;omega
  ·omega
 ·simp only [List.mem_cons, List.not_mem_nil, or_false] at hs
  subst hs;omega
theorem Zo {k n m : Int} {ks : List Nd} {w : Int} (s : Sh) (hs : shapesL.getD k.toNat noSh = s) (hk : 0 <= k /\ k < 28 /\ k ≠ 26) (hi : isB s w = true) (hn : s.low <= n /\ n <= s.high) (hm : 0 <= m /\ m <= s.last) (hc : s.least <= (ks.length : Int) - (s.kids.length : Int) /\ (ks.length : Int) - (s.kids.length : Int) <= s.more) (hw : ∀ i (h : i < ks.length), WG ks[i] (wantK s i) = true) : WG (.mk k n m ks) w = true := by
 rw [WG, if_pos ⟨hk.1, hk.2.1⟩, if_neg hk.2.2, hs, hi, fitsF_eq]
 have h1 : rngB s n m = true := by unfold rngB;simp [hn, hm]
 have h2 : cntB s ks.length = true := by unfold cntB;simp [hc]
 have h3 : kidsB s (ks.map WG) = true := by
  unfold kidsB
  rw [allI_iff]
  intro i hi
  rw [List.length_map] at hi
  rw [qk ks WG hi]
  exact hw i hi
 rw [h1, h2, h3];rfl
theorem kids1 {x : Nd} {s : Sh} (h : WG x (wantK s 0) = true) : ∀ i (h : i < [x].length), WG [x][i] (wantK s i) = true := fun i hi => by
 match i, hi with
 | 0, _ => exact h
theorem kids2 {x y : Nd} {s : Sh} (h : WG x (wantK s 0) = true) (h2 : WG y (wantK s 1) = true) : ∀ i (h : i < [x, y].length), WG [x, y][i] (wantK s i) = true := fun i hi => by
 match i, hi with
 | 0, _ => exact h
 | 1, _ => exact h2
theorem kids3 {x y z : Nd} {s : Sh} (h : WG x (wantK s 0) = true) (h2 : WG y (wantK s 1) = true) (h3 : WG z (wantK s 2) = true) : ∀ i (h : i < [x, y, z].length), WG [x, y, z][i] (wantK s i) = true := fun i hi => by
 match i, hi with
 | 0, _ => exact h
 | 1, _ => exact h2
 | 2, _ => exact h3
theorem kids0 {s : Sh} : ∀ i (h : i < ([] : List Nd).length), WG ([] : List Nd)[i] (wantK s i) = true := fun i hi => by simp at hi
theorem kidsA {ks : List Nd} {s : Sh} (hk : s.kids = []) (h : ∀ x ∈ ks, WG x s.som = true) : ∀ i (h : i < ks.length), WG ks[i] (wantK s i) = true := fun i hi => by
 unfold wantK
 rw [hk, if_neg (by simp)]
 exact h _ (List.getElem_mem hi)
theorem qD {x : Nd} : WC [x] = WB x := by simp [WC]
theorem qR {x y : Nd} : WC [x, y] = max (WB x) (WB y) := by simp [WC]
theorem sizeL1 {x : Nd} : QQ [x] = Qx x := by simp [QQ]
theorem depthL_le {ks : List Nd} {D : Nat} (h : ∀ x ∈ ks, WB x <= D) : WC ks <= D := by
 induction ks with
 | nil => simp [WC]
 | cons x r ih =>
  have h1 := h x (by simp)
  have h2 := ih fun y hy => h y (by simp [hy])
  rw [WC];omega
theorem fit_block {t : Nd} (h : WG t 6 = true) : WG t 5 = true := by
 obtain ⟨k, n, m, ks⟩ := t
 rw [WG] at h ⊢
 split at h
 ·rename_i hk
  rw [if_pos hk]
  simp only [Bool.and_eq_true] at h ⊢
  refine ⟨⟨?_, h.1.2⟩, h.2⟩
  have h1 := h.1.1
  unfold isB at h1 ⊢
  simp only [Bool.or_eq_true, Bool.and_eq_true, decide_eq_true_eq] at h1 ⊢
  rcases h1 with (h1|⟨_, h1⟩)|⟨_, h1⟩
  ·exact .inr ⟨h1, trivial⟩
  ·exact absurd h1 (by decide)
  ·exact absurd h1 (by decide)
 ·cases h
theorem fit_rng {k : Int} (h : 0 <= k /\ k < 28) : -8 <= (shapesL.getD k.toNat noSh).low /\ (shapesL.getD k.toNat noSh).high <= 13 /\ (shapesL.getD k.toNat noSh).last <= 2 := by
 have : ∀ i : Fin 28, -8 <= (shapesL.getD i.val noSh).low /\ (shapesL.getD i.val noSh).high <= 13 /\ (shapesL.getD i.val noSh).last <= 2 := by decide
 exact this ⟨k.toNat, by omega⟩
theorem okL_of {ks : List Nd} (h : ∀ x ∈ ks, okN x) : okL ks := by
 induction ks with
 | nil => rw [okL];trivial
 | cons x r ih => rw [okL];exact ⟨h x (by simp), ih fun y hy => h y (by simp [hy])⟩
theorem fit_ok (t : Nd) : ∀ w, WG t w = true -> okN t := by
 induction t using Nd.ind with
 | h k n m ks ih =>
 intro w h
 rw [WG] at h
 split at h
 ·rename_i hk
  have hr := fit_rng hk
  simp only [Bool.and_eq_true] at h
  obtain ⟨⟨_, h1⟩, h2⟩ := h
  unfold rngB at h1
  simp only [Bool.and_eq_true, decide_eq_true_eq] at h1
  rw [okN]
  refine ⟨⟨⟨by omega, by omega⟩, ⟨by omega, by omega⟩, ⟨by omega, by omega⟩⟩, okL_of fun x hx => ?_⟩
  obtain ⟨i, hi, rfl⟩ := List.getElem_of_mem hx
  rw [fitsF_eq] at h2
  split at h2
  ·unfold funB at h2
   simp only [Bool.and_eq_true, List.length_map] at h2
   by_cases hl : i = ks.length - 1
   ·have h3 := h2.1.2
    rw [qk ks WG (by omega)] at h3
    subst hl
    exact ih _ hx 6 h3
   ·have h3 := allI_iff.1 h2.2 i (by omega)
    rw [qk ks WG hi] at h3
    exact ih _ hx _ h3
  ·simp only [Bool.and_eq_true] at h2
   have h3 := h2.2
   unfold kidsB at h3
   rw [List.length_map] at h3
   have h4 := allI_iff.1 h3 i hi
   rw [qk ks WG hi] at h4
   exact ih _ hx _ h4
 ·cases h
abbrev GenF := Int -> Int -> Nd × Int × Int
theorem gen_skolem {pre : Int -> Int -> Prop} {R : Int -> Int -> Nd × Int × Int -> Prop} (h : ∀ a L, pre a L -> ∃ t, R a L t) : ∃ E : GenF, ∀ a L, pre a L -> R a L (E a L) := by
 classical
 refine ⟨fun a L => if h' : pre a L then Classical.choose (h a L h') else (.mk 0 0 0 [], 0, 0), fun a L h' => ?_⟩
 dsimp only
 rw [dif_pos h']
 exact Classical.choose_spec (h a L h')
def runM (E : GenF) : Nat -> Int -> Int -> List Nd × Int × Int
 | 0, a, L => ([], a, L)
 | n + 1, a, L => ((E a L).1 :: (runM E n (E a L).2.1 (E a L).2.2).1, (runM E n (E a L).2.1 (E a L).2.2).2)
def runP (E : GenF) : Nat -> Int -> Int -> List Nd × Int × Int
 | 0, a, L => ([], a, L)
 | n + 1, a, L => if 0 < L then ((E a L).1 :: (runP E n (E a L).2.1 (E a L).2.2).1, (runP E n (E a L).2.1 (E a L).2.2).2) else ([], a, L)
theorem runM_len (E : GenF) : ∀ n a L, (runM E n a L).1.length = n
 | 0, a, L => rfl
 | n + 1, a, L => by rw [runM, List.length_cons, runM_len E n]
theorem runP_len (E : GenF) : ∀ n a L, (runP E n a L).1.length <= n
 | 0, a, L => Nat.le_refl _
 | n + 1, a, L => by
  rw [runP]
  split
  ·have := runP_len E n (E a L).2.1 (E a L).2.2
   rw [List.length_cons];omega
  ·exact Nat.zero_le _
structure FitI (s : Sh) (n m : Int) (ks : List Nd) (w : Int) : Prop where
 is : s.is = w \/ (s.is = 3 /\ w = 2) \/ (s.is = 6 /\ w = 5)
 low : s.low <= n
 high : n <= s.high
 mlow : 0 <= m
 mhigh : m <= s.last
 least : s.least <= (ks.length : Int) - (s.kids.length : Int)
 more : (ks.length : Int) - (s.kids.length : Int) <= s.more
 kid : ∀ i (h : i < ks.length), WG ks[i] (wantK s i) = true
theorem fit_inv {k n m w : Int} {ks : List Nd} (h : WG (.mk k n m ks) w = true) (hk : k ≠ 26) : FitI (shapesL.getD k.toNat noSh) n m ks w := by
 rw [WG] at h
 split at h
 ·simp only [Bool.and_eq_true] at h
  obtain ⟨⟨h0, h1⟩, h2, h3⟩ := h
  unfold isB at h0
  unfold rngB at h1
  unfold cntB at h2
  unfold kidsB at h3
  simp only [Bool.and_eq_true, Bool.or_eq_true, decide_eq_true_eq] at h0 h1 h2
  rw [fitsF_eq, List.length_map] at h3
  refine ⟨by omega, h1.1.1, h1.1.2, h1.2.1, h1.2.2, h2.1, h2.2, fun i hi => ?_⟩
  have := allI_iff.1 h3 i hi
  rw [qk ks WG hi] at this
  exact this
 ·cases h
theorem kids_all {s : Sh} {n m w : Int} {ks : List Nd} (h : FitI s n m ks w) (c : Int) (hw : ∀ i, i < ks.length -> wantK s i = c) : ∀ x ∈ ks, WG x c = true := fun x hx => by
 obtain ⟨i, hi, rfl⟩ := List.getElem_of_mem hx
 have := h.kid i hi
 rw [hw i hi] at this
 exact this
theorem map_getDb (ks : List Nd) (f : Nd -> Bool) {i : Nat} (h : i < ks.length) : (ks.map f).getD i false = f ks[i] := by
 rw [List.getD_eq_getElem?_getD, List.getElem?_map, List.getElem?_eq_getElem h];rfl
theorem fit_k {k n m w : Int} {ks : List Nd} (h : WG (.mk k n m ks) w = true) : 0 <= k /\ k < 28 := by
 rw [WG] at h
 split at h
 ·assumption
 ·cases h
theorem fit_typ (t : Nd) : ∀ w, (w = 2 \/ w = 3) -> WG t w = true -> ZH t = true := by
 induction t using Nd.ind with
 | h k n m ks ih =>
 intro w hw h
 have hk := fit_k h
 by_cases h26 : k = 26
 ·subst h26
  rw [WG, if_pos (by decide)] at h
  simp only [Bool.and_eq_true] at h
  have := h.1.1
  unfold isB at this
  simp [shapesL] at this
  omega
 have hf := fit_inv h h26
 have hkk : k = 0 \/ k = 1 \/ k = 2 \/ k = 3 \/ (4 <= k /\ k <= 27) := by omega
 rw [ZH]
 rcases hkk with rfl|rfl|rfl|rfl|h4
 ·have hl : ks.length = 0 := by have := hf.least;have := hf.more;simp [shapesL] at this;simp_all
  obtain rfl : ks = [] := List.eq_nil_of_length_eq_zero hl
  obtain ⟨h0, h1, h2, h3, h4, h5, h6, h7⟩ := hf
  simp [shapesL] at h0 h1 h2 h3 h4 h5 h6
  simp [WJ, Q3];omega
 ·have hl : ks.length = 0 := by have := hf.least;have := hf.more;simp [shapesL] at this;simp_all
  obtain rfl : ks = [] := List.eq_nil_of_length_eq_zero hl
  obtain ⟨h0, h1, h2, h3, h4, h5, h6, h7⟩ := hf
  simp [shapesL] at h0 h1 h2 h3 h4 h5 h6
  simp [WJ, Q3];omega
 ·have hl : ks.length = 0 := by have := hf.least;have := hf.more;simp [shapesL] at this;simp_all
  obtain rfl : ks = [] := List.eq_nil_of_length_eq_zero hl
  obtain ⟨h0, h1, h2, h3, h4, h5, h6, h7⟩ := hf
  simp [shapesL] at h0 h1 h2 h3 h4 h5 h6
  simp [WJ, Q3, WX];omega
 ·have ha := kids_all hf 3 fun i _ => by show (if i < 0 then _ else (3 : Int)) = 3;rw [if_neg (by omega)]
  obtain ⟨h0, h1, h2, h3, h4, h5, h6, h7⟩ := hf
  simp [shapesL] at h0 h1 h2 h3 h4 h5 h6
  have hl : 0 < ks.length := by omega
  rw [if_neg (by omega), if_neg (by omega), if_pos rfl, typOks_eq]
  have : ks.all ZH = true := by rw [List.all_eq_true];exact fun x hx => ih x hx 3 (.inr rfl) (ha x hx)
  rw [this]
  simp [WJ, Q3, hl];omega
 ·exfalso
  have h0 := hf.is
  have hs : ∀ j : Fin 28, 4 <= j.val -> ((shapesL.getD j.val noSh).is ≠ 2 /\ (shapesL.getD j.val noSh).is ≠ 3) := by decide
  have := hs ⟨k.toNat, by omega⟩ (by show 4 <= k.toNat;omega)
  dsimp only at this
  omega
theorem fit_is {k n m w : Int} {ks : List Nd} (h : WG (.mk k n m ks) w = true) : (shapesL.getD k.toNat noSh).is = w \/ ((shapesL.getD k.toNat noSh).is = 3 /\ w = 2) \/ ((shapesL.getD k.toNat noSh).is = 6 /\ w = 5) := by
 rw [WG] at h
 split at h
 ·simp only [Bool.and_eq_true] at h
  have := h.1.1
  unfold isB at this
  simp only [Bool.and_eq_true, Bool.or_eq_true, decide_eq_true_eq] at this
  omega
 ·cases h
theorem kind_is {k n m w : Int} {ks : List Nd} (h : WG (.mk k n m ks) w = true) : (w = 4 -> 4 <= k /\ k <= 12) /\ (w = 6 -> k = 13) /\ (w = 5 -> 13 <= k /\ k <= 25) /\ (w = 1 -> k = 26) /\ (w = 0 -> k = 27) := by
 have hk := fit_k h
 have h0 := fit_is h
 have hs : ∀ j : Fin 28, ((shapesL.getD j.val noSh).is = 4 -> 4 <= j.val /\ j.val <= 12) /\ ((shapesL.getD j.val noSh).is = 6 -> j.val = 13) /\ ((shapesL.getD j.val noSh).is = 5 -> 13 <= j.val /\ j.val <= 25) /\ ((shapesL.getD j.val noSh).is = 1 -> j.val = 26) /\ ((shapesL.getD j.val noSh).is = 0 -> j.val = 27) := by decide
 have := hs ⟨k.toNat, by omega⟩
 dsimp only at this
 obtain ⟨a1, a2, a3, a4, a5⟩ := this
 refine ⟨fun hw => ?_, fun hw => ?_, fun hw => ?_, fun hw => ?_, fun hw => ?_⟩
 ·have := a1 (by omega);omega
 ·have := a2 (by omega);omega
 ·by_cases h6 : (shapesL.getD k.toNat noSh).is = 6
  ·have := a2 h6;omega
  ·have := a3 (by omega);omega
 ·have := a4 (by omega);omega
 ·have := a5 (by omega);omega
theorem fit_ex (t : Nd) : WG t 4 = true -> Zs t = true := by
 induction t using Nd.ind with
 | h k n m ks ih =>
 intro h
 have hk := (kind_is h).1 rfl
 have hf := fit_inv h (by omega)
 have hkk : k = 4 \/ k = 5 \/ k = 6 \/ k = 7 \/ k = 8 \/ k = 9 \/ k = 10 \/ k = 11 \/ k = 12 := by omega
 have hall : (∀ i, i < ks.length -> wantK (shapesL.getD k.toNat noSh) i = 4) -> exOks ks = true := fun hw => by
  rw [W6, List.all_eq_true]
  exact fun x hx => ih x hx (kids_all hf 4 hw x hx)
 rw [Zs]
 rcases hkk with rfl|rfl|rfl|rfl|rfl|rfl|rfl|rfl|rfl
 ·have hl : ks.length = 0 := by have := hf.least;have := hf.more;simp [shapesL] at this;simp_all
  obtain rfl : ks = [] := List.eq_nil_of_length_eq_zero hl
  obtain ⟨h0, h1, h2, h3, h4, h5, h6, h7⟩ := hf
  simp [shapesL] at h0 h1 h2 h3 h4 h5 h6
  by_cases hn : n < 0
  ·simp [Q3, WX, hn];omega
  ·simp [Q3, WX, hn];omega
 ·have hl : ks.length = 0 := by have := hf.least;have := hf.more;simp [shapesL] at this;simp_all
  obtain rfl : ks = [] := List.eq_nil_of_length_eq_zero hl
  obtain ⟨h0, h1, h2, h3, h4, h5, h6, h7⟩ := hf
  simp [shapesL] at h0 h1 h2 h3 h4 h5 h6
  simp [Q3, WX];omega
 ·have hl : ks.length = 0 := by have := hf.least;have := hf.more;simp [shapesL] at this;simp_all
  obtain rfl : ks = [] := List.eq_nil_of_length_eq_zero hl
  obtain ⟨h0, h1, h2, h3, h4, h5, h6, h7⟩ := hf
  simp [shapesL] at h0 h1 h2 h3 h4 h5 h6
  simp [Q3, WX];omega
 ·have hl : ks.length = 1 := by have := hf.least;have := hf.more;simp [shapesL] at *;omega
  have := hall fun i hi => by (have : i = 0 := by omega);subst this;rfl
  obtain ⟨h0, h1, h2, h3, h4, h5, h6, h7⟩ := hf
  simp [shapesL] at h0 h1 h2 h3 h4 h5 h6
  simp [Q3, WX, this];omega
 ·have hl : ks.length = 0 := by have := hf.least;have := hf.more;simp [shapesL] at this;simp_all
  obtain rfl : ks = [] := List.eq_nil_of_length_eq_zero hl
  obtain ⟨h0, h1, h2, h3, h4, h5, h6, h7⟩ := hf
  simp [shapesL] at h0 h1 h2 h3 h4 h5 h6
  simp [Q3, WX]
  omega
 ·have hl : ks.length = 2 := by have := hf.least;have := hf.more;simp [shapesL] at *;omega
  have := hall fun i hi => by (have : i = 0 \/ i = 1 := by omega);rcases this with rfl|rfl <;> rfl
  obtain ⟨h0, h1, h2, h3, h4, h5, h6, h7⟩ := hf
  simp [shapesL] at h0 h1 h2 h3 h4 h5 h6
  simp [Q3, WX, this];omega
 ·have hl : ks.length = 1 := by have := hf.least;have := hf.more;simp [shapesL] at *;omega
  have := hall fun i hi => by (have : i = 0 := by omega);subst this;rfl
  obtain ⟨h0, h1, h2, h3, h4, h5, h6, h7⟩ := hf
  simp [shapesL] at h0 h1 h2 h3 h4 h5 h6
  simp [WJ, Q3, WX, this];omega
 ·have := hall fun i hi => by show (if i < 0 then _ else (4 : Int)) = 4;rw [if_neg (by omega)]
  obtain ⟨h0, h1, h2, h3, h4, h5, h6, h7⟩ := hf
  simp [shapesL] at h0 h1 h2 h3 h4 h5 h6
  simp [Q3, WX, this];omega
 ·have hl : ks.length = 0 := by have := hf.least;have := hf.more;simp [shapesL] at this;simp_all
  obtain rfl : ks = [] := List.eq_nil_of_length_eq_zero hl
  obtain ⟨h0, h1, h2, h3, h4, h5, h6, h7⟩ := hf
  simp [shapesL] at h0 h1 h2 h3 h4 h5 h6
  simp [Q3, WX];omega
theorem fit_st (t : Nd) : (WG t 5 = true -> qh t = true) /\ (WG t 6 = true -> inOk t = true) := by
 induction t using Nd.ind with
 | h k n m ks ih =>
 have hblk : ∀ w, k = 13 -> WG (.mk k n m ks) w = true -> WJ n m ks.length (-1) = true /\ stOks ks = true := fun w hk h => by
  have hf := fit_inv h (by omega)
  subst hk
  have ha := kids_all hf 5 fun i _ => by show (if i < 0 then _ else (5 : Int)) = 5;rw [if_neg (by omega)]
  obtain ⟨h0, h1, h2, h3, h4, h5, h6, h7⟩ := hf
  simp [shapesL] at h0 h1 h2 h3 h4 h5 h6
  refine ⟨by simp [WJ, Q3];omega, ?_⟩
  have : ∀ ks : List Nd, (∀ x ∈ ks, qh x = true) -> stOks ks = true := by
   intro ks
   induction ks with
   | nil => intro _;rfl
   | cons x r ihr => intro h;rw [stOks, h x (by simp), ihr fun y hy => h y (by simp [hy])];rfl
  exact this ks fun x hx => (ih x hx).1 (ha x hx)
 refine ⟨fun h => ?_, fun h => ?_⟩
 ·have hk := (kind_is h).2.2.1 rfl
  have hf := fit_inv h (by omega)
  have hkk : k = 13 \/ k = 14 \/ k = 15 \/ k = 16 \/ k = 17 \/ k = 18 \/ k = 19 \/ k = 20 \/ k = 21 \/ k = 22 \/ k = 23 \/ k = 24 \/ k = 25 := by omega
  have hall : (∀ i, i < ks.length -> wantK (shapesL.getD k.toNat noSh) i = 4) -> ks.all Zs = true := fun hw => by
   rw [List.all_eq_true]
   exact fun x hx => fit_ex x (kids_all hf 4 hw x hx)
  rw [qh]
  rcases hkk with rfl|rfl|rfl|rfl|rfl|rfl|rfl|rfl|rfl|rfl|rfl|rfl|rfl
  ·obtain ⟨b1, b2⟩ := hblk 5 rfl h
   rw [if_pos rfl, b1, b2];rfl
  ·have hl : ks.length = 1 := by have := hf.least;have := hf.more;simp [shapesL] at *;omega
   have := hall fun i hi => by (have : i = 0 := by omega);subst this;rfl
   obtain ⟨h0, h1, h2, h3, h4, h5, h6, h7⟩ := hf
   simp [shapesL] at h0 h1 h2 h3 h4 h5 h6
   simp only [ZA, this]
   simp [Q3, WX];omega
  ·have hl : ks.length = 2 := by have := hf.least;have := hf.more;simp [shapesL] at *;omega
   have := hall fun i hi => by (have : i = 0 \/ i = 1 := by omega);rcases this with rfl|rfl <;> rfl
   obtain ⟨h0, h1, h2, h3, h4, h5, h6, h7⟩ := hf
   simp [shapesL] at h0 h1 h2 h3 h4 h5 h6
   simp only [ZA, this]
   simp [Q3, WX];omega
  ·have hl : ks.length = 1 := by have := hf.least;have := hf.more;simp [shapesL] at *;omega
   have := hall fun i hi => by (have : i = 0 := by omega);subst this;rfl
   obtain ⟨h0, h1, h2, h3, h4, h5, h6, h7⟩ := hf
   simp [shapesL] at h0 h1 h2 h3 h4 h5 h6
   simp only [ZA, this]
   simp [Q3, WX];omega
  ·have hl : ks.length = 3 := by have := hf.least;have := hf.more;simp [shapesL] at *;omega
   have k0 : Zs ks[0] = true := fit_ex _ (hf.kid 0 (by omega))
   have k1 : inOk ks[1] = true := (ih _ (List.getElem_mem _)).2 (hf.kid 1 (by omega))
   have k2 : inOk ks[2] = true := (ih _ (List.getElem_mem _)).2 (hf.kid 2 (by omega))
   obtain ⟨h0, h1, h2, h3, h4, h5, h6, h7⟩ := hf
   simp [shapesL] at h0 h1 h2 h3 h4 h5 h6
   rw [if_neg (by omega), if_pos rfl, ql, map_getDb ks Zs (i := 0) (by omega), map_getDb ks inOk (i := 1) (by omega), map_getDb ks inOk (i := 2) (by omega), k0, k1, k2]
   simp [WJ, Q3];omega
  ·have hl : ks.length = 2 := by have := hf.least;have := hf.more;simp [shapesL] at *;omega
   have k0 : Zs ks[0] = true := fit_ex _ (hf.kid 0 (by omega))
   have k1 : inOk ks[1] = true := (ih _ (List.getElem_mem _)).2 (hf.kid 1 (by omega))
   obtain ⟨h0, h1, h2, h3, h4, h5, h6, h7⟩ := hf
   simp [shapesL] at h0 h1 h2 h3 h4 h5 h6
   rw [if_neg (by omega), if_neg (by omega), if_pos rfl, ql, map_getDb ks Zs (i := 0) (by omega), map_getDb ks inOk (i := 1) (by omega), k0, k1]
   simp [WJ, Q3];omega
  ·have hl : ks.length = 1 := by have := hf.least;have := hf.more;simp [shapesL] at *;omega
   have := hall fun i hi => by (have : i = 0 := by omega);subst this;rfl
   obtain ⟨h0, h1, h2, h3, h4, h5, h6, h7⟩ := hf
   simp [shapesL] at h0 h1 h2 h3 h4 h5 h6
   simp only [ZA, this]
   simp [WJ, Q3, WX];omega
  ·have hl : ks.length = 1 := by have := hf.least;have := hf.more;simp [shapesL] at *;omega
   have := hall fun i hi => by (have : i = 0 := by omega);subst this;rfl
   obtain ⟨h0, h1, h2, h3, h4, h5, h6, h7⟩ := hf
   simp [shapesL] at h0 h1 h2 h3 h4 h5 h6
   simp only [ZA, this]
   simp [WJ, Q3, WX];omega
  ·have hl : ks.length = 2 := by have := hf.least;have := hf.more;simp [shapesL] at *;omega
   have k0 : inOk ks[0] = true := (ih _ (List.getElem_mem _)).2 (hf.kid 0 (by omega))
   have k1 : inOk ks[1] = true := (ih _ (List.getElem_mem _)).2 (hf.kid 1 (by omega))
   obtain ⟨h0, h1, h2, h3, h4, h5, h6, h7⟩ := hf
   simp [shapesL] at h0 h1 h2 h3 h4 h5 h6
   rw [if_neg (by omega), if_neg (by omega), if_neg (by omega), if_pos rfl, ql, map_getDb ks inOk (i := 0) (by omega), map_getDb ks inOk (i := 1) (by omega), k0, k1]
   simp [Q3, WX];omega
  ·have hl : ks.length = 1 := by have := hf.least;have := hf.more;simp [shapesL] at *;omega
   have := hall fun i hi => by (have : i = 0 := by omega);subst this;rfl
   obtain ⟨h0, h1, h2, h3, h4, h5, h6, h7⟩ := hf
   simp [shapesL] at h0 h1 h2 h3 h4 h5 h6
   simp only [ZA, this]
   simp [Q3, WX];omega
  ·have := hall fun i hi => by show (if i < 0 then _ else (4 : Int)) = 4;rw [if_neg (by omega)]
   obtain ⟨h0, h1, h2, h3, h4, h5, h6, h7⟩ := hf
   simp [shapesL] at h0 h1 h2 h3 h4 h5 h6
   simp only [ZA, this]
   simp [Q3, WX];omega
  ·have hl : ks.length = 1 := by have := hf.least;have := hf.more;simp [shapesL] at *;omega
   have := hall fun i hi => by (have : i = 0 := by omega);subst this;rfl
   obtain ⟨h0, h1, h2, h3, h4, h5, h6, h7⟩ := hf
   simp [shapesL] at h0 h1 h2 h3 h4 h5 h6
   simp only [ZA, this]
   simp [WJ, Q3, WX];omega
  ·have hl : ks.length = 0 := by have := hf.least;have := hf.more;simp [shapesL] at this;simp_all
   obtain rfl : ks = [] := List.eq_nil_of_length_eq_zero hl
   obtain ⟨h0, h1, h2, h3, h4, h5, h6, h7⟩ := hf
   simp [shapesL] at h0 h1 h2 h3 h4 h5 h6
   simp only [ZA]
   simp [WJ, Q3, WX];omega
 ·have hk := (kind_is h).2.1 rfl
  obtain ⟨b1, b2⟩ := hblk 6 hk h
  rw [inOk, b1, b2, decide_eq_true hk];rfl
theorem fit_funok (t : Nd) (h : WG t 1 = true) : ZF t = true := by
 obtain ⟨k, n, m, ks⟩ := t
 have hk := (kind_is h).2.2.2.1 rfl
 subst hk
 rw [WG, if_pos (by decide), if_pos rfl, fitsF_eq] at h
 simp only [Bool.and_eq_true] at h
 obtain ⟨⟨_, h1⟩, h2⟩ := h
 unfold rngB at h1
 unfold funB at h2
 simp only [Bool.and_eq_true, decide_eq_true_eq, List.length_map] at h1 h2
 simp [shapesL] at h1
 obtain ⟨⟨⟨c1, c2⟩, c3⟩, c4⟩ := h2
 have hl : 0 < ks.length := by
  by_cases h0 : ks.length = 0
  ·omega
  ·omega
 rw [qk ks WG (by omega)] at c3
 rw [ZF]
 have d1 : inOk (ks.getD (ks.length - 1) (.mk 0 0 0 [])) = true := by
  rw [List.getD_eq_getElem?_getD, List.getElem?_eq_getElem (show ks.length - 1 < ks.length by omega)]
  exact (fit_st _).2 c3
 have d2 : (ks.take (ks.length - 1)).all ZH = true := by
  rw [List.all_eq_true]
  intro x hx
  obtain ⟨i, hi, rfl⟩ := List.getElem_of_mem hx
  rw [List.length_take] at hi
  have h3 := allI_iff.1 c4 i (by omega)
  rw [qk ks WG (by omega)] at h3
  rw [List.getElem_take]
  refine fit_typ _ _ ?_ h3
  split <;> simp
 rw [d1, d2, decide_eq_true hl]
 simp [Q3, WX];omega
theorem fit_pr (t : Nd) (h : WG t 0 = true) : prOk t = true := by
 obtain ⟨k, n, m, ks⟩ := t
 have hk := (kind_is h).2.2.2.2 rfl
 have hf := fit_inv h (by omega)
 subst hk
 have ha := kids_all hf 1 fun i _ => by show (if i < 0 then _ else (1 : Int)) = 1;rw [if_neg (by omega)]
 obtain ⟨h0, h1, h2, h3, h4, h5, h6, h7⟩ := hf
 simp [shapesL] at h0 h1 h2 h3 h4 h5 h6
 rw [prOk, if_pos rfl]
 have : ks.all ZF = true := by rw [List.all_eq_true];exact fun x hx => fit_funok x (ha x hx)
 rw [this]
 simp [Q3, WX];omega
theorem valid_pr {t : Nd} (h : validM t = true) : prOk t = true := by
 unfold validM at h
 simp only [Bool.and_eq_true] at h
 exact fit_pr t h.2
def Li (l : List UInt8) : Prop := ∀ b ∈ l, b.toNat < 128 /\ b ≠ 10
theorem qs {a b : List UInt8} (ha : Li a) (hb : Li b) : Li (a ++ b) := fun x hx => (List.mem_append.1 hx).elim (ha x) (hb x)
theorem li_nil : Li [] := fun x hx => by cases hx
theorem li_cons {x : UInt8} {b : List UInt8} (hx : (decide (x.toNat < 128) && decide (x ≠ 10)) = true) (hb : Li b) : Li (x :: b) := fun y hy => by
 rcases List.mem_cons.1 hy with rfl|hy
 ·simpa using hx
 ·exact hb y hy
theorem ZX {l : List UInt8} (h : (l.all fun x => decide (x.toNat < 128) && decide (x ≠ 10)) = true) : Li l := fun b hb => by
 rw [List.all_eq_true] at h
 simpa using h b hb
theorem li_dec (u : Nat) : Li (Lib.decDigits u) := by
 rw [Lib.decDigits_eq]
 intro b hb
 obtain ⟨t, _, rfl⟩ := List.mem_map.1 hb
 unfold Lib.dg
 have h : u / 10 ^ (Lib.nDigits u - 1 - t) % 10 < 10 := Nat.mod_lt _ (by decide)
 generalize u / 10 ^ (Lib.nDigits u - 1 - t) % 10 = d at *
 have e : (UInt8.ofNat (48 + d)).toNat = 48 + d := by
  rw [UInt8.toNat_ofNat'];omega
 refine ⟨by omega, fun h10 => ?_⟩
 rw [h10] at e
 have : (10 : UInt8).toNat = 10 := rfl
 omega
theorem li_itoa (n : Int) : Li (Lib.itoa n) := by
 unfold Lib.itoa
 split
 ·exact li_cons (by decide) (li_dec _)
 ·exact li_dec _
theorem li_commas : ∀ l : List (List UInt8), (∀ x ∈ l, Li x) -> Li (WO l)
 | [], _ => by show Li (Lib.join [] comma);rw [Lib.join_nil];exact li_nil
 | x :: r, h => by
  show Li (Lib.join (x :: r) comma)
  rw [Lib.join_cons]
  refine qs (h x (by simp)) ?_
  unfold Lib.joinTail
  intro b hb
  obtain ⟨y, hy, hby⟩ := List.mem_flatten.1 hb
  obtain ⟨z, hz, rfl⟩ := List.mem_map.1 hy
  exact qs (ZX (by decide)) (h z (by simp [hz])) b hby
theorem li_typ (t : Nd) : Li (qv t) := by
 induction t using Nd.ind with
 | h k n m ks ih =>
 rw [qv, typTs_eq]
 repeat' split
 ·exact ZX (by decide)
 ·exact ZX (by decide)
 ·exact qs (ZX (by decide)) (li_itoa n)
 ·refine qs (qs (ZX (by decide)) (li_commas _ fun x hx => ?_)) (ZX (by decide))
  obtain ⟨y, hy, rfl⟩ := List.mem_map.1 hx
  exact ih y hy
 ·exact li_nil
theorem li_op (i : Nat) : Li (opTexts.getD i []) := by
 rcases Nat.lt_or_ge i 14 with h|h
 ·have : ∀ j : Fin 14, (opTexts.getD j.val []).all (fun x => decide (x.toNat < 128) && decide (x ≠ 10)) = true := by decide
  exact ZX (this ⟨i, h⟩)
 ·rw [List.getD_eq_getElem?_getD, List.getElem?_eq_none (by simpa [opTexts] using h)];exact li_nil
theorem li_getD {l : List (List UInt8)} (h : ∀ x ∈ l, Li x) (i : Nat) : Li (l.getD i []) := by
 rw [List.getD_eq_getElem?_getD]
 cases hx : l[i]? with
 | none => exact li_nil
 | some x => exact h x (List.mem_of_getElem? hx)
theorem li_ex (t : Nd) : Li (exT t) := by
 induction t using Nd.ind with
 | h k n m ks ih =>
 rw [exT, qV]
 have hk : ∀ x ∈ ks.map exT, Li x := fun x hx => by obtain ⟨y, hy, rfl⟩ := List.mem_map.1 hx;exact ih y hy
 have hc := li_commas _ hk
 have h0 := li_getD hk 0
 have h1 := li_getD hk 1
 have hop := li_op n.toNat
 have hn := li_itoa n
 have hm := li_itoa m
 repeat' split
 all_goals repeat' first|assumption|exact li_nil|exact ZX (by decide)|refine qs ?_ ?_
theorem li_exs (ks : List Nd) : ∀ x ∈ ks.map exT, Li x := fun x hx => by obtain ⟨y, hy, rfl⟩ := List.mem_map.1 hx;exact li_ex y
theorem li_sim (t : Nd) : Li (simT t) := by
 obtain ⟨k, n, m, ks⟩ := t
 rw [simT]
 have hk := li_exs ks
 have hc := li_commas _ hk
 have h0 := li_getD hk 0
 have h1 := li_getD hk 1
 have hn := li_itoa n
 have hm := li_itoa m
 repeat' split
 all_goals repeat' first|assumption|exact li_nil|exact ZX (by decide)|refine qs ?_ ?_
def nlC (l : List UInt8) : Nat := l.countP (· == 10)
theorem nl_app (a b : List UInt8) : nlC (a ++ b) = nlC a + nlC b := List.countP_append
theorem nl_li {l : List UInt8} (h : Li l) : nlC l = 0 := by
 unfold nlC
 rw [List.countP_eq_zero]
 intro b hb
 simpa using (h b hb).2
theorem nl_le (l : List UInt8) : nlC l <= l.length := List.countP_le_length
theorem li_rep (i : Nat) : Li (Lib.repeatL [32, 32] i) := by
 induction i with
 | zero => exact li_nil
 | succ i ih => exact qs (a := [32, 32]) (ZX (by decide)) ih
def Asc (l : List UInt8) : Prop := ∀ b ∈ l, b.toNat < 128
theorem ZS {a b : List UInt8} (ha : Asc a) (hb : Asc b) : Asc (a ++ b) := fun x hx => (List.mem_append.1 hx).elim (ha x) (hb x)
theorem asc_nil : Asc [] := fun x hx => (by cases hx)
theorem li_asc {l : List UInt8} (h : Li l) : Asc l := fun b hb => (h b hb).1
theorem qA {s : List UInt8} (h : Li s) (i : Nat) : Asc (ZR i s) /\ nlC (ZR i s) = 1 := by
 unfold ZR
 have h1 := qs (li_rep i) h
 refine ⟨ZS (li_asc h1) (fun b hb => by simp at hb;subst hb;decide), ?_⟩
 rw [nl_app, nl_li h1];rfl
theorem st_asc (t : Nd) : ∀ i, (Asc (stT t i) /\ nlC (stT t i) = nlC (stT t 0)) /\ (Asc (inT t i) /\ nlC (inT t i) = nlC (inT t 0)) := by
 induction t using Nd.ind with
 | h k n m ks ih =>
 have hsts : ∀ ks : List Nd, (∀ x ∈ ks, ∀ i, Asc (stT x i) /\ nlC (stT x i) = nlC (stT x 0)) -> ∀ i j, Asc (stTs ks i) /\ nlC (stTs ks i) = nlC (stTs ks j) := by
  intro ks
  induction ks with
  | nil => intro _ i j;exact ⟨by rw [stTs];exact asc_nil, by rw [stTs, stTs]⟩
  | cons x r ihr =>
   intro h i j
   have h1 := h x (by simp) i
   have h1' := h x (by simp) j
   have h2 := ihr (fun y hy => h y (by simp [hy])) i j
   rw [stTs, stTs, nl_app, nl_app]
   exact ⟨ZS h1.1 h2.1, by rw [h1.2, h1'.2, h2.2]⟩
 have hk := hsts ks fun x hx i => (ih x hx i).1
 have hin : ∀ j i, Asc ((ks.map fun x => inT x i).getD j []) /\ nlC ((ks.map fun x => inT x i).getD j []) = nlC ((ks.map fun x => inT x 0).getD j []) := fun j i => by
  rw [List.getD_eq_getElem?_getD, List.getD_eq_getElem?_getD, List.getElem?_map, List.getElem?_map]
  cases hx : ks[j]? with
  | none => exact ⟨asc_nil, rfl⟩
  | some x => exact (ih x (List.mem_of_getElem? hx) i).2
 have hex := li_exs ks
 have hie : Li (sIf ++ (ks.map exT).getD 0 [] ++ sBr) := qs (qs (ZX (by decide)) (li_getD hex 0)) (ZX (by decide))
 have hwe : Li (sWhile ++ (ks.map exT).getD 0 [] ++ sBr) := qs (qs (ZX (by decide)) (li_getD hex 0)) (ZX (by decide))
 have hce : Li (sCatch ++ Lib.itoa n ++ sBr) := qs (qs (ZX (by decide)) (li_itoa n)) (ZX (by decide))
 have lo := fun i => qA (s := sOpen) (ZX (by decide)) i
 have lc := fun i => qA (s := sClose) (ZX (by decide)) i
 have le := fun i => qA (s := sElse) (ZX (by decide)) i
 have lt := fun i => qA (s := sTry) (ZX (by decide)) i
 have l1 := fun i => qA hie i
 have l2 := fun i => qA hwe i
 have l3 := fun i => qA hce i
 have l4 := fun i => qA (li_sim (.mk k n m ks)) i
 intro i
 constructor
 ·rw [stT, stT, inTs_eq, inTs_eq]
  by_cases k13 : k = 13
  ·rw [if_pos k13, if_pos k13]
   split
   ·simp only [nl_app]
    exact ⟨ZS (ZS (lo i).1 (hk (i + 1) 0).1) (lc i).1, by rw [(lo i).2, (lo 0).2, (lc i).2, (lc 0).2, (hk (i + 1) (0 + 1)).2]⟩
   ·simp only [nl_app]
    exact ⟨ZS (ZS (lo i).1 asc_nil) (lc i).1, by rw [(lo i).2, (lo 0).2, (lc i).2, (lc 0).2]⟩
  rw [if_neg k13, if_neg k13]
  split
  ·simp only [nl_app]
   exact ⟨ZS (ZS (ZS (ZS (l1 i).1 (hin 1 i).1) (le i).1) (hin 2 i).1) (lc i).1, by rw [(l1 i).2, (l1 0).2, (hin 1 i).2, (le i).2, (le 0).2, (hin 2 i).2, (lc i).2, (lc 0).2]⟩
  split
  ·simp only [nl_app]
   exact ⟨ZS (ZS (l2 i).1 (hin 1 i).1) (lc i).1, by rw [(l2 i).2, (l2 0).2, (hin 1 i).2, (lc i).2, (lc 0).2]⟩
  split
  ·simp only [nl_app]
   exact ⟨ZS (ZS (ZS (ZS (lt i).1 (hin 0 i).1) (l3 i).1) (hin 1 i).1) (lc i).1, by rw [(lt i).2, (lt 0).2, (hin 0 i).2, (l3 i).2, (l3 0).2, (hin 1 i).2, (lc i).2, (lc 0).2]⟩
  ·exact ⟨(l4 i).1, by rw [(l4 i).2, (l4 0).2]⟩
 ·rw [inT, inT]
  split
  ·exact hk (i + 1) (0 + 1)
  ·exact ⟨asc_nil, rfl⟩
theorem fun_asc (t : Nd) : Asc (funT t) := by
 obtain ⟨k, n, m, ks⟩ := t
 rw [funT]
 split
 ·have hc : Li (WO ((ks.take (ks.length - 1)).map qv)) := li_commas _ fun x hx => by obtain ⟨y, _, rfl⟩ := List.mem_map.1 hx;exact li_typ y
  exact ZS (qA (qs (qs (qs (qs (ZX (by decide)) (li_itoa n)) (ZX (by decide))) hc) (ZX (by decide))) 0).1 (ZS (st_asc _ 0).2.1 (qA (s := sClose) (ZX (by decide)) 0).1)
 ·exact asc_nil
theorem pr_asc (t : Nd) : Asc (prT t) := by
 obtain ⟨k, n, m, ks⟩ := t
 rw [prT]
 split
 ·refine ZS (qA (qs (ZX (by decide)) (li_itoa n)) 0).1 fun b hb => ?_
  obtain ⟨y, hy, hby⟩ := List.mem_flatten.1 hb
  obtain ⟨z, _, rfl⟩ := List.mem_map.1 hy
  exact fun_asc z b hby
 split
 ·exact fun_asc _
 split
 ·exact li_asc (li_typ _)
 split
 ·exact li_asc (li_ex _)
 ·exact (st_asc _ 0).1.1
theorem print_asc (t : Nd) : Asc (ZD t) := by
 unfold ZD
 split
 ·exact pr_asc t
 ·exact asc_nil
theorem prT_len (t : Nd) (hok : okN t) (hs : Qx t <= 1000000) : (prT t).length <= 7000000 * Qx t := by
 have h1 := qL t hok
 have h2 := qK t hok
 have h3 := (st_len t hok 0).1
 have h4 := funT_len t hok hs
 have hb : bnd 0 (Qx t) <= 7000000 * Qx t := by
  unfold bnd
  exact Nat.mul_le_mul (by omega) (Nat.le_refl _)
 obtain ⟨k, n, m, ks⟩ := t
 rw [prT]
 rw [okN] at hok
 have hn := W5 hok.1.2.1
 have hse : Qx (.mk k n m ks) = 1 + QQ ks := by rw [Qx]
 have hf := funs_len ks hok.2 (by omega)
 repeat' split
 ·rw [List.length_append, Wh, List.length_append, hse]
  simp only [List.length_cons, List.length_nil];omega
 ·exact h4
 ·omega
 ·omega
 ·omega
theorem print_len (t : Nd) (hok : okN t) (hs : Qx t <= 1000000) : (ZD t).length <= 7000000 * Qx t := by
 unfold ZD
 split
 ·exact prT_len t hok hs
 ·simp
end Go.Proofs
end
section
namespace Go.Proofs
open Go.Av
variable {G : Nat -> DV}
attribute [local irreducible] OpSem Zh ZB ZP ACalls qu AClose RV
open Go.Bl
theorem s_sub_as2 {P : Program} {G : Nat -> DV} {B : Nat} {f : Operand -> DV} {σ : List ABlk} {K : DV -> List ABlk -> Prop} {dst : Option Tmp} {type : TypeId} {pos : String} {after : Array Edge} {gd : Option (Nat × Bool)} {t t' : TypeId} {x y : Operand} {a b c : Int} (hx : f x = .sc (.int .i64 a)) (hy : f y = .sc (.int .i64 b)) (hc : a - b = c) (h : -9223372036854775808 <= c /\ c <= 9223372036854775807)
  (k : K (.sc (.int .i64 c)) σ) : OpSem P G B ⟨dst, .binOp .sub t x y t', type, pos, after, gd⟩ f σ K :=
 Zk hx hy (by rw [hc];exact h) (by rw [hc];exact k)
def arnd (n most : Int) : Int := (if n < 0 then -(n + 1) else n) % most
theorem arnd_bound (n : Int) {most : Int} (h : 0 < most) : 0 <= arnd n most /\ arnd n most < most := by
 unfold arnd
 exact ⟨Int.emod_nonneg _ (by omega), Int.emod_lt_of_pos _ h⟩
theorem around_c (n most : Int) (hn : -9223372036854775808 <= n /\ n <= 9223372036854775807) (hm : 0 < most /\ most <= 9223372036854775807) : Go.Av.Pure Tryz.prog G 14 [.i n, .i most] (.i (arnd n most)) := fun B => by
 have hb := arnd_bound n hm.1
 unfold arnd at hb ⊢
 by_cases h : n < 0
 ·rw [if_pos h] at hb ⊢
  refine Qa Tryz.func14 rfl Tryz.ntmps14 rfl (t := [(0, .i n), (1, .i most)]) rfl fun E hE => ?_
  (repeat' first|(refine Qe ?_;(first|refine QI rfl ?_|refine QJ rfl ?_|(refine Qo ?_;(first|refine QY rfl rfl ?_|refine W7 rfl rfl (by omega) ?_|refine s_rem rfl rfl (by first|omega|exact nn_shr (by omega)) (by omega) ?_))|refine s_neg rfl (by omega) ?_))|(refine Qk ?_;(first|refine Qi ?_|refine QK rfl ?_))|(refine Qj ?_;(first|refine Ql ?_|refine Qc ?_|refine Qq rfl (by omega) ?_|refine Qt ?_)))
  refine e_1 Tryz.results14 (Qg rfl) (Qs ?_)
  rfl
 ·rw [if_neg h] at hb ⊢
  refine Qa Tryz.func14 rfl Tryz.ntmps14 rfl (t := [(0, .i n), (1, .i most)]) rfl fun E hE => ?_
  (repeat' first|(refine Qe ?_;(first|refine QI rfl ?_|refine QJ rfl ?_|(refine Qo ?_;(first|refine QY rfl rfl ?_|refine s_rem rfl rfl (by first|omega|exact nn_shr (by omega)) (by omega) ?_))))|(refine Qk ?_;(first|refine Qi ?_|refine QK rfl ?_))|(refine Qj ?_;(first|refine Ql ?_|refine Qc ?_|refine Qu ?_|refine Qn rfl (by omega) ?_|refine Qt ?_)))
  refine e_1 Tryz.results14 (Qg rfl) (Qs ?_)
  rfl
def atI (l : List Int) (i most : Int) : Int := if 0 <= i /\ i.toNat < l.length then arnd (l.getD i.toNat 0) most else 0
theorem Wa (l : List Int) (i : Int) {most : Int} (h : 0 < most) : 0 <= atI l i most /\ atI l i most < most := by
 unfold atI
 split
 ·exact arnd_bound _ h
 ·omega
def OkI (l : List Int) : Prop := l.length <= 9223372036854775807 /\ ∀ x ∈ l, -9223372036854775808 <= x /\ x <= 9223372036854775807
theorem r01At_c (l : List Int) (hl : OkI l) (i most : Int) (hm : 0 < most /\ most <= 9223372036854775807) : Go.Av.Pure Tryz.prog G 34 [QT l, .i i, .i most] (.i (atI l i most)) := fun B => by
 unfold atI
 by_cases h : 0 <= i /\ i.toNat < l.length
 ·rw [if_pos h]
  have hgd : l.getD i.toNat 0 = l[i.toNat] := by rw [List.getD_eq_getElem?_getD, List.getElem?_eq_getElem h.2];rfl
  rw [hgd]
  have har := around_c (G := G) l[i.toNat] most (hl.2 _ (List.getElem_mem h.2)) hm
  obtain ⟨h0, h1⟩ := h
  refine Qa Tryz.func34 rfl Tryz.ntmps34 rfl (t := [(0, QT l), (1, .i i), (2, .i most)]) rfl fun E hE => ?_
  (repeat' first|(refine Qe ?_;(first|refine QI rfl ?_|refine QJ rfl ?_|refine QS rfl ?_|refine qi rfl rfl (by omega) (by first|assumption|omega|(simp;done)|(simp;omega)) ?_|(refine Qo ?_;(first|refine QY rfl rfl ?_|refine W8 rfl rfl ?_))|(refine Qp ?_;(first|refine Qz rfl ?_|refine QZ rfl rfl (har) ?_))|refine Wr rfl rfl ?_))|(refine Qk ?_;(first|refine Qi ?_|refine QK rfl ?_|refine Wx rfl rfl rfl rfl ?_|refine Q2 rfl rfl (by omega) ?_))|(refine Qj ?_;(first|refine Ql ?_|refine Qc ?_|refine Qu ?_|refine Qn rfl (by omega) ?_|refine Qt ?_)))
  refine e_1 Tryz.results34 (Qg rfl) (Qs ?_)
  rfl
 ·rw [if_neg h]
  refine Qa Tryz.func34 rfl Tryz.ntmps34 rfl (t := [(0, QT l), (1, .i i), (2, .i most)]) rfl fun E hE => ?_
  (repeat' first|(refine Qe ?_;(first|refine QI rfl ?_|refine QJ rfl ?_|(refine Qo ?_;(first|refine QY rfl rfl ?_|refine W8 rfl rfl ?_))|refine Qz rfl ?_|(refine QX ?_;(first|refine WK rfl rfl ?_|refine Wr rfl rfl ?_))))|(refine Qk ?_;(first|refine Qi ?_|refine QK rfl ?_|refine Wx rfl rfl rfl rfl ?_|refine W1 rfl rfl rfl rfl ?_|refine qY rfl rfl (fun _ => ?_) (fun _ => ?_)))|(refine Qj ?_;(first|refine Ql ?_|refine Qc ?_|refine Qh rfl ?_|refine Qq rfl (by omega) ?_|refine Qt ?_)))
  all_goals
   refine e_1 Tryz.results34 (Qg rfl) (Qs ?_)
   rfl
abbrev genC (l : List Int) (a r : Int) : List DV := [QT l, .i a, .i r]
theorem WL (l : List Int) (hl : OkI l) (a r most : Int) (ha : 0 <= a /\ a <= 9000000000000000000) (hm : 0 < most /\ most <= 9223372036854775807) : CE Tryz.prog G 35 (fun p g => [.ptr p g 0, .i most]) (genC l a r) (.i (atI l a most)) (genC l (a + 1) r) := fun g B hg => by
 have hat := r01At_c (G := G) l hl a most hm
 refine Qa Tryz.func35 rfl Tryz.ntmps35 rfl (t := [(0, .ptr 0 g 0), (1, .i most)]) rfl fun E hE => ?_
 (repeat' first|(refine Qe ?_;(first|refine QI rfl ?_|refine QJ rfl ?_|refine Qb rfl rfl rfl ?_|refine W7 rfl rfl (by omega) ?_|refine We rfl rfl rfl rfl (by rfl) (by rfl) (by rfl) ?_|refine Qd rfl rfl ?_|refine Qv rfl rfl ?_))|(refine Qk ?_;(first|refine Qi ?_|refine QK rfl ?_|refine Q1 ?_))|(refine Qj ?_;(first|refine Ql ?_|refine Qc ?_|(refine Wn ?_;first|refine Q6 (by rfl) (by kernel_rfl) (by kernel_rfl) ?_|refine Q5 (by kernel_rfl) (by kernel_rfl) ?_)|refine Qt ?_))|(refine ZZ ?_;(first|refine x_op rfl (by (repeat' first|(refine Qe ?_;(first|refine QI rfl ?_|refine QJ rfl ?_|refine Qb rfl rfl rfl ?_|refine QZ rfl rfl (hat) ?_|refine Qd rfl rfl ?_|refine Qv rfl rfl ?_))|exact ⟨rfl, rfl⟩)) ?_|refine ZT ?_)))
 all_goals exact e_1 (Tryz.results35) (Qg rfl) (c_ce rfl rfl)
end Go.Proofs
end
section
namespace Go.Proofs
open Go.Av Go.Bl
theorem funT_len2 (t : Nd) (hok : okN t) (hs : Qx t <= 256) : (funT t).length <= 3000 * Qx t := by
 obtain ⟨k, n, m, ks⟩ := t
 rw [okN] at hok
 rw [Qx] at hs ⊢
 have hn := W5 hok.1.2.1
 rw [funT]
 split
 ·rename_i h
  have hk : 0 < ks.length := by simp at h;omega
  have hl := sizeL_last hk
  have hb := (st_len _ (Ws hok.2 (last_mem hk)) 0).2
  have hc := Z8 qv (M := 30) ks (ks.length - 1) fun x hx => qL x (Ws hok.2 hx)
  generalize ks.getD (ks.length - 1) (.mk 0 0 0 []) = b at *
  have hb2 : (6 * (0 + Qx b) + 100) * (Qx b - 1) <= 3000 * (Qx b - 1) := Nat.mul_le_mul (by omega) (Nat.le_refl _)
  simp only [List.length_append, Wh, List.length_cons, List.length_nil]
  omega
 ·simp
theorem funs_len2 : ∀ (ks : List Nd), okL ks -> QQ ks <= 256 -> ((ks.map funT).flatten).length <= 3000 * QQ ks
 | [], _, _ => by simp
 | x :: r, h, hs => by
  rw [okL] at h
  rw [QQ] at hs
  have h1 := funT_len2 x h.1 (by omega)
  have h2 := funs_len2 r h.2 (by omega)
  rw [List.map_cons, List.flatten_cons, List.length_append, QQ, Nat.mul_add];omega
theorem prT_len2 (t : Nd) (hok : okN t) (hs : Qx t <= 256) : (prT t).length <= 3000 * Qx t := by
 have h1 := qL t hok
 have h2 := qK t hok
 have h3 := (st_len t hok 0).1
 have h4 := funT_len2 t hok hs
 have hb : bnd 0 (Qx t) <= 3000 * Qx t := by
  unfold bnd
  exact Nat.mul_le_mul (by omega) (Nat.le_refl _)
 obtain ⟨k, n, m, ks⟩ := t
 rw [prT]
 rw [okN] at hok
 have hn := W5 hok.1.2.1
 have hse : Qx (.mk k n m ks) = 1 + QQ ks := by rw [Qx]
 have hf := funs_len2 ks hok.2 (by omega)
 repeat' split
 ·rw [List.length_append, Wh, List.length_append, hse]
  simp only [List.length_cons, List.length_nil];omega
 ·exact h4
 ·omega
 ·omega
 ·omega
theorem print_len2 (t : Nd) (hok : okN t) (hs : Qx t <= 256) : (ZD t).length <= 768000 := by
 unfold ZD
 split
 ·have := prT_len2 t hok hs;omega
 ·simp
theorem valid_ok {t : Nd} (h : validM t = true) : okN t /\ Qx t <= 256 /\ prOk t = true := by
 have hp := valid_pr h
 unfold validM at h
 simp only [Bool.and_eq_true, decide_eq_true_eq] at h
 exact ⟨fit_ok t 0 h.2, h.1.1, hp⟩
def lenS (l : List (List UInt8)) : Nat := (l.map (·.length)).sum
theorem lenS_cons (x : List UInt8) (l : List (List UInt8)) : lenS (x :: l) = x.length + lenS l := by unfold lenS;rw [List.map_cons, List.sum_cons]
theorem scan_toks (s : List UInt8) (a : Nat) : (∀ t ∈ (Wy s a).1.map (·.1), t ≠ [] /\ ∃ u, Wk u = t) /\ lenS ((Wy s a).1.map (·.1)) <= s.length := by
 have key : ∀ (n : Nat) (u : List UInt8) (a : Nat), u.length = n -> (∀ t ∈ (Wy u a).1.map (·.1), t ≠ [] /\ ∃ u, Wk u = t) /\ lenS ((Wy u a).1.map (·.1)) <= u.length := by
  intro n
  induction n using Nat.strongRecOn with
  | _ n ih =>
  intro u a hu
  have hd := (List.dropWhile_sublist (l := u) spB).length_le
  by_cases hf : Wk (u.dropWhile spB) = []
  ·rw [scan_nil hf]
   exact ⟨fun t ht => by simp at ht, by simp [lenS]⟩
  ·have hle := qQ (u.dropWhile spB)
   have hpos : 1 <= (Wk (u.dropWhile spB)).length := by
    cases hq : Wk (u.dropWhile spB) with
    | nil => exact absurd hq hf
    | cons b q => simp
   rw [scan_cons rfl rfl hf rfl]
   have hdl : ((u.dropWhile spB).drop (Wk (u.dropWhile spB)).length).length = (u.dropWhile spB).length - (Wk (u.dropWhile spB)).length := List.length_drop
   obtain ⟨i1, i2⟩ := ih _ (by rw [hdl];omega) ((u.dropWhile spB).drop (Wk (u.dropWhile spB)).length) (a + (u.length - (u.dropWhile spB).length) + (Wk (u.dropWhile spB)).length) rfl
   rw [hdl] at i2
   refine ⟨fun t ht => ?_, ?_⟩
   ·rw [List.map_cons] at ht
    rcases List.mem_cons.1 ht with rfl|ht
    ·exact ⟨hf, _, rfl⟩
    ·exact i1 t ht
   ·rw [List.map_cons, lenS_cons];dsimp only at *;omega
 exact key _ s a rfl
theorem len_le_lenS : ∀ {l : List (List UInt8)}, (∀ t ∈ l, t ≠ []) -> l.length <= lenS l
 | [], _ => Nat.zero_le _
 | x :: r, h => by
  have h1 := List.length_pos_iff.2 (h x (by simp))
  have h2 := len_le_lenS (l := r) fun t ht => h t (by simp [ht])
  rw [lenS_cons, List.length_cons];omega
end Go.Proofs
end
section
namespace Go.Proofs
open Go.Av
variable {G : Nat -> DV}
attribute [local irreducible] OpSem Zh ZB ZP ACalls qu AClose RV
open Go.Bl
theorem partD_nd (v : Nd) : partD (Enc.enc v) 0 4 = some (Enc.enc v) := by cases v;rw [Q0];rfl
theorem copied_c (t : Nd) : Qx t <= 1000000 -> Go.Av.Pure Tryz.prog G 121 [.agg (Enc.enc t)] (.agg (Enc.enc t)) := by
 induction t using Nd.ind with
 | h k n m ks ih =>
 intro hsz B
 have hse : Qx (.mk k n m ks) = 1 + QQ ks := by rw [Qx]
 rw [hse] at hsz
 have hln := WV ks
 have hi : ∀ x ∈ ks, Go.Av.Pure Tryz.prog G 121 [.agg (Enc.enc x)] (.agg (Enc.enc x)) := fun x hx => ih x hx (by have := Q9 hx;omega)
 clear ih
 rw [Q0]
 refine Qa Tryz.func121 rfl Tryz.ntmps121 rfl (t := [(0, .agg [.i k, .i n, .i m, QT ks])]) rfl fun E hE => ?_
 (repeat' first|(refine Qe ?_;(first|refine QI rfl ?_|refine QJ rfl ?_|refine Qb rfl rfl rfl ?_|refine Qz rfl ?_|refine We rfl rfl rfl rfl (by rfl) (by rfl) (by rfl) ?_|refine Qd rfl rfl ?_|refine QD (fun _ _ => ?_)|refine QV rfl rfl (fun _ _ => ?_)))|(refine Qk ?_;(first|refine Qi ?_|refine QK rfl ?_|refine Q1 ?_))|(refine Qj ?_;(first|refine Ql ?_|refine Qc ?_|refine Qf ?_)))
 rename_i g1 hg1 g2 hg2
 refine r_ownin 0 3 4 rfl rfl (fun _ => rfl) (fun gk hgk => ?_)
 refine r_loop2 (fun (i gc : Nat) => ⟨[(1, .ptr 0 g1 0), (2, .ptr 1 g2 0), (9, QT ks), (10, .i ks.length), (11, .i i)], [.row g1 [.i k, .i n, .i m, .ref 2 gc 0 (ks.take i).length 4], .row g2 [.i 0, .i 0, .i 0, .nil], .row gc (WE (ks.take i))]⟩) (fun i gc => i <= ks.length /\ E.N < gc) (fun i _ => ks.length - i) 0 gk ?_ ⟨by omega, hgk⟩ ?_
 ·exact zal rfl
 intro i gc ⟨hi2, hgc⟩
 have hcl : (ks.take i).length <= 1000000 := by rw [List.length_take];omega
 by_cases hil : i < ks.length
 ·have hi1 := hi _ (List.getElem_mem hil)
  have hst := List.take_succ_eq_append_getElem hil
  clear hi
  (repeat' first|(refine Qe ?_;(first|refine QI rfl ?_|refine QR rfl ?_|refine QC rfl rfl (by first|assumption|omega|(simp;done)|(simp;omega)) ?_|(refine Qo ?_;(first|refine QY rfl rfl ?_|refine W7 rfl rfl (by omega) ?_))|refine ZL (z := (ks[i])) rfl rfl rfl rfl rfl rfl rfl (by first|omega|(simp;omega)) (by first|omega|(simp;omega)) (fun _ => rfl) (fun _ _ => ?_)|(refine Wv ?_;(first|refine WR rfl rfl rfl rfl ?_|refine We rfl rfl rfl rfl (by rfl) (by rfl) (by rfl) ?_))|refine QD (fun _ _ => ?_)))|(refine Qk ?_;(first|refine Qi ?_|refine QK rfl ?_|refine Q1 ?_))|(refine Qj ?_;(first|refine Ql ?_|refine Qc ?_|refine Qf ?_|(refine Wn ?_;first|(rename_i g5 hg5;refine QG (fun p => .row g1 [.i k, .i n, .i m, .ref 2 gc 0 (ks.take i).length 4] :: .row g2 [.i 0, .i 0, .i 0, .nil] :: p :: .row g5 (Enc.enc ks[i]) :: []) 7 [(0, true), (1, true), (2, true), (3, true), (4, true), (5, false), (6, true), (7, false)] (by rfl) (by rfl) (by kernel_rfl) (by decide +kernel) (by decide +kernel) ⟨_, rfl⟩ ?_)|(refine QG (fun p => p) 100 [(0, true)] (by rfl) (by rfl) (by kernel_rfl) (by decide +kernel) (by decide +kernel) ⟨_, rfl⟩ ?_)|refine Q6 (by rfl) (by kernel_rfl) (by kernel_rfl) ?_|refine Q5 (by kernel_rfl) (by kernel_rfl) ?_)|refine Qu ?_|refine Qq rfl (by omega) ?_))|(refine Zf ?_;(first|refine ZY ?_|refine i_z0 ?_|refine i_st rfl rfl (fun _ => (by (repeat' first|(refine Qe ?_;(first|(refine QB ?_;(first|refine WQ rfl rfl ?_|refine Qb rfl rfl rfl ?_))|refine Zn rfl rfl hi1 (WF (Enc.clo _)) ?_|refine Wf (z := ks[i]) rfl rfl (by decide) ?_|refine Qd rfl rfl ?_))|exact ⟨rfl, rfl⟩))) ?_|refine i_ef rfl ?_))|refine And.intro (Exists.intro (_) rfl) ?_)
  rename_i ga hga
  refine ⟨i + 1, ga, ⟨by omega, by omega⟩, by omega, ?_⟩
  rw [hst]
  exact zal rfl
 ·have hi3 : i = ks.length := by omega
  subst hi3
  rw [List.take_length]
  have c1 := Q4 ks
  clear hi
  refine r_pubin 0 3 rfl rfl rfl c1.symm rfl rfl ?_
  (repeat' first|(refine Qe ?_;(first|refine WQ rfl rfl ?_|refine QY rfl rfl ?_|refine WR rfl rfl rfl rfl ?_))|(refine Qk ?_;(first|refine Qi ?_|refine QK rfl ?_|refine Q1 ?_))|(refine Qj ?_;(first|refine Ql ?_|refine Qc ?_|refine Qn rfl (by omega) ?_|refine Wp rfl ?_|refine Qt ?_)))
  all_goals exact e_1 (Tryz.results121) (QA (size := 4) rfl rfl rfl rfl) (Qs rfl)
def atM : List Int -> Nd -> Option Nd
 | [], t => some t
 | i :: p, .mk k n m ks => if 0 <= i then (match ks[i.toNat]? with|some x => atM p x|none => none) else none
theorem atM_cons {a : Int} {p : List Int} {k n m : Int} {ks : List Nd} (h0 : 0 <= a) (h1 : a.toNat < ks.length) : atM (a :: p) (.mk k n m ks) = atM p ks[a.toNat] := by
 rw [atM, if_pos h0, List.getElem?_eq_getElem h1]
theorem atM_none {a : Int} {p : List Int} {k n m : Int} {ks : List Nd} (h : a < 0 \/ (ks.length : Int) <= a) : atM (a :: p) (.mk k n m ks) = none := by
 rw [atM]
 split
 ·rw [List.getElem?_eq_none (by omega)]
 ·rfl
def atD (o : Option Nd) : DV := match o with|some x => .tup [.agg (Enc.enc x), .b true]|none => .tup [.agg (Enc.enc zero0), .b false]
where zero0 : Nd := .mk 0 0 0 []
theorem tup_nil0 {L : Lay} {a b c d : DV} {es : Nat} {v : Value} (h : VRep L (.tup [.agg [a, b, c, .sc (.slice none 0 0)], d]) v) : VRep L (.tup [.agg [a, b, c, .sl es []], d]) v := by
 cases h with|tup _ vs hl hg =>
 refine .tup _ _ hl fun j e hj => ?_
 match j with
 | 0 =>
  simp at hj;subst hj
  have h0 := hg 0 _ rfl
  generalize vs.getD 0 undef = v0 at h0 ⊢
  cases h0 with|agg _ ws hl2 ho2 hg2 =>
  refine .agg _ _ hl2 (fun e he => ?_) fun j e hj => ?_
  ·simp only [List.mem_cons, List.not_mem_nil, or_false] at he
   rcases he with rfl|rfl|rfl|rfl
   ·exact ho2 _ (by simp)
   ·exact ho2 _ (by simp)
   ·exact ho2 _ (by simp)
   ·rfl
  ·match j with
   | 0 => exact hg2 0 e hj
   | 1 => exact hg2 1 e hj
   | 2 => exact hg2 2 e hj
   | 3 => simp at hj;subst hj;exact Zq (hg2 3 _ rfl)
   | j + 4 => simp at hj
 | j + 1 => exact hg (j + 1) e hj
theorem trAt_c (t : Nd) (hsz : Qx t <= 1000000) (path : List Int) (hpl : path.length <= 4611686018427387904) : Go.Av.Pure Tryz.prog G 67 [.agg (Enc.enc t), QT path] (atD (atM path t)) := fun B => by
 refine Qa Tryz.func67 rfl Tryz.ntmps67 rfl (t := [(0, .agg (Enc.enc t)), (1, QT path)]) rfl fun E hE => ?_
 (repeat' first|(refine Qe ?_;(first|refine QI rfl ?_|refine QJ rfl ?_|refine Qz rfl ?_|refine QD (fun _ _ => ?_)|refine QV rfl rfl (fun _ _ => ?_)))|(refine Qk ?_;(first|refine Qi ?_|refine QK rfl ?_))|(refine Qj ?_;(first|refine Ql ?_|refine Qc ?_|refine Qf ?_)))
 rename_i g2 hg2 g4 hg4
 refine r_loop2 (fun (j : Nat) (cur : Nd) => ⟨[(2, .ptr 0 g2 0), (4, .ptr 1 g4 0), (8, QT path), (9, .i path.length), (10, .i j)], [.row g2 (Enc.enc cur), .row g4 [.i 0, .i 0, .i 0, .nil]]⟩) (fun j cur => j <= path.length /\ atM path t = atM (path.drop j) cur /\ Qx cur <= 1000000) (fun j _ => path.length - j) 0 t ?_ ⟨by omega, by simp, hsz⟩ ?_
 ·exact zal rfl
 intro j cur ⟨hj, he, hcs⟩
 obtain ⟨k, n, m, ks⟩ := cur
 have hse : Qx (.mk k n m ks) = 1 + QQ ks := by rw [Qx]
 have hln := WV ks
 by_cases hjl : j < path.length
 ·rw [List.drop_eq_getElem_cons hjl] at he
  rw [Q0]
  by_cases hc : 0 <= path[j] /\ path[j].toNat < ks.length
  ·rw [atM_cons hc.1 hc.2] at he
   have hat : ((path[j].toNat : Nat) : Int) = path[j] := Int.toNat_of_nonneg hc.1
   have hsm := Q9 (List.getElem_mem hc.2)
   obtain ⟨hc0, hc1⟩ := hc
   (repeat' first|(refine Qe ?_;(first|refine QI rfl ?_|refine QJ rfl ?_|(refine QB ?_;(first|refine QS rfl ?_|refine QR rfl ?_|refine Qb rfl rfl rfl ?_))|(refine qJ ?_;(first|refine QC rfl rfl (by first|assumption|omega|(simp;done)|(simp;omega)) ?_|refine qi rfl rfl (by omega) (by first|assumption|omega|(simp;done)|(simp;omega)) ?_))|(refine Qo ?_;(first|refine QY rfl rfl ?_|refine W8 rfl rfl ?_|refine W7 rfl rfl (by omega) ?_))|refine Qz rfl ?_|refine Wr rfl rfl ?_|refine WR rfl rfl rfl rfl ?_|refine Qd rfl rfl ?_))|(refine Qk ?_;(first|refine Qi ?_|refine QK rfl ?_|refine Q1 ?_|refine Wx rfl rfl rfl rfl ?_|refine Q2 rfl rfl (by omega) ?_))|(refine Qj ?_;(first|refine Ql ?_|refine Qc ?_|refine Qf ?_|refine Qu ?_|refine Qq rfl (by omega) ?_|refine Qn rfl (by omega) ?_)))
   refine ⟨j + 1, ks[path[j].toNat], ⟨by omega, he, by omega⟩, by omega, ?_⟩
   exact zal rfl
  ·rw [atM_none (by omega)] at he
   rw [he]
   (repeat' first|(refine Qe ?_;(first|refine QI rfl ?_|refine QJ rfl ?_|(refine QB ?_;(first|refine QS rfl ?_|refine Qb rfl rfl rfl ?_))|refine QC rfl rfl (by first|assumption|omega|(simp;done)|(simp;omega)) ?_|(refine Qo ?_;(first|refine QY rfl rfl ?_|refine W8 rfl rfl ?_))|refine Qz rfl ?_|(refine QX ?_;(first|refine WK rfl rfl ?_|refine Wr rfl rfl ?_))|refine WR rfl rfl rfl rfl ?_|refine Qd rfl rfl ?_|refine QH rfl rfl ?_))|(refine Qk ?_;(first|refine Qi ?_|refine QK rfl ?_|refine Q1 ?_|refine Wx rfl rfl rfl rfl ?_|refine W1 rfl rfl rfl rfl ?_|refine qY rfl rfl (fun _ => ?_) (fun _ => ?_)))|(refine Qj ?_;(first|refine Ql ?_|refine Qc ?_|refine Qf ?_|refine Qu ?_|refine Qh rfl ?_|refine Qq rfl (by omega) ?_|refine Qt ?_)))
   all_goals exact e_2 (Tryz.results67) (QA (size := 4) rfl rfl rfl rfl) (Qg rfl) (Zm (d2 := .tup [.agg [.i 0, .i 0, .i 0, .sl 4 []], .b false]) (fun L v h => tup_nil0 h) (Qs (by show _ = DV.tup [.agg (Enc.enc (Nd.mk 0 0 0 [])), .b false];rw [Q0];rfl)))
 ·have hje : j = path.length := by omega
  subst hje
  rw [List.drop_length] at he
  have hcp := copied_c (G := G) (.mk k n m ks) hcs
  rw [he]
  show Zh _ _ _ _ _ _ _ _ _
  (repeat' first|(refine Qe ?_;(first|refine QJ rfl ?_|refine WQ rfl rfl ?_|refine QY rfl rfl ?_|refine Zn rfl rfl hcp (WF (Enc.clo _)) ?_|refine WR rfl rfl rfl rfl ?_))|(refine Qk ?_;(first|refine Qi ?_|refine QK rfl ?_|refine Q1 ?_))|(refine Qj ?_;(first|refine Ql ?_|refine Qc ?_|refine Qn rfl (by omega) ?_|refine Wp rfl ?_|refine Qt ?_)))
  all_goals exact e_2 (Tryz.results67) (QA (size := 4) rfl rfl (partD_nd _) (Enc.len _)) (Qg rfl) (Qs rfl)
end Go.Proofs
end
section
namespace Go.Proofs
open Go.RowKit
theorem nlC_succ {l : List UInt8} {i : Nat} (h : i < l.length) : nlC (l.take (i + 1)) = nlC (l.take i) + (if l[i] = 10 then 1 else 0) := by
 unfold nlC
 rw [List.take_succ_eq_append_getElem h, List.countP_append, List.countP_singleton]
 congr 1
 by_cases e : l[i] = 10
 ·simp [e]
 ·simp [e]
theorem ba_get (l : List UInt8) (i : Nat) (h : i < (⟨l.toArray⟩ : ByteArray).size) : (⟨l.toArray⟩ : ByteArray)[i]'h = l[i]'(by have := h;change i < l.toArray.size at this;simpa using this) := by
 show l.toArray[i]'h = _
 simp
set_option maxHeartbeats 1600000 in
set_option maxRecDepth 100000 in
theorem lines_gives (l : List UInt8) (ha : ∀ b ∈ l, b.toNat < 128) (hl : l.length <= 9223372036854775807) (w : World) :
  Calls Tryz.prog 69 #[.string ⟨l.toArray⟩] w fun e w' => e = .returned (.int .i64 (nlC l)) /\ Below w.heap.size w w' := by
 have hsz : (⟨l.toArray⟩ : ByteArray).size = l.length := by show l.toArray.size = _;simp
 have hcl : ∀ i, nlC (l.take i) <= i := fun i => by
  have h1 : nlC (l.take i) <= (l.take i).length := List.countP_le_length
  have h2 := List.length_take_le i l
  omega
 go_enter Tryz.func69, Tryz.ntmps69
 go_wp2
 go_loopw [3] (fun v wr => ∃ pos : Nat, pos <= l.length /\ v = .int .i64 (nlC (l.take pos) : Nat) /\ wr = w.iter ⟨l.toArray⟩ pos) (fun _ wr => l.length - wr.iterPos w.heap.size)
 case atStart => exact ⟨0, Nat.zero_le _, rfl, rfl⟩
 case round =>
  obtain ⟨pos, hp, rfl, rfl⟩ := hrel
  have hip : (w.iter ⟨l.toArray⟩ pos).iterPos w.heap.size = pos := by unfold World.iterPos;rw [World.iter_heap]
  have hip1 : (w.iter ⟨l.toArray⟩ (pos + 1)).iterPos w.heap.size = pos + 1 := by unfold World.iterPos;rw [World.iter_heap]
  have hcp := hcl pos
  by_cases hpl : pos < l.length
  ·have hi : pos < (⟨l.toArray⟩ : ByteArray).size := by omega
   have hg := ba_get l pos hi
   have hasc : ((⟨l.toArray⟩ : ByteArray)[pos]'hi).toNat < 128 := by rw [hg];exact ha _ (List.getElem_mem hpl)
   have hnx := fun ty => run_next_ascii (P := Tryz.prog) w ⟨l.toArray⟩ pos ty hi hasc
   rw [hg] at hnx
   have hs := nlC_succ hpl
   by_cases h10 : l[pos] = 10
   ·rw [h10] at hnx
    rw [if_pos h10] at hs
    go_wp2
    go_roundw
    case rel => exact ⟨pos + 1, hpl, by rw [hs];rfl, rfl⟩
    case measure => rw [hip, hip1];omega
   ·have h10' : ((l[pos].toNat : Nat) : Int) ≠ 10 := by
     intro e
     apply h10
     have : l[pos].toNat = 10 := by omega
     exact UInt8.toNat_inj.1 this
    rw [if_neg h10] at hs
    go_wp2
    exact ⟨⟨pos + 1, hpl, by rw [hs];rfl, rfl⟩, by rw [hip, hip1];omega⟩
  ·have hpe : pos = l.length := by omega
   subst hpe
   have hnx := fun ty => run_next_end (P := Tryz.prog) w ⟨l.toArray⟩ l.length ty (by omega)
   go_wp2
   go_ret
   exact ⟨by rw [List.take_length];rfl, (Below.refl _ w).alloc (Nat.le_refl _) _⟩
section
open Go.Av Go.Bl
variable {G : Nat -> DV}
theorem lines_c (l : List UInt8) (ha : ∀ b ∈ l, b.toNat < 128) (hl : l.length <= 9223372036854775807) : Go.Av.Pure Tryz.prog G 69 [WA l] (.i (nlC l)) :=
 pure_of (us := [.string ⟨l.toArray⟩]) (v := .int .i64 (nlC l)) rfl rfl fun X _ => lines_gives l ha hl X.w
end
end Go.Proofs
end
