/-
  Part 5 of the proof: PC AvD2 AvD3 AvD4 GM SP AvB2 SC S0 S1 S2 RM R0 R1 RX R2 R3 AvL5 GB AvB3.
-/
import Derived.Test.YtnppaoeijmgneaaGreatDoorZE1
import Derived.Test.YtnppaoeijmgneaaGreatDoorZE2
import Derived.Test.YtnppaoeijmgneaaGreatDoorZE3
import Derived.Test.YtnppaoeijmgneaaGreatDoorZE4
set_option linter.unusedSimpArgs false
set_option linter.unusedVariables false
set_option maxRecDepth 10000
set_option maxHeartbeats 4000000
section
namespace Go.Proofs
open Go.Av
variable {G : Nat -> DV}
attribute [local irreducible] OpSem Zd Zx ZL ACalls qt AClose RV
open Go.Bl
def setN : List Int -> Nd -> Nd -> Nd
 | [], _, x => x
 | i :: p, .mk k n m ks, x => .mk k n m (ks.set i.toNat (setN p (ks.getD i.toNat (.mk 0 0 0 [])) x))
theorem set_take {ks : List Nd} {j i : Nat} {z : Nd} (hi : i < ks.length) : (ks.set j z).take (i + 1) = (ks.set j z).take i ++ [if i = j then z else ks[i]] := by
 rw [List.take_succ_eq_append_getElem (by rw [List.length_set];exact hi), List.getElem_set]
 congr 2
 by_cases e : i = j
 ·rw [if_pos e, if_pos e.symm]
 ·rw [if_neg e, if_neg (fun h => e h.symm)]
theorem sizeL_set {z : Nd} : ∀ {ks : List Nd} {j : Nat} (h : j < ks.length), QT (ks.set j z) + Qu ks[j] = QT ks + Qu z
 | x :: r, 0, _ => by
  rw [List.set_cons_zero, QT, QT, List.getElem_cons_zero];omega
 | x :: r, j + 1, h => by
  have := sizeL_set (z := z) (ks := r) (j := j) (by simpa using h)
  rw [List.set_cons_succ, QT, QT, List.getElem_cons_succ];omega
theorem r05Set_c (x : Nd) (hx : Qu x <= 100000) (p : List Int) : ∀ t : Nd, p ∈ Zi t -> Qu t <= 100000 -> Go.Av.Pure Tryz.prog G 41 [.agg (Enc.enc t), QR p, .agg (Enc.enc x)] (.tup [.agg (Enc.enc (setN p t x)), .i 0]) /\ Qu (setN p t x) <= Qu t + Qu x := by
 induction p with
 | nil =>
  rintro ⟨k, n, m, ks⟩ _ _
  refine ⟨fun B => ?_, by rw [setN];omega⟩
  rw [setN, QW k n m]
  refine Qa Tryz.func41 rfl Tryz.ntmps41 rfl (t := [(0, .agg [.i k, .i n, .i m, QR ks]), (1, QR ([] : List Int)), (2, .agg (Enc.enc x))]) rfl fun E hE => ?_
  (repeat' first|(refine Qe ?_;(first|refine QG rfl ?_|refine QJ rfl ?_|refine WF rfl rfl ?_|refine QS rfl rfl ?_|refine Qt rfl ?_|refine WR rfl rfl rfl rfl ?_|refine QC (fun _ _ => ?_)|refine QU rfl rfl (fun _ _ => ?_)))|(refine Qk ?_;(first|refine Qi ?_|refine QN rfl ?_|refine Q5 ?_))|(refine Qj ?_;(first|refine Qn ?_|refine Qc ?_|refine Qh rfl ?_|refine Qs ?_)))
  all_goals exact e_2 (Tryz.results41) (QH (size := 4) rfl rfl (ZW (Enc.len _)) (Enc.len _)) (Qg rfl) (Qw rfl)
 | cons a p ih =>
  rintro ⟨k, n, m, ks⟩ hp hsz
  have hln := WC ks
  have hplen : p.length < 100000 := by
   have := paths_lens _ _ hp
   rw [List.length_cons] at this
   omega
  rw [pathsN_eq] at hp
  rw [Qu] at hsz
  rcases List.mem_cons.1 hp with h|hp
  ·cases h
  obtain ⟨j, hj, q, he, hq⟩ := mem_pathsL hp
  rw [Nat.zero_add] at he
  cases he
  have hsm := QY (List.getElem_mem hj)
  obtain ⟨hset, hs2⟩ := ih ks[j] hq (by omega)
  have e : setN ((j : Int) :: p) (.mk k n m ks) x = .mk k n m (ks.set j (setN p ks[j] x)) := by
   rw [setN, show ((j : Int)).toNat = j by omega, List.getD_eq_getElem?_getD, List.getElem?_eq_getElem hj];rfl
  rw [e]
  have hsl := sizeL_set (z := setN p ks[j] x) hj
  refine ⟨fun B => ?_, by rw [Qu, Qu];omega⟩
  generalize setN p ks[j] x = r at *
  have hpp : ((j : Int) :: p).length = p.length + 1 := rfl
  clear ih hp hq hs2 hsl hsm e
  rw [QW k n m ks]
  refine Qa Tryz.func41 rfl Tryz.ntmps41 rfl (t := [(0, .agg [.i k, .i n, .i m, QR ks]), (1, QR ((j : Int) :: p)), (2, .agg (Enc.enc x))]) rfl fun E hE => ?_
  (repeat' first|(refine Qe ?_;(first|refine QG rfl ?_|refine QJ rfl ?_|refine WF rfl rfl ?_|(refine Qo ?_;(first|refine QS rfl rfl ?_|refine ZN rfl rfl ?_))|refine Qt rfl ?_|(refine Wl ?_;(first|refine WR rfl rfl rfl rfl ?_|refine Q7 rfl rfl rfl rfl (by rfl) (by rfl) (by rfl) ?_))|refine Qd rfl rfl ?_|refine QC (fun _ _ => ?_)|refine QU rfl rfl (fun _ _ => ?_)))|(refine Qk ?_;(first|refine Qi ?_|refine QN rfl ?_|refine Q5 ?_))|(refine Qj ?_;(first|refine Qn ?_|refine Qc ?_|refine Qf ?_|(refine Wg ?_;first|(rename_i g3 hg3 g5 hg5 g6 hg6;refine QB (fun p => .row g3 [.i k, .i n, .i m, QR ks] :: .row g5 (Enc.enc x) :: p) 17 [(0, true), (1, true), (2, true), (3, true), (4, true), (5, true), (6, true), (7, true), (8, true), (9, true), (10, true), (11, true), (12, true), (13, true), (14, false), (15, false), (16, true)] (by rfl) (by rfl) (by kernel_rfl) (by decide +kernel) (by decide +kernel) ⟨_, rfl⟩ ?_)|(refine QB (fun p => .row g3 [.i k, .i n, .i m, QR ks] :: .row g5 (Enc.enc x) :: p) 100 [(0, true)] (by rfl) (by rfl) (by kernel_rfl) (by decide +kernel) (by decide +kernel) ⟨_, rfl⟩ ?_)|(refine QB (fun p => .row g3 [.i k, .i n, .i m, QR ks] :: .row g5 (Enc.enc x) :: p.1 :: p.2.1 :: .row g10 [.i k, .i n, .i m, .ref 5 gc 0 cur.length 4] :: p.2.2) 10 [(0, true), (1, true), (2, true), (3, true), (4, true), (5, true), (6, true), (7, true), (8, false), (9, true), (10, false)] (by rfl) (by rfl) (by kernel_rfl) (by decide +kernel) (by decide +kernel) ⟨(_, _, _), rfl⟩ ?_)|refine Q3 (by rfl) (by kernel_rfl) (by kernel_rfl) ?_|refine Q2 (by kernel_rfl) (by kernel_rfl) ?_)|refine Qx ?_|refine Ql rfl ?_|refine Qm rfl (by omega) ?_))|(refine Zw ?_;(first|refine x_op rfl (by (repeat' first|(refine Qe ?_;(first|refine QG rfl ?_|refine QJ rfl ?_|(refine Qz ?_;(first|refine WF rfl rfl ?_|refine QM rfl ?_|refine QD rfl ?_|refine Qb rfl rfl rfl ?_))|(refine W6 ?_;(first|refine ZC rfl rfl ?_|refine Qv rfl rfl (by first|assumption|omega|(simp;done)|(simp;omega)) ?_))|(refine Qo ?_;(first|refine Q1 rfl rfl ?_|refine W0 rfl rfl ?_))|(refine Qq ?_;(first|refine W4 rfl rfl hset (Wv (Q8 (Wp (Enc.clo _)) (Q8 Wf WL))) ?_|refine Qt rfl ?_))|refine Wr rfl rfl ?_|refine Qd rfl rfl ?_|refine QI rfl rfl rfl ?_|refine ZZ rfl rfl (by omega) (by omega) ?_))|exact ⟨rfl, rfl⟩)) ?_|refine x_gy rfl rfl rfl rfl (by (repeat' first|(refine Qe ?_;(first|refine QG rfl ?_|refine QJ rfl ?_|(refine Qz ?_;(first|refine WF rfl rfl ?_|refine QM rfl ?_|refine QD rfl ?_|refine Qb rfl rfl rfl ?_))|(refine W6 ?_;(first|refine ZC rfl rfl ?_|refine Qv rfl rfl (by first|assumption|omega|(simp;done)|(simp;omega)) ?_))|(refine Qo ?_;(first|refine Q1 rfl rfl ?_|refine W0 rfl rfl ?_))|(refine Qq ?_;(first|refine W4 rfl rfl hset (Wv (Q8 (Wp (Enc.clo _)) (Q8 Wf WL))) ?_|refine Qt rfl ?_))|refine Wr rfl rfl ?_|refine Qd rfl rfl ?_|refine QI rfl rfl rfl ?_|refine ZZ rfl rfl (by omega) (by omega) ?_))|exact ⟨rfl, rfl⟩)) ?_|refine Zr ?_))|(refine Ze ?_;(first|refine Z1 ?_|refine i_st rfl rfl (fun _ => (by (repeat' first|(refine Qe ?_;(first|refine QG rfl ?_|refine QJ rfl ?_|(refine Qz ?_;(first|refine WF rfl rfl ?_|refine QM rfl ?_|refine QD rfl ?_|refine Qb rfl rfl rfl ?_))|(refine W6 ?_;(first|refine ZC rfl rfl ?_|refine Qv rfl rfl (by first|assumption|omega|(simp;done)|(simp;omega)) ?_))|(refine Qo ?_;(first|refine Q1 rfl rfl ?_|refine W0 rfl rfl ?_))|(refine Qq ?_;(first|refine W4 rfl rfl hset (Wv (Q8 (Wp (Enc.clo _)) (Q8 Wf WL))) ?_|refine Qt rfl ?_))|refine Wr rfl rfl ?_|refine Qd rfl rfl ?_|refine QI rfl rfl rfl ?_|refine ZZ rfl rfl (by omega) (by omega) ?_))|exact ⟨rfl, rfl⟩))) ?_|refine i_ef rfl ?_|refine i_ef0 ?_))|refine And.intro (Exists.intro (_) rfl) ?_)
  rename_i g8 hg8 g10 hg10
  refine r_ownin 4 3 4 rfl rfl (fun _ => rfl) (fun gk hgk => ?_)
  refine r_loop2 (fun (i gc : Nat) => ⟨[(1, QR ((j : Int) :: p)), (3, .ptr 0 g3 0), (8, .ptr 3 g8 0), (10, .ptr 4 g10 0), (11, .i i), (6, .ptr 2 g6 0), (7, .i 0)], [.row g3 [.i k, .i n, .i m, QR ks], .row g5 (Enc.enc x), .row g6 [.i 0, .i 0, .i 0, .nil], .row g8 (Enc.enc r), .row g10 [.i k, .i n, .i m, .ref 5 gc 0 ((ks.set j r).take i).length 4], .row gc (Ws ((ks.set j r).take i))]⟩) (fun i gc => i <= ks.length /\ E.N < gc) (fun i _ => ks.length - i) 0 gk ?_ ⟨by omega, hgk⟩ ?_
  ·exact zal rfl
  intro i gc ⟨hi, hgc⟩
  have hcl : ((ks.set j r).take i).length <= 100000 := by rw [List.length_take, List.length_set];omega
  by_cases hil : i < ks.length
  ·have hst := set_take (j := j) (z := r) hil
   generalize (ks.set j r).take i = cur at *
   by_cases e : i = j
   ·rw [if_pos e] at hst
    clear hset
    (repeat' first|(refine Qe ?_;(first|refine QG rfl ?_|refine QJ rfl ?_|(refine Qz ?_;(first|refine WF rfl rfl ?_|refine QM rfl ?_|refine Qb rfl rfl rfl ?_))|refine ZC rfl rfl ?_|(refine Qo ?_;(first|refine Q1 rfl rfl ?_|refine QS rfl rfl ?_|refine W3 rfl rfl (by omega) ?_))|(refine Qq ?_;(first|refine Qt rfl ?_|refine ZD rfl rfl rfl rfl rfl rfl rfl (by first|omega|(simp;omega)) (by first|omega|(simp;omega)) (fun _ => rfl) (fun _ _ => ?_)))|refine Q7 rfl rfl rfl rfl (by rfl) (by rfl) (by rfl) ?_|refine Wc rfl rfl (by decide) ?_|refine Qd rfl rfl ?_))|(refine Qk ?_;(first|refine Qi ?_|refine QN rfl ?_|refine Q5 ?_))|(refine Qj ?_;(first|refine Qn ?_|refine Qc ?_|refine Qf ?_|refine Qx ?_|refine Qp rfl (by omega) ?_)))
    rename_i ga hga
    refine ⟨i + 1, ga, ⟨by omega, by omega⟩, by omega, ?_⟩
    rw [hst]
    exact zal rfl
   ·rw [if_neg e] at hst
    clear hset
    (repeat' first|(refine Qe ?_;(first|refine QG rfl ?_|refine QJ rfl ?_|(refine Qz ?_;(first|refine QM rfl ?_|refine Qb rfl rfl rfl ?_))|refine ZC rfl rfl ?_|(refine Qo ?_;(first|refine Q1 rfl rfl ?_|refine QS rfl rfl ?_|refine W3 rfl rfl (by omega) ?_))|(refine Qq ?_;(first|refine Qt rfl ?_|refine ZD rfl rfl rfl rfl rfl rfl rfl (by first|omega|(simp;omega)) (by first|omega|(simp;omega)) (fun _ => rfl) (fun _ _ => ?_)))|refine Q7 rfl rfl rfl rfl (by rfl) (by rfl) (by rfl) ?_|refine Qd rfl rfl ?_))|(refine Qk ?_;(first|refine Qi ?_|refine QN rfl ?_))|(refine Qj ?_;(first|refine Qn ?_|refine Qc ?_|refine Qf ?_|(refine Wg ?_;first|(rename_i g3 hg3 g5 hg5 g6 hg6;refine QB (fun p => .row g3 [.i k, .i n, .i m, QR ks] :: .row g5 (Enc.enc x) :: p) 17 [(0, true), (1, true), (2, true), (3, true), (4, true), (5, true), (6, true), (7, true), (8, true), (9, true), (10, true), (11, true), (12, true), (13, true), (14, false), (15, false), (16, true)] (by rfl) (by rfl) (by kernel_rfl) (by decide +kernel) (by decide +kernel) ⟨_, rfl⟩ ?_)|(refine QB (fun p => .row g3 [.i k, .i n, .i m, QR ks] :: .row g5 (Enc.enc x) :: p) 100 [(0, true)] (by rfl) (by rfl) (by kernel_rfl) (by decide +kernel) (by decide +kernel) ⟨_, rfl⟩ ?_)|(refine QB (fun p => .row g3 [.i k, .i n, .i m, QR ks] :: .row g5 (Enc.enc x) :: p.1 :: p.2.1 :: .row g10 [.i k, .i n, .i m, .ref 5 gc 0 cur.length 4] :: p.2.2) 10 [(0, true), (1, true), (2, true), (3, true), (4, true), (5, true), (6, true), (7, true), (8, false), (9, true), (10, false)] (by rfl) (by rfl) (by kernel_rfl) (by decide +kernel) (by decide +kernel) ⟨(_, _, _), rfl⟩ ?_)|refine Q3 (by rfl) (by kernel_rfl) (by kernel_rfl) ?_|refine Q2 (by kernel_rfl) (by kernel_rfl) ?_)|refine Qx ?_|refine Qp rfl (by omega) ?_|refine Qm rfl (by omega) ?_))|(refine Ze ?_;(first|refine Z1 ?_|refine i_z0 ?_|refine i_st rfl rfl (fun _ => (by (repeat' first|(refine Qe ?_;(first|refine QG rfl ?_|(refine Qz ?_;(first|refine QD rfl ?_|refine Qb rfl rfl rfl ?_))|refine Qv rfl rfl (by first|assumption|omega|(simp;done)|(simp;omega)) ?_|refine Wc rfl rfl (by decide) ?_|refine Qd rfl rfl ?_))|exact ⟨rfl, rfl⟩))) ?_|refine i_ef rfl ?_))|refine And.intro (Exists.intro ((_, _, _)) rfl) ?_)
    rename_i ga hga
    refine ⟨i + 1, ga, ⟨by omega, by omega⟩, by omega, ?_⟩
    rw [hst]
    exact zal rfl
  ·have hi3 : i = ks.length := by omega
   subst hi3
   have htk : (ks.set j r).take ks.length = ks.set j r := List.take_of_length_le (by rw [List.length_set];exact Nat.le_refl _)
   rw [htk]
   have c1 := QX (ks.set j r)
   have hX : DV.tup [.agg (Enc.enc (Nd.mk k n m (ks.set j r))), .i 0] = .tup [.agg [.i k, .i n, .i m, QR (ks.set j r)], .i 0] := by rw [QW]
   rw [hX]
   generalize ks.set j r = cur at *
   clear hset htk
   refine r_pubin 4 3 rfl rfl rfl c1.symm rfl rfl ?_
   (repeat' first|(refine Qe ?_;(first|refine QG rfl ?_|refine QJ rfl ?_|(refine Qz ?_;(first|refine WF rfl rfl ?_|refine Qb rfl rfl rfl ?_))|refine Q1 rfl rfl ?_|refine Qt rfl ?_|refine WR rfl rfl rfl rfl ?_|refine Qd rfl rfl ?_))|(refine Qk ?_;(first|refine Qi ?_|refine QN rfl ?_|refine Q5 ?_))|(refine Qj ?_;(first|refine Qn ?_|refine Qc ?_|refine Qm rfl (by omega) ?_|refine WI rfl ?_|refine Qs ?_)))
   all_goals exact e_2 (Tryz.results41) (QH (size := 4) rfl rfl rfl rfl) (Qg rfl) (Qw rfl)
end Go.Proofs
end
section
namespace Go.Av
open Go.Bl
inductive DSub : DV -> DV -> Prop
 | refl (d : DV) : DSub d d
 | nil (es : Nat) : DSub (.sc (.slice none 0 0)) (.sl es [])
 | sl (es : Nat) (cs cs' : List DV) : cs.length = cs'.length -> (∀ (j : Nat) (d d' : DV), cs[j]? = some d -> cs'[j]? = some d' -> DSub d d') -> DSub (.sl es cs) (.sl es cs')
 | agg (cs cs' : List DV) : cs.length = cs'.length -> (∀ (j : Nat) (d d' : DV), cs[j]? = some d -> cs'[j]? = some d' -> DSub d d') -> DSub (.agg cs) (.agg cs')
 | tup (cs cs' : List DV) : cs.length = cs'.length -> (∀ (j : Nat) (d d' : DV), cs[j]? = some d -> cs'[j]? = some d' -> DSub d d') -> DSub (.tup cs) (.tup cs')
theorem DSub.one {d d' : DV} (h : DSub d d') : d.one = true -> d'.one = true := by
 cases h with
 | refl => exact id
 | nil => intro _;rfl
 | sl => intro _;rfl
 | agg => intro h;cases h
 | tup => intro h;cases h
theorem dsub_get {cs cs' : List DV} (hl : cs.length = cs'.length) (j : Nat) (d' : DV) (hj : cs'[j]? = some d') : ∃ d, cs[j]? = some d := ⟨cs[j]'(by rw [hl];exact (List.getElem?_eq_some_iff.1 hj).1), List.getElem?_eq_getElem _⟩
theorem DSub.rep {L : Lay} {d d' : DV} (h : DSub d d') : ∀ {v : Value}, VRep L d v -> VRep L d' v := by
 induction h with
 | refl => exact id
 | nil es => intro v hv;exact Zm hv
 | sl es cs cs' hl hs ih =>
  intro v hv
  obtain ⟨a, len, cap, f, rfl, h1, h2, h3, h4, h5⟩ := hv.sl_inv
  refine .sl _ _ _ _ _ f (by rw [h1, hl]) h2 (fun d' hd => ?_) ?_ (fun j d' hj => ?_)
  ·obtain ⟨j, hj⟩ := List.mem_iff_getElem?.1 hd
   obtain ⟨d, hd0⟩ := dsub_get hl j d' hj
   exact (hs j d d' hd0 hj).one (h3 d (List.mem_of_getElem? hd0))
  ·rcases h4 with h4|⟨b, o, h6, h7⟩
   ·left
    subst h4
    exact List.eq_nil_of_length_eq_zero hl.symm
   ·right
    exact ⟨b, o, h6, fun j hj => h7 j (by rw [hl];exact hj)⟩
  ·obtain ⟨d, hd0⟩ := dsub_get hl j d' hj
   exact ih j d d' hd0 hj (h5 j d hd0)
 | agg cs cs' hl hs ih =>
  intro v hv
  cases hv with|agg _ vs h1 h2 h3 =>
  refine .agg _ _ (by rw [h1, hl]) (fun d' hd => ?_) fun j d' hj => ?_
  ·obtain ⟨j, hj⟩ := List.mem_iff_getElem?.1 hd
   obtain ⟨d, hd0⟩ := dsub_get hl j d' hj
   exact (hs j d d' hd0 hj).one (h2 d (List.mem_of_getElem? hd0))
  ·obtain ⟨d, hd0⟩ := dsub_get hl j d' hj
   exact ih j d d' hd0 hj (h3 j d hd0)
 | tup cs cs' hl hs ih =>
  intro v hv
  cases hv with|tup _ vs h1 h3 =>
  refine .tup _ _ (by rw [h1, hl]) fun j d' hj => ?_
  obtain ⟨d, hd0⟩ := dsub_get hl j d' hj
  exact ih j d d' hd0 hj (h3 j d hd0)
theorem dsub_nil : ∀ (j : Nat) (e e' : DV), ([] : List DV)[j]? = some e -> ([] : List DV)[j]? = some e' -> DSub e e' := fun j e e' h => by simp at h
theorem dsub_cons {d d' : DV} {r r' : List DV} (h : DSub d d') (k : ∀ (j : Nat) (e e' : DV), r[j]? = some e -> r'[j]? = some e' -> DSub e e') : ∀ (j : Nat) (e e' : DV), (d :: r)[j]? = some e -> (d' :: r')[j]? = some e' -> DSub e e' := fun j e e' h1 h2 => by
 cases j with
 | zero => simp at h1 h2;subst h1 h2;exact h
 | succ j => exact k j e e' (by simpa using h1) (by simpa using h2)
section
variable {E : AX} {R : DV -> List ABlk -> Prop}
theorem c_sub {d d2 : DV} {σ : List ABlk} (h : DSub d d2) (k : AClose E R d2 σ) : AClose E R d σ := ZB (fun L v hv => h.rep hv) k
end
section
variable {P : Program} {G : Nat -> DV} {B : Nat} {f : Operand -> DV} {σ : List ABlk} {K : DV -> List ABlk -> Prop} {dst : Option Tmp} {type : TypeId} {pos : String} {after : Array Edge} {gd : Option (Nat × Bool)}
theorem OpSem.dsub {o : Oper} {K1 : DV -> List ABlk -> Prop} (h : OpSem P G B o f σ K1) (k : ∀ d σ', K1 d σ' -> ∃ d2, DSub d d2 /\ K d2 σ') : OpSem P G B o f σ K := fun X ρ hS hσ hB hG hf => by
 have hh := h X ρ hS hσ hB hG hf
 have ap : ∀ v w', APost X K1 v w' -> APost X K v w' := by
  rintro v w' ⟨Y, h1, h2, h3, d, h4, h5⟩
  obtain ⟨d2, hd, hk⟩ := k d Y.σ h5
  exact ⟨Y, h1, h2, h3, d2, hd.rep h4, hk⟩
 generalize (execOp ρ o).run P X.w = r at *
 match r, hh with
 | .ok (.value v) w', hh => exact ap v w' hh
 | .ok .skip w', hh => exact ap undef w' hh
 | .ok (.enter f args) w', hh => exact ⟨hh.1, hh.2.mono fun e w2 ⟨v, he, hv⟩ => ⟨v, he, ap v w2 hv⟩⟩
theorem s_build_nd {t : TypeId} {pl : List (Nat × Nat)} {zs : List Value} {ps : List (Nat × Operand)} {m : List (Nat × DV)} {k n mm : Int} [ht : TyS P t pl] [hz : TyZ P t zs] (hp : qS f ps = some m) (hc : fillD (pl[·]?) (zs.map .sc) m = some [.i k, .i n, .i mm, .sc (.slice none 0 0)]) (kk : K (.agg (Enc.enc (Nd.mk k n mm []))) σ) :
  OpSem P G B ⟨dst, .build t ps.toArray, type, pos, after, gd⟩ f σ K := by
 refine (QQ (K := fun d σ' => d = .agg [.i k, .i n, .i mm, .sc (.slice none 0 0)] /\ σ' = σ) hp hc ⟨rfl, rfl⟩).dsub ?_
 rintro d σ' ⟨rfl, rfl⟩
 refine ⟨_, ?_, kk⟩
 rw [QW]
 exact .agg _ _ rfl (dsub_cons (.refl _) (dsub_cons (.refl _) (dsub_cons (.refl _) (dsub_cons (.nil 4) dsub_nil))))
end
end Go.Av
end
section
namespace Go.Av
open Classical
section
variable {P : Program} {G : Nat -> DV}
theorem s_pubin {f : Operand -> DV} {σ σ1 σ' : List ABlk} {B : Nat} {o : Oper} {K : DV -> List ABlk -> Prop} (m j : Nat) {gm k g len es : Nat} {cs ds : List DV} (hm : σ[m]? = some (.row gm cs)) (hj : cs[j]? = some (.ref k g 0 len es)) (hk : σ[k]? = some (.row g ds)) (hl : len * es = ds.length)
  (hσ1 : setA σ k .gone = some σ1) (hσ' : setA σ1 m (.row gm (cs.set j (.sl es ds))) = some σ') (kk : OpSem P G B o f σ' K) (hne : m ≠ k := by decide) : OpSem P G B o f σ K := fun X ρ hS hσ hB hG hf => by
 subst hσ
 have hE := ZU (X := X) k
 obtain ⟨X2, k1, k2, k3, k4⟩ := Sto.rowcell hS (sto_gone hS k) hE rfl (d' := .sl es ds) hm (by show (X.σ.set k .gone)[m]? = _;rw [List.getElem?_set, if_neg (Ne.symm hne)];exact hm) rfl hj rfl (fun v hv => pub_rep hS hk hl hv)
 have hE2 := hE.trans k4
 have hs := kk X2 ρ k3 (by rw [k2, qa hσ', qa hσ1]) (Nat.le_trans hB hE2.top) (hG.ext hE2) fun x hx => (hf x hx).ext hE2
 rw [k1] at hs
 show OPost P X K ((execOp ρ o).run P X.w)
 generalize (execOp ρ o).run P X.w = r at *
 cases r with
 | ok nx w' =>
  cases nx <;> simp only [OPost] at hs ⊢
  case value v => exact hs.ext hE2
  case skip => exact hs.ext hE2
  case enter f args => exact ⟨hs.1.trans k1, hs.2.mono fun e w'' ⟨v, he, hp⟩ => ⟨v, he, hp.ext hE2⟩⟩
 | halt _ _ => exact hs.elim
variable {f : Operand -> DV} {σ : List ABlk} {B : Nat} {K : DV -> List ABlk -> Prop} {dst : Option Tmp} {type : TypeId} {pos : String} {after : Array Edge} {gd : Option (Nat × Bool)} {α : Type} [Enc α]
open Go.Bl in
theorem s_build_ndz {t : TypeId} {pl : List (Nat × Nat)} {zs : List Value} {ps : List (Nat × Operand)} {m : List (Nat × DV)} {k n mm : Int} {z : Nd} (hz0 : z = Nd.mk k n mm []) [ht : TyS P t pl] [hz : TyZ P t zs] (hp : qS f ps = some m) (hc : fillD (pl[·]?) (zs.map .sc) m = some [.i k, .i n, .i mm, .sc (.slice none 0 0)]) (kk : K (.agg (Enc.enc z)) σ) :
  OpSem P G B ⟨dst, .build t ps.toArray, type, pos, after, gd⟩ f σ K := by subst hz0;exact s_build_nd hp hc kk
theorem s_app_cut {t t' e : TypeId} {d : TypeDesc} {g1 g2 : Bool} {z1 bytes m g len2 off es : Nat} {zs : List Value} {x y : Operand} {ks : List α} {i : Nat} [ht : TyI P t (.slice e) g1 z1] [ht' : SrcTy P t'] [he : TyI P e d g2 es] [hb : TyB P e bytes] [hz : TyZ P e zs]
  {σ' : Nat -> List ABlk} (hzl : zs.length = es) (hes : es = Enc.es α) (hi : i < ks.length) (hx : f x = .ref m g 0 i es) (hm : σ[m]? = some (.row g (Ws ks))) (hy : f y = .ref m g off len2 es) (ho : off = (i + 1) * es) (hl2 : len2 = ks.length - (i + 1)) (hby : ks.length * bytes <= 140737488355328) (hsm : ks.length <= 9223372036854775807)
  (hσ' : ∀ g', setA σ m (.row g' (Ws (ks.take i ++ ks.drop (i + 1)))) = some (σ' g')) (k : ∀ g', B < g' -> K (.ref m g' 0 (ks.take i ++ ks.drop (i + 1)).length es) (σ' g')) : OpSem P G B ⟨dst, .call ⟨.builtin .append, #[x, y], #[t, t']⟩, type, pos, after, gd⟩ f σ K := by
 subst hes ho hl2
 have hlen : (Ws ks).length = ks.length * Enc.es α := QX ks
 have hmul : i * Enc.es α <= ks.length * Enc.es α := Nat.mul_le_mul_right _ (by omega)
 have hoff : (i + 1) * Enc.es α + (ks.length - (i + 1)) * Enc.es α = ks.length * Enc.es α := by rw [<- Nat.add_mul];congr 1;omega
 have e1 : (Ws ks).take (i * Enc.es α) = Ws (ks.take i) := encs_take ks i
 have e2 : ((Ws ks).drop ((i + 1) * Enc.es α)).take ((ks.length - (i + 1)) * Enc.es α) = Ws (ks.drop (i + 1)) := by
  rw [encs_drop ks (i + 1)]
  have : (Ws (ks.drop (i + 1))).length = (ks.length - (i + 1)) * Enc.es α := by rw [QX, List.length_drop]
  rw [<- this, List.take_length]
 refine s_append hzl hx hm (by omega) hy (srcOf_ref hm (by omega)) ?_ ?_ fun g' hg' => ?_
 ·exact Nat.le_trans (Nat.mul_le_mul_right _ (by omega)) hby
 ·omega
 ·rw [e1, e2, <- encs_append, <- qa (hσ' g')]
  have hll : (ks.take i ++ ks.drop (i + 1)).length = i + (ks.length - (i + 1)) := by rw [List.length_append, List.length_take, List.length_drop];omega
  have := k g' hg'
  rwa [hll] at this
end
end Go.Av
end
section
namespace Go.Proofs
open Go.Av Go.Bl
theorem Zk {k n m : Int} {ks : List Nd} {w : Int} (s : Sh) (hs : shapesL.getD k.toNat noSh = s) (hk : 0 <= k /\ k < 28 /\ k ≠ 26) (hi : isB s w = true) (hn : s.low <= n /\ n <= s.high) (hm : 0 <= m /\ m <= s.last) (hc : s.least <= (ks.length : Int) - (s.kids.length : Int) /\ (ks.length : Int) - (s.kids.length : Int) <= s.more) (hw : ∀ i (h : i < ks.length), WA ks[i] (wantK s i) = true) : WA (.mk k n m ks) w = true := by
 rw [WA, if_pos ⟨hk.1, hk.2.1⟩, if_neg hk.2.2, hs, hi, fitsF_eq]
 have h1 : rngB s n m = true := by unfold rngB;simp [hn, hm]
 have h2 : cntB s ks.length = true := by unfold cntB;simp [hc]
 have h3 : kidsB s (ks.map WA) = true := by
  unfold kidsB
  rw [allI_iff]
  intro i hi
  rw [List.length_map] at hi
  rw [qo ks WA hi]
  exact hw i hi
 rw [h1, h2, h3];rfl
theorem kids1 {x : Nd} {s : Sh} (h : WA x (wantK s 0) = true) : ∀ i (h : i < [x].length), WA [x][i] (wantK s i) = true := fun i hi => by
 match i, hi with
 | 0, _ => exact h
theorem kids2 {x y : Nd} {s : Sh} (h : WA x (wantK s 0) = true) (h2 : WA y (wantK s 1) = true) : ∀ i (h : i < [x, y].length), WA [x, y][i] (wantK s i) = true := fun i hi => by
 match i, hi with
 | 0, _ => exact h
 | 1, _ => exact h2
theorem kids3 {x y z : Nd} {s : Sh} (h : WA x (wantK s 0) = true) (h2 : WA y (wantK s 1) = true) (h3 : WA z (wantK s 2) = true) : ∀ i (h : i < [x, y, z].length), WA [x, y, z][i] (wantK s i) = true := fun i hi => by
 match i, hi with
 | 0, _ => exact h
 | 1, _ => exact h2
 | 2, _ => exact h3
theorem kids0 {s : Sh} : ∀ i (h : i < ([] : List Nd).length), WA ([] : List Nd)[i] (wantK s i) = true := fun i hi => by simp at hi
theorem kidsA {ks : List Nd} {s : Sh} (hk : s.kids = []) (h : ∀ x ∈ ks, WA x s.som = true) : ∀ i (h : i < ks.length), WA ks[i] (wantK s i) = true := fun i hi => by
 unfold wantK
 rw [hk, if_neg (by simp)]
 exact h _ (List.getElem_mem hi)
theorem qG {x : Nd} : Wx [x] = Ww x := by simp [Wx]
theorem qT {x y : Nd} : Wx [x, y] = max (Ww x) (Ww y) := by simp [Wx]
theorem sizeL1 {x : Nd} : QT [x] = Qu x := by simp [QT]
theorem depthL_le {ks : List Nd} {D : Nat} (h : ∀ x ∈ ks, Ww x <= D) : Wx ks <= D := by
 induction ks with
 | nil => simp [Wx]
 | cons x r ih =>
  have h1 := h x (by simp)
  have h2 := ih fun y hy => h y (by simp [hy])
  rw [Wx];omega
theorem fit_block {t : Nd} (h : WA t 6 = true) : WA t 5 = true := by
 obtain ⟨k, n, m, ks⟩ := t
 rw [WA] at h ⊢
 split at h
 ·rename_i hk
  rw [if_pos hk]
  simp only [Bool.and_eq_true] at h ⊢
  refine ⟨⟨?_, h.1.2⟩, h.2⟩
  have h1 := h.1.1
  unfold isB at h1 ⊢
  simp only [Bool.or_eq_true, Bool.and_eq_true, decide_eq_true_eq] at h1 ⊢
  rcases h1 with (h1|⟨_, h1⟩)|⟨_, h1⟩
  ·exact .inr ⟨h1, trivial⟩
  ·exact absurd h1 (by decide)
  ·exact absurd h1 (by decide)
 ·cases h
theorem fit_rng {k : Int} (h : 0 <= k /\ k < 28) : -8 <= (shapesL.getD k.toNat noSh).low /\ (shapesL.getD k.toNat noSh).high <= 13 /\ (shapesL.getD k.toNat noSh).last <= 2 := by
 have : ∀ i : Fin 28, -8 <= (shapesL.getD i.val noSh).low /\ (shapesL.getD i.val noSh).high <= 13 /\ (shapesL.getD i.val noSh).last <= 2 := by decide
 exact this ⟨k.toNat, by omega⟩
theorem okL_of {ks : List Nd} (h : ∀ x ∈ ks, okN x) : okL ks := by
 induction ks with
 | nil => rw [okL];trivial
 | cons x r ih => rw [okL];exact ⟨h x (by simp), ih fun y hy => h y (by simp [hy])⟩
theorem fit_ok (t : Nd) : ∀ w, WA t w = true -> okN t := by
 induction t using Nd.ind with
 | h k n m ks ih =>
 intro w h
 rw [WA] at h
 split at h
 ·rename_i hk
  have hr := fit_rng hk
  simp only [Bool.and_eq_true] at h
  obtain ⟨⟨_, h1⟩, h2⟩ := h
  unfold rngB at h1
  simp only [Bool.and_eq_true, decide_eq_true_eq] at h1
  rw [okN]
  refine ⟨⟨⟨by omega, by omega⟩, ⟨by omega, by omega⟩, ⟨by omega, by omega⟩⟩, okL_of fun x hx => ?_⟩
  obtain ⟨i, hi, rfl⟩ := List.getElem_of_mem hx
  rw [fitsF_eq] at h2
  split at h2
  ·unfold funB at h2
   simp only [Bool.and_eq_true, List.length_map] at h2
   by_cases hl : i = ks.length - 1
   ·have h3 := h2.1.2
    rw [qo ks WA (by omega)] at h3
    subst hl
    exact ih _ hx 6 h3
   ·have h3 := allI_iff.1 h2.2 i (by omega)
    rw [qo ks WA hi] at h3
    exact ih _ hx _ h3
  ·simp only [Bool.and_eq_true] at h2
   have h3 := h2.2
   unfold kidsB at h3
   rw [List.length_map] at h3
   have h4 := allI_iff.1 h3 i hi
   rw [qo ks WA hi] at h4
   exact ih _ hx _ h4
 ·cases h
abbrev GenF := Int -> Int -> Nd × Int × Int
theorem gen_skolem {pre : Int -> Int -> Prop} {R : Int -> Int -> Nd × Int × Int -> Prop} (h : ∀ a L, pre a L -> ∃ t, R a L t) : ∃ E : GenF, ∀ a L, pre a L -> R a L (E a L) := by
 classical
 refine ⟨fun a L => if h' : pre a L then Classical.choose (h a L h') else (.mk 0 0 0 [], 0, 0), fun a L h' => ?_⟩
 dsimp only
 rw [dif_pos h']
 exact Classical.choose_spec (h a L h')
def runM (E : GenF) : Nat -> Int -> Int -> List Nd × Int × Int
 | 0, a, L => ([], a, L)
 | n + 1, a, L => ((E a L).1 :: (runM E n (E a L).2.1 (E a L).2.2).1, (runM E n (E a L).2.1 (E a L).2.2).2)
def runP (E : GenF) : Nat -> Int -> Int -> List Nd × Int × Int
 | 0, a, L => ([], a, L)
 | n + 1, a, L => if 0 < L then ((E a L).1 :: (runP E n (E a L).2.1 (E a L).2.2).1, (runP E n (E a L).2.1 (E a L).2.2).2) else ([], a, L)
theorem runM_len (E : GenF) : ∀ n a L, (runM E n a L).1.length = n
 | 0, a, L => rfl
 | n + 1, a, L => by rw [runM, List.length_cons, runM_len E n]
theorem runP_len (E : GenF) : ∀ n a L, (runP E n a L).1.length <= n
 | 0, a, L => Nat.le_refl _
 | n + 1, a, L => by
  rw [runP]
  split
  ·have := runP_len E n (E a L).2.1 (E a L).2.2
   rw [List.length_cons];omega
  ·exact Nat.zero_le _
end Go.Proofs
end
section
namespace Go.Proofs
open Go.Av
variable {G : Nat -> DV}
attribute [local irreducible] OpSem Zd Zx ZL ACalls qt AClose RV
open Go.Bl
theorem i64_0 : i64 0 := by unfold i64;omega
theorem okN_zero : okN (.mk 0 0 0 []) := by rw [okN];exact ⟨⟨i64_0, i64_0, i64_0⟩, trivial⟩
theorem ok_getD {ks : List Nd} (h : okL ks) (i : Nat) : okN (ks.getD i (.mk 0 0 0 [])) := by
 by_cases hi : i < ks.length
 ·rw [List.getD_eq_getElem?_getD, List.getElem?_eq_getElem hi]
  exact Wj h (List.getElem_mem hi)
 ·rw [List.getD_eq_getElem?_getD, List.getElem?_eq_none (by omega)]
  exact okN_zero
theorem ok_sub (p : List Int) : ∀ t : Nd, okN t -> okN (subN p t) := by
 induction p with
 | nil => intro t h;rw [subN];exact h
 | cons i p ih =>
  rintro ⟨k, n, m, ks⟩ h
  rw [subN]
  rw [okN] at h
  exact ih _ (ok_getD h.2 _)
theorem ok_set (p : List Int) : ∀ t x : Nd, okN t -> okN x -> okN (setN p t x) := by
 induction p with
 | nil => intro t x h hx;rw [setN];exact hx
 | cons i p ih =>
  rintro ⟨k, n, m, ks⟩ x h hx
  rw [setN]
  rw [okN] at h ⊢
  refine ⟨h.1, okL_of fun y hy => ?_⟩
  obtain ⟨j, hj, rfl⟩ := List.getElem_of_mem hy
  rw [List.getElem_set]
  split
  ·exact ih _ _ (ok_getD h.2 _) hx
  ·exact Wj h.2 (List.getElem_mem _)
theorem okL_app {a b : List Nd} (ha : okL a) (hb : okL b) : okL (a ++ b) := okL_of fun x hx => (List.mem_append.1 hx).elim (Wj ha) (Wj hb)
def nsT (b : Int) : List Int := [-9, -8, -1, 0, 1, 2, 3, 4, 5, 6, 7, 8, 13, 14, b]
def nsU (b : Int) : List Int := [-1, 0, 1, 2, 3, b]
theorem nsT_ok {b : Int} (h : i64 b) : ∀ x ∈ nsT b, i64 x := by
 intro x hx
 unfold nsT at hx
 simp only [List.mem_cons, List.not_mem_nil, or_false] at hx
 rcases hx with rfl|rfl|rfl|rfl|rfl|rfl|rfl|rfl|rfl|rfl|rfl|rfl|rfl|rfl|rfl
 all_goals first|exact h|(unfold i64;omega)
theorem nsU_ok {b : Int} (h : i64 b) : ∀ x ∈ nsU b, i64 x := by
 intro x hx
 unfold nsU at hx
 simp only [List.mem_cons, List.not_mem_nil, or_false] at hx
 rcases hx with rfl|rfl|rfl|rfl|rfl|rfl
 all_goals first|exact h|(unfold i64;omega)
theorem spoilt_c (t : Nd) (hok : okN t) (hs : Qu t <= 1000) (at_ how by_ : Int) (h1 : i64 at_) (h2 : i64 how) (h3 : i64 by_) :
  ∃ v, okN v /\ Qu v <= 2 * Qu t + 1 /\ Go.Av.Pure Tryz.prog G 16 [.agg (Enc.enc t), .i at_, .i how, .i by_] (.agg (Enc.enc v)) := by
 have hps := (paths_c (G := G) t (by omega)).read
 have hpl := pathsN_len t
 have hsp := Wh t
 have hpa := around_c (G := G) at_ (Zi t).length h1 (by omega)
 have hpab := Z5 at_ (most := (Zi t).length) (by omega)
 have hph := around_c (G := G) how 6 h2 (by omega)
 have hphb := Z5 how (most := 6) (by omega)
 obtain ⟨ia, hia⟩ : ∃ ia : Nat, arnd at_ (Zi t).length = (ia : Int) := ⟨(arnd at_ (Zi t).length).toNat, by omega⟩
 rw [hia] at hpa hpab
 have hil : ia < (Zi t).length := by omega
 have hpm : (Zi t)[ia] ∈ Zi t := List.getElem_mem hil
 obtain ⟨hat, hsx⟩ := r05At_c (G := G) _ t hpm (by omega)
 have hokx := ok_sub (Zi t)[ia] t hok
 have hats : ∀ i (h : i < (Zi t).length), Go.Av.Pure Tryz.prog G 13 [.agg (Enc.enc t), QR (Zi t)[i]] (.tup [.agg (Enc.enc (subN (Zi t)[i] t)), .b true]) /\ Qu (subN (Zi t)[i] t) <= Qu t /\ okN (subN (Zi t)[i] t) := fun i h => ⟨(r05At_c (G := G) _ t (List.getElem_mem h) (by omega)).1, (r05At_c (G := G) _ t (List.getElem_mem h) (by omega)).2, ok_sub _ t hok⟩
 have hsets : ∀ y : Nd, Qu y <= Qu t + 1 -> okN y -> ∃ v, okN v /\ Qu v <= 2 * Qu t + 1 /\ Go.Av.Pure Tryz.prog G 41 [.agg (Enc.enc t), QR (Zi t)[ia], .agg (Enc.enc y)] (.tup [.agg (Enc.enc v), .i 0]) := fun y hy hoy =>
  ⟨setN (Zi t)[ia] t y, ok_set _ t y hok hoy, by have := (r05Set_c (G := G) y (by omega) _ t hpm (by omega)).2;omega, (r05Set_c (G := G) y (by omega) _ t hpm (by omega)).1⟩
 generalize subN (Zi t)[ia] t = x at *
 obtain ⟨k, n, m, ks⟩ := x
 rw [QW] at hat
 rw [okN] at hokx
 rw [Qu] at hsx
 have hkl := WC ks
 generalize Zi t = Ps at *
 generalize arnd how 6 = h at *
 clear hia hpm hok
 have hpb := trivial
 have hat2 := trivial
 have hset := trivial
 have hz0 := trivial
 have hsum := trivial
 have hic := trivial
 have hcase : h = 0 \/ h = 1 \/ h = 2 \/ h = 3 \/ h = 4 \/ h = 5 := by omega
 rcases hcase with rfl|rfl|rfl|rfl|rfl|rfl
 ·have hpb := around_c (G := G) by_ 32 h3 (by omega)
  have hbb := Z5 by_ (most := 32) (by omega)
  generalize arnd by_ 32 = b at *
  obtain ⟨v, v1, v2, hset⟩ := hsets (.mk (b - 1) n m ks) (by rw [Qu];omega) (by rw [okN];exact ⟨⟨⟨by omega, by omega⟩, hokx.1.2⟩, hokx.2⟩)
  rw [QW (b - 1)] at hset
  refine ⟨v, v1, v2, fun B => ?_⟩
  clear hats hsets
  refine Qa Tryz.func16 rfl Tryz.ntmps16 rfl (t := [(0, .agg (Enc.enc t)), (1, .i at_), (2, .i how), (3, .i by_)]) rfl fun E hE => ?_
  (repeat' first|(refine Qe ?_;(first|refine QG rfl ?_|refine QJ rfl ?_|(refine Qz ?_;(first|refine s_pubin (o := ⟨some 111, _, _, _, _, _⟩) 2 3 rfl rfl rfl (QX _).symm rfl rfl ?_ (by first|decide|simp)|refine WF rfl rfl ?_|refine QM rfl ?_|refine Qb rfl rfl rfl ?_))|refine Qv rfl rfl (by first|assumption|omega|(simp;done)|(simp;omega)) ?_|(refine Qo ?_;(first|refine QS rfl rfl ?_|refine Zz rfl rfl (by omega) ?_))|(refine Qq ?_;(first|refine s_app_z rfl rfl rfl rfl rfl (by first|omega|(simp;omega)) (by first|omega|(simp;omega)) (fun _ => rfl) (fun _ _ => ?_)|refine W4 rfl rfl hset (Wv (Q8 (Wp (Enc.clo _)) (Q8 Wf WL))) ?_|refine QZ rfl rfl (hps) ?_|refine QZ rfl rfl (hat) ?_|refine QZ rfl rfl (hpa) ?_|refine QZ rfl rfl (hph) ?_|refine QZ rfl rfl (hpb) ?_|refine Qt rfl ?_))|(refine Wl ?_;(first|refine WR rfl rfl rfl rfl ?_|refine Q7 rfl rfl rfl rfl (by rfl) (by rfl) (by rfl) ?_))|refine ZV rfl (fun _ _ => ?_)|refine Qd rfl rfl ?_|refine QI rfl rfl rfl ?_|refine QC (fun _ _ => ?_)|refine QU rfl rfl (fun _ _ => ?_)))|(refine Qk ?_;(first|refine Qi ?_|refine QN rfl ?_|refine Q5 ?_))|(refine Qj ?_;(first|refine Qn ?_|refine Qc ?_|refine Qf ?_|refine Qh rfl ?_|refine Qs ?_)))
  exact e_1 (Tryz.results16) (QH (size := 4) rfl rfl (ZW (Enc.len _)) (Enc.len _)) (Qw rfl)
 ·have hpb := around_c (G := G) by_ 15 h3 (by omega)
  have hbb := Z5 by_ (most := 15) (by omega)
  obtain ⟨b, hb⟩ : ∃ b : Nat, arnd by_ 15 = (b : Int) := ⟨(arnd by_ 15).toNat, by omega⟩
  rw [hb] at hpb hbb
  have hjl : b < (nsT by_).length := by show b < 15;omega
  have hbo := nsT_ok h3 _ (List.getElem_mem hjl)
  obtain ⟨v, v1, v2, hset⟩ := hsets (.mk k (nsT by_)[b] m ks) (by rw [Qu];omega) (by rw [okN];exact ⟨⟨hokx.1.1, hbo, hokx.1.2.2⟩, hokx.2⟩)
  rw [QW k] at hset
  refine ⟨v, v1, v2, fun B => ?_⟩
  clear hats hsets
  refine Qa Tryz.func16 rfl Tryz.ntmps16 rfl (t := [(0, .agg (Enc.enc t)), (1, .i at_), (2, .i how), (3, .i by_)]) rfl fun E hE => ?_
  (repeat' first|(refine Qe ?_;(first|refine QG rfl ?_|refine QJ rfl ?_|(refine Qz ?_;(first|refine s_pubin (o := ⟨some 111, _, _, _, _, _⟩) 2 3 rfl rfl rfl (QX _).symm rfl rfl ?_ (by first|decide|simp)|refine WF rfl rfl ?_|refine QM rfl ?_|refine Qb rfl rfl rfl ?_))|(refine W6 ?_;(first|refine Qv (l := nsT by_) rfl rfl hjl ?_|refine Qv rfl rfl (by first|assumption|omega|(simp;done)|(simp;omega)) ?_))|refine QS rfl rfl ?_|(refine Qq ?_;(first|refine s_app_z rfl rfl rfl rfl rfl (by first|omega|(simp;omega)) (by first|omega|(simp;omega)) (fun _ => rfl) (fun _ _ => ?_)|refine W4 rfl rfl hset (Wv (Q8 (Wp (Enc.clo _)) (Q8 Wf WL))) ?_|refine QZ rfl rfl (hps) ?_|refine QZ rfl rfl (hat) ?_|refine QZ rfl rfl (hpa) ?_|refine QZ rfl rfl (hph) ?_|refine QZ rfl rfl (hpb) ?_|refine Qt rfl ?_))|(refine Wl ?_;(first|refine WR rfl rfl rfl rfl ?_|refine Q7 rfl rfl rfl rfl (by rfl) (by rfl) (by rfl) ?_))|(refine qd ?_;(first|refine W1 (cs := Ws (nsT by_)) rfl rfl (by decide) rfl ?_|refine ZV rfl (fun _ _ => ?_)))|refine Qd rfl rfl ?_|refine QI rfl rfl rfl ?_|refine QC (fun _ _ => ?_)|refine QU rfl rfl (fun _ _ => ?_)))|(refine Qk ?_;(first|refine Qi ?_|refine QN rfl ?_|refine Q5 ?_))|(refine Qj ?_;(first|refine Qn ?_|refine Qc ?_|refine Qf ?_|refine Qh rfl ?_|refine Ql rfl ?_|refine Qs ?_)))
  exact e_1 (Tryz.results16) (QH (size := 4) rfl rfl (ZW (Enc.len _)) (Enc.len _)) (Qw rfl)
 ·have hpb := around_c (G := G) by_ 6 h3 (by omega)
  have hbb := Z5 by_ (most := 6) (by omega)
  obtain ⟨b, hb⟩ : ∃ b : Nat, arnd by_ 6 = (b : Int) := ⟨(arnd by_ 6).toNat, by omega⟩
  rw [hb] at hpb hbb
  have hjl : b < (nsU by_).length := by show b < 6;omega
  have hbo := nsU_ok h3 _ (List.getElem_mem hjl)
  obtain ⟨v, v1, v2, hset⟩ := hsets (.mk k n (nsU by_)[b] ks) (by rw [Qu];omega) (by rw [okN];exact ⟨⟨hokx.1.1, hokx.1.2.1, hbo⟩, hokx.2⟩)
  rw [QW k] at hset
  refine ⟨v, v1, v2, fun B => ?_⟩
  clear hats hsets
  refine Qa Tryz.func16 rfl Tryz.ntmps16 rfl (t := [(0, .agg (Enc.enc t)), (1, .i at_), (2, .i how), (3, .i by_)]) rfl fun E hE => ?_
  (repeat' first|(refine Qe ?_;(first|refine QG rfl ?_|refine QJ rfl ?_|(refine Qz ?_;(first|refine s_pubin (o := ⟨some 111, _, _, _, _, _⟩) 2 3 rfl rfl rfl (QX _).symm rfl rfl ?_ (by first|decide|simp)|refine WF rfl rfl ?_|refine QM rfl ?_|refine Qb rfl rfl rfl ?_))|(refine W6 ?_;(first|refine Qv (l := nsU by_) rfl rfl hjl ?_|refine Qv rfl rfl (by first|assumption|omega|(simp;done)|(simp;omega)) ?_))|refine QS rfl rfl ?_|(refine Qq ?_;(first|refine s_app_z rfl rfl rfl rfl rfl (by first|omega|(simp;omega)) (by first|omega|(simp;omega)) (fun _ => rfl) (fun _ _ => ?_)|refine W4 rfl rfl hset (Wv (Q8 (Wp (Enc.clo _)) (Q8 Wf WL))) ?_|refine QZ rfl rfl (hps) ?_|refine QZ rfl rfl (hat) ?_|refine QZ rfl rfl (hpa) ?_|refine QZ rfl rfl (hph) ?_|refine QZ rfl rfl (hpb) ?_|refine Qt rfl ?_))|(refine Wl ?_;(first|refine WR rfl rfl rfl rfl ?_|refine Q7 rfl rfl rfl rfl (by rfl) (by rfl) (by rfl) ?_))|(refine qd ?_;(first|refine W1 (cs := Ws (nsU by_)) rfl rfl (by decide) rfl ?_|refine ZV rfl (fun _ _ => ?_)))|refine Qd rfl rfl ?_|refine QI rfl rfl rfl ?_|refine QC (fun _ _ => ?_)|refine QU rfl rfl (fun _ _ => ?_)))|(refine Qk ?_;(first|refine Qi ?_|refine QN rfl ?_|refine Q5 ?_))|(refine Qj ?_;(first|refine Qn ?_|refine Qc ?_|refine Qf ?_|refine Qh rfl ?_|refine Ql rfl ?_|refine Qs ?_)))
  exact e_1 (Tryz.results16) (QH (size := 4) rfl rfl (ZW (Enc.len _)) (Enc.len _)) (Qw rfl)
 ·by_cases hk0 : 0 < ks.length
  ·have hpb := around_c (G := G) by_ ks.length h3 (by omega)
   have hbb := Z5 by_ (most := ks.length) (by omega)
   obtain ⟨b, hb⟩ : ∃ b : Nat, arnd by_ ks.length = (b : Int) := ⟨(arnd by_ ks.length).toNat, by omega⟩
   rw [hb] at hpb hbb
   have hic : b < ks.length := by omega
   have hsum : (b : Int) + 1 = ((b + 1 : Nat) : Int) := by omega
   have hcl : (ks.take b ++ ks.drop (b + 1)).length <= ks.length := by rw [List.length_append, List.length_take, List.length_drop];omega
   obtain ⟨v, v1, v2, hset⟩ := hsets (.mk k n m (ks.take b ++ ks.drop (b + 1))) (by
    have q1 := ZY (ks.take b) (ks.drop b)
    rw [List.take_append_drop] at q1
    have q2 := ZY (ks.take b) (ks.drop (b + 1))
    rw [List.drop_eq_getElem_cons hic, QT] at q1
    rw [Qu];omega) (by rw [okN];exact ⟨hokx.1, okL_app (okL_of fun x hx => Wj hokx.2 (List.mem_of_mem_take hx)) (okL_of fun x hx => Wj hokx.2 (List.mem_of_mem_drop hx))⟩)
   rw [QW k] at hset
   refine ⟨v, v1, v2, fun B => ?_⟩
   clear hats hsets
   refine Qa Tryz.func16 rfl Tryz.ntmps16 rfl (t := [(0, .agg (Enc.enc t)), (1, .i at_), (2, .i how), (3, .i by_)]) rfl fun E hE => ?_
   (repeat' first|(refine Qe ?_;(first|refine QG rfl ?_|refine QJ rfl ?_|(refine Qz ?_;(first|refine s_pubin (o := ⟨some 111, _, _, _, _, _⟩) 2 3 rfl rfl rfl (QX _).symm rfl rfl ?_ (by first|decide|simp)|refine WF rfl rfl ?_|refine QM rfl ?_|refine Qb rfl rfl rfl ?_))|refine Qv rfl rfl (by first|assumption|omega|(simp;done)|(simp;omega)) ?_|(refine Qo ?_;(first|refine Z6 rfl rfl ?_|refine QS rfl rfl ?_))|(refine Qq ?_;(first|refine s_app_cut (ks := ks) rfl rfl hic rfl rfl rfl (by first|omega|simp) (by first|rfl|omega) (by omega) (by omega) (fun _ => rfl) (fun _ _ => ?_)|refine s_app_z rfl rfl rfl rfl rfl (by first|omega|(simp;omega)) (by first|omega|(simp;omega)) (fun _ => rfl) (fun _ _ => ?_)|refine W4 rfl rfl hset (Wv (Q8 (Wp (Enc.clo _)) (Q8 Wf WL))) ?_|refine QZ rfl rfl (hps) ?_|refine QZ rfl rfl (hat) ?_|refine QZ rfl rfl (hpa) ?_|refine QZ rfl rfl (hph) ?_|refine QZ rfl rfl (hpb) ?_|refine Qt rfl ?_|refine s_len_ref rfl rfl ?_))|(refine Wl ?_;(first|refine WR rfl rfl rfl rfl ?_|refine Q7 rfl rfl rfl rfl (by rfl) (by rfl) (by rfl) ?_))|refine ZV rfl (fun _ _ => ?_)|refine Qd rfl rfl ?_|refine QI rfl rfl rfl ?_|refine QC (fun _ _ => ?_)|refine QU rfl rfl (fun _ _ => ?_)))|(refine Qk ?_;(first|refine Qi ?_|refine QN rfl ?_|refine Q5 ?_))|(refine Qj ?_;(first|refine Qn ?_|refine Qc ?_|refine Qf ?_|(refine Wg ?_;first|(rename_i g4 hg4 g8 hg8 g11 hg11 gb hgb gk hgk;refine QB (fun p => .row g4 (Enc.enc t) :: p) 13 [(0, true), (1, true), (2, true), (3, true), (4, true), (5, true), (6, true), (7, true), (8, true), (9, true), (10, true), (11, true), (12, false)] (by rfl) (by rfl) (by kernel_rfl) (by decide +kernel) (by decide +kernel) ⟨_, rfl⟩ ?_)|(refine QB (fun p => p) 100 [(0, true)] (by rfl) (by rfl) (by kernel_rfl) (by decide +kernel) (by decide +kernel) ⟨_, rfl⟩ ?_)|refine Q3 (by rfl) (by kernel_rfl) (by kernel_rfl) ?_|refine Q2 (by kernel_rfl) (by kernel_rfl) ?_)|refine Qh rfl ?_|refine Ql rfl ?_|refine Qp rfl (by omega) ?_|refine Qs ?_))|(refine Zw ?_;(first|refine x_op rfl (by (repeat' first|(refine Qe ?_;(first|refine QG rfl ?_|refine Qb rfl rfl rfl ?_|refine s_add_as rfl rfl hsum ⟨by omega, by omega⟩ ?_|refine Qd rfl rfl ?_|(refine g_slice ?_;(first|refine s_slice_rh rfl rfl rfl (by omega) ?_|refine s_slice_rl rfl rfl rfl (by omega) ?_))))|exact ⟨rfl, rfl⟩)) ?_|refine Zr ?_)))
   exact e_1 (Tryz.results16) (QH (size := 4) rfl rfl (ZW (Enc.len _)) (Enc.len _)) (Qw rfl)
  ·obtain ⟨v, v1, v2, hset⟩ := hsets (.mk k n m ks) (by rw [Qu];omega) (by rw [okN];exact hokx)
   rw [QW k] at hset
   refine ⟨v, v1, v2, fun B => ?_⟩
   clear hats hsets
   refine Qa Tryz.func16 rfl Tryz.ntmps16 rfl (t := [(0, .agg (Enc.enc t)), (1, .i at_), (2, .i how), (3, .i by_)]) rfl fun E hE => ?_
   (repeat' first|(refine Qe ?_;(first|refine QG rfl ?_|refine QJ rfl ?_|(refine Qz ?_;(first|refine s_pubin (o := ⟨some 111, _, _, _, _, _⟩) 2 3 rfl rfl rfl (QX _).symm rfl rfl ?_ (by first|decide|simp)|refine WF rfl rfl ?_|refine QM rfl ?_|refine Qb rfl rfl rfl ?_))|refine Qv rfl rfl (by first|assumption|omega|(simp;done)|(simp;omega)) ?_|(refine Qo ?_;(first|refine Z6 rfl rfl ?_|refine QS rfl rfl ?_))|(refine Qq ?_;(first|refine s_app_z rfl rfl rfl rfl rfl (by first|omega|(simp;omega)) (by first|omega|(simp;omega)) (fun _ => rfl) (fun _ _ => ?_)|refine W4 rfl rfl hset (Wv (Q8 (Wp (Enc.clo _)) (Q8 Wf WL))) ?_|refine QZ rfl rfl (hps) ?_|refine QZ rfl rfl (hat) ?_|refine QZ rfl rfl (hpa) ?_|refine QZ rfl rfl (hph) ?_|refine Qt rfl ?_|refine s_len_ref rfl rfl ?_))|(refine Wl ?_;(first|refine WR rfl rfl rfl rfl ?_|refine Q7 rfl rfl rfl rfl (by rfl) (by rfl) (by rfl) ?_))|refine ZV rfl (fun _ _ => ?_)|refine Qd rfl rfl ?_|refine QI rfl rfl rfl ?_|refine QC (fun _ _ => ?_)|refine QU rfl rfl (fun _ _ => ?_)))|(refine Qk ?_;(first|refine Qi ?_|refine QN rfl ?_|refine Q5 ?_))|(refine Qj ?_;(first|refine Qn ?_|refine Qc ?_|refine Qf ?_|refine Qx ?_|refine Qh rfl ?_|refine Ql rfl ?_|refine Qm rfl (by omega) ?_|refine Qs ?_)))
   exact e_1 (Tryz.results16) (QH (size := 4) rfl rfl (ZW (Enc.len _)) (Enc.len _)) (Qw rfl)
 ·have hpb := around_c (G := G) by_ 30 h3 (by omega)
  have hbb := Z5 by_ (most := 30) (by omega)
  generalize arnd by_ 30 = b at *
  obtain ⟨z0, hz0⟩ : ∃ z0, z0 = Nd.mk b 0 0 [] := ⟨_, rfl⟩
  have hz1 : okN z0 := by rw [hz0, okN];exact ⟨⟨⟨by omega, by omega⟩, i64_0, i64_0⟩, trivial⟩
  have hz2 : Qu z0 = 1 := by rw [hz0, Qu, QT]
  obtain ⟨v, v1, v2, hset⟩ := hsets (.mk k n m (ks ++ [z0])) (by rw [Qu, ZY, QT, QT, hz2];omega) (by rw [okN];exact ⟨hokx.1, okL_app hokx.2 ⟨hz1, trivial⟩⟩)
  rw [QW k] at hset
  refine ⟨v, v1, v2, fun B => ?_⟩
  clear hats hsets
  refine Qa Tryz.func16 rfl Tryz.ntmps16 rfl (t := [(0, .agg (Enc.enc t)), (1, .i at_), (2, .i how), (3, .i by_)]) rfl fun E hE => ?_
  (repeat' first|(refine Qe ?_;(first|refine QG rfl ?_|refine QJ rfl ?_|(refine Qz ?_;(first|refine s_pubin (o := ⟨some 111, _, _, _, _, _⟩) 2 3 rfl rfl rfl (QX _).symm rfl rfl ?_ (by first|decide|simp)|refine WF rfl rfl ?_|refine QM rfl ?_|refine Qb rfl rfl rfl ?_))|refine Qv rfl rfl (by first|assumption|omega|(simp;done)|(simp;omega)) ?_|refine QS rfl rfl ?_|(refine Qq ?_;(first|refine ZD (z := z0) rfl rfl rfl rfl rfl rfl rfl (by first|omega|(simp;omega)) (by first|omega|(simp;omega)) (fun _ => rfl) (fun _ _ => ?_)|refine s_app_z rfl rfl rfl rfl rfl (by first|omega|(simp;omega)) (by first|omega|(simp;omega)) (fun _ => rfl) (fun _ _ => ?_)|refine W4 rfl rfl hset (Wv (Q8 (Wp (Enc.clo _)) (Q8 Wf WL))) ?_|refine QZ rfl rfl (hps) ?_|refine QZ rfl rfl (hat) ?_|refine QZ rfl rfl (hpa) ?_|refine QZ rfl rfl (hph) ?_|refine Qt rfl ?_))|(refine Wl ?_;(first|refine WR rfl rfl rfl rfl ?_|refine Q7 rfl rfl rfl rfl (by rfl) (by rfl) (by rfl) ?_))|refine ZV rfl (fun _ _ => ?_)|refine Qd rfl rfl ?_|refine QI rfl rfl rfl ?_|refine QC (fun _ _ => ?_)|refine QU rfl rfl (fun _ _ => ?_)))|(refine Qk ?_;(first|refine Qi ?_|refine QN rfl ?_|refine Q5 ?_))|(refine Qj ?_;(first|refine Qn ?_|refine Qc ?_|refine Qf ?_|(refine Wg ?_;first|(rename_i g4 hg4 g8 hg8 g11 hg11 gb hgb gk hgk;refine QB (fun p => .row g4 (Enc.enc t) :: p) 13 [(0, true), (1, true), (2, true), (3, true), (4, true), (5, true), (6, true), (7, true), (8, true), (9, true), (10, true), (11, true), (12, false)] (by rfl) (by rfl) (by kernel_rfl) (by decide +kernel) (by decide +kernel) ⟨_, rfl⟩ ?_)|(refine QB (fun p => p) 100 [(0, true)] (by rfl) (by rfl) (by kernel_rfl) (by decide +kernel) (by decide +kernel) ⟨_, rfl⟩ ?_)|refine Q3 (by rfl) (by kernel_rfl) (by kernel_rfl) ?_|refine Q2 (by kernel_rfl) (by kernel_rfl) ?_)|refine Qh rfl ?_|refine Ql rfl ?_|refine Qs ?_))|(refine Zw ?_;(first|refine x_op rfl (by (repeat' first|(refine Qe ?_;(first|refine QG rfl ?_|refine Qb rfl rfl rfl ?_|refine QZ rfl rfl (hpb) ?_|refine Wc (z := z0) rfl rfl (by decide) ?_|refine s_build_ndz hz0 rfl rfl ?_|refine Qd rfl rfl ?_))|exact ⟨rfl, rfl⟩)) ?_|refine Zr ?_)))
  exact e_1 (Tryz.results16) (QH (size := 4) rfl rfl (ZW (Enc.len _)) (Enc.len _)) (Qw rfl)
 ·have hpb := around_c (G := G) by_ Ps.length h3 (by omega)
  have hbb := Z5 by_ (most := Ps.length) (by omega)
  obtain ⟨b, hb⟩ : ∃ b : Nat, arnd by_ Ps.length = (b : Int) := ⟨(arnd by_ Ps.length).toNat, by omega⟩
  rw [hb] at hpb hbb
  have hjl : b < Ps.length := by omega
  obtain ⟨hat2, hs2, hok2⟩ := hats b hjl
  generalize subN Ps[b] t = z at *
  obtain ⟨v, v1, v2, hset⟩ := hsets z (by omega) hok2
  refine ⟨v, v1, v2, fun B => ?_⟩
  clear hats hsets
  refine Qa Tryz.func16 rfl Tryz.ntmps16 rfl (t := [(0, .agg (Enc.enc t)), (1, .i at_), (2, .i how), (3, .i by_)]) rfl fun E hE => ?_
  (repeat' first|(refine Qe ?_;(first|refine QG rfl ?_|refine QJ rfl ?_|(refine Qz ?_;(first|refine WF rfl rfl ?_|refine QM rfl ?_|refine Qb rfl rfl rfl ?_))|refine Qv rfl rfl (by first|assumption|omega|(simp;done)|(simp;omega)) ?_|refine QS rfl rfl ?_|(refine Qq ?_;(first|refine s_app_z rfl rfl rfl rfl rfl (by first|omega|(simp;omega)) (by first|omega|(simp;omega)) (fun _ => rfl) (fun _ _ => ?_)|refine W4 rfl rfl hset (Wv (Q8 (Wp (Enc.clo _)) (Q8 Wf WL))) ?_|refine QZ rfl rfl (hps) ?_|refine QZ rfl rfl (hat) ?_|refine QZ rfl rfl (hpa) ?_|refine QZ rfl rfl (hph) ?_|refine Qt rfl ?_))|(refine Wl ?_;(first|refine WR rfl rfl rfl rfl ?_|refine Q7 rfl rfl rfl rfl (by rfl) (by rfl) (by rfl) ?_))|refine ZV rfl (fun _ _ => ?_)|refine Qd rfl rfl ?_|refine QI rfl rfl rfl ?_|refine QC (fun _ _ => ?_)|refine QU rfl rfl (fun _ _ => ?_)))|(refine Qk ?_;(first|refine Qi ?_|refine QN rfl ?_|refine Q5 ?_))|(refine Qj ?_;(first|refine Qn ?_|refine Qc ?_|refine Qf ?_|(refine Wg ?_;first|(rename_i g4 hg4 g8 hg8 g11 hg11 gb hgb gk hgk;refine QB (fun p => .row g4 (Enc.enc t) :: p) 13 [(0, true), (1, true), (2, true), (3, true), (4, true), (5, true), (6, true), (7, true), (8, true), (9, true), (10, true), (11, true), (12, false)] (by rfl) (by rfl) (by kernel_rfl) (by decide +kernel) (by decide +kernel) ⟨_, rfl⟩ ?_)|(refine QB (fun p => p) 100 [(0, true)] (by rfl) (by rfl) (by kernel_rfl) (by decide +kernel) (by decide +kernel) ⟨_, rfl⟩ ?_)|refine Q3 (by rfl) (by kernel_rfl) (by kernel_rfl) ?_|refine Q2 (by kernel_rfl) (by kernel_rfl) ?_)|refine Qh rfl ?_|refine Ql rfl ?_|refine Qs ?_))|(refine Ze ?_;(first|refine Z1 ?_|refine i_st rfl rfl (fun _ => (by (repeat' first|(refine Qe ?_;(first|refine QG rfl ?_|(refine Qz ?_;(first|refine WF rfl rfl ?_|refine QM rfl ?_))|refine Qv rfl rfl (by first|assumption|omega|(simp;done)|(simp;omega)) ?_|(refine Qq ?_;(first|refine W4 rfl rfl hat2 (Wv (Q8 (Wp (Enc.clo _)) (Q8 Wf WL))) ?_|refine QZ rfl rfl (hpb) ?_|refine Qt rfl ?_))|refine QI rfl rfl rfl ?_))|exact ⟨rfl, rfl⟩))) ?_|refine i_ef0 ?_))|refine And.intro (Exists.intro (_) rfl) ?_)
  exact e_1 (Tryz.results16) (QH (size := 4) rfl rfl (ZW (Enc.len _)) (Enc.len _)) (Qw rfl)
end Go.Proofs
end
section
namespace Go.Av
open Classical
theorem spliceD_pre : ∀ (l ds rest : List DV), l.length = ds.length -> Zs (l ++ rest) 0 ds = some (ds ++ rest)
 | [], [], rest, _ => by
  cases rest <;> exact qM _
 | x :: r, d :: ds, rest, h => by
  have ih := spliceD_pre r ds rest (by simpa using h)
  show (match Zs (r ++ rest) 0 ds with|some r' => some (d :: r')|none => none) = _
  rw [ih];rfl
theorem spliceD_at : ∀ (l1 l2 : List DV) (d : DV) (ds : List DV), l2.length = (d :: ds).length -> Zs (l1 ++ l2) l1.length (d :: ds) = some (l1 ++ (d :: ds))
 | [], l2, d, ds, h => spliceD_all l2 (d :: ds) h
 | x :: r, l2, d, ds, h => by
  have ih := spliceD_at r l2 d ds h
  show (match Zs (r ++ l2) r.length (d :: ds) with|some r' => some (x :: r')|none => none) = _
  rw [ih];rfl
theorem fill_two {zs : List Value} {cs ds : List DV} {n : Nat} (h1 : zs.length = n) (h2 : cs.length = n) (h3 : ds.length = n) (h0 : 0 < n) : fillD (fun i => some (i * n, n)) (WV zs 2) [(0, .agg cs), (1, .agg ds)] = some (cs ++ ds) := by
 have hz : WV zs 2 = WV zs 1 ++ WV zs 1 := by simp [WV, List.replicate]
 have hz1 : (WV zs 1).length = n := by rw [qI, h1];omega
 cases cs with
 | nil => simp at h2;omega
 | cons e r =>
 cases ds with
 | nil => simp at h3;omega
 | cons e2 r2 =>
  have hb : Nat.beq (e :: r).length n = true := by rw [h2];exact Nat.beq_refl n
  have hb2 : Nat.beq (e2 :: r2).length n = true := by rw [h3];exact Nat.beq_refl n
  have s1 : Zs (WV zs 1 ++ WV zs 1) 0 (e :: r) = some ((e :: r) ++ WV zs 1)  := spliceD_pre (WV zs 1) (e :: r) (WV zs 1) (by rw [hz1, h2])
  have s2 : Zs ((e :: r) ++ WV zs 1) n (e2 :: r2) = some ((e :: r) ++ (e2 :: r2)) := by
   have := spliceD_at (e :: r) (WV zs 1) e2 r2 (by rw [hz1, h3])
   rwa [h2] at this
  rw [hz]
  simp only [fillD, dcells, hb, hb2, Nat.zero_mul, Nat.one_mul, s1, s2]
  exact qM _
theorem ZS {P : Program} {G : Nat -> DV} {B : Nat} {f : Operand -> DV} {σ : List ABlk} {K : DV -> List ABlk -> Prop} {dst : Option Tmp} {type : TypeId} {pos : String} {after : Array Edge} {gd : Option (Nat × Bool)} {α : Type} [Enc α] {y z : α} {t e : Nat} {g1 g2 : Bool} {z1 : Nat} {td : TypeDesc} {zs : List Value} {ps : List (Nat × Operand)} [ht : TyI P t (.slice e) g1 z1] [he : TyI P e td g2 (Enc.es α)] [hz : TyZ P e zs] (hzl : zs.length = Enc.es α) (hp : qS f ps = some [(0, .agg (Enc.enc y)), (1, .agg (Enc.enc z))]) (hn : 2 * Enc.es α <= 16777216)
  (k : K (QR [y, z]) σ) : OpSem P G B ⟨dst, .buildSlice t 2 ps.toArray, type, pos, after, gd⟩ f σ K := by
 refine W1 hzl hp hn (fill_two hzl (Enc.len y) (Enc.len z) Enc.pos) ?_
 have e1 : QR [y, z] = .sl (Enc.es α) (Enc.enc y ++ Enc.enc z) := by simp [QR, Ws]
 rwa [<- e1]
end Go.Av
end
section
namespace Go.Proofs
open Go.Av Go.Bl
def letB (b : UInt8) : Bool := (decide (97 <= b.toNat) && decide (b.toNat <= 122)) || (decide (65 <= b.toNat) && decide (b.toNat <= 90))
def digB (b : UInt8) : Bool := decide (48 <= b.toNat) && decide (b.toNat <= 57)
def numB (s : List UInt8) : Bool := (decide (1 <= s.length) && decide (s.length <= 3)) && (decide (s.getD 0 0 ≠ 48) || decide (s.length = 1)) && s.all digB
def runB (a0 b : UInt8) : Bool := digB b || (letB a0 && letB b)
def preM (s : List UInt8) : List UInt8 := s.takeWhile (runB (s.getD 0 0))
def signsT : List (List UInt8) := [[61, 61], [38, 38], [124, 124], [60, 60], [62, 62], [40], [41], [123], [125], [91], [93], [44], [46], [61], [43], [45], [42], [47], [37], [38], [124], [94], [60], [33]]
def signM (s : List UInt8) : List UInt8 := (signsT.find? (fun t => Lib.hasPrefix s t)).getD []
def Z2 (s : List UInt8) : List UInt8 :=
 if 0 < (preM s).length then (if (letB (s.getD 0 0) || numB (preM s)) = true then preM s else []) else signM s
def spB (b : UInt8) : Bool := [32, 10].contains b
theorem firstM_le (s : List UInt8) : (Z2 s).length <= s.length := by
 have h1 : (preM s).length <= s.length := (List.takeWhile_sublist _).length_le
 unfold Z2
 split
 ·split
  ·exact h1
  ·simp
 ·unfold signM
  cases h : signsT.find? (fun t => Lib.hasPrefix s t) with
  | none => simp
  | some t =>
   have h2 := List.find?_some h
   have h3 : t <+: s := List.isPrefixOf_iff_prefix.1 h2
   exact h3.length_le
def ZI (s : List UInt8) (at_ : Nat) : List (List UInt8 × Nat) × Nat :=
 let r := s.dropWhile spB
 let a := at_ + (s.length - r.length)
 let t := Z2 r
 if h : t = [] then ([], a) else
  let q := ZI (r.drop t.length) (a + t.length)
  ((t, a) :: q.1, q.2)
termination_by s.length
decreasing_by
 have h1 : (s.dropWhile spB).length <= s.length := (List.dropWhile_sublist _).length_le
 have h2 : 0 < (Z2 (s.dropWhile spB)).length := by
  rcases Nat.eq_zero_or_pos (Z2 (s.dropWhile spB)).length with h3|h3
  ·exact absurd (List.eq_nil_of_length_eq_zero h3) h
  ·exact h3
 have h3 := firstM_le (s.dropWhile spB)
 rw [List.length_drop];omega
theorem take_pre (p : UInt8 -> Bool) (s : List UInt8) : s.take (s.takeWhile p).length = s.takeWhile p := (List.prefix_iff_eq_take.1 (List.takeWhile_prefix p)).symm
theorem run_in {p : UInt8 -> Bool} : ∀ {s : List UInt8} {n : Nat}, n < (s.takeWhile p).length -> p (s.getD n 0) = true
 | [], n, h => by simp at h
 | b :: r, n, h => by
  by_cases hb : p b = true
  ·rw [List.takeWhile_cons, if_pos hb, List.length_cons] at h
   cases n with
   | zero => exact hb
   | succ n => exact run_in (s := r) (by omega)
  ·rw [List.takeWhile_cons, if_neg hb] at h
   simp at h
theorem run_end {p : UInt8 -> Bool} : ∀ {s : List UInt8} {n : Nat}, n = (s.takeWhile p).length -> n < s.length -> p (s.getD n 0) = false
 | [], n, _, h2 => by simp at h2
 | b :: r, n, h1, h2 => by
  by_cases hb : p b = true
  ·rw [List.takeWhile_cons, if_pos hb, List.length_cons] at h1
   subst h1
   exact run_end (s := r) rfl (by simpa using h2)
  ·rw [List.takeWhile_cons, if_neg hb] at h1
   subst h1
   simpa using hb
end Go.Proofs
end
section
namespace Go.Proofs
open Go.Av
variable {G : Nat -> DV}
attribute [local irreducible] OpSem Zd Zx ZL ACalls qt AClose RV
open Go.Bl
theorem letter_c (b : UInt8) : Go.Av.Pure Tryz.prog G 144 [.u b] (.b (letB b)) := fun B => by
 unfold letB
 by_cases h1 : (97 : Int) <= b.toNat <;> by_cases h2 : (b.toNat : Int) <= 122 <;> by_cases h3 : (65 : Int) <= b.toNat
 all_goals
  refine Qa Tryz.func144 rfl Tryz.ntmps144 rfl (t := [(0, .u b)]) rfl fun E hE => ?_
  (repeat' first|(refine Qe ?_;(first|refine QG rfl ?_|refine QJ rfl ?_|(refine Qo ?_;(first|refine Zp rfl rfl ?_|refine W0 rfl rfl ?_))|(refine Q4 ?_;(first|refine WO rfl rfl ?_|refine Wr rfl rfl ?_))))|(refine Qk ?_;(first|refine Qi ?_|refine QN rfl ?_|refine WD rfl rfl rfl rfl ?_|refine W2 rfl rfl rfl rfl ?_|refine o_gu rfl rfl rfl rfl rfl ?_|refine We rfl rfl (by omega) ?_|refine Q6 rfl rfl (by omega) ?_))|(refine Qj ?_;(first|refine Qn ?_|refine Qc ?_|refine Qs ?_)))
  refine e_1 Tryz.results144 (Qg rfl) (Qw ?_)
  congr 2
  rw [Bool.eq_iff_iff]
  simp
  try omega
theorem digit_c (b : UInt8) : Go.Av.Pure Tryz.prog G 143 [.u b] (.b (digB b)) := fun B => by
 unfold digB
 by_cases h1 : (48 : Int) <= b.toNat
 all_goals
  refine Qa Tryz.func143 rfl Tryz.ntmps143 rfl (t := [(0, .u b)]) rfl fun E hE => ?_
  (repeat' first|(refine Qe ?_;(first|refine QG rfl ?_|refine QJ rfl ?_|(refine Qo ?_;(first|refine Zp rfl rfl ?_|refine W0 rfl rfl ?_))|(refine Q4 ?_;(first|refine WO rfl rfl ?_|refine Wr rfl rfl ?_))))|(refine Qk ?_;(first|refine Qi ?_|refine QN rfl ?_|refine WD rfl rfl rfl rfl ?_|refine W2 rfl rfl rfl rfl ?_|refine We rfl rfl (by omega) ?_|refine Q6 rfl rfl (by omega) ?_))|(refine Qj ?_;(first|refine Qn ?_|refine Qc ?_|refine Qs ?_)))
  refine e_1 Tryz.results143 (Qg rfl) (Qw ?_)
  congr 2
  rw [Bool.eq_iff_iff]
  simp
  try omega
theorem dw_nil (p : UInt8 -> Bool) : ∀ l : List UInt8, l.dropWhile p = [] ↔ l.all p = true
 | [] => by simp
 | b :: r => by
  by_cases hb : p b = true
  ·rw [List.dropWhile_cons, if_pos hb, dw_nil p r];simp [hb]
  ·rw [List.dropWhile_cons, if_neg hb];simp [hb]
theorem dw_all (p : UInt8 -> Bool) : ∀ l : List UInt8, (l.dropWhile p).all p = l.all p
 | [] => by simp
 | b :: r => by
  by_cases hb : p b = true
  ·rw [List.dropWhile_cons, if_pos hb, dw_all p r];simp [hb]
  ·rw [List.dropWhile_cons, if_neg hb]
theorem trim_digits (s : List UInt8) : Lib.trimS s [48, 49, 50, 51, 52, 53, 54, 55, 56, 57] = [] ↔ s.all digB = true := by
 have hd : (fun b : UInt8 => [48, 49, 50, 51, 52, 53, 54, 55, 56, 57].contains b) = digB := by
  funext b
  have : ∀ n : Fin 256, [48, 49, 50, 51, 52, 53, 54, 55, 56, 57].contains (UInt8.ofNat n.val) = digB (UInt8.ofNat n.val) := by decide +kernel
  have h := this ⟨b.toNat, b.toNat_lt⟩
  simpa using h
 unfold Lib.trimS Lib.trimLeftS Lib.trimRightS
 rw [hd, dw_nil, List.all_reverse, dw_all, List.all_reverse]
theorem tnum_c (s : List UInt8) (hs : s.length <= 1000000) : Go.Av.Pure Tryz.prog G 107 [WQ s] (.b (numB s)) := fun B => by
 have htr := trim_c (G := G) s [48, 49, 50, 51, 52, 53, 54, 55, 56, 57] (by omega) (by decide) (by decide)
 have hta : decide (Lib.trimS s [48, 49, 50, 51, 52, 53, 54, 55, 56, 57] = []) = s.all digB := by rw [Bool.eq_iff_iff, decide_eq_true_eq, trim_digits]
 generalize Lib.trimS s [48, 49, 50, 51, 52, 53, 54, 55, 56, 57] = tr at *
 unfold numB
 by_cases h0 : s = []
 ·subst h0
  refine Qa Tryz.func107 rfl Tryz.ntmps107 rfl (t := [(0, WQ [])]) rfl fun E hE => ?_
  (repeat' first|(refine Qe ?_;(first|refine QG rfl ?_|refine QJ rfl ?_|refine W0 rfl rfl ?_|refine WM rfl ?_|refine Wr rfl rfl ?_))|(refine Qk ?_;(first|refine Qi ?_|refine QN rfl ?_|refine W2 rfl rfl rfl rfl ?_|refine o_gu rfl rfl rfl rfl rfl ?_))|(refine Qj ?_;(first|refine Qn ?_|refine Qc ?_|refine Qs ?_)))
  refine e_1 Tryz.results107 (Qg rfl) (Qw ?_)
  rfl
 have hl : 0 < s.length := by cases s with|nil => exact absurd rfl h0|cons b r => simp
 have hl1 : (1 : Int) <= s.length := by omega
 by_cases h3 : (s.length : Int) <= 3
 case neg =>
  refine Qa Tryz.func107 rfl Tryz.ntmps107 rfl (t := [(0, WQ s)]) rfl fun E hE => ?_
  (repeat' first|(refine Qe ?_;(first|refine QG rfl ?_|refine QJ rfl ?_|(refine Qo ?_;(first|refine Zp rfl rfl ?_|refine W0 rfl rfl ?_))|refine WM rfl ?_|(refine Q4 ?_;(first|refine WO rfl rfl ?_|refine Wr rfl rfl ?_))))|(refine Qk ?_;(first|refine Qi ?_|refine QN rfl ?_|refine WD rfl rfl rfl rfl ?_|refine W2 rfl rfl rfl rfl ?_|refine o_gu rfl rfl rfl rfl rfl ?_|refine We rfl rfl (by omega) ?_|refine Q6 rfl rfl (by omega) ?_))|(refine Qj ?_;(first|refine Qn ?_|refine Qc ?_|refine Qs ?_)))
  refine e_1 Tryz.results107 (Qg rfl) (Qw ?_)
  simp;omega
 have h33 : s.length <= 3 := by omega
 by_cases h8 : ((s.getD 0 0).toNat : Int) = 48
 ·have h88 : s.getD 0 0 = 48 := UInt8.toNat_inj.1 (by rw [show (48 : UInt8).toNat = 48 from rfl];omega)
  by_cases h1 : (s.length : Int) = 1
  ·have h11 : s.length = 1 := by omega
   refine Qa Tryz.func107 rfl Tryz.ntmps107 rfl (t := [(0, WQ s)]) rfl fun E hE => ?_
   (repeat' first|(refine Qe ?_;(first|refine QG rfl ?_|refine QJ rfl ?_|(refine Qo ?_;(first|refine QS rfl rfl ?_|refine WN rfl rfl ?_|refine Zp rfl rfl ?_|refine W0 rfl rfl ?_|refine ZN rfl rfl ?_))|(refine Qq ?_;(first|refine WM rfl ?_|refine QZ rfl rfl (htr) ?_))|(refine Q4 ?_;(first|refine WO rfl rfl ?_|refine Wr rfl rfl ?_))|refine Zh rfl rfl (by first|assumption|omega|(simp only [List.length_take, List.length_drop];omega)) ?_))|(refine Qk ?_;(first|refine Qi ?_|refine QN rfl ?_|refine WD rfl rfl rfl rfl ?_|refine W2 rfl rfl rfl rfl ?_|refine We rfl rfl (by omega) ?_|refine q8 rfl rfl (fun _ => ?_) (fun _ => ?_)))|(refine Qj ?_;(first|refine Qn ?_|refine Qc ?_|refine Qs ?_)))
   ·exact absurd h8 (by assumption)
   refine e_1 Tryz.results107 (Qg rfl) (Qw ?_)
   rw [h11, h88]
   simpa using hta
  ·have h11 : ¬ s.length = 1 := by omega
   refine Qa Tryz.func107 rfl Tryz.ntmps107 rfl (t := [(0, WQ s)]) rfl fun E hE => ?_
   (repeat' first|(refine Qe ?_;(first|refine QG rfl ?_|refine QJ rfl ?_|(refine Qo ?_;(first|refine QS rfl rfl ?_|refine WN rfl rfl ?_|refine Zp rfl rfl ?_|refine W0 rfl rfl ?_|refine ZN rfl rfl ?_))|(refine Qq ?_;(first|refine WM rfl ?_|refine QZ rfl rfl (htr) ?_))|(refine Q4 ?_;(first|refine WO rfl rfl ?_|refine Wr rfl rfl ?_))|refine Zh rfl rfl (by first|assumption|omega|(simp only [List.length_take, List.length_drop];omega)) ?_))|(refine Qk ?_;(first|refine Qi ?_|refine QN rfl ?_|refine WD rfl rfl rfl rfl ?_|refine W2 rfl rfl rfl rfl ?_|refine We rfl rfl (by omega) ?_|refine Q6 rfl rfl (by omega) ?_|refine q8 rfl rfl (fun _ => ?_) (fun _ => ?_)))|(refine Qj ?_;(first|refine Qn ?_|refine Qc ?_|refine Qs ?_)))
   ·exact absurd h8 (by assumption)
   refine e_1 Tryz.results107 (Qg rfl) (Qw ?_)
   rw [h88]
   simp [h11]
 ·have h88 : ¬ s.getD 0 0 = 48 := fun h => h8 (by rw [h];rfl)
  refine Qa Tryz.func107 rfl Tryz.ntmps107 rfl (t := [(0, WQ s)]) rfl fun E hE => ?_
  (repeat' first|(refine Qe ?_;(first|refine QG rfl ?_|refine QJ rfl ?_|(refine Qo ?_;(first|refine WN rfl rfl ?_|refine Zp rfl rfl ?_|refine W0 rfl rfl ?_|refine ZN rfl rfl ?_))|(refine Qq ?_;(first|refine WM rfl ?_|refine QZ rfl rfl (htr) ?_))|refine WO rfl rfl ?_|refine Zh rfl rfl (by first|assumption|omega|(simp only [List.length_take, List.length_drop];omega)) ?_))|(refine Qk ?_;(first|refine Qi ?_|refine QN rfl ?_|refine WD rfl rfl rfl rfl ?_|refine W2 rfl rfl rfl rfl ?_|refine We rfl rfl (by omega) ?_))|(refine Qj ?_;(first|refine Qn ?_|refine Qc ?_|refine Qs ?_)))
  refine e_1 Tryz.results107 (Qg rfl) (Qw ?_)
  rw [show decide (1 <= s.length) = true from decide_eq_true hl, show decide (s.length <= 3) = true by simpa using h33, show decide (s.getD 0 0 ≠ 48) = true by simpa using h88]
  simpa using hta
theorem fields_signs : Lib.fields [61, 61, 32, 38, 38, 32, 124, 124, 32, 60, 60, 32, 62, 62, 32, 40, 32, 41, 32, 123, 32, 125, 32, 91, 32, 93, 32, 44, 32, 46, 32, 61, 32, 43, 32, 45, 32, 42, 32, 47, 32, 37, 32, 38, 32, 124, 32, 94, 32, 60, 32, 33] = signsT := by decide +kernel
theorem signs_own (hG1 : G 1 = spaceT) : Own Tryz.prog G 146 [] 24 1 (Ws (signsT.map Str.mk)) := fun B => by
 refine Qa Tryz.func146 rfl Tryz.ntmps146 rfl (t := []) rfl fun E hE => ?_
 (repeat' first|(refine Qe ?_;(first|refine QJ rfl ?_|refine s_call_o rfl rfl (fields_own hG1 [61, 61, 32, 38, 38, 32, 124, 124, 32, 60, 60, 32, 62, 62, 32, 40, 32, 41, 32, 123, 32, 125, 32, 91, 32, 93, 32, 44, 32, 46, 32, 61, 32, 43, 32, 45, 32, 42, 32, 47, 32, 37, 32, 38, 32, 124, 32, 94, 32, 60, 32, 33] (by decide) (by decide)) (by first|exact QO _) (fun _ _ => ?_)))|(refine Qk ?_;(first|refine Qi ?_|refine QN rfl ?_))|(refine Qj ?_;(first|refine Qn ?_|refine Qc ?_|refine Qs ?_)))
 exact e_1 (Tryz.results146) (Qg rfl) (c_ownedB hE rfl (by rw [fields_signs];rfl) (by rw [fields_signs]) rfl)
theorem signs_c (hG1 : G 1 = spaceT) : Go.Av.Pure Tryz.prog G 146 [] (QR (signsT.map Str.mk)) := (signs_own hG1).pure (by rw [QX];rfl)
def findP {α : Type} (p : α -> Bool) (l : List α) : Int := match l.findIdx? p with|some i => i|none => -1
theorem findP_some {α : Type} {p : α -> Bool} {l : List α} {k : Nat} (hk : k < l.length) (hp : p l[k] = true) (hno : ∀ j (h : j < l.length), j < k -> p l[j] = false) : findP p l = k := by
 unfold findP
 have : l.findIdx? p = some k := List.findIdx?_eq_some_iff_getElem.2 ⟨hk, hp, fun j hj => by simpa using hno j (by omega) hj⟩
 rw [this]
theorem findP_none {α : Type} {p : α -> Bool} {l : List α} (hno : ∀ j (h : j < l.length), p l[j] = false) : findP p l = -1 := by
 unfold findP
 have : l.findIdx? p = none := List.findIdx?_eq_none_iff.2 fun x hx => by
  obtain ⟨j, hj, rfl⟩ := List.getElem_of_mem hx
  exact hno j hj
 rw [this]
theorem idxF_c (l : List Str) (fid : FuncId) (first cap : List DV) (p : Str -> Bool) [FnOk Tryz.prog fid] (hl : l.length <= 4611686018427387904) (hp : ∀ x ∈ l, Go.Av.Pure Tryz.prog G fid (first ++ [WQ x.l] ++ cap) (.b (p x))) :
  Go.Av.Pure Tryz.prog G 145 [QR l, .fn (.func fid) first cap] (.i (findP p l)) := fun B => by
 refine Qa Tryz.func145 rfl Tryz.ntmps145 rfl (t := [(0, QR l), (1, .fn (.func fid) first cap)]) rfl fun E hE => ?_
 (repeat' first|(refine Qe ?_;(first|refine QG rfl ?_|refine QJ rfl ?_|refine Qt rfl ?_))|(refine Qk ?_;(first|refine Qi ?_|refine QN rfl ?_))|(refine Qj ?_;(first|refine Qn ?_|refine Qc ?_|refine Qf ?_)))
 refine qb (fun k : Nat => ⟨[(0, QR l), (1, .fn (.func fid) first cap), (7, .i l.length), (8, .i k)], []⟩) (fun k => k <= l.length /\ ∀ j (h : j < l.length), j < k -> p l[j] = false) (fun k => l.length - k) 0 ?_ ⟨by omega, fun j h hj => by omega⟩ ?_
 ·exact zal rfl
 intro k ⟨hk, hno⟩
 (repeat' first|refine Q1 rfl rfl ?_|(refine Qk ?_;(first|refine Qi ?_|refine QN rfl ?_))|(refine Qj ?_;(first|refine Qn ?_|refine Qc ?_)))
 refine r_cond_d rfl (fun h => ?_) (fun h => ?_)
 ·have hk' : k < l.length := by omega
  (repeat' first|(refine Qe ?_;(first|refine QG rfl ?_|refine QJ rfl ?_|refine QM rfl ?_|refine Qv rfl rfl (by first|assumption|omega|(simp;done)|(simp;omega)) ?_|refine qy rfl (hp _ (by first|assumption|exact List.getElem_mem _)) (by repeat' first|exact Wf|exact Wu _|exact WB (QO _)|exact QO _|refine ZG ?_ ?_|refine Zq ?_|refine Wv ?_|refine Wp ?_|exact WL|refine Q8 ?_ ?_|refine WB ?_) ?_))|(refine Qk ?_;(first|refine Qi ?_|refine QN rfl ?_))|(refine Qj ?_;(first|refine Qn ?_|refine Qc ?_|refine Qf ?_|refine Qx ?_)))
  refine r_cond rfl (fun hb => ?_) (fun hb => ?_)
  ·(repeat' first|(refine Qe ?_;(first|refine QG rfl ?_|refine QJ rfl ?_))|(refine Qk ?_;(first|refine Qi ?_|refine QN rfl ?_))|(refine Qj ?_;(first|refine Qn ?_|refine Qc ?_|refine Qs ?_)))
   refine e_1 Tryz.results145 (Qg rfl) (Qw ?_)
   rw [findP_some hk' hb hno]
  ·(repeat' first|(refine Qe ?_;(first|refine QG rfl ?_|refine W3 rfl rfl (by omega) ?_))|(refine Qk ?_;(first|refine Qi ?_|refine QN rfl ?_))|(refine Qj ?_;(first|refine Qc ?_|refine Qx ?_)))
   refine ⟨k + 1, ⟨hk', fun j hj hjk => ?_⟩, by omega, ?_⟩
   ·rcases Nat.lt_or_ge j k with h'|h'
    ·exact hno j hj h'
    ·have : j = k := by omega
     subst this;exact hb
   ·exact zal rfl
 ·have hk' : k = l.length := by omega
  (repeat' first|refine QJ rfl ?_|(refine Qk ?_;(first|refine Qi ?_|refine QN rfl ?_))|(refine Qj ?_;(first|refine Qn ?_|refine Qc ?_|refine WI rfl ?_|refine Qs ?_)))
  refine e_1 Tryz.results145 (Qg rfl) (Qw ?_)
  rw [findP_none fun j hj => hno j hj (by omega)]
theorem first1_c (s t : List UInt8) : Go.Av.Pure Tryz.prog G 147 [WQ t, .ep [WQ s]] (.b (Lib.hasPrefix s t)) := fun B => by
 refine Qa Tryz.func147 rfl Tryz.ntmps147 rfl (t := [(0, WQ t), (1, .ep [WQ s])]) rfl fun E hE => ?_
 (repeat' first|(refine Qe ?_;(first|refine QG rfl ?_|refine QJ rfl ?_|refine QM rfl ?_|refine QZ rfl rfl (hasPrefix_c _ _) ?_))|(refine Qk ?_;(first|refine Qi ?_|refine QN rfl ?_))|(refine Qj ?_;(first|refine Qn ?_|refine Qc ?_|refine Qs ?_)))
 refine e_1 Tryz.results147 (Qg rfl) (Qw ?_)
 rfl
theorem find_idx {s : List UInt8} : (findP (fun x : Str => Lib.hasPrefix s x.l) (signsT.map Str.mk) = -1 /\ signM s = []) \/ ∃ i : Nat, ∃ h : i < (signsT.map Str.mk).length, findP (fun x : Str => Lib.hasPrefix s x.l) (signsT.map Str.mk) = i /\ ((signsT.map Str.mk)[i]).l = signM s := by
 have key : ∀ L : List (List UInt8), (findP (fun x : Str => Lib.hasPrefix s x.l) (L.map Str.mk) = -1 /\ (L.find? (fun t => Lib.hasPrefix s t)).getD [] = []) \/ ∃ i : Nat, ∃ h : i < (L.map Str.mk).length, findP (fun x : Str => Lib.hasPrefix s x.l) (L.map Str.mk) = i /\ ((L.map Str.mk)[i]).l = (L.find? (fun t => Lib.hasPrefix s t)).getD [] := by
  intro L
  unfold findP
  induction L with
  | nil => left;simp
  | cons x r ih =>
   by_cases hx : Lib.hasPrefix s x = true
   ·right
    exact ⟨0, by simp, by simp [List.findIdx?_cons, hx], by simp [hx]⟩
   ·have hx2 : Lib.hasPrefix s x = false := by simpa using hx
    rcases ih with ⟨h1, h2⟩|⟨i, hi, h1, h2⟩
    ·left
     refine ⟨?_, by rw [List.find?_cons, hx2];exact h2⟩
     rw [List.map_cons, List.findIdx?_cons]
     simp only [hx2]
     cases hf : (r.map Str.mk).findIdx? (fun x => Lib.hasPrefix s x.l) with
     | none => rfl
     | some j => rw [hf] at h1;simp at h1 <;> omega
    ·right
     refine ⟨i + 1, by simpa using hi, ?_, by rw [List.find?_cons, hx2];exact h2⟩
     rw [List.map_cons, List.findIdx?_cons]
     simp only [hx2]
     cases hf : (r.map Str.mk).findIdx? (fun x => Lib.hasPrefix s x.l) with
     | none => rw [hf] at h1;simp at h1 <;> omega
     | some j => rw [hf] at h1;simp at h1 ⊢;omega
 exact key signsT
theorem first_c (hG1 : G 1 = spaceT) (s : List UInt8) (hs : s.length <= 1000000) : Go.Av.Pure Tryz.prog G 103 [WQ s] (WQ (Z2 s)) := fun B => by
 have hpl : (preM s).length <= s.length := (List.takeWhile_sublist _).length_le
 have htk : s.take (preM s).length = preM s := take_pre _ s
 have hsg := signs_c (G := G) hG1
 have hlt0 := letter_c (G := G) (s.getD 0 0)
 unfold Z2
 refine Qa Tryz.func103 rfl Tryz.ntmps103 rfl (t := [(0, WQ s)]) rfl fun E hE => ?_
 (repeat' first|(refine Qe ?_;(first|refine QJ rfl ?_|refine QU rfl rfl (fun _ _ => ?_)))|(refine Qk ?_;(first|refine Qi ?_|refine QN rfl ?_))|(refine Qj ?_;(first|refine Qn ?_|refine Qc ?_|refine Qf ?_)))
 refine r_pubptr 1 rfl rfl rfl ?_
 refine qb (fun n : Nat => ⟨[(1, .ep [WQ s]), (3, .i n)], [.gone]⟩) (fun n => n <= (preM s).length) (fun n => (preM s).length - n) 0 ?_ (by omega) ?_
 ·exact zal rfl
 intro n hn
 by_cases hnl : n < (preM s).length
 ·have hns : n < s.length := by omega
  have hrun : runB (s.getD 0 0) (s.getD n 0) = true := run_in hnl
  have hd := digit_c (G := G) (s.getD n 0)
  unfold runB at hrun
  by_cases hD : digB (s.getD n 0) = true
  ·rw [hD] at hd
   (repeat' first|(refine Qe ?_;(first|refine QG rfl ?_|refine QJ rfl ?_|refine QM rfl ?_|(refine Qo ?_;(first|refine Q1 rfl rfl ?_|refine W3 rfl rfl (by omega) ?_))|(refine Qq ?_;(first|refine WM rfl ?_|refine QZ rfl rfl (hd) ?_))|refine WO rfl rfl ?_|refine Zh rfl rfl (by first|assumption|omega|(simp only [List.length_take, List.length_drop];omega)) ?_))|(refine Qk ?_;(first|refine Qi ?_|refine QN rfl ?_|refine WD rfl rfl rfl rfl ?_|refine W2 rfl rfl rfl rfl ?_|refine o_gu rfl rfl rfl rfl rfl ?_|refine We rfl rfl (by omega) ?_))|(refine Qj ?_;(first|refine Qn ?_|refine Qc ?_|refine Qf ?_|refine Qx ?_|refine Qh rfl ?_)))
   refine ⟨n + 1, by omega, by omega, ?_⟩
   exact zal rfl
  ·have hD2 : digB (s.getD n 0) = false := by simpa using hD
   rw [hD2] at hd hrun
   simp at hrun
   have hl0 : Go.Av.Pure Tryz.prog G 144 [.u (s.getD 0 0)] (.b true) := by have := letter_c (G := G) (s.getD 0 0);rwa [show letB (s.getD 0 0) = true by simpa using hrun.1] at this
   have hln : Go.Av.Pure Tryz.prog G 144 [.u (s.getD n 0)] (.b true) := by have := letter_c (G := G) (s.getD n 0);rwa [show letB (s.getD n 0) = true by simpa using hrun.2] at this
   (repeat' first|(refine Qe ?_;(first|refine QG rfl ?_|refine QJ rfl ?_|refine QM rfl ?_|(refine Qo ?_;(first|refine Q1 rfl rfl ?_|refine W3 rfl rfl (by omega) ?_))|(refine Qq ?_;(first|refine WM rfl ?_|refine QZ rfl rfl (hd) ?_|refine QZ rfl rfl (hl0) ?_|refine QZ rfl rfl (hln) ?_))|(refine Q4 ?_;(first|refine WO rfl rfl ?_|refine Wr rfl rfl ?_))|refine Zh rfl rfl (by first|assumption|omega|(simp only [List.length_take, List.length_drop];omega)) ?_))|(refine Qk ?_;(first|refine Qi ?_|refine QN rfl ?_|refine WD rfl rfl rfl rfl ?_|refine We rfl rfl (by omega) ?_))|(refine Qj ?_;(first|refine Qn ?_|refine Qc ?_|refine Qf ?_|refine Qx ?_|refine Qh rfl ?_)))
   refine ⟨n + 1, by omega, by omega, ?_⟩
   exact zal rfl
 have hne : n = (preM s).length := by omega
 have hnm := tnum_c (G := G) (s.take (preM s).length) (by rw [htk];omega)
 rw [show numB (s.take (preM s).length) = numB (preM s) by rw [htk]] at hnm
 have hix := idxF_c (G := G) (signsT.map Str.mk) 147 [] [.ep [WQ s]] (fun x => Lib.hasPrefix s x.l) (by decide) (fun x hx => first1_c s x.l)
 subst hne
 have hlet := letter_c (G := G) (s.getD 0 0)
 by_cases hns : (preM s).length < s.length
 ·have hrun : runB (s.getD 0 0) (s.getD (preM s).length 0) = false := run_end rfl hns
  have hd := digit_c (G := G) (s.getD (preM s).length 0)
  have hln := letter_c (G := G) (s.getD (preM s).length 0)
  unfold runB at hrun
  have hD2 : digB (s.getD (preM s).length 0) = false := by simp at hrun;simpa using hrun.1
  rw [hD2] at hd hrun
  by_cases h0 : letB (s.getD 0 0) = true
  ·rw [h0] at hlet hrun
   have hn2 : letB (s.getD (preM s).length 0) = false := by simpa using hrun
   rw [hn2] at hln
   have hpos : 0 < (preM s).length := by
    rcases Nat.eq_zero_or_pos (preM s).length with h|h
    ·rw [h, h0] at hn2;cases hn2
    ·exact h
   rw [if_pos hpos, if_pos (by rw [h0];rfl)]
   (repeat' first|(refine Qe ?_;(first|refine QG rfl ?_|refine QJ rfl ?_|refine QM rfl ?_|(refine Qo ?_;(first|refine Q1 rfl rfl ?_|refine Z6 rfl rfl ?_))|(refine Qq ?_;(first|refine WM rfl ?_|refine QZ rfl rfl (hlet) ?_|refine QZ rfl rfl (hd) ?_|refine QZ rfl rfl (hln) ?_))|(refine Q4 ?_;(first|refine WO rfl rfl ?_|refine Wr rfl rfl ?_))|refine Zh rfl rfl (by first|assumption|omega|(simp only [List.length_take, List.length_drop];omega)) ?_|refine s_sh rfl rfl ?_))|(refine Qk ?_;(first|refine Qi ?_|refine QN rfl ?_|refine WD rfl rfl rfl rfl ?_|refine W2 rfl rfl rfl rfl ?_|refine We rfl rfl (by omega) ?_))|(refine Qj ?_;(first|refine Qn ?_|refine Qc ?_|refine Qh rfl ?_|refine Ql rfl ?_|refine Qp rfl (by omega) ?_|refine WI rfl ?_|refine Qs ?_)))
   refine e_1 Tryz.results103 (Qg rfl) (Qw ?_)
   rw [htk]
  ·have h0 : letB (s.getD 0 0) = false := by simpa using h0
   rw [h0] at hlet
   by_cases hpos : 0 < (preM s).length
   ·rw [if_pos hpos]
    by_cases hN : numB (preM s) = true
    ·rw [hN] at hnm
     rw [if_pos (show (letB (s.getD 0 0) || numB (preM s)) = true by rw [hN];simp)]
     (repeat' first|(refine Qe ?_;(first|refine QG rfl ?_|refine QJ rfl ?_|refine QM rfl ?_|(refine Qo ?_;(first|refine Q1 rfl rfl ?_|refine Z6 rfl rfl ?_))|(refine Qq ?_;(first|refine WM rfl ?_|refine QZ rfl rfl (hlet) ?_|refine QZ rfl rfl (hd) ?_|refine QZ rfl rfl (hnm) ?_))|(refine Q4 ?_;(first|refine WO rfl rfl ?_|refine Wr rfl rfl ?_))|refine Zh rfl rfl (by first|assumption|omega|(simp only [List.length_take, List.length_drop];omega)) ?_|refine s_sh rfl rfl ?_))|(refine Qk ?_;(first|refine Qi ?_|refine QN rfl ?_|refine WD rfl rfl rfl rfl ?_|refine W2 rfl rfl rfl rfl ?_|refine We rfl rfl (by omega) ?_))|(refine Qj ?_;(first|refine Qn ?_|refine Qc ?_|refine Qh rfl ?_|refine Ql rfl ?_|refine Qp rfl (by omega) ?_|refine WI rfl ?_|refine Qs ?_)))
     refine e_1 Tryz.results103 (Qg rfl) (Qw ?_)
     rw [htk]
    ·have hN2 : numB (preM s) = false := by simpa using hN
     rw [hN2] at hnm
     rw [if_neg (show ¬ (letB (s.getD 0 0) || numB (preM s)) = true by rw [hN2, h0];simp)]
     (repeat' first|(refine Qe ?_;(first|refine QG rfl ?_|refine QJ rfl ?_|refine QM rfl ?_|(refine Qo ?_;(first|refine Q1 rfl rfl ?_|refine Z6 rfl rfl ?_))|(refine Qq ?_;(first|refine WM rfl ?_|refine QZ rfl rfl (hlet) ?_|refine QZ rfl rfl (hd) ?_|refine QZ rfl rfl (hnm) ?_))|(refine Q4 ?_;(first|refine WO rfl rfl ?_|refine Wr rfl rfl ?_))|refine Zh rfl rfl (by first|assumption|omega|(simp only [List.length_take, List.length_drop];omega)) ?_|refine s_sh rfl rfl ?_))|(refine Qk ?_;(first|refine Qi ?_|refine QN rfl ?_|refine WD rfl rfl rfl rfl ?_|refine W2 rfl rfl rfl rfl ?_|refine We rfl rfl (by omega) ?_))|(refine Qj ?_;(first|refine Qn ?_|refine Qc ?_|refine Qx ?_|refine Ql rfl ?_|refine Qp rfl (by omega) ?_|refine WI rfl ?_|refine Qs ?_)))
     refine e_1 Tryz.results103 (Qg rfl) (Qw ?_)
     all_goals rfl
   ·rw [if_neg hpos]
    have hz : (preM s).length = 0 := by omega
    rcases find_idx (s := s) with ⟨h1, h2⟩|⟨i, hi, h1, h2⟩
    ·rw [h1] at hix
     rw [h2]
     (repeat' first|(refine Qe ?_;(first|refine QG rfl ?_|refine QJ rfl ?_|refine QM rfl ?_|(refine Qo ?_;(first|refine Q1 rfl rfl ?_|refine Z6 rfl rfl ?_|refine W0 rfl rfl ?_))|(refine Qq ?_;(first|refine WM rfl ?_|refine QZ rfl rfl (hlet) ?_|refine QZ rfl rfl (hd) ?_|refine QZ rfl rfl (hsg) ?_|refine QZ rfl rfl (hix) ?_))|(refine Q4 ?_;(first|refine WO rfl rfl ?_|refine Wr rfl rfl ?_))|refine Zh rfl rfl (by first|assumption|omega|(simp only [List.length_take, List.length_drop];omega)) ?_|refine QV rfl rfl ?_))|(refine Qk ?_;(first|refine Qi ?_|refine QN rfl ?_|refine WD rfl rfl rfl rfl ?_|refine W2 rfl rfl rfl rfl ?_|refine We rfl rfl (by omega) ?_))|(refine Qj ?_;(first|refine Qn ?_|refine Qc ?_|refine Qx ?_|refine Ql rfl ?_|refine Qm rfl (by omega) ?_|refine WI rfl ?_|refine Qs ?_)))
     refine e_1 Tryz.results103 (Qg rfl) (Qw ?_)
     all_goals rfl
    ·rw [h1] at hix
     rw [<- h2]
     have hi2 : i < 24 := by simpa [signsT] using hi
     (repeat' first|(refine Qe ?_;(first|refine QG rfl ?_|refine QJ rfl ?_|refine QM rfl ?_|refine Qv rfl rfl (by first|assumption|omega|(simp;done)|(simp;omega)) ?_|(refine Qo ?_;(first|refine Q1 rfl rfl ?_|refine Z6 rfl rfl ?_|refine W0 rfl rfl ?_))|(refine Qq ?_;(first|refine WM rfl ?_|refine QZ rfl rfl (hlet) ?_|refine QZ rfl rfl (hd) ?_|refine QZ rfl rfl (hsg) ?_|refine QZ rfl rfl (hix) ?_))|(refine Q4 ?_;(first|refine WO rfl rfl ?_|refine Wr rfl rfl ?_))|refine Zh rfl rfl (by first|assumption|omega|(simp only [List.length_take, List.length_drop];omega)) ?_|refine QV rfl rfl ?_))|(refine Qk ?_;(first|refine Qi ?_|refine QN rfl ?_|refine WD rfl rfl rfl rfl ?_|refine W2 rfl rfl rfl rfl ?_|refine We rfl rfl (by omega) ?_))|(refine Qj ?_;(first|refine Qn ?_|refine Qc ?_|refine Qx ?_|refine Qh rfl ?_|refine Ql rfl ?_|refine Qm rfl (by omega) ?_|refine WI rfl ?_|refine Qs ?_)))
     refine e_1 Tryz.results103 (Qg rfl) (Qw ?_)
     all_goals rfl
 ·have hN0 : (preM s).length = s.length := by omega
  by_cases hpos : 0 < (preM s).length
  ·rw [if_pos hpos]
   by_cases h0 : letB (s.getD 0 0) = true
   ·rw [h0] at hlet
    rw [if_pos (by rw [h0];rfl)]
    (repeat' first|(refine Qe ?_;(first|refine QG rfl ?_|refine QJ rfl ?_|refine QM rfl ?_|(refine Qo ?_;(first|refine Q1 rfl rfl ?_|refine Z6 rfl rfl ?_))|(refine Qq ?_;(first|refine WM rfl ?_|refine QZ rfl rfl (hlet) ?_))|(refine Q4 ?_;(first|refine WO rfl rfl ?_|refine Wr rfl rfl ?_))|refine Zh rfl rfl (by first|assumption|omega|(simp only [List.length_take, List.length_drop];omega)) ?_|refine s_sh rfl rfl ?_))|(refine Qk ?_;(first|refine Qi ?_|refine QN rfl ?_|refine W2 rfl rfl rfl rfl ?_|refine o_gu rfl rfl rfl rfl rfl ?_|refine Q6 rfl rfl (by omega) ?_))|(refine Qj ?_;(first|refine Qn ?_|refine Qc ?_|refine Qh rfl ?_|refine Ql rfl ?_|refine Qp rfl (by omega) ?_|refine WI rfl ?_|refine Qs ?_)))
    refine e_1 Tryz.results103 (Qg rfl) (Qw ?_)
    rw [htk]
   ·have h0 : letB (s.getD 0 0) = false := by simpa using h0
    rw [h0] at hlet
    by_cases hN : numB (preM s) = true
    ·rw [hN] at hnm
     rw [if_pos (show (letB (s.getD 0 0) || numB (preM s)) = true by rw [hN];simp)]
     (repeat' first|(refine Qe ?_;(first|refine QG rfl ?_|refine QJ rfl ?_|refine QM rfl ?_|(refine Qo ?_;(first|refine Q1 rfl rfl ?_|refine Z6 rfl rfl ?_))|(refine Qq ?_;(first|refine WM rfl ?_|refine QZ rfl rfl (hlet) ?_|refine QZ rfl rfl (hnm) ?_))|refine Wr rfl rfl ?_|refine Zh rfl rfl (by first|assumption|omega|(simp only [List.length_take, List.length_drop];omega)) ?_|refine s_sh rfl rfl ?_))|(refine Qk ?_;(first|refine Qi ?_|refine QN rfl ?_|refine WD rfl rfl rfl rfl ?_|refine W2 rfl rfl rfl rfl ?_|refine o_gu rfl rfl rfl rfl rfl ?_|refine Q6 rfl rfl (by omega) ?_))|(refine Qj ?_;(first|refine Qn ?_|refine Qc ?_|refine Qh rfl ?_|refine Ql rfl ?_|refine Qp rfl (by omega) ?_|refine WI rfl ?_|refine Qs ?_)))
     refine e_1 Tryz.results103 (Qg rfl) (Qw ?_)
     rw [htk]
    ·have hN2 : numB (preM s) = false := by simpa using hN
     rw [hN2] at hnm
     rw [if_neg (show ¬ (letB (s.getD 0 0) || numB (preM s)) = true by rw [hN2, h0];simp)]
     (repeat' first|(refine Qe ?_;(first|refine QG rfl ?_|refine QJ rfl ?_|refine QM rfl ?_|(refine Qo ?_;(first|refine Q1 rfl rfl ?_|refine Z6 rfl rfl ?_))|(refine Qq ?_;(first|refine WM rfl ?_|refine QZ rfl rfl (hlet) ?_|refine QZ rfl rfl (hnm) ?_))|refine Wr rfl rfl ?_|refine Zh rfl rfl (by first|assumption|omega|(simp only [List.length_take, List.length_drop];omega)) ?_|refine s_sh rfl rfl ?_))|(refine Qk ?_;(first|refine Qi ?_|refine QN rfl ?_|refine WD rfl rfl rfl rfl ?_|refine W2 rfl rfl rfl rfl ?_|refine o_gu rfl rfl rfl rfl rfl ?_|refine Q6 rfl rfl (by omega) ?_))|(refine Qj ?_;(first|refine Qn ?_|refine Qc ?_|refine Qx ?_|refine Ql rfl ?_|refine Qp rfl (by omega) ?_|refine WI rfl ?_|refine Qs ?_)))
     refine e_1 Tryz.results103 (Qg rfl) (Qw ?_)
     all_goals rfl
  ·rw [if_neg hpos]
   have hz : (preM s).length = 0 := by omega
   rcases find_idx (s := s) with ⟨h1, h2⟩|⟨i, hi, h1, h2⟩
   ·rw [h1] at hix
    rw [h2]
    (repeat' first|(refine Qe ?_;(first|refine QG rfl ?_|refine QJ rfl ?_|refine QM rfl ?_|(refine Qo ?_;(first|refine Q1 rfl rfl ?_|refine Z6 rfl rfl ?_|refine W0 rfl rfl ?_))|(refine Qq ?_;(first|refine WM rfl ?_|refine QZ rfl rfl (hsg) ?_|refine QZ rfl rfl (hix) ?_))|refine Wr rfl rfl ?_|refine QV rfl rfl ?_))|(refine Qk ?_;(first|refine Qi ?_|refine QN rfl ?_|refine W2 rfl rfl rfl rfl ?_|refine o_gu rfl rfl rfl rfl rfl ?_|refine Q6 rfl rfl (by omega) ?_))|(refine Qj ?_;(first|refine Qn ?_|refine Qc ?_|refine Qx ?_|refine Ql rfl ?_|refine Qm rfl (by omega) ?_|refine WI rfl ?_|refine Qs ?_)))
    refine e_1 Tryz.results103 (Qg rfl) (Qw ?_)
    all_goals rfl
   ·rw [h1] at hix
    rw [<- h2]
    have hi2 : i < 24 := by simpa [signsT] using hi
    (repeat' first|(refine Qe ?_;(first|refine QG rfl ?_|refine QJ rfl ?_|refine QM rfl ?_|refine Qv rfl rfl (by first|assumption|omega|(simp;done)|(simp;omega)) ?_|(refine Qo ?_;(first|refine Q1 rfl rfl ?_|refine Z6 rfl rfl ?_|refine W0 rfl rfl ?_))|(refine Qq ?_;(first|refine WM rfl ?_|refine QZ rfl rfl (hsg) ?_|refine QZ rfl rfl (hix) ?_))|refine Wr rfl rfl ?_|refine QV rfl rfl ?_))|(refine Qk ?_;(first|refine Qi ?_|refine QN rfl ?_|refine W2 rfl rfl rfl rfl ?_|refine o_gu rfl rfl rfl rfl rfl ?_|refine Q6 rfl rfl (by omega) ?_))|(refine Qj ?_;(first|refine Qn ?_|refine Qc ?_|refine Qx ?_|refine Qh rfl ?_|refine Ql rfl ?_|refine Qm rfl (by omega) ?_|refine WI rfl ?_|refine Qs ?_)))
    refine e_1 Tryz.results103 (Qg rfl) (Qw ?_)
    all_goals rfl
structure Tk where
 t : List UInt8
 a : Nat
deriving DecidableEq
instance : Enc Tk where
 enc x := [WQ x.t, .i x.a]
 es := 2
 len _ := rfl
 one _ d hd := by
  simp only [List.mem_cons, List.not_mem_nil, or_false] at hd
  rcases hd with rfl|rfl <;> rfl
 clo r d hd := by
  simp only [List.mem_cons, List.not_mem_nil, or_false] at hd
  rcases hd with rfl|rfl <;> exact Wf
 pos := by decide
def tks (l : List (List UInt8 × Nat)) : List Tk := l.map fun x => ⟨x.1, x.2⟩
theorem dw_drop (p : UInt8 -> Bool) : ∀ l : List UInt8, l.dropWhile p = l.drop (l.length - (l.dropWhile p).length)
 | [] => rfl
 | b :: r => by
  by_cases hb : p b = true
  ·rw [List.dropWhile_cons, if_pos hb]
   have h := dw_drop p r
   have hl := (List.dropWhile_sublist (l := r) p).length_le
   rw [List.length_cons, show r.length + 1 - (r.dropWhile p).length = (r.length - (r.dropWhile p).length) + 1 by omega, List.drop_succ_cons]
   exact h
  ·rw [List.dropWhile_cons, if_neg hb];simp
def qr (s : List UInt8) (a : Nat) : Nat := a + ((s.drop a).length - ((s.drop a).dropWhile spB).length)
theorem skip_le (s : List UInt8) (a : Nat) (h : a <= s.length) : a <= qr s a /\ qr s a <= s.length := by
 have h1 := (List.dropWhile_sublist (l := s.drop a) spB).length_le
 unfold qr
 rw [List.length_drop] at *
 omega
theorem skip_drop (s : List UInt8) (a : Nat) : (s.drop a).dropWhile spB = s.drop (qr s a) := by
 rw [dw_drop, List.drop_drop];rfl
theorem scan_none {s : List UInt8} {a : Nat} (h : Z2 (s.drop (qr s a)) = []) : ZI (s.drop a) a = ([], qr s a) := by
 rw [ZI]
 simp only
 rw [dif_pos (by rw [skip_drop];exact h)];rfl
theorem scan_some {s : List UInt8} {a : Nat} (h : ¬ Z2 (s.drop (qr s a)) = []) : ZI (s.drop a) a = ((Z2 (s.drop (qr s a)), qr s a) :: (ZI (s.drop (qr s a + (Z2 (s.drop (qr s a))).length)) (qr s a + (Z2 (s.drop (qr s a))).length)).1, (ZI (s.drop (qr s a + (Z2 (s.drop (qr s a))).length)) (qr s a + (Z2 (s.drop (qr s a))).length)).2) := by
 rw [ZI]
 simp only
 rw [dif_neg (by rw [skip_drop];exact h)]
 have e : a + ((s.drop a).length - (s.drop (qr s a)).length) = qr s a := by rw [<- skip_drop];rfl
 rw [skip_drop, List.drop_drop, e]
theorem scan_c (hG1 : G 1 = spaceT) (s : List UInt8) (hs : s.length <= 1000000) : Go.Av.Pure Tryz.prog G 58 [WQ s] (.tup [QR (tks (ZI s 0).1), .i (ZI s 0).2]) := fun B => by
 refine Qa Tryz.func58 rfl Tryz.ntmps58 rfl (t := [(0, WQ s)]) rfl fun E hE => ?_
 (repeat' first|refine QJ rfl ?_|(refine Qk ?_;(first|refine Qi ?_|refine QN rfl ?_))|(refine Qj ?_;(first|refine Qn ?_|refine Qc ?_|refine Qf ?_)))
 refine r_own 4 2 rfl fun gO hgO => ?_
 refine r_loop3 (fun (o : List Tk) (a : Nat) (g : Nat) => ⟨[(0, WQ s), (4, .ref 0 g 0 o.length 2), (5, .i a)], [.row g (Ws o)]⟩) (fun o a g => a <= s.length /\ o.length <= a /\ E.N < g /\ tks (ZI s 0).1 = o ++ tks (ZI (s.drop a) a).1 /\ (ZI s 0).2 = (ZI (s.drop a) a).2) (fun o a g => s.length - a) [] 0 gO ?_ ⟨by omega, by simp, hgO, by simp, by simp⟩ ?_
 ·exact zal rfl
 intro o a g ⟨ha, hoa, hg, h1, h2⟩
 obtain ⟨k1, k2⟩ := skip_le s a ha
 have htl := trimLeft_c (G := G) (s.drop a) [32, 10] (by decide) (by decide)
 have hdl : (s.drop a).length = s.length - a := List.length_drop
 have hdl2 : (s.drop (qr s a)).length = s.length - qr s a := List.length_drop
 have htr : Lib.trimLeftS (s.drop a) [32, 10] = s.drop (qr s a) := skip_drop s a
 rw [htr] at htl
 have hat : (a : Int) + (((s.drop a).length : Int) - ((s.drop (qr s a)).length : Int)) = (qr s a : Nat) := by omega
 have hfc := first_c (G := G) hG1 (s.drop (qr s a)) (by omega)
 have hfl := firstM_le (s.drop (qr s a))
 by_cases ht : Z2 (s.drop (qr s a)) = []
 ·rw [scan_none ht] at h1 h2
  rw [ht] at hfc
  (repeat' first|(refine Qe ?_;(first|refine QG rfl ?_|refine QJ rfl ?_|refine WN rfl rfl ?_|refine QZ rfl rfl (hfc) ?_|refine s_sl rfl rfl ?_))|(refine Qk ?_;(first|refine Qi ?_|refine QN rfl ?_))|(refine Qj ?_;(first|refine Qn ?_|refine Qc ?_|refine Qf ?_|(refine Wg ?_;first|refine Q3 (by rfl) (by kernel_rfl) (by kernel_rfl) ?_|refine Q2 (by kernel_rfl) (by kernel_rfl) ?_)|refine Qh rfl ?_|refine Qs ?_))|(refine Zw ?_;(first|refine x_op rfl (by (repeat' first|(refine Qe ?_;(first|refine QG rfl ?_|refine QJ rfl ?_|(refine Qo ?_;(first|refine s_add_as rfl rfl hat ⟨by omega, by omega⟩ ?_|refine Zz rfl rfl (by omega) ?_))|(refine Qq ?_;(first|refine WM rfl ?_|refine QZ rfl rfl (htl) ?_))|refine s_sl rfl rfl ?_))|exact ⟨rfl, rfl⟩)) ?_|refine Zr ?_)))
  exact e_2 (Tryz.results58) (Qg rfl) (Qg rfl) (c_pub_fst rfl (by rw [QX];try rfl) (Qw (by rw [h1, h2];simp [tks];try rfl)))
 ·rw [scan_some ht] at h1 h2
  generalize htk : Z2 (s.drop (qr s a)) = t at *
  have htp : 0 < t.length := by cases t with|nil => exact absurd rfl ht|cons b r => simp
  have hat2 : (qr s a : Int) + (t.length : Int) = (qr s a + t.length : Nat) := by omega
  generalize qr s a = a2 at *
  have hne : decide (t = []) = false := decide_eq_false ht
  (repeat' first|(refine Qe ?_;(first|refine QG rfl ?_|refine QJ rfl ?_|(refine Qo ?_;(first|refine s_add_as rfl rfl hat2 ⟨by omega, by omega⟩ ?_|refine WN rfl rfl ?_))|(refine Qq ?_;(first|refine ZD (z := Tk.mk _ _) rfl rfl rfl rfl rfl rfl rfl (by first|omega|(simp;omega)) (by first|omega|(simp;omega)) (fun _ => rfl) (fun _ _ => ?_)|refine WM rfl ?_|refine QZ rfl rfl (hfc) ?_))|refine QQ rfl rfl ?_|refine W1 rfl rfl (by decide) rfl ?_|refine s_sl rfl rfl ?_))|(refine Qk ?_;(first|refine Qi ?_|refine QN rfl ?_))|(refine Qj ?_;(first|refine Qn ?_|refine Qc ?_|refine Qf ?_|(refine Wg ?_;first|refine Q3 (by rfl) (by kernel_rfl) (by kernel_rfl) ?_|refine Q2 (by kernel_rfl) (by kernel_rfl) ?_)|refine Qx ?_|refine Qm rfl (by omega) ?_))|(refine Zw ?_;(first|refine x_op rfl (by (repeat' first|(refine Qe ?_;(first|refine QG rfl ?_|refine QJ rfl ?_|(refine Qo ?_;(first|refine s_add_as rfl rfl hat ⟨by omega, by omega⟩ ?_|refine Zz rfl rfl (by omega) ?_))|(refine Qq ?_;(first|refine WM rfl ?_|refine QZ rfl rfl (htl) ?_))|refine s_sl rfl rfl ?_))|exact ⟨rfl, rfl⟩)) ?_|refine Zr ?_)))
  refine ⟨o ++ [Tk.mk t a2], a2 + t.length, _, ⟨by omega, by simp;omega, by assumption, by rw [h1];simp [tks], h2⟩, by omega, ?_⟩
  exact zal rfl
end Go.Proofs
end
section
namespace Go.Proofs
open Go.Av Go.Bl
structure RS where
 p : Nat
 bad : Bool
deriving DecidableEq
abbrev ZK := List (List UInt8 × Nat)
def Wb (L : ZK) (S : RS) : List UInt8 := if S.bad = true then [] else (L.getD S.p ([], 0)).1
def W7 (S : RS) : RS := ⟨S.p, true⟩
def Qy (S : RS) : RS := ⟨S.p + 1, S.bad⟩
def haveM (L : ZK) (s : List UInt8) (S : RS) : Bool × RS := if Wb L S = s then (true, Qy S) else (false, S)
def Wa (L : ZK) (s : List UInt8) (S : RS) : RS := if Wb L S = s then Qy S else W7 S
def valM (s : List UInt8) : Int := (Lib.atoi s).getD 0
def QK (L : ZK) (S : RS) : Int × RS := if numB (Wb L S) = true then (valM (Wb L S), Qy S) else (0, W7 S)
def isM (L : ZK) (c : UInt8) (S : RS) : Bool := Lib.hasPrefix (Wb L S) [c] && numB ((Wb L S).drop 1)
def Qr (L : ZK) (c : UInt8) (S : RS) : Int × RS := if isM L c S = true then (valM ((Wb L S).drop 1), Qy S) else (0, W7 S)
def badI (S : RS) : Int := if S.bad = true then S.p else -1
def OkL (L : ZK) : Prop := L.length <= 1000000 /\ ∀ x ∈ L, x.1 ≠ [] /\ x.1.length <= 1000000
theorem now_at {L : ZK} {S : RS} (h : Wb L S ≠ []) : S.bad = false /\ ∃ h : S.p < L.length, Wb L S = (L[S.p]).1 := by
 unfold Wb at h ⊢
 cases hb : S.bad with
 | true => rw [hb, if_pos rfl] at h;exact absurd rfl h
 | false =>
  rw [hb] at h
  simp only [Bool.false_eq_true, if_false] at h ⊢
  refine ⟨trivial, ?_⟩
  rcases Nat.lt_or_ge S.p L.length with h1|h1
  ·refine ⟨h1, ?_⟩
   rw [List.getD_eq_getElem?_getD, List.getElem?_eq_getElem h1];rfl
  ·rw [List.getD_eq_getElem?_getD, List.getElem?_eq_none h1] at h;exact absurd rfl h
theorem now_len {L : ZK} (hL : OkL L) (S : RS) : (Wb L S).length <= 1000000 := by
 by_cases h : Wb L S = []
 ·rw [h];simp
 ·obtain ⟨_, h1, h2⟩ := now_at h
  rw [h2];exact (hL.2 _ (List.getElem_mem h1)).2
theorem numB_ne {s : List UInt8} (h : numB s = true) : s ≠ [] := by
 rintro rfl;simp [numB] at h
theorem atoi_num {s : List UInt8} (h : numB s = true) : ∃ n : Nat, Lib.atoi s = some (n : Int) /\ n <= 999 := by
 unfold numB at h
 simp only [Bool.and_eq_true, decide_eq_true_eq] at h
 obtain ⟨⟨⟨h1, h2⟩, _⟩, h3⟩ := h
 have hd : ∀ b, digB b = true -> Lib.digitVal b = some (b.toNat - 48) /\ b.toNat <= 57 /\ 48 <= b.toNat := fun b hb => by
  unfold digB at hb
  simp only [Bool.and_eq_true, decide_eq_true_eq] at hb
  unfold Lib.digitVal
  rw [if_pos hb];exact ⟨rfl, hb.2, hb.1⟩
 have hsgn : ∀ (b : UInt8) (r : List UInt8), digB b = true -> b ≠ 43 /\ b ≠ 45 := fun b r hb => by
  unfold digB at hb
  simp only [Bool.and_eq_true, decide_eq_true_eq] at hb
  constructor <;> (rintro rfl;revert hb;decide)
 match s, h1, h2, h3 with
 | [a], _, _, h3 =>
  simp at h3
  obtain ⟨e1, e2, e3⟩ := hd a h3
  obtain ⟨n1, n2⟩ := hsgn a [] h3
  refine ⟨a.toNat - 48, ?_, by omega⟩
  simp [Lib.atoi, Lib.decNat, Lib.decFrom, e1, n1, n2]
 | [a, b], _, _, h3 =>
  simp at h3
  obtain ⟨e1, e2, e3⟩ := hd a h3.1
  obtain ⟨f1, f2, f3⟩ := hd b h3.2
  obtain ⟨n1, n2⟩ := hsgn a [] h3.1
  refine ⟨(a.toNat - 48) * 10 + (b.toNat - 48), ?_, by omega⟩
  simp [Lib.atoi, Lib.decNat, Lib.decFrom, e1, f1, n1, n2]
 | [a, b, c], _, _, h3 =>
  simp at h3
  obtain ⟨e1, e2, e3⟩ := hd a h3.1
  obtain ⟨f1, f2, f3⟩ := hd b h3.2.1
  obtain ⟨g1, g2, g3⟩ := hd c h3.2.2
  obtain ⟨n1, n2⟩ := hsgn a [] h3.1
  refine ⟨((a.toNat - 48) * 10 + (b.toNat - 48)) * 10 + (c.toNat - 48), ?_, by omega⟩
  simp [Lib.atoi, Lib.decNat, Lib.decFrom, e1, f1, g1, n1, n2]
theorem val_num {s : List UInt8} (h : numB s = true) : Lib.atoi s = some (valM s) /\ 0 <= valM s /\ valM s <= 999 := by
 obtain ⟨n, h1, h2⟩ := atoi_num h
 unfold valM
 rw [h1]
 exact ⟨rfl, Int.natCast_nonneg n, Int.ofNat_le.2 h2⟩
end Go.Proofs
end
section
namespace Go.Proofs
open Go.Av
variable {G : Nat -> DV}
attribute [local irreducible] OpSem Zd Zx ZL ACalls qt AClose RV
open Go.Bl
abbrev rdC (L : ZK) (S : RS) : List DV := [QR (tks L), .i S.p, .i (badI S)]
theorem tks_get {L : ZK} {i : Nat} (h : i < L.length) : (tks L)[i]'(by simpa [tks] using h) = ⟨L[i].1, L[i].2⟩ := by simp [tks]
theorem ql (L : ZK) (S : RS) (hL : OkL L) : CE Tryz.prog G 106 (fun p g => [.ptr p g 0]) (rdC L S) (WQ (Wb L S)) (rdC L S) := fun g B hg => by
 have htl : (tks L).length = L.length := by simp [tks]
 obtain ⟨p, bad⟩ := S
 unfold Wb rdC badI
 cases bad with
 | true =>
  simp only [if_true]
  refine Qa Tryz.func106 rfl Tryz.ntmps106 rfl (t := [(0, .ptr 0 g 0)]) rfl fun E hE => ?_
  (repeat' first|refine QJ rfl ?_|(refine Qk ?_;(first|refine Qi ?_|refine QN rfl ?_))|(refine Qj ?_;(first|refine Qn ?_|refine Qc ?_|(refine Wg ?_;first|refine Q3 (by rfl) (by kernel_rfl) (by kernel_rfl) ?_|refine Q2 (by kernel_rfl) (by kernel_rfl) ?_)|refine Qh rfl ?_|refine Qs ?_))|(refine Zw ?_;(first|refine x_gn rfl rfl rfl rfl ?_|refine x_op rfl (by (repeat' first|(refine Qe ?_;(first|refine QG rfl ?_|refine Qb rfl rfl rfl ?_|refine W0 rfl rfl ?_|refine WO rfl rfl ?_|refine Qd rfl rfl ?_|refine QA rfl rfl ?_))|exact ⟨rfl, rfl⟩)) ?_|refine Zr ?_)))
  exact e_1 (Tryz.results106) (Qg rfl) (c_ce rfl rfl)
 | false =>
  simp only [Bool.false_eq_true, if_false]
  by_cases hp : p < L.length
  ·have hp2 : p < (tks L).length := by omega
   have hgt : (L.getD p ([], 0)).1 = (tks L)[p].t := by rw [tks_get hp, List.getD_eq_getElem?_getD, List.getElem?_eq_getElem hp];rfl
   rw [hgt]
   refine Qa Tryz.func106 rfl Tryz.ntmps106 rfl (t := [(0, .ptr 0 g 0)]) rfl fun E hE => ?_
   (repeat' first|refine QJ rfl ?_|(refine Qk ?_;(first|refine Qi ?_|refine QN rfl ?_))|(refine Qj ?_;(first|refine Qn ?_|refine Qc ?_|(refine Wg ?_;first|refine Q3 (by rfl) (by kernel_rfl) (by kernel_rfl) ?_|refine Q2 (by kernel_rfl) (by kernel_rfl) ?_)|refine Qx ?_|refine Qm rfl (by omega) ?_|refine Qs ?_))|(refine Zw ?_;(first|refine x_op rfl (by (repeat' first|(refine Qe ?_;(first|refine QG rfl ?_|refine QJ rfl ?_|(refine Qz ?_;(first|refine QM rfl ?_|refine Qb rfl rfl rfl ?_))|refine Qv rfl rfl (by first|assumption|omega|(simp;done)|(simp;omega)) ?_|refine W0 rfl rfl ?_|refine Qt rfl ?_|refine Wr rfl rfl ?_|(refine g_fieldAddr ?_;(first|refine Qd rfl rfl ?_|refine s_fld_ep rfl rfl ?_))|refine QA rfl rfl ?_))|exact ⟨rfl, rfl⟩)) ?_|refine x_gy rfl rfl rfl rfl (by (repeat' first|(refine Qe ?_;(first|refine QG rfl ?_|refine QJ rfl ?_|(refine Qz ?_;(first|refine QM rfl ?_|refine Qb rfl rfl rfl ?_))|refine Qv rfl rfl (by first|assumption|omega|(simp;done)|(simp;omega)) ?_|refine W0 rfl rfl ?_|refine Qt rfl ?_|refine Wr rfl rfl ?_|(refine g_fieldAddr ?_;(first|refine Qd rfl rfl ?_|refine s_fld_ep rfl rfl ?_))|refine QA rfl rfl ?_))|exact ⟨rfl, rfl⟩)) ?_|refine Zr ?_)))
   exact e_1 (Tryz.results106) (Qg rfl) (c_ce rfl rfl)
  ·have hgt : (L.getD p ([], 0)).1 = [] := by rw [List.getD_eq_getElem?_getD, List.getElem?_eq_none (by omega)];rfl
   rw [hgt]
   refine Qa Tryz.func106 rfl Tryz.ntmps106 rfl (t := [(0, .ptr 0 g 0)]) rfl fun E hE => ?_
   (repeat' first|refine QJ rfl ?_|(refine Qk ?_;(first|refine Qi ?_|refine QN rfl ?_))|(refine Qj ?_;(first|refine Qn ?_|refine Qc ?_|(refine Wg ?_;first|refine Q3 (by rfl) (by kernel_rfl) (by kernel_rfl) ?_|refine Q2 (by kernel_rfl) (by kernel_rfl) ?_)|refine Qp rfl (by omega) ?_|refine Qs ?_))|(refine Zw ?_;(first|refine x_op rfl (by (repeat' first|(refine Qe ?_;(first|refine QG rfl ?_|refine Qb rfl rfl rfl ?_|refine W0 rfl rfl ?_|refine Qt rfl ?_|refine Wr rfl rfl ?_|refine Qd rfl rfl ?_|refine QA rfl rfl ?_))|exact ⟨rfl, rfl⟩)) ?_|refine x_gy rfl rfl rfl rfl (by (repeat' first|(refine Qe ?_;(first|refine QG rfl ?_|refine Qb rfl rfl rfl ?_|refine W0 rfl rfl ?_|refine Qt rfl ?_|refine Wr rfl rfl ?_|refine Qd rfl rfl ?_|refine QA rfl rfl ?_))|exact ⟨rfl, rfl⟩)) ?_|refine Zr ?_)))
   exact e_1 (Tryz.results106) (Qg rfl) (c_ce rfl rfl)
theorem fail_c (L : ZK) (S : RS) : CE Tryz.prog G 105 (fun p g => [.ptr p g 0]) (rdC L S) (.tup []) (rdC L (W7 S)) := fun g B hg => by
 obtain ⟨p, bad⟩ := S
 unfold W7 rdC badI
 cases bad with
 | true =>
  simp only [if_true]
  refine Qa Tryz.func105 rfl Tryz.ntmps105 rfl (t := [(0, .ptr 0 g 0)]) rfl fun E hE => ?_
  (repeat' first|(refine Qe ?_;(first|refine QG rfl ?_|refine Qb rfl rfl rfl ?_|refine Q1 rfl rfl ?_|refine Qd rfl rfl ?_|refine QA rfl rfl ?_))|(refine Qk ?_;(first|refine Qi ?_|refine QN rfl ?_))|(refine Qj ?_;(first|refine Qn ?_|refine Qc ?_|refine Qx ?_|refine Ql rfl ?_)))
  exact e_0 (Tryz.results105) (c_ce rfl rfl)
 | false =>
  simp only [Bool.false_eq_true, if_false, if_true]
  refine Qa Tryz.func105 rfl Tryz.ntmps105 rfl (t := [(0, .ptr 0 g 0)]) rfl fun E hE => ?_
  (repeat' first|(refine Qe ?_;(first|refine QG rfl ?_|refine Qb rfl rfl rfl ?_|refine Q1 rfl rfl ?_|refine Qd rfl rfl ?_|refine Q7 rfl rfl rfl rfl (by rfl) (by rfl) (by rfl) ?_|refine QA rfl rfl ?_))|(refine Qk ?_;(first|refine Qi ?_|refine QN rfl ?_|refine Q5 ?_))|(refine Qj ?_;(first|refine Qn ?_|refine Qc ?_|refine Qh rfl ?_)))
  exact e_0 (Tryz.results105) (c_ce rfl rfl)
theorem next_cells {L : ZK} {S : RS} (h : S.bad = false) : [QR (tks L), .i ((S.p : Int) + 1), .i (badI S)] = rdC L (Qy S) := by
 unfold rdC Qy badI;simp [h]
theorem have_c (L : ZK) (S : RS) (hL : OkL L) (s : List UInt8) (hs0 : s ≠ []) : CE Tryz.prog G 104 (fun p g => [.ptr p g 0, WQ s]) (rdC L S) (.b (haveM L s S).1) (rdC L (haveM L s S).2) := fun g B hg => by
 unfold haveM
 by_cases h : Wb L S = s
 ·obtain ⟨h1, h2, h3⟩ := now_at (L := L) (S := S) (by rw [h];exact hs0)
  have hd : decide (Wb L S = s) = true := decide_eq_true h
  have hb := hL.1
  rw [if_pos h, <- next_cells h1]
  refine Qa Tryz.func104 rfl Tryz.ntmps104 rfl (t := [(0, .ptr 0 g 0), (1, WQ s)]) rfl fun E hE => ?_
  (repeat' first|(refine Qe ?_;(first|refine QG rfl ?_|refine QJ rfl ?_|refine Qb rfl rfl rfl ?_|(refine Qo ?_;(first|refine WN rfl rfl ?_|refine W3 rfl rfl (by omega) ?_))|refine Wi 0 (ql L S hL) rfl rfl rfl rfl ?_|refine Qd rfl rfl ?_|refine Q7 rfl rfl rfl rfl (by rfl) (by rfl) (by rfl) ?_|refine QA rfl rfl ?_))|(refine Qk ?_;(first|refine Qi ?_|refine QN rfl ?_|refine Q5 ?_))|(refine Qj ?_;(first|refine Qn ?_|refine Qc ?_|refine Qp rfl (by omega) ?_|refine Qs ?_)))
  exact e_1 (Tryz.results104) (Qg rfl) (c_ce (by rw [hd]) rfl)
 ·have hd : decide (Wb L S = s) = false := decide_eq_false h
  rw [if_neg h]
  refine Qa Tryz.func104 rfl Tryz.ntmps104 rfl (t := [(0, .ptr 0 g 0), (1, WQ s)]) rfl fun E hE => ?_
  (repeat' first|(refine Qe ?_;(first|refine QG rfl ?_|refine QJ rfl ?_|refine WN rfl rfl ?_|refine Wi 0 (ql L S hL) rfl rfl rfl rfl ?_))|(refine Qk ?_;(first|refine Qi ?_|refine QN rfl ?_))|(refine Qj ?_;(first|refine Qn ?_|refine Qc ?_|refine Qx ?_|refine Qm rfl (by omega) ?_|refine Qs ?_)))
  exact e_1 (Tryz.results104) (Qg rfl) (c_ce (by rw [hd]) rfl)
theorem take_c (L : ZK) (S : RS) (hL : OkL L) (s : List UInt8) (hs0 : s ≠ []) : CE Tryz.prog G 59 (fun p g => [.ptr p g 0, WQ s]) (rdC L S) (.tup []) (rdC L (Wa L s S)) := fun g B hg => by
 have hv := have_c (G := G) L S hL s hs0
 unfold Wa
 unfold haveM at hv
 by_cases h : Wb L S = s
 ·rw [if_pos h] at hv ⊢
  refine Qa Tryz.func59 rfl Tryz.ntmps59 rfl (t := [(0, .ptr 0 g 0), (1, WQ s)]) rfl fun E hE => ?_
  (repeat' first|(refine Qe ?_;(first|refine QG rfl ?_|refine Wi 0 (hv) rfl rfl rfl rfl ?_|refine Wn rfl ?_))|(refine Qk ?_;(first|refine Qi ?_|refine QN rfl ?_))|(refine Qj ?_;(first|refine Qn ?_|refine Qc ?_|refine Qx ?_|refine Ql rfl ?_)))
  exact e_0 (Tryz.results59) (c_ce rfl rfl)
 ·rw [if_neg h] at hv ⊢
  refine Qa Tryz.func59 rfl Tryz.ntmps59 rfl (t := [(0, .ptr 0 g 0), (1, WQ s)]) rfl fun E hE => ?_
  (repeat' first|(refine Qe ?_;(first|refine QG rfl ?_|(refine Qq ?_;(first|refine Wi 0 (fail_c L S) rfl rfl rfl rfl ?_|refine Wi 0 (hv) rfl rfl rfl rfl ?_))|refine Wn rfl ?_))|(refine Qk ?_;(first|refine Qi ?_|refine QN rfl ?_))|(refine Qj ?_;(first|refine Qn ?_|refine Qc ?_|refine Qh rfl ?_)))
  exact e_0 (Tryz.results59) (c_ce rfl rfl)
theorem qK (L : ZK) (S : RS) (hL : OkL L) : CE Tryz.prog G 60 (fun p g => [.ptr p g 0]) (rdC L S) (.i (QK L S).1) (rdC L (QK L S).2) := fun g B hg => by
 have htn2 := tnum_c (G := G) (Wb L S) (now_len hL S)
 unfold QK
 by_cases h : numB (Wb L S) = true
 ·obtain ⟨h1, h2, h3⟩ := now_at (numB_ne h)
  obtain ⟨v1, v2, v3⟩ := val_num h
  have hlen : (Wb L S).length <= 18 := by unfold numB at h;simp only [Bool.and_eq_true, decide_eq_true_eq] at h;omega
  have hao := atoi_c (G := G) (Wb L S) (valM (Wb L S)) hlen v1
  have hb := hL.1
  rw [if_pos h, <- next_cells h1]
  rw [h] at htn2
  refine Qa Tryz.func60 rfl Tryz.ntmps60 rfl (t := [(0, .ptr 0 g 0)]) rfl fun E hE => ?_
  (repeat' first|(refine Qe ?_;(first|refine QG rfl ?_|refine QJ rfl ?_|refine Qb rfl rfl rfl ?_|refine W3 rfl rfl (by omega) ?_|(refine Qq ?_;(first|refine QZ rfl rfl (htn2) ?_|refine QZ rfl rfl (hao) ?_|refine Wi 0 (ql L S hL) rfl rfl rfl rfl ?_))|refine Wn rfl ?_|refine Qd rfl rfl ?_|refine QI rfl rfl rfl ?_|refine Q7 rfl rfl rfl rfl (by rfl) (by rfl) (by rfl) ?_|refine QA rfl rfl ?_))|(refine Qk ?_;(first|refine Qi ?_|refine QN rfl ?_|refine Q5 ?_))|(refine Qj ?_;(first|refine Qn ?_|refine Qc ?_|refine Qx ?_|refine Ql rfl ?_|refine Qs ?_)))
  exact e_1 (Tryz.results60) (Qg rfl) (c_ce rfl rfl)
 ·rw [if_neg h]
  rw [show numB (Wb L S) = false by simpa using h] at htn2
  refine Qa Tryz.func60 rfl Tryz.ntmps60 rfl (t := [(0, .ptr 0 g 0)]) rfl fun E hE => ?_
  (repeat' first|(refine Qe ?_;(first|refine QG rfl ?_|refine QJ rfl ?_|(refine Qq ?_;(first|refine QZ rfl rfl (htn2) ?_|refine Wi 0 (ql L S hL) rfl rfl rfl rfl ?_|refine Wi 0 (fail_c L S) rfl rfl rfl rfl ?_))|refine Wn rfl ?_))|(refine Qk ?_;(first|refine Qi ?_|refine QN rfl ?_))|(refine Qj ?_;(first|refine Qn ?_|refine Qc ?_|refine Qh rfl ?_|refine Qs ?_)))
  exact e_1 (Tryz.results60) (Qg rfl) (c_ce rfl rfl)
theorem is_c (L : ZK) (S : RS) (hL : OkL L) (c : UInt8) : CE Tryz.prog G 177 (fun p g => [.ptr p g 0, WQ [c]]) (rdC L S) (.b (isM L c S)) (rdC L S) := fun g B hg => by
 have hcut := cutPrefix_c (G := G) (Wb L S) [c]
 have hnl := now_len hL S
 unfold isM
 by_cases h : Lib.hasPrefix (Wb L S) [c] = true
 ·rw [show Lib.trimPrefix (Wb L S) [c] = (Wb L S).drop 1 by unfold Lib.trimPrefix;rw [if_pos h];rfl, h] at hcut
  have htn2 := tnum_c (G := G) ((Wb L S).drop 1) (by rw [List.length_drop];omega)
  refine Qa Tryz.func177 rfl Tryz.ntmps177 rfl (t := [(0, .ptr 0 g 0), (1, WQ [c])]) rfl fun E hE => ?_
  (repeat' first|(refine Qe ?_;(first|refine QG rfl ?_|refine QJ rfl ?_|(refine Qq ?_;(first|refine QZ rfl rfl (hcut) ?_|refine QZ rfl rfl (htn2) ?_|refine Wi 0 (ql L S hL) rfl rfl rfl rfl ?_))|refine WO rfl rfl ?_|refine QI rfl rfl rfl ?_))|(refine Qk ?_;(first|refine Qi ?_|refine QN rfl ?_|refine WD rfl rfl rfl rfl ?_))|(refine Qj ?_;(first|refine Qn ?_|refine Qc ?_|refine Qs ?_)))
  exact e_1 (Tryz.results177) (Qg rfl) (c_ce (by rw [h];simp) rfl)
 ·have h2 : Lib.hasPrefix (Wb L S) [c] = false := by simpa using h
  rw [h2] at hcut
  refine Qa Tryz.func177 rfl Tryz.ntmps177 rfl (t := [(0, .ptr 0 g 0), (1, WQ [c])]) rfl fun E hE => ?_
  (repeat' first|(refine Qe ?_;(first|refine QG rfl ?_|refine QJ rfl ?_|(refine Qq ?_;(first|refine QZ rfl rfl (hcut) ?_|refine Wi 0 (ql L S hL) rfl rfl rfl rfl ?_))|refine Wr rfl rfl ?_|refine QI rfl rfl rfl ?_))|(refine Qk ?_;(first|refine Qi ?_|refine QN rfl ?_|refine W2 rfl rfl rfl rfl ?_))|(refine Qj ?_;(first|refine Qn ?_|refine Qc ?_|refine Qs ?_)))
  exact e_1 (Tryz.results177) (Qg rfl) (c_ce (by rw [h2];simp) rfl)
theorem is_now {L : ZK} {S : RS} {c : UInt8} (h : isM L c S = true) : Wb L S ≠ [] /\ numB ((Wb L S).drop 1) = true /\ 1 <= (Wb L S).length := by
 unfold isM at h
 simp only [Bool.and_eq_true] at h
 have h1 : 1 <= (Wb L S).length := (List.isPrefixOf_iff_prefix.1 h.1).length_le
 exact ⟨fun e => by rw [e] at h1;simp at h1, h.2, h1⟩
theorem numbered_c (L : ZK) (S : RS) (hL : OkL L) (c : UInt8) : CE Tryz.prog G 179 (fun p g => [.ptr p g 0, WQ [c]]) (rdC L S) (.i (Qr L c S).1) (rdC L (Qr L c S).2) := fun g B hg => by
 have his := is_c (G := G) L S hL c
 unfold Qr
 by_cases h : isM L c S = true
 ·obtain ⟨e1, e2, e3⟩ := is_now h
  obtain ⟨h1, h2, h3⟩ := now_at e1
  obtain ⟨v1, v2, v3⟩ := val_num e2
  have hlen : ((Wb L S).drop 1).length <= 18 := by unfold numB at e2;simp only [Bool.and_eq_true, decide_eq_true_eq] at e2;omega
  have hao := atoi_c (G := G) ((Wb L S).drop 1) (valM ((Wb L S).drop 1)) hlen v1
  have hb := hL.1
  rw [if_pos h, <- next_cells h1]
  rw [h] at his
  refine Qa Tryz.func179 rfl Tryz.ntmps179 rfl (t := [(0, .ptr 0 g 0), (1, WQ [c])]) rfl fun E hE => ?_
  (repeat' first|(refine Qe ?_;(first|refine QG rfl ?_|refine QJ rfl ?_|refine Qb rfl rfl rfl ?_|refine W3 rfl rfl (by omega) ?_|(refine Qq ?_;(first|refine QZ rfl rfl (hao) ?_|refine Wi 0 (ql L S hL) rfl rfl rfl rfl ?_|refine Wi 0 (his) rfl rfl rfl rfl ?_))|refine Wn rfl ?_|refine Qd rfl rfl ?_|refine QI rfl rfl rfl ?_|refine Q7 rfl rfl rfl rfl (by rfl) (by rfl) (by rfl) ?_|refine s_sl rfl rfl ?_|refine QA rfl rfl ?_))|(refine Qk ?_;(first|refine Qi ?_|refine QN rfl ?_|refine Q5 ?_))|(refine Qj ?_;(first|refine Qn ?_|refine Qc ?_|refine Qx ?_|refine Ql rfl ?_|refine Qs ?_)))
  exact e_1 (Tryz.results179) (Qg rfl) (c_ce rfl rfl)
 ·rw [if_neg h]
  rw [show isM L c S = false by simpa using h] at his
  refine Qa Tryz.func179 rfl Tryz.ntmps179 rfl (t := [(0, .ptr 0 g 0), (1, WQ [c])]) rfl fun E hE => ?_
  (repeat' first|(refine Qe ?_;(first|refine QG rfl ?_|refine QJ rfl ?_|(refine Qq ?_;(first|refine Wi 0 (fail_c L S) rfl rfl rfl rfl ?_|refine Wi 0 (his) rfl rfl rfl rfl ?_))|refine Wn rfl ?_))|(refine Qk ?_;(first|refine Qi ?_|refine QN rfl ?_))|(refine Qj ?_;(first|refine Qn ?_|refine Qc ?_|refine Qh rfl ?_|refine Qs ?_)))
  exact e_1 (Tryz.results179) (Qg rfl) (c_ce rfl rfl)
end Go.Proofs
end
section
namespace Go.Proofs
open Go.Av Go.Bl
def zNd : Nd := .mk 0 0 0 []
abbrev Rd1 := RS -> Nd × RS
abbrev wInt : List UInt8 := [105, 110, 116]
abbrev wBool : List UInt8 := [98, 111, 111, 108]
abbrev wArr : List UInt8 := [97, 114, 114]
abbrev wRec : List UInt8 := [114, 101, 99]
abbrev wTrue : List UInt8 := [116, 114, 117, 101]
abbrev wFalse : List UInt8 := [102, 97, 108, 115, 101]
abbrev wRecv : List UInt8 := [114, 101, 99, 118]
abbrev wIf : List UInt8 := [105, 102]
abbrev wElse : List UInt8 := [101, 108, 115, 101]
abbrev wWhile : List UInt8 := [119, 104, 105, 108, 101]
abbrev wReturn : List UInt8 := [114, 101, 116, 117, 114, 110]
abbrev wThrow : List UInt8 := [116, 104, 114, 111, 119]
abbrev wOut : List UInt8 := [111, 117, 116]
abbrev wSkip : List UInt8 := [115, 107, 105, 112]
abbrev wTry : List UInt8 := [116, 114, 121]
abbrev q7 : List UInt8 := [99, 97, 116, 99, 104]
abbrev wSend : List UInt8 := [115, 101, 110, 100]
abbrev wSpawn : List UInt8 := [115, 112, 97, 119, 110]
abbrev wFun : List UInt8 := [102, 117, 110]
abbrev qn : List UInt8 := [112, 114, 111, 103, 114, 97, 109]
def Wq (L : ZK) (E : Rd1) : Nat -> List Nd -> RS -> List Nd × RS
 | 0, o, S => (o, S)
 | k + 1, o, S => if Wb L S = [44] then Wq L E k (o ++ [(E (Qy S)).1]) (E (Qy S)).2 else (o, S)
def Z0 (L : ZK) (E : Rd1) (k : Nat) (S : RS) : List Nd × RS :=
 ((Wq L E k [(E S).1] (E S).2).1, Wa L [41] (Wq L E k [(E S).1] (E S).2).2)
def WZ (L : ZK) (E : Rd1) (k : Nat) (S : RS) : List Nd × RS :=
 if Wb L (Wa L [40] S) = [41] then ([], Qy (Wa L [40] S)) else Z0 L E k (Wa L [40] S)
def varTail (L : ZK) (E : Rd1) (n : Int) (S : RS) : Nd × RS :=
 if Wb L S = [91] then (.mk 7 n 0 [(E (Qy S)).1], Wa L [93] (E (Qy S)).2)
 else if Wb L S = [46] then (.mk 8 n (QK L (Qy S)).1 [], (QK L (Qy S)).2) else (.mk 6 n 0 [], S)
def WH (L : ZK) (E : Rd1) (S : RS) : Nd × RS := varTail L E (Qr L 118 S).1 (Qr L 118 S).2
def qW (s : List UInt8) : Int := match opTexts.findIdx? (fun t => decide (t = s)) with|some i => i|none => -1
def qC (L : ZK) (E : Rd1) (S : RS) : Nd × RS :=
 if qW (Wb L (E S).2) < 0 then (zNd, W7 (E S).2)
 else (.mk 9 (qW (Wb L (E S).2)) 0 [(E S).1, (E (Qy (E S).2)).1], Wa L [41] (E (Qy (E S).2)).2)
def WP (L : ZK) (z : Nd) : Nat -> Rd1
 | 0, S => (zNd, W7 S)
 | n + 1, S =>
  if numB (Wb L S) = true then (.mk 4 (QK L S).1 0 [], (QK L S).2)
  else if isM L 118 S = true then WH L (WP L z n) S
  else if isM L 102 S = true then (.mk 11 (Qr L 102 S).1 0 (WZ L (WP L z n) n (Qr L 102 S).2).1, (WZ L (WP L z n) n (Qr L 102 S).2).2)
  else if Wb L S = [45] then (if Wb L (Qy S) = [48] then (z, W7 (Qy S)) else (.mk 4 (-(QK L (Qy S)).1) 0 [], (QK L (Qy S)).2))
  else if Wb L S = wTrue then (.mk 5 1 0 [], Qy S)
  else if Wb L S = wFalse then (.mk 5 0 0 [], Qy S)
  else if Wb L S = [40] then qC L (WP L z n) (Qy S)
  else if Wb L S = [33] then (.mk 10 0 0 [(WP L z n (Qy S)).1], (WP L z n (Qy S)).2)
  else if Wb L S = wRecv then (.mk 12 (Qr L 99 (Qy S)).1 0 [], (Qr L 99 (Qy S)).2)
  else (zNd, W7 S)
def WU (L : ZK) : Nat -> Rd1
 | 0, S => (zNd, W7 S)
 | n + 1, S =>
  if Wb L S = wInt then (.mk 0 0 0 [], Qy S)
  else if Wb L S = wBool then (.mk 1 0 0 [], Qy S)
  else if Wb L S = wArr then (.mk 2 (QK L (Qy S)).1 0 [], (QK L (Qy S)).2)
  else if Wb L S = wRec then (.mk 3 0 0 (Z0 L (WU L n) n (Wa L [40] (Qy S))).1, (Z0 L (WU L n) n (Wa L [40] (Qy S))).2)
  else (zNd, W7 S)
def WK (L : ZK) (T : Rd1) : Nat -> List Nd -> RS -> List Nd × RS
 | 0, o, S => (o, S)
 | k + 1, o, S => if S.bad = true then (o, S) else if Wb L S = [125] then (o, Qy S) else WK L T k (o ++ [(T S).1]) (T S).2
def Wt (L : ZK) (T : Rd1) (k : Nat) (S : RS) : Nd × RS := (.mk 13 0 0 (WK L T k [] (Wa L [123] S)).1, (WK L T k [] (Wa L [123] S)).2)
def setKind (k : Int) : Int := if k = 7 then 15 else if k = 8 then 16 else 14
def setM (v x : Nd) : Nd := match v with|.mk k n m ks => .mk (setKind k) n m (ks ++ [x])
def qZ (L : ZK) (E : Rd1) (S : RS) : Nd × RS :=
 (setM (WH L E S).1 (E (Wa L [61] (WH L E S).2)).1, (E (Wa L [61] (WH L E S).2)).2)
def oneM (E : Rd1) (k n : Int) (S : RS) : Nd × RS := (.mk k n 0 [(E S).1], (E S).2)
def ifM (L : ZK) (E Bl : Rd1) (S : RS) : Nd × RS :=
 let c := E S
 let a := Bl c.2
 let b := Bl (Wa L wElse a.2)
 (.mk 17 0 0 [c.1, a.1, b.1], b.2)
def whileM (E Bl : Rd1) (S : RS) : Nd × RS :=
 let c := E S
 let a := Bl c.2
 (.mk 18 0 0 [c.1, a.1], a.2)
def tryM (L : ZK) (Bl : Rd1) (S : RS) : Nd × RS :=
 let a := Bl S
 let v := Qr L 118 (Wa L q7 a.2)
 let b := Bl v.2
 (.mk 21 v.1 0 [a.1, b.1], b.2)
def WS (L : ZK) (E : Rd1) (q : Nat) : Nat -> Rd1
 | 0, S => (zNd, W7 S)
 | n + 1, S =>
  if Wb L S = [123] then Wt L (WS L E q n) n S
  else if isM L 118 S = true then qZ L E S
  else if Wb L S = wIf then ifM L E (Wt L (WS L E q n) n) (Qy S)
  else if Wb L S = wWhile then whileM E (Wt L (WS L E q n) n) (Qy S)
  else if Wb L S = wReturn then oneM E 19 0 (Qy S)
  else if Wb L S = wThrow then oneM E 20 0 (Qy S)
  else if Wb L S = wOut then oneM E 24 0 (Qy S)
  else if Wb L S = wSkip then (.mk 25 0 0 [], Qy S)
  else if Wb L S = wTry then tryM L (Wt L (WS L E q n) n) (Qy S)
  else if Wb L S = wSend then oneM E 22 (Qr L 99 (Qy S)).1 (Qr L 99 (Qy S)).2
  else if Wb L S = wSpawn then (.mk 23 (Qr L 102 (Qy S)).1 0 (WZ L E q (Qr L 102 (Qy S)).2).1, (WZ L E q (Qr L 102 (Qy S)).2).2)
  else (zNd, W7 S)
def funM (L : ZK) (T Bl : Rd1) (q : Nat) (S : RS) : Nd × RS :=
 let v := QK L (Wa L wFun S)
 let a := WZ L T q v.2
 let b := Bl a.2
 (.mk 26 v.1 0 (a.1 ++ [b.1]), b.2)
def W9 (L : ZK) (F : Rd1) : Nat -> List Nd -> RS -> List Nd × RS
 | 0, o, S => (o, S)
 | k + 1, o, S => if S.bad = false /\ S.p < L.length then W9 L F k (o ++ [(F S).1]) (F S).2 else (o, S)
def q9 (L : ZK) (z : Nd) (q : Nat) : Rd1 := funM L (WU L q) (Wt L (WS L (WP L z q) q q) q) q
def qV (L : ZK) (z : Nd) (q : Nat) : Nd × RS :=
 let v := QK L (Wa L qn ⟨0, false⟩)
 let o := W9 L (q9 L z q) q [] v.2
 (.mk 27 v.1 0 o.1, o.2)
end Go.Proofs
end
section
namespace Go.Proofs
open Go.Av
variable {G : Nat -> DV}
attribute [local irreducible] OpSem Zd Zx ZL ACalls qt AClose RV
open Go.Bl
section
variable {P : Program} {G : Nat -> DV} {B : Nat} {f : Operand -> DV} {σ : List ABlk} {K : DV -> List ABlk -> Prop} {dst : Option Tmp} {type : TypeId} {pos : String} {after : Array Edge} {gd : Option (Nat × Bool)}
theorem s_bslice_own1 {α : Type} [Enc α] {z : α} {t e : Nat} {g1 g2 : Bool} {z1 : Nat} {td : TypeDesc} {zs : List Value} {ps : List (Nat × Operand)} [ht : TyI P t (.slice e) g1 z1] [he : TyI P e td g2 (Enc.es α)] [hz : TyZ P e zs] (hzl : zs.length = Enc.es α) (hp : qS f ps = some [(0, .agg (Enc.enc z))]) (hn : Nat.ble (Enc.es α) 16777216 = true) (hl : Nat.blt 0 (Enc.es α) = true)
  (k : ∀ g, B < g -> K (.ref σ.length g 0 1 (Enc.es α)) (σ ++ [.row g (Ws [z])])) : OpSem P G B ⟨dst, .buildSlice t 1 ps.toArray, type, pos, after, gd⟩ f σ K := by
 have e1 : Ws [z] = Enc.enc z := by simp [Ws]
 refine qR (cs := Enc.enc z) hzl hp (by simpa using hn) (fill_one hzl (Enc.len z) (by simpa using hl)) (by rw [Enc.len];omega) fun g hg => ?_
 have := k g hg
 rwa [e1] at this
end
def rM (L : ZK) (S : RS) : Nat := if S.bad = true then 0 else L.length - S.p
theorem WW {L : ZK} {S : RS} {s : List UInt8} (h : Wb L S = s) (hs : s ≠ []) : rM L (Qy S) + 1 = rM L S /\ S.bad = false := by
 obtain ⟨h1, h2, h3⟩ := now_at (L := L) (S := S) (by rw [h];exact hs)
 unfold rM Qy
 simp only [h1]
 constructor
 ·simp;omega
 ·trivial
theorem qz {L : ZK} {S : RS} : rM L (W7 S) = 0 := by unfold rM W7;simp
theorem rM_take {L : ZK} {S : RS} (s : List UInt8) (hs : s ≠ []) : rM L (Wa L s S) <= rM L S := by
 unfold Wa
 split
 ·have := (WW (by assumption) hs).1;omega
 ·rw [qz];omega
def ElC (G : Nat -> DV) (F : FuncId) (L : ZK) (E : Rd1) (r0 : Nat) : Prop := ∀ S, rM L S <= r0 -> CE Tryz.prog G F (fun p g => [.ptr p g 0]) (rdC L S) (.agg (Enc.enc (E S).1)) (rdC L (E S).2) /\ rM L (E S).2 <= rM L S
theorem list_rc (F : FuncId) [FnOk Tryz.prog F] (L : ZK) (E : Rd1) (r0 k : Nat) (hL : OkL L) (hE : ElC G F L E r0) (S : RS) (hr : rM L S <= r0) (hk : rM L S + 1 <= k) :
  CO Tryz.prog G 151 (fun p g => [.ptr p g 0, .fn (.func F) [.ptr p g 0] []]) (rdC L S) (fun d => d) (Z0 L E k S).1.length 4 (Ws (Z0 L E k S).1) (rdC L (Z0 L E k S).2) := fun g B hg => by
 obtain ⟨hE0, hrE⟩ := hE S hr
 unfold Z0
 generalize hx0 : (E S).1 = hd1 at *
 generalize hS1 : (E S).2 = S1 at *
 refine Qa Tryz.func151 rfl Tryz.ntmps151 rfl (t := [(0, .ptr 0 g 0), (1, .fn (.func F) [.ptr 0 g 0] [])]) rfl fun E0 hE1 => ?_
 (repeat' first|(refine Qe ?_;(first|refine QG rfl ?_|refine QJ rfl ?_|refine s_callv_ce (k := 0) (hE0) rfl rfl rfl rfl (by repeat' first|exact WL|refine Q8 ?_ ?_|exact Wf|exact Wu _|exact WB (QO _)) (by repeat' first|exact WL|refine Q8 ?_ ?_|exact Wf|exact Wu _|exact WB (QO _)) (by repeat' first|exact .nil|refine .cons ?_ ?_|exact .s (.mp rfl)|exact .s (.ptr rfl)|exact .s (.ref rfl)|exact .fn (by repeat' first|exact .nil|refine .cons ?_ ?_|exact .ptr rfl|exact .mp rfl|exact .clo Wf) (by repeat' first|exact .nil|refine .cons ?_ ?_|exact .ptr rfl|exact .mp rfl|exact .clo Wf)|exact .s (.clo (by (repeat' first|exact Enc.clo _|exact Wf|exact Wu _|exact WB (QO _)|exact QO _|refine ZG ?_ ?_|refine Zq ?_|refine Wv ?_|refine Wp ?_|exact WL|refine Q8 ?_ ?_|refine WB ?_);done))) (by (repeat' first|exact Enc.clo _|exact Wf|exact Wu _|exact WB (QO _)|exact QO _|refine ZG ?_ ?_|refine Zq ?_|refine Wv ?_|refine Wp ?_|exact WL|refine Q8 ?_ ?_|refine WB ?_);done) (by rfl) ?_|refine s_bslice_own1 (z := hd1) rfl rfl rfl rfl (fun _ _ => ?_)))|(refine Qk ?_;(first|refine Qi ?_|refine QN rfl ?_))|(refine Qj ?_;(first|refine Qn ?_|refine Qc ?_|refine Qf ?_)))
 rename_i g1 hg1
 have hr1000 : rM L S <= 1000000 := by unfold rM;split <;> have := hL.1 <;> omega
 refine r_loop3 (fun (o : List Nd) (Q : RS) (gg : Nat) => ⟨[(0, .ptr 0 g 0), (1, .fn (.func F) [.ptr 0 g 0] []), (5, .ref 1 gg 0 o.length 4)], [.row g (rdC L Q), .row gg (Ws o)]⟩) (fun o Q gg => E0.N < gg /\ rM L Q <= rM L S /\ o.length + rM L Q <= rM L S + 1 /\ ∃ k', Wq L E k [hd1] S1 = Wq L E k' o Q /\ rM L Q + 1 <= k') (fun o Q gg => rM L Q) [hd1] S1 g1 ?_ ⟨hg1, hrE, by simp;omega, k, rfl, by omega⟩ ?_
 ·exact zal rfl
 intro o Q gg ⟨hgg, hq1, hq2, k', hk1, hk2⟩
 rw [hk1]
 have hhv := have_c (G := G) L Q hL [44] (by decide)
 unfold haveM at hhv
 by_cases hc : Wb L Q = [44]
 ·rw [if_pos hc] at hhv
  obtain ⟨hn1, hn2⟩ := WW hc (by decide)
  obtain ⟨hE2, hrE2⟩ := hE (Qy Q) (by omega)
  match k', hk1, hk2 with
  | k2 + 1, hk1, hk2 =>
  have hrec : Wq L E (k2 + 1) o Q = Wq L E k2 (o ++ [(E (Qy Q)).1]) (E (Qy Q)).2 := by rw [Wq, if_pos hc]
  generalize hx2 : (E (Qy Q)).1 = x2 at *
  generalize hS2 : (E (Qy Q)).2 = S2 at *
  (repeat' first|(refine Qe ?_;(first|refine QG rfl ?_|refine QJ rfl ?_|(refine Qq ?_;(first|refine ZD (z := x2) rfl rfl rfl rfl rfl rfl rfl (by first|omega|(simp;omega)) (by first|omega|(simp;omega)) (fun _ => rfl) (fun _ _ => ?_)|refine s_callv_ce (k := 0) (hE2) rfl rfl rfl rfl (by repeat' first|exact WL|refine Q8 ?_ ?_|exact Wf|exact Wu _|exact WB (QO _)) (by repeat' first|exact WL|refine Q8 ?_ ?_|exact Wf|exact Wu _|exact WB (QO _)) (by repeat' first|exact .nil|refine .cons ?_ ?_|exact .s (.mp rfl)|exact .s (.ptr rfl)|exact .s (.ref rfl)|exact .fn (by repeat' first|exact .nil|refine .cons ?_ ?_|exact .ptr rfl|exact .mp rfl|exact .clo Wf) (by repeat' first|exact .nil|refine .cons ?_ ?_|exact .ptr rfl|exact .mp rfl|exact .clo Wf)|exact .s (.clo (by (repeat' first|exact Enc.clo _|exact Wf|exact Wu _|exact WB (QO _)|exact QO _|refine ZG ?_ ?_|refine Zq ?_|refine Wv ?_|refine Wp ?_|exact WL|refine Q8 ?_ ?_|refine WB ?_);done))) (by (repeat' first|exact Enc.clo _|exact Wf|exact Wu _|exact WB (QO _)|exact QO _|refine ZG ?_ ?_|refine Zq ?_|refine Wv ?_|refine Wp ?_|exact WL|refine Q8 ?_ ?_|refine WB ?_);done) (by rfl) ?_|refine Wi 0 (hhv) rfl rfl rfl rfl ?_))|refine Wc (z := x2) rfl rfl (by decide) ?_))|(refine Qk ?_;(first|refine Qi ?_|refine QN rfl ?_))|(refine Qj ?_;(first|refine Qn ?_|refine Qc ?_|refine Qf ?_|refine Qx ?_|refine Qh rfl ?_)))
  refine ⟨o ++ [x2], S2, _, ⟨by assumption, by omega, by simp;omega, k2, hrec, by omega⟩, by omega, ?_⟩
  exact zal rfl
 ·rw [if_neg hc] at hhv
  have htk := take_c (G := G) L Q hL [41] (by decide)
  have hend : Wq L E k' o Q = (o, Q) := by
   cases k' with
   | zero => rfl
   | succ k2 => rw [Wq, if_neg hc]
  rw [hend]
  (repeat' first|(refine Qe ?_;(first|refine QG rfl ?_|refine QJ rfl ?_|(refine Qq ?_;(first|refine Wi 0 (hhv) rfl rfl rfl rfl ?_|refine Wi 0 (htk) rfl rfl rfl rfl ?_))))|(refine Qk ?_;(first|refine Qi ?_|refine QN rfl ?_))|(refine Qj ?_;(first|refine Qn ?_|refine Qc ?_|refine Ql rfl ?_|refine WI rfl ?_|refine Qs ?_)))
  exact e_1 (Tryz.results151) (Qg rfl) (c_co (k := 1) .id hE1 (by omega) rfl rfl rfl rfl rfl rfl)
theorem Z8 (L : ZK) (S : RS) (hL : OkL L) (s : List UInt8) (hs0 : s ≠ []) (h : Wb L S = s) : CE Tryz.prog G 104 (fun p g => [.ptr p g 0, WQ s]) (rdC L S) (.b true) (rdC L (Qy S)) := (have_c L S hL s hs0).conv (by unfold haveM;rw [if_pos h]) (by unfold haveM;rw [if_pos h])
theorem qc (L : ZK) (S : RS) (hL : OkL L) (s : List UInt8) (hs0 : s ≠ []) (h : ¬ Wb L S = s) : CE Tryz.prog G 104 (fun p g => [.ptr p g 0, WQ s]) (rdC L S) (.b false) (rdC L S) := (have_c L S hL s hs0).conv (by unfold haveM;rw [if_neg h]) (by unfold haveM;rw [if_neg h])
theorem Zy {E : AX} {D : DV -> DV} {k g gk len es : Nat} {res : DV} {cs' c2 ks : List DV} {r : List ABlk} (hD : FrmD D) (hk : r[k]? = some (.row gk ks)) (hl : len * es = ks.length) (hd : D (.sl es ks) = res) (hc : c2 = cs') :
  AClose E (fun d' τ' => d' = res /\ τ' = [.row g cs']) (D (.ref (k + 1) gk 0 len es)) (.row g c2 :: r) := by
 subst hd hc
 refine (hD.close (c_pub (R := fun d' τ' => d' = .sl es ks /\ τ' = [.row g c2]) (by rw [List.getElem?_cons_succ];exact hk) hl ?_) ?_).mono ?_
 ·rw [List.set_cons_succ]
  exact Zc (σ := [_]) ⟨rfl, rfl⟩
 ·rintro d0 σ' ⟨rfl, _⟩;rfl
 ·rintro d' σ' ⟨d0, ⟨rfl, h3⟩, rfl⟩
  exact ⟨rfl, h3⟩
theorem W5 {E : AX} {D : DV -> DV} {g es : Nat} {res : DV} {cs' c2 : List DV} {r : List ABlk} (hD : FrmD D) (hd : D (.sl es []) = res) (hc : c2 = cs') :
  AClose E (fun d' τ' => d' = res /\ τ' = [.row g cs']) (D (.sc (.slice none 0 0))) (.row g c2 :: r) := by
 subst hd hc
 refine (hD.close (ZB (d2 := .sl es []) (R := fun d' τ' => d' = .sl es [] /\ τ' = [.row g c2]) (fun L v h => Zm h) (Zc (σ := [_]) ⟨rfl, rfl⟩)) ?_).mono ?_
 ·rintro d0 σ' ⟨rfl, _⟩;rfl
 ·rintro d' σ' ⟨d0, ⟨rfl, h3⟩, rfl⟩
  exact ⟨rfl, h3⟩
theorem rM_numeral (L : ZK) (S : RS) : rM L (QK L S).2 <= rM L S := by
 unfold QK
 split
 ·rename_i h
  have := (WW (L := L) (S := S) rfl (numB_ne h)).1
  simp only;omega
 ·simp only;rw [qz];omega
theorem rM_numbered (L : ZK) (c : UInt8) (S : RS) : rM L (Qr L c S).2 <= rM L S := by
 unfold Qr
 split
 ·rename_i h
  have := (WW (L := L) (S := S) rfl (is_now h).1).1
  simp only;omega
 ·simp only;rw [qz];omega
theorem listLoop_le {F : FuncId} {L : ZK} {E : Rd1} {r0 : Nat} (hE : ElC G F L E r0) : ∀ (k : Nat) (o : List Nd) (S : RS), rM L S <= r0 -> rM L (Wq L E k o S).2 <= rM L S
 | 0, o, S, _ => Nat.le_refl _
 | k + 1, o, S, h => by
  rw [Wq]
  split
  ·rename_i hc
   have h1 := (WW hc (by decide)).1
   have h2 := (hE (Qy S) (by omega)).2
   have h3 := listLoop_le hE k (o ++ [(E (Qy S)).1]) (E (Qy S)).2 (by omega)
   omega
  ·exact Nat.le_refl _
theorem list_le {F : FuncId} {L : ZK} {E : Rd1} {r0 : Nat} (hE : ElC G F L E r0) (k : Nat) (S : RS) (h : rM L S <= r0) : rM L (Z0 L E k S).2 <= rM L S := by
 unfold Z0
 have h1 := (hE S h).2
 have h2 := listLoop_le hE k [(E S).1] (E S).2 (by omega)
 have h3 := rM_take (L := L) (S := (Wq L E k [(E S).1] (E S).2).2) [41] (by decide)
 show rM L (Wa L [41] (Wq L E k [(E S).1] (E S).2).2) <= _
 omega
theorem args_rc (F : FuncId) [FnOk Tryz.prog F] (L : ZK) (E : Rd1) (r0 k : Nat) (hL : OkL L) (hE : ElC G F L E r0) (S : RS) (hr : rM L S <= r0) (hk : rM L S + 1 <= k) :
  CO Tryz.prog G 109 (fun p g => [.ptr p g 0, .fn (.func F) [.ptr p g 0] []]) (rdC L S) (fun d => d) (WZ L E k S).1.length 4 (Ws (WZ L E k S).1) (rdC L (WZ L E k S).2) := fun g B hg => by
 have htk := take_c (G := G) L S hL [40] (by decide)
 have hle := rM_take (L := L) (S := S) [40] (by decide)
 unfold WZ
 generalize Wa L [40] S = S1 at *
 by_cases hc : Wb L S1 = [41]
 ·rw [if_pos hc]
  have hv1 := Z8 (G := G) L S1 hL [41] (by decide) hc
  refine Qa Tryz.func109 rfl Tryz.ntmps109 rfl (t := [(0, .ptr 0 g 0), (1, .fn (.func F) [.ptr 0 g 0] [])]) rfl fun E0 hE1 => ?_
  (repeat' first|(refine Qe ?_;(first|refine QG rfl ?_|refine QJ rfl ?_|(refine Qq ?_;(first|refine Wi 0 (htk) rfl rfl rfl rfl ?_|refine Wi 0 (hv1) rfl rfl rfl rfl ?_))))|(refine Qk ?_;(first|refine Qi ?_|refine QN rfl ?_))|(refine Qj ?_;(first|refine Qn ?_|refine Qc ?_|refine Qh rfl ?_|refine Qs ?_)))
  exact e_1 (Tryz.results109) (Qg rfl) (c_co_nil .id hE1 rfl rfl rfl rfl)
 ·rw [if_neg hc]
  have hv1 := qc (G := G) L S1 hL [41] (by decide) hc
  have hlist := list_rc (G := G) F L E r0 k hL hE S1 (by omega) (by omega)
  refine Qa Tryz.func109 rfl Tryz.ntmps109 rfl (t := [(0, .ptr 0 g 0), (1, .fn (.func F) [.ptr 0 g 0] [])]) rfl fun E0 hE1 => ?_
  (repeat' first|(refine Qe ?_;(first|refine QG rfl ?_|refine QJ rfl ?_|(refine Qq ?_;(first|refine Wi 0 (htk) rfl rfl rfl rfl ?_|refine Wi 0 (hv1) rfl rfl rfl rfl ?_|refine s_co 0 (hlist) (by first|exact .id|exact .node rfl rfl rfl) rfl rfl rfl rfl (QO _) (fun _ _ => ?_)))))|(refine Qk ?_;(first|refine Qi ?_|refine QN rfl ?_))|(refine Qj ?_;(first|refine Qn ?_|refine Qc ?_|refine Qx ?_|refine Ql rfl ?_|refine Qs ?_)))
  exact e_1 (Tryz.results109) (Qg rfl) (c_co (k := 1) .id hE1 (by omega) rfl rfl rfl rfl rfl rfl)
theorem typed_rc (L : ZK) (hL : OkL L) : ∀ (n : Nat) (S : RS), rM L S + 2 <= n -> CE Tryz.prog G 110 (fun p g => [.ptr p g 0]) (rdC L S) (.agg (Enc.enc (WU L n S).1)) (rdC L (WU L n S).2) /\ rM L (WU L n S).2 <= rM L S := by
 intro n
 induction n with
 | zero => intro S h;omega
 | succ n ih =>
 intro S hn
 rw [WU]
 by_cases h1 : Wb L S = wInt
 ·have := (WW h1 (by decide)).1
  rw [if_pos h1]
  refine ⟨fun g B hg => ?_, by simp only;omega⟩
  refine Qa Tryz.func110 rfl Tryz.ntmps110 rfl (t := [(0, .ptr 0 g 0)]) rfl fun E0 hE1 => ?_
  (repeat' first|(refine Qe ?_;(first|refine QG rfl ?_|refine QJ rfl ?_|refine Wi 0 (Z8 L S hL _ (by decide) (by assumption)) rfl rfl rfl rfl ?_|refine WR rfl rfl rfl rfl ?_|refine QQ rfl rfl ?_|refine QC (fun _ _ => ?_)))|(refine Qk ?_;(first|refine Qi ?_|refine QN rfl ?_|refine Q5 ?_))|(refine Qj ?_;(first|refine Qn ?_|refine Qc ?_|refine Qf ?_|refine Qh rfl ?_|refine Qs ?_)))
  exact e_1 (Tryz.results110) (QH (size := 4) rfl rfl rfl rfl) (W5 (es := 4) (.node rfl rfl rfl) (by rw [QW];rfl) rfl)
 rw [if_neg h1]
 by_cases h2 : Wb L S = wBool
 ·have := (WW h2 (by decide)).1
  rw [if_pos h2]
  refine ⟨fun g B hg => ?_, by simp only;omega⟩
  refine Qa Tryz.func110 rfl Tryz.ntmps110 rfl (t := [(0, .ptr 0 g 0)]) rfl fun E0 hE1 => ?_
  (repeat' first|(refine Qe ?_;(first|refine QG rfl ?_|refine QJ rfl ?_|(refine Qq ?_;(first|refine Wi 0 (qc L S hL _ (by decide) (by assumption)) rfl rfl rfl rfl ?_|refine Wi 0 (Z8 L S hL _ (by decide) (by assumption)) rfl rfl rfl rfl ?_))|refine WR rfl rfl rfl rfl ?_|refine QQ rfl rfl ?_|refine QC (fun _ _ => ?_)))|(refine Qk ?_;(first|refine Qi ?_|refine QN rfl ?_|refine Q5 ?_))|(refine Qj ?_;(first|refine Qn ?_|refine Qc ?_|refine Qf ?_|refine Qh rfl ?_|refine Ql rfl ?_|refine Qs ?_)))
  exact e_1 (Tryz.results110) (QH (size := 4) rfl rfl rfl rfl) (W5 (es := 4) (.node rfl rfl rfl) (by rw [QW];rfl) rfl)
 rw [if_neg h2]
 by_cases h3 : Wb L S = wArr
 ·have := (WW h3 (by decide)).1
  rw [if_pos h3]
  have hnm := qK (G := G) L (Qy S) hL
  have hnl := rM_numeral L (Qy S)
  refine ⟨fun g B hg => ?_, by simp only;omega⟩
  refine Qa Tryz.func110 rfl Tryz.ntmps110 rfl (t := [(0, .ptr 0 g 0)]) rfl fun E0 hE1 => ?_
  (repeat' first|(refine Qe ?_;(first|refine QG rfl ?_|refine QJ rfl ?_|(refine Qq ?_;(first|refine Wi 0 (qc L S hL _ (by decide) (by assumption)) rfl rfl rfl rfl ?_|refine Wi 0 (Z8 L S hL _ (by decide) (by assumption)) rfl rfl rfl rfl ?_|refine Wi 0 (hnm) rfl rfl rfl rfl ?_))|refine WR rfl rfl rfl rfl ?_|refine QQ rfl rfl ?_|refine QC (fun _ _ => ?_)))|(refine Qk ?_;(first|refine Qi ?_|refine QN rfl ?_|refine Q5 ?_))|(refine Qj ?_;(first|refine Qn ?_|refine Qc ?_|refine Qf ?_|refine Qh rfl ?_|refine Ql rfl ?_|refine Qs ?_)))
  exact e_1 (Tryz.results110) (QH (size := 4) rfl rfl rfl rfl) (W5 (es := 4) (.node rfl rfl rfl) (by rw [QW];rfl) rfl)
 rw [if_neg h3]
 by_cases h4 : Wb L S = wRec
 ·have hrn := (WW h4 (by decide)).1
  rw [if_pos h4]
  have htk := take_c (G := G) L (Qy S) hL [40] (by decide)
  have hle := rM_take (L := L) (S := Qy S) [40] (by decide)
  have hel : ElC G 110 L (WU L n) (rM L (Qy S)) := fun Q hQ => ih Q (by omega)
  have hlist := list_rc (G := G) 110 L (WU L n) _ n hL hel (Wa L [40] (Qy S)) hle (by omega)
  have hll := list_le hel n (Wa L [40] (Qy S)) hle
  refine ⟨fun g B hg => ?_, by simp only;omega⟩
  refine Qa Tryz.func110 rfl Tryz.ntmps110 rfl (t := [(0, .ptr 0 g 0)]) rfl fun E0 hE1 => ?_
  (repeat' first|(refine Qe ?_;(first|refine QG rfl ?_|refine QJ rfl ?_|(refine Qq ?_;(first|refine Wi 0 (qc L S hL _ (by decide) (by assumption)) rfl rfl rfl rfl ?_|refine Wi 0 (Z8 L S hL _ (by decide) (by assumption)) rfl rfl rfl rfl ?_|refine Wi 0 (htk) rfl rfl rfl rfl ?_|refine s_co 0 (hlist) (by first|exact .id|exact .node rfl rfl rfl) rfl rfl rfl rfl (QO _) (fun _ _ => ?_)))|refine WR rfl rfl rfl rfl ?_|refine QQ rfl rfl ?_|refine QV rfl rfl ?_|refine QC (fun _ _ => ?_)))|(refine Qk ?_;(first|refine Qi ?_|refine QN rfl ?_|refine Q5 ?_))|(refine Qj ?_;(first|refine Qn ?_|refine Qc ?_|refine Qf ?_|refine Qh rfl ?_|refine Ql rfl ?_|refine Qs ?_)))
  exact e_1 (Tryz.results110) (QH (size := 4) rfl rfl rfl rfl) (Zy (D := fun d => .agg [.i 3, .i 0, .i 0, d]) (k := 1) (.node rfl rfl rfl) rfl (by rw [QX];rfl) (by rw [QW];rfl) rfl)
 ·rw [if_neg h4]
  refine ⟨fun g B hg => ?_, by simp only;rw [qz];omega⟩
  refine Qa Tryz.func110 rfl Tryz.ntmps110 rfl (t := [(0, .ptr 0 g 0)]) rfl fun E0 hE1 => ?_
  (repeat' first|(refine Qe ?_;(first|refine QG rfl ?_|refine QJ rfl ?_|(refine Qq ?_;(first|refine Wi 0 (qc L S hL _ (by decide) (by assumption)) rfl rfl rfl rfl ?_|refine Wi 0 (fail_c L S) rfl rfl rfl rfl ?_))|refine WR rfl rfl rfl rfl ?_|refine QQ rfl rfl ?_|refine QC (fun _ _ => ?_)))|(refine Qk ?_;(first|refine Qi ?_|refine QN rfl ?_|refine Q5 ?_))|(refine Qj ?_;(first|refine Qn ?_|refine Qc ?_|refine Qf ?_|refine Qx ?_|refine Ql rfl ?_|refine Qs ?_)))
  exact e_1 (Tryz.results110) (QH (size := 4) rfl rfl rfl rfl) (W5 (es := 4) (.node rfl rfl rfl) (by show _ = DV.agg (Enc.enc (Nd.mk 0 0 0 []));rw [QW];rfl) rfl)
end Go.Proofs
end
section
namespace Go.Av
theorem r_loop5 {P : Program} {G : Nat -> DV} {E : AX} {n : Nat} {N : ASt -> Prop} {xs : List (Nat × (ASt -> Prop))} {R : ASt -> Prop} {st : ASt} {c : Code} {α β γ δ ε : Type} (I : α -> β -> γ -> δ -> ε -> ASt) (pre : α -> β -> γ -> δ -> ε -> Prop) (μ : α -> β -> γ -> δ -> ε -> Nat) (x0 : α) (y0 : β) (z0 : γ) (u0 : δ) (v0 : ε) (h0 : ALe st (I x0 y0 z0 u0 v0)) (hp0 : pre x0 y0 z0 u0 v0)
  (round : ∀ x y z u v, pre x y z u v -> Zd P G E n c (fun st' => ∃ x' y' z' u' v', pre x' y' z' u' v' /\ μ x' y' z' u' v' < μ x y z u v /\ ALe st' (I x' y' z' u' v')) xs R (I x y z u v)) : Zd P G E n (.loop c) N xs R st :=
 qb (fun s : α × β × γ × δ × ε => I s.1 s.2.1 s.2.2.1 s.2.2.2.1 s.2.2.2.2) (fun s => pre s.1 s.2.1 s.2.2.1 s.2.2.2.1 s.2.2.2.2) (fun s => μ s.1 s.2.1 s.2.2.1 s.2.2.2.1 s.2.2.2.2) (x0, y0, z0, u0, v0) h0 hp0 fun s hs a w hr => wp_mono (round s.1 s.2.1 s.2.2.1 s.2.2.2.1 s.2.2.2.2 hs a w hr) fun e a' w' ⟨st', hr', hq⟩ => ⟨st', hr', by
  cases e with
  | normal => obtain ⟨x', y', z', u', v', h1, h2, h3⟩ := hq;exact ⟨(x', y', z', u', v'), h1, h2, h3⟩
  | exit id => exact hq
  | ret => exact hq
  | goto l => exact hq
  | _ => exact hq⟩
end Go.Av
end
section
namespace Go.Proofs
open Go.Av
variable {G : Nat -> DV}
attribute [local irreducible] OpSem Zd Zx ZL ACalls qt AClose RV
open Go.Bl
def preE (a L : Int) : Prop := 0 <= a /\ a + 4 * L <= 1000000000 /\ -100 <= L /\ L <= 500
structure QE (w : Int) (dep : Nat) (c1 c : Int) (v : Nd) (a L a' L' : Int) : Prop where
 fit : WA v w = true
 dep : Ww v <= dep
 size : L' + (Qu v : Int) <= L
 low : L - c1 <= L' \/ -c <= L'
 mono : a <= a'
 used : a' + 4 * L' <= a + 4 * L
structure QL (w : Int) (dep : Nat) (n c : Int) (ks : List Nd) (a L a' L' : Int) : Prop where
 fit : ∀ x ∈ ks, WA x w = true
 dep : ∀ x ∈ ks, Ww x <= dep
 size : L' + (QT ks : Int) <= L
 low : L - n <= L' \/ -(c + n - 1) <= L'
 mono : a <= a'
 used : a' + 4 * L' <= a + 4 * L
theorem run_q {E : GenF} {w : Int} {dep : Nat} {c : Int} (hc : 0 <= c /\ c <= 40) (hE : ∀ a L, preE a L -> QE w dep 1 c (E a L).1 a L (E a L).2.1 (E a L).2.2) : ∀ (n : Nat) (a L : Int), n <= 10 -> preE a L -> -50 <= L - n -> QL w dep n c (runM E n a L).1 a L (runM E n a L).2.1 (runM E n a L).2.2
 | 0, a, L, _, h, _ => by
  rw [runM]
  exact ⟨fun x hx => (by cases hx), fun x hx => (by cases hx), by simp [QT], .inl (by simp), by simp, by simp⟩
 | n + 1, a, L, hn, h, h50 => by
  have h1 := hE a L h
  obtain ⟨p1, p2, p3, p4⟩ := h
  have hs := Wh (E a L).1
  have q1 := h1.low
  have q2 := h1.mono
  have q3 := h1.used
  have q4 := h1.size
  have ih := run_q hc hE n (E a L).2.1 (E a L).2.2 (by omega) ⟨by omega, by omega, by omega, by omega⟩ (by omega)
  have r1 := ih.low
  have r2 := ih.mono
  have r3 := ih.used
  have r4 := ih.size
  rw [runM]
  generalize runM E n (E a L).2.1 (E a L).2.2 = R at *
  generalize E a L = e at *
  refine ⟨fun x hx => ?_, fun x hx => ?_, ?_, ?_, ?_, ?_⟩
  ·rcases List.mem_cons.1 hx with rfl|hx
   ·exact h1.fit
   ·exact ih.fit x hx
  ·rcases List.mem_cons.1 hx with rfl|hx
   ·exact h1.dep
   ·exact ih.dep x hx
  ·rw [QT];dsimp only;omega
  ·dsimp only;omega
  ·dsimp only;omega
  ·dsimp only;omega
theorem chLeaf (l : List Int) (hl : OkI l) (dd a L : Int) (h : preE a L) (hd : dd <= 0 \/ (0 < dd /\ L - 1 <= 0)) (hd2 : -10 <= dd /\ dd <= 10) :
  ∃ t : Nd × Int × Int, QE 4 1 1 0 t.1 a L t.2.1 t.2.2 /\ CE Tryz.prog G 125 (fun p g => [.ptr p g 0, .i dd]) (genC l a L) (.agg (Enc.enc t.1)) (genC l t.2.1 t.2.2) := by
 obtain ⟨p1, p2, p3, p4⟩ := h
 have bx := Q9 l a (most := 12) (by decide)
 have b16 := Q9 l (a + 1) (most := 16) (by decide)
 have b2 := Q9 l (a + 1) (most := 2) (by decide)
 have b6 := Q9 l (a + 1) (most := 6) (by decide)
 have b3 := Q9 l (a + 1) (most := 3) (by decide)
 have b14 := Q9 l (a + 1) (most := 14) (by decide)
 have b32 := Q9 l (a + 1 + 1) (most := 3) (by decide)
 have b4 := Q9 l (a + 1 + 1) (most := 4) (by decide)
 have hx : atI l a 12 % 4 = 0 \/ atI l a 12 % 4 = 1 \/ atI l a 12 % 4 = 2 \/ atI l a 12 % 4 = 3 := by omega
 rcases hd with hd|hd
 ·rcases hx with hx|hx|hx|hx
  ·refine ⟨((.mk 4 (atI l (a + 1) 16 - 8) (0) []), a + 1 + 1, L - 1), ?_, fun g B hg => ?_⟩
   ·refine ⟨Zk ⟨4, -8, 7, 0, [], 0, 0, 0⟩ rfl (by decide) (by decide) (by dsimp only;omega) (by dsimp only;omega) (by first|(simp;done)|(simp;omega)) (kids0), ?_, ?_, ?_, ?_, ?_⟩
    ·rw [Ww];(try simp only [Wx, qG, qT]);omega
    ·rw [Qu];(try simp only [QT]);omega
    ·dsimp only;omega
    ·dsimp only;omega
    ·dsimp only;omega
   ·refine Qa Tryz.func125 rfl Tryz.ntmps125 rfl (t := [(0, .ptr 0 g 0), (1, .i dd)]) rfl fun E0 hE0 => ?_
    (repeat' first|(refine Qe ?_;(first|refine QG rfl ?_|refine QJ rfl ?_|refine Qb rfl rfl rfl ?_|(refine Qo ?_;(first|refine Zz rfl rfl (by omega) ?_|refine Zp rfl rfl ?_|refine QS rfl rfl ?_|refine s_rem rfl rfl (by first|omega|exact nn_shr (by omega)) (by omega) ?_))|refine Wi 0 (WG l hl _ _ _ (by omega) (by omega)) rfl rfl rfl rfl ?_|refine WO rfl rfl ?_|(refine Wl ?_;(first|refine WR rfl rfl rfl rfl ?_|refine Q7 rfl rfl rfl rfl (by rfl) (by rfl) (by rfl) ?_))|refine Qd rfl rfl ?_|refine QQ rfl rfl ?_|refine QA rfl rfl ?_|refine QC (fun _ _ => ?_)))|(refine Qk ?_;(first|refine Qi ?_|refine QN rfl ?_|refine Q5 ?_|refine W2 rfl rfl rfl rfl ?_|refine We rfl rfl (by omega) ?_))|(refine Qj ?_;(first|refine Qn ?_|refine Qc ?_|refine Qf ?_|refine Qh rfl ?_|refine Qp rfl (by omega) ?_|refine Qs ?_)))
    exact e_1 (Tryz.results125) (QH (size := 4) rfl rfl rfl rfl) (W5 (es := 4) (.node rfl rfl rfl) (by show _ = DV.agg (Enc.enc (Nd.mk _ _ _ []));rw [QW];rfl) rfl)
  ·refine ⟨((.mk 5 (atI l (a + 1) 2) (0) []), a + 1 + 1, L - 1), ?_, fun g B hg => ?_⟩
   ·refine ⟨Zk ⟨4, 0, 1, 0, [], 0, 0, 0⟩ rfl (by decide) (by decide) (by dsimp only;omega) (by dsimp only;omega) (by first|(simp;done)|(simp;omega)) (kids0), ?_, ?_, ?_, ?_, ?_⟩
    ·rw [Ww];(try simp only [Wx, qG, qT]);omega
    ·rw [Qu];(try simp only [QT]);omega
    ·dsimp only;omega
    ·dsimp only;omega
    ·dsimp only;omega
   ·refine Qa Tryz.func125 rfl Tryz.ntmps125 rfl (t := [(0, .ptr 0 g 0), (1, .i dd)]) rfl fun E0 hE0 => ?_
    (repeat' first|(refine Qe ?_;(first|refine QG rfl ?_|refine QJ rfl ?_|refine Qb rfl rfl rfl ?_|(refine Qo ?_;(first|refine Zz rfl rfl (by omega) ?_|refine Zp rfl rfl ?_|refine QS rfl rfl ?_|refine s_rem rfl rfl (by first|omega|exact nn_shr (by omega)) (by omega) ?_))|refine Wi 0 (WG l hl _ _ _ (by omega) (by omega)) rfl rfl rfl rfl ?_|refine WO rfl rfl ?_|(refine Wl ?_;(first|refine WR rfl rfl rfl rfl ?_|refine Q7 rfl rfl rfl rfl (by rfl) (by rfl) (by rfl) ?_))|refine Qd rfl rfl ?_|refine QQ rfl rfl ?_|refine QA rfl rfl ?_|refine QC (fun _ _ => ?_)))|(refine Qk ?_;(first|refine Qi ?_|refine QN rfl ?_|refine Q5 ?_|refine W2 rfl rfl rfl rfl ?_|refine We rfl rfl (by omega) ?_))|(refine Qj ?_;(first|refine Qn ?_|refine Qc ?_|refine Qf ?_|refine Qh rfl ?_|refine Qp rfl (by omega) ?_|refine Qm rfl (by omega) ?_|refine Qs ?_)))
    exact e_1 (Tryz.results125) (QH (size := 4) rfl rfl rfl rfl) (W5 (es := 4) (.node rfl rfl rfl) (by show _ = DV.agg (Enc.enc (Nd.mk _ _ _ []));rw [QW];rfl) rfl)
  ·refine ⟨((.mk 6 (atI l (a + 1) 6) (0) []), a + 1 + 1, L - 1), ?_, fun g B hg => ?_⟩
   ·refine ⟨Zk ⟨4, 0, 5, 0, [], 0, 0, 0⟩ rfl (by decide) (by decide) (by dsimp only;omega) (by dsimp only;omega) (by first|(simp;done)|(simp;omega)) (kids0), ?_, ?_, ?_, ?_, ?_⟩
    ·rw [Ww];(try simp only [Wx, qG, qT]);omega
    ·rw [Qu];(try simp only [QT]);omega
    ·dsimp only;omega
    ·dsimp only;omega
    ·dsimp only;omega
   ·refine Qa Tryz.func125 rfl Tryz.ntmps125 rfl (t := [(0, .ptr 0 g 0), (1, .i dd)]) rfl fun E0 hE0 => ?_
    (repeat' first|(refine Qe ?_;(first|refine QG rfl ?_|refine QJ rfl ?_|refine Qb rfl rfl rfl ?_|(refine Qo ?_;(first|refine Zz rfl rfl (by omega) ?_|refine Zp rfl rfl ?_|refine QS rfl rfl ?_|refine s_rem rfl rfl (by first|omega|exact nn_shr (by omega)) (by omega) ?_))|refine Wi 0 (WG l hl _ _ _ (by omega) (by omega)) rfl rfl rfl rfl ?_|refine WO rfl rfl ?_|(refine Wl ?_;(first|refine WR rfl rfl rfl rfl ?_|refine Q7 rfl rfl rfl rfl (by rfl) (by rfl) (by rfl) ?_))|refine Qd rfl rfl ?_|refine QQ rfl rfl ?_|refine QA rfl rfl ?_|refine QC (fun _ _ => ?_)))|(refine Qk ?_;(first|refine Qi ?_|refine QN rfl ?_|refine Q5 ?_|refine W2 rfl rfl rfl rfl ?_|refine We rfl rfl (by omega) ?_))|(refine Qj ?_;(first|refine Qn ?_|refine Qc ?_|refine Qf ?_|refine Qh rfl ?_|refine Qp rfl (by omega) ?_|refine Qm rfl (by omega) ?_|refine Qs ?_)))
    exact e_1 (Tryz.results125) (QH (size := 4) rfl rfl rfl rfl) (W5 (es := 4) (.node rfl rfl rfl) (by show _ = DV.agg (Enc.enc (Nd.mk _ _ _ []));rw [QW];rfl) rfl)
  ·refine ⟨((.mk 12 (atI l (a + 1) 3) (0) []), a + 1 + 1, L - 1), ?_, fun g B hg => ?_⟩
   ·refine ⟨Zk ⟨4, 0, 2, 0, [], 0, 0, 0⟩ rfl (by decide) (by decide) (by dsimp only;omega) (by dsimp only;omega) (by first|(simp;done)|(simp;omega)) (kids0), ?_, ?_, ?_, ?_, ?_⟩
    ·rw [Ww];(try simp only [Wx, qG, qT]);omega
    ·rw [Qu];(try simp only [QT]);omega
    ·dsimp only;omega
    ·dsimp only;omega
    ·dsimp only;omega
   ·refine Qa Tryz.func125 rfl Tryz.ntmps125 rfl (t := [(0, .ptr 0 g 0), (1, .i dd)]) rfl fun E0 hE0 => ?_
    (repeat' first|(refine Qe ?_;(first|refine QG rfl ?_|refine QJ rfl ?_|refine Qb rfl rfl rfl ?_|(refine Qo ?_;(first|refine Zz rfl rfl (by omega) ?_|refine Zp rfl rfl ?_|refine QS rfl rfl ?_|refine s_rem rfl rfl (by first|omega|exact nn_shr (by omega)) (by omega) ?_))|refine Wi 0 (WG l hl _ _ _ (by omega) (by omega)) rfl rfl rfl rfl ?_|refine WO rfl rfl ?_|(refine Wl ?_;(first|refine WR rfl rfl rfl rfl ?_|refine Q7 rfl rfl rfl rfl (by rfl) (by rfl) (by rfl) ?_))|refine Qd rfl rfl ?_|refine QQ rfl rfl ?_|refine QA rfl rfl ?_|refine QC (fun _ _ => ?_)))|(refine Qk ?_;(first|refine Qi ?_|refine QN rfl ?_|refine Q5 ?_|refine W2 rfl rfl rfl rfl ?_|refine We rfl rfl (by omega) ?_))|(refine Qj ?_;(first|refine Qn ?_|refine Qc ?_|refine Qf ?_|refine Qh rfl ?_|refine Qp rfl (by omega) ?_|refine Qm rfl (by omega) ?_|refine Qs ?_)))
    exact e_1 (Tryz.results125) (QH (size := 4) rfl rfl rfl rfl) (W5 (es := 4) (.node rfl rfl rfl) (by show _ = DV.agg (Enc.enc (Nd.mk _ _ _ []));rw [QW];rfl) rfl)
 ·rcases hx with hx|hx|hx|hx
  ·refine ⟨((.mk 4 (atI l (a + 1) 16 - 8) (0) []), a + 1 + 1, L - 1), ?_, fun g B hg => ?_⟩
   ·refine ⟨Zk ⟨4, -8, 7, 0, [], 0, 0, 0⟩ rfl (by decide) (by decide) (by dsimp only;omega) (by dsimp only;omega) (by first|(simp;done)|(simp;omega)) (kids0), ?_, ?_, ?_, ?_, ?_⟩
    ·rw [Ww];(try simp only [Wx, qG, qT]);omega
    ·rw [Qu];(try simp only [QT]);omega
    ·dsimp only;omega
    ·dsimp only;omega
    ·dsimp only;omega
   ·refine Qa Tryz.func125 rfl Tryz.ntmps125 rfl (t := [(0, .ptr 0 g 0), (1, .i dd)]) rfl fun E0 hE0 => ?_
    (repeat' first|(refine Qe ?_;(first|refine QG rfl ?_|refine QJ rfl ?_|refine Qb rfl rfl rfl ?_|(refine Qo ?_;(first|refine Zz rfl rfl (by omega) ?_|refine Zp rfl rfl ?_|refine QS rfl rfl ?_|refine s_rem rfl rfl (by first|omega|exact nn_shr (by omega)) (by omega) ?_))|refine Wi 0 (WG l hl _ _ _ (by omega) (by omega)) rfl rfl rfl rfl ?_|refine Wr rfl rfl ?_|(refine Wl ?_;(first|refine WR rfl rfl rfl rfl ?_|refine Q7 rfl rfl rfl rfl (by rfl) (by rfl) (by rfl) ?_))|refine Qd rfl rfl ?_|refine QQ rfl rfl ?_|refine QA rfl rfl ?_|refine QC (fun _ _ => ?_)))|(refine Qk ?_;(first|refine Qi ?_|refine QN rfl ?_|refine Q5 ?_|refine WD rfl rfl rfl rfl ?_|refine Q6 rfl rfl (by omega) ?_))|(refine Qj ?_;(first|refine Qn ?_|refine Qc ?_|refine Qf ?_|refine Qp rfl (by omega) ?_|refine Qs ?_)))
    exact e_1 (Tryz.results125) (QH (size := 4) rfl rfl rfl rfl) (W5 (es := 4) (.node rfl rfl rfl) (by show _ = DV.agg (Enc.enc (Nd.mk _ _ _ []));rw [QW];rfl) rfl)
  ·refine ⟨((.mk 5 (atI l (a + 1) 2) (0) []), a + 1 + 1, L - 1), ?_, fun g B hg => ?_⟩
   ·refine ⟨Zk ⟨4, 0, 1, 0, [], 0, 0, 0⟩ rfl (by decide) (by decide) (by dsimp only;omega) (by dsimp only;omega) (by first|(simp;done)|(simp;omega)) (kids0), ?_, ?_, ?_, ?_, ?_⟩
    ·rw [Ww];(try simp only [Wx, qG, qT]);omega
    ·rw [Qu];(try simp only [QT]);omega
    ·dsimp only;omega
    ·dsimp only;omega
    ·dsimp only;omega
   ·refine Qa Tryz.func125 rfl Tryz.ntmps125 rfl (t := [(0, .ptr 0 g 0), (1, .i dd)]) rfl fun E0 hE0 => ?_
    (repeat' first|(refine Qe ?_;(first|refine QG rfl ?_|refine QJ rfl ?_|refine Qb rfl rfl rfl ?_|(refine Qo ?_;(first|refine Zz rfl rfl (by omega) ?_|refine Zp rfl rfl ?_|refine QS rfl rfl ?_|refine s_rem rfl rfl (by first|omega|exact nn_shr (by omega)) (by omega) ?_))|refine Wi 0 (WG l hl _ _ _ (by omega) (by omega)) rfl rfl rfl rfl ?_|refine Wr rfl rfl ?_|(refine Wl ?_;(first|refine WR rfl rfl rfl rfl ?_|refine Q7 rfl rfl rfl rfl (by rfl) (by rfl) (by rfl) ?_))|refine Qd rfl rfl ?_|refine QQ rfl rfl ?_|refine QA rfl rfl ?_|refine QC (fun _ _ => ?_)))|(refine Qk ?_;(first|refine Qi ?_|refine QN rfl ?_|refine Q5 ?_|refine WD rfl rfl rfl rfl ?_|refine Q6 rfl rfl (by omega) ?_))|(refine Qj ?_;(first|refine Qn ?_|refine Qc ?_|refine Qf ?_|refine Qp rfl (by omega) ?_|refine Qm rfl (by omega) ?_|refine Qs ?_)))
    exact e_1 (Tryz.results125) (QH (size := 4) rfl rfl rfl rfl) (W5 (es := 4) (.node rfl rfl rfl) (by show _ = DV.agg (Enc.enc (Nd.mk _ _ _ []));rw [QW];rfl) rfl)
  ·refine ⟨((.mk 6 (atI l (a + 1) 6) (0) []), a + 1 + 1, L - 1), ?_, fun g B hg => ?_⟩
   ·refine ⟨Zk ⟨4, 0, 5, 0, [], 0, 0, 0⟩ rfl (by decide) (by decide) (by dsimp only;omega) (by dsimp only;omega) (by first|(simp;done)|(simp;omega)) (kids0), ?_, ?_, ?_, ?_, ?_⟩
    ·rw [Ww];(try simp only [Wx, qG, qT]);omega
    ·rw [Qu];(try simp only [QT]);omega
    ·dsimp only;omega
    ·dsimp only;omega
    ·dsimp only;omega
   ·refine Qa Tryz.func125 rfl Tryz.ntmps125 rfl (t := [(0, .ptr 0 g 0), (1, .i dd)]) rfl fun E0 hE0 => ?_
    (repeat' first|(refine Qe ?_;(first|refine QG rfl ?_|refine QJ rfl ?_|refine Qb rfl rfl rfl ?_|(refine Qo ?_;(first|refine Zz rfl rfl (by omega) ?_|refine Zp rfl rfl ?_|refine QS rfl rfl ?_|refine s_rem rfl rfl (by first|omega|exact nn_shr (by omega)) (by omega) ?_))|refine Wi 0 (WG l hl _ _ _ (by omega) (by omega)) rfl rfl rfl rfl ?_|refine Wr rfl rfl ?_|(refine Wl ?_;(first|refine WR rfl rfl rfl rfl ?_|refine Q7 rfl rfl rfl rfl (by rfl) (by rfl) (by rfl) ?_))|refine Qd rfl rfl ?_|refine QQ rfl rfl ?_|refine QA rfl rfl ?_|refine QC (fun _ _ => ?_)))|(refine Qk ?_;(first|refine Qi ?_|refine QN rfl ?_|refine Q5 ?_|refine WD rfl rfl rfl rfl ?_|refine Q6 rfl rfl (by omega) ?_))|(refine Qj ?_;(first|refine Qn ?_|refine Qc ?_|refine Qf ?_|refine Qp rfl (by omega) ?_|refine Qm rfl (by omega) ?_|refine Qs ?_)))
    exact e_1 (Tryz.results125) (QH (size := 4) rfl rfl rfl rfl) (W5 (es := 4) (.node rfl rfl rfl) (by show _ = DV.agg (Enc.enc (Nd.mk _ _ _ []));rw [QW];rfl) rfl)
  ·refine ⟨((.mk 12 (atI l (a + 1) 3) (0) []), a + 1 + 1, L - 1), ?_, fun g B hg => ?_⟩
   ·refine ⟨Zk ⟨4, 0, 2, 0, [], 0, 0, 0⟩ rfl (by decide) (by decide) (by dsimp only;omega) (by dsimp only;omega) (by first|(simp;done)|(simp;omega)) (kids0), ?_, ?_, ?_, ?_, ?_⟩
    ·rw [Ww];(try simp only [Wx, qG, qT]);omega
    ·rw [Qu];(try simp only [QT]);omega
    ·dsimp only;omega
    ·dsimp only;omega
    ·dsimp only;omega
   ·refine Qa Tryz.func125 rfl Tryz.ntmps125 rfl (t := [(0, .ptr 0 g 0), (1, .i dd)]) rfl fun E0 hE0 => ?_
    (repeat' first|(refine Qe ?_;(first|refine QG rfl ?_|refine QJ rfl ?_|refine Qb rfl rfl rfl ?_|(refine Qo ?_;(first|refine Zz rfl rfl (by omega) ?_|refine Zp rfl rfl ?_|refine QS rfl rfl ?_|refine s_rem rfl rfl (by first|omega|exact nn_shr (by omega)) (by omega) ?_))|refine Wi 0 (WG l hl _ _ _ (by omega) (by omega)) rfl rfl rfl rfl ?_|refine Wr rfl rfl ?_|(refine Wl ?_;(first|refine WR rfl rfl rfl rfl ?_|refine Q7 rfl rfl rfl rfl (by rfl) (by rfl) (by rfl) ?_))|refine Qd rfl rfl ?_|refine QQ rfl rfl ?_|refine QA rfl rfl ?_|refine QC (fun _ _ => ?_)))|(refine Qk ?_;(first|refine Qi ?_|refine QN rfl ?_|refine Q5 ?_|refine WD rfl rfl rfl rfl ?_|refine Q6 rfl rfl (by omega) ?_))|(refine Qj ?_;(first|refine Qn ?_|refine Qc ?_|refine Qf ?_|refine Qp rfl (by omega) ?_|refine Qm rfl (by omega) ?_|refine Qs ?_)))
    exact e_1 (Tryz.results125) (QH (size := 4) rfl rfl rfl rfl) (W5 (es := 4) (.node rfl rfl rfl) (by show _ = DV.agg (Enc.enc (Nd.mk _ _ _ []));rw [QW];rfl) rfl)
theorem chSome (l : List Int) (hl : OkI l) (d : Nat) (hd : d <= 10) (E : GenF) (hE : ∀ a L, preE a L -> QE 4 (d + 1) 1 (2 * d) (E a L).1 a L (E a L).2.1 (E a L).2.2 /\ CE Tryz.prog G 125 (fun p g => [.ptr p g 0, .i d]) (genC l a L) (.agg (Enc.enc (E a L).1)) (genC l (E a L).2.1 (E a L).2.2)) (a L : Int) (h : preE (a + 1) L) (ha : 0 <= a) (h50 : -40 <= L) :
  CE Tryz.prog G 126 (fun p g => [.ptr p g 0, .i 3, .i ((d : Int) + 1)]) (genC l a L) (QR (runM E (atI l a 4).toNat (a + 1) L).1) (genC l (runM E (atI l a 4).toNat (a + 1) L).2.1 (runM E (atI l a 4).toNat (a + 1) L).2.2) := fun g B hg => by
 have b4 := Q9 l a (most := 4) (by decide)
 obtain ⟨p1, p2, p3, p4⟩ := h
 obtain ⟨N, hN⟩ : ∃ N : Nat, atI l a 4 = (N : Int) := ⟨(atI l a 4).toNat, by omega⟩
 have hnum := WG (G := G) l hl a L 4 (by omega) (by omega)
 rw [hN] at hnum b4 ⊢
 rw [show ((N : Int)).toNat = N by omega]
 generalize hT : runM E N (a + 1) L = T at *
 refine Qa Tryz.func126 rfl Tryz.ntmps126 rfl (t := [(0, .ptr 0 g 0), (1, .i 3), (2, .i ((d : Int) + 1))]) rfl fun E0 hE1 => ?_
 (repeat' first|(refine Qe ?_;(first|refine QG rfl ?_|refine QJ rfl ?_|refine W3 rfl rfl (by omega) ?_|refine Wi 0 (hnum) rfl rfl rfl rfl ?_))|(refine Qk ?_;(first|refine Qi ?_|refine QN rfl ?_))|(refine Qj ?_;(first|refine Qn ?_|refine Qc ?_|refine Qf ?_)))
 refine r_own 7 4 rfl fun gk hgk => ?_
 refine r_loop5 (fun (i : Nat) (o : List Nd) (b M : Int) (gg : Nat) => ⟨[(0, .ptr 0 g 0), (2, .i ((d : Int) + 1)), (7, .ref 1 gg 0 o.length 4), (8, .i N), (9, .i i)], [.row g (genC l b M), .row gg (Ws o)]⟩) (fun i o b M gg => i <= N /\ o.length = i /\ E0.N < gg /\ o ++ (runM E (N - i) b M).1 = T.1 /\ (runM E (N - i) b M).2 = T.2 /\ preE b M /\ -50 <= M - ((N : Int) - i)) (fun i _ _ _ _ => N - i) 0 [] (a + 1) L gk ?_ ⟨by omega, rfl, hgk, by rw [Nat.sub_zero, hT];rfl, by rw [Nat.sub_zero, hT], ⟨p1, p2, p3, p4⟩, by omega⟩ ?_
 ·exact zal rfl
 intro i o b M gg ⟨hi, hol, hgg, h1, h2, hp, h50⟩
 by_cases hiN : i < N
 ·obtain ⟨hq, hE1⟩ := hE b M hp
  rw [show N - i = (N - (i + 1)) + 1 by omega, runM] at h1 h2
  have q1 := hq.low
  have q2 := hq.mono
  have q3 := hq.used
  have q4 := hq.size
  obtain ⟨p1, p2, p3, p4⟩ := hp
  have hd1 : (d : Int) + 1 - 1 = (d : Int) := by omega
  generalize E b M = e at *
  obtain ⟨v1, b1, M1⟩ := e
  dsimp only at *
  have hs := Wh v1
  clear hE
  (repeat' first|(refine Qe ?_;(first|refine QG rfl ?_|refine QJ rfl ?_|(refine Qo ?_;(first|refine s_sub_as2 rfl rfl hd1 ⟨by omega, by omega⟩ ?_|refine Q1 rfl rfl ?_|refine W3 rfl rfl (by omega) ?_))|(refine Qq ?_;(first|refine ZD (z := v1) rfl rfl rfl rfl rfl rfl rfl (by first|omega|(simp;omega)) (by first|omega|(simp;omega)) (fun _ => rfl) (fun _ _ => ?_)|refine Wi 0 (hE1) rfl rfl rfl rfl ?_))|refine Wc (z := v1) rfl rfl (by decide) ?_))|(refine Qk ?_;(first|refine Qi ?_|refine QN rfl ?_))|(refine Qj ?_;(first|refine Qn ?_|refine Qc ?_|refine Qf ?_|refine Qx ?_|refine Qp rfl (by omega) ?_)))
  refine ⟨i + 1, o ++ [v1], b1, M1, _, ⟨by omega, by simp [hol], by assumption, by rw [List.append_assoc];exact h1, h2, ⟨by omega, by omega, by omega, by omega⟩, by omega⟩, by omega, ?_⟩
  exact zal rfl
 ·have hie : N - i = 0 := by omega
  rw [hie, runM] at h1 h2
  dsimp only at h1 h2
  rw [List.append_nil] at h1
  rw [<- h1, <- h2]
  clear hE
  (repeat' first|(refine Qe ?_;(first|refine QG rfl ?_|refine QJ rfl ?_|refine Q1 rfl rfl ?_))|(refine Qk ?_;(first|refine Qi ?_|refine QN rfl ?_))|(refine Qj ?_;(first|refine Qn ?_|refine Qc ?_|refine Qm rfl (by omega) ?_|refine WI rfl ?_|refine Qs ?_)))
  exact e_1 (Tryz.results126) (Qg rfl) (Zy (D := fun d => d) (k := 0) .id rfl (by rw [QX];rfl) rfl rfl)
theorem chExpr (l : List Int) (hl : OkI l) : ∀ (d : Nat), d <= 10 -> ∃ E : GenF, ∀ a L, preE a L -> QE 4 (d + 1) 1 (2 * d) (E a L).1 a L (E a L).2.1 (E a L).2.2 /\ CE Tryz.prog G 125 (fun p g => [.ptr p g 0, .i d]) (genC l a L) (.agg (Enc.enc (E a L).1)) (genC l (E a L).2.1 (E a L).2.2) := by
 intro d
 induction d with
 | zero =>
  intro _
  refine gen_skolem (pre := preE) (R := fun a L t => QE 4 (0 + 1) 1 (2 * (0 : Nat)) t.1 a L t.2.1 t.2.2 /\ CE Tryz.prog G 125 (fun p g => [.ptr p g 0, .i (0 : Nat)]) (genC l a L) (.agg (Enc.enc t.1)) (genC l t.2.1 t.2.2)) fun a L h => ?_
  obtain ⟨t, hq, hc⟩ := chLeaf (G := G) l hl 0 a L h (.inl (by decide)) (by decide)
  exact ⟨t, hq, hc⟩
 | succ d ih =>
 intro hd10
 obtain ⟨E, hE⟩ := ih (by omega)
 refine gen_skolem (pre := preE) (R := fun a L t => QE 4 (d + 1 + 1) 1 (2 * (d + 1 : Nat)) t.1 a L t.2.1 t.2.2 /\ CE Tryz.prog G 125 (fun p g => [.ptr p g 0, .i (d + 1 : Nat)]) (genC l a L) (.agg (Enc.enc t.1)) (genC l t.2.1 t.2.2)) fun a L h => ?_
 by_cases hlf : L - 1 <= 0
 ·obtain ⟨t, hq, hc⟩ := chLeaf (G := G) l hl ((d + 1 : Nat) : Int) a L h (.inr ⟨by omega, hlf⟩) (by omega)
  have q1 := hq.low
  have q2 := hq.dep
  exact ⟨t, ⟨hq.fit, by omega, hq.size, by omega, hq.mono, hq.used⟩, hc⟩
 obtain ⟨p1, p2, p3, p4⟩ := h
 have hd1 : ((d + 1 : Nat) : Int) - 1 = (d : Int) := by omega
 have hsm := chSome (G := G) l hl d (by omega) E hE
 have hrq := run_q (E := E) (w := 4) (dep := d + 1) (c := 2 * d) (by omega) fun a L h => (hE a L h).1
 have bx := Q9 l a (most := 12) (by decide)
 have b16 := Q9 l (a + 1) (most := 16) (by decide)
 have b2 := Q9 l (a + 1) (most := 2) (by decide)
 have b6 := Q9 l (a + 1) (most := 6) (by decide)
 have b3 := Q9 l (a + 1) (most := 3) (by decide)
 have b14 := Q9 l (a + 1) (most := 14) (by decide)
 have b32 := Q9 l (a + 1 + 1) (most := 3) (by decide)
 have b4 := Q9 l (a + 1 + 1) (most := 4) (by decide)
 generalize hdd : ((d + 1 : Nat) : Int) = dd at *
 have hx : atI l a 12 = 0 \/ atI l a 12 = 1 \/ atI l a 12 = 2 \/ atI l a 12 = 3 \/ atI l a 12 = 4 \/ atI l a 12 = 5 \/ atI l a 12 = 6 \/ atI l a 12 = 7 \/ 8 <= atI l a 12 := by omega
 rcases hx with hx|hx|hx|hx|hx|hx|hx|hx|hx
 ·clear hE hrq hsm
  refine ⟨((.mk 4 (atI l (a + 1) 16 - 8) (0) []), a + 1 + 1, L - 1), ?_, fun g B hg => ?_⟩
  ·refine ⟨Zk ⟨4, -8, 7, 0, [], 0, 0, 0⟩ rfl (by decide) (by decide) (by dsimp only;omega) (by dsimp only;omega) (by first|(simp;done)|(simp;omega)) (kids0), ?_, ?_, ?_, ?_, ?_⟩
   ·rw [Ww];(try simp only [Wx, qG, qT]);omega
   ·rw [Qu];(try simp only [QT]);omega
   ·dsimp only;omega
   ·dsimp only;omega
   ·dsimp only;omega
  ·refine Qa Tryz.func125 rfl Tryz.ntmps125 rfl (t := [(0, .ptr 0 g 0), (1, .i dd)]) rfl fun E0 hE0 => ?_
   (repeat' first|(refine Qe ?_;(first|refine QG rfl ?_|refine QJ rfl ?_|refine Qb rfl rfl rfl ?_|(refine Qo ?_;(first|refine Zz rfl rfl (by omega) ?_|refine Zp rfl rfl ?_|refine QS rfl rfl ?_))|refine Wi 0 (WG l hl _ _ _ (by omega) (by omega)) rfl rfl rfl rfl ?_|refine Wr rfl rfl ?_|(refine Wl ?_;(first|refine WR rfl rfl rfl rfl ?_|refine Q7 rfl rfl rfl rfl (by rfl) (by rfl) (by rfl) ?_))|refine Qd rfl rfl ?_|refine QQ rfl rfl ?_|refine QA rfl rfl ?_|refine QC (fun _ _ => ?_)))|(refine Qk ?_;(first|refine Qi ?_|refine QN rfl ?_|refine Q5 ?_|refine WD rfl rfl rfl rfl ?_|refine Q6 rfl rfl (by omega) ?_))|(refine Qj ?_;(first|refine Qn ?_|refine Qc ?_|refine Qf ?_|refine Qx ?_|refine Qp rfl (by omega) ?_|refine Qm rfl (by omega) ?_|refine Qs ?_)))
   exact e_1 (Tryz.results125) (QH (size := 4) rfl rfl rfl rfl) (W5 (es := 4) (.node rfl rfl rfl) (by show _ = DV.agg (Enc.enc (Nd.mk _ _ _ []));rw [QW];rfl) rfl)
 ·clear hE hrq hsm
  refine ⟨((.mk 5 (atI l (a + 1) 2) (0) []), a + 1 + 1, L - 1), ?_, fun g B hg => ?_⟩
  ·refine ⟨Zk ⟨4, 0, 1, 0, [], 0, 0, 0⟩ rfl (by decide) (by decide) (by dsimp only;omega) (by dsimp only;omega) (by first|(simp;done)|(simp;omega)) (kids0), ?_, ?_, ?_, ?_, ?_⟩
   ·rw [Ww];(try simp only [Wx, qG, qT]);omega
   ·rw [Qu];(try simp only [QT]);omega
   ·dsimp only;omega
   ·dsimp only;omega
   ·dsimp only;omega
  ·refine Qa Tryz.func125 rfl Tryz.ntmps125 rfl (t := [(0, .ptr 0 g 0), (1, .i dd)]) rfl fun E0 hE0 => ?_
   (repeat' first|(refine Qe ?_;(first|refine QG rfl ?_|refine QJ rfl ?_|refine Qb rfl rfl rfl ?_|(refine Qo ?_;(first|refine Zz rfl rfl (by omega) ?_|refine Zp rfl rfl ?_|refine QS rfl rfl ?_))|refine Wi 0 (WG l hl _ _ _ (by omega) (by omega)) rfl rfl rfl rfl ?_|refine Wr rfl rfl ?_|(refine Wl ?_;(first|refine WR rfl rfl rfl rfl ?_|refine Q7 rfl rfl rfl rfl (by rfl) (by rfl) (by rfl) ?_))|refine Qd rfl rfl ?_|refine QQ rfl rfl ?_|refine QA rfl rfl ?_|refine QC (fun _ _ => ?_)))|(refine Qk ?_;(first|refine Qi ?_|refine QN rfl ?_|refine Q5 ?_|refine WD rfl rfl rfl rfl ?_|refine Q6 rfl rfl (by omega) ?_))|(refine Qj ?_;(first|refine Qn ?_|refine Qc ?_|refine Qf ?_|refine Qx ?_|refine Qp rfl (by omega) ?_|refine Qm rfl (by omega) ?_|refine Qs ?_)))
   exact e_1 (Tryz.results125) (QH (size := 4) rfl rfl rfl rfl) (W5 (es := 4) (.node rfl rfl rfl) (by show _ = DV.agg (Enc.enc (Nd.mk _ _ _ []));rw [QW];rfl) rfl)
 ·clear hE hrq hsm
  refine ⟨((.mk 6 (atI l (a + 1) 6) (0) []), a + 1 + 1, L - 1), ?_, fun g B hg => ?_⟩
  ·refine ⟨Zk ⟨4, 0, 5, 0, [], 0, 0, 0⟩ rfl (by decide) (by decide) (by dsimp only;omega) (by dsimp only;omega) (by first|(simp;done)|(simp;omega)) (kids0), ?_, ?_, ?_, ?_, ?_⟩
   ·rw [Ww];(try simp only [Wx, qG, qT]);omega
   ·rw [Qu];(try simp only [QT]);omega
   ·dsimp only;omega
   ·dsimp only;omega
   ·dsimp only;omega
  ·refine Qa Tryz.func125 rfl Tryz.ntmps125 rfl (t := [(0, .ptr 0 g 0), (1, .i dd)]) rfl fun E0 hE0 => ?_
   (repeat' first|(refine Qe ?_;(first|refine QG rfl ?_|refine QJ rfl ?_|refine Qb rfl rfl rfl ?_|(refine Qo ?_;(first|refine Zz rfl rfl (by omega) ?_|refine Zp rfl rfl ?_|refine QS rfl rfl ?_))|refine Wi 0 (WG l hl _ _ _ (by omega) (by omega)) rfl rfl rfl rfl ?_|refine Wr rfl rfl ?_|(refine Wl ?_;(first|refine WR rfl rfl rfl rfl ?_|refine Q7 rfl rfl rfl rfl (by rfl) (by rfl) (by rfl) ?_))|refine Qd rfl rfl ?_|refine QQ rfl rfl ?_|refine QA rfl rfl ?_|refine QC (fun _ _ => ?_)))|(refine Qk ?_;(first|refine Qi ?_|refine QN rfl ?_|refine Q5 ?_|refine WD rfl rfl rfl rfl ?_|refine Q6 rfl rfl (by omega) ?_))|(refine Qj ?_;(first|refine Qn ?_|refine Qc ?_|refine Qf ?_|refine Qx ?_|refine Qp rfl (by omega) ?_|refine Qm rfl (by omega) ?_|refine Qs ?_)))
   exact e_1 (Tryz.results125) (QH (size := 4) rfl rfl rfl rfl) (W5 (es := 4) (.node rfl rfl rfl) (by show _ = DV.agg (Enc.enc (Nd.mk _ _ _ []));rw [QW];rfl) rfl)
 ·clear hE hrq hsm
  refine ⟨((.mk 12 (atI l (a + 1) 3) (0) []), a + 1 + 1, L - 1), ?_, fun g B hg => ?_⟩
  ·refine ⟨Zk ⟨4, 0, 2, 0, [], 0, 0, 0⟩ rfl (by decide) (by decide) (by dsimp only;omega) (by dsimp only;omega) (by first|(simp;done)|(simp;omega)) (kids0), ?_, ?_, ?_, ?_, ?_⟩
   ·rw [Ww];(try simp only [Wx, qG, qT]);omega
   ·rw [Qu];(try simp only [QT]);omega
   ·dsimp only;omega
   ·dsimp only;omega
   ·dsimp only;omega
  ·refine Qa Tryz.func125 rfl Tryz.ntmps125 rfl (t := [(0, .ptr 0 g 0), (1, .i dd)]) rfl fun E0 hE0 => ?_
   (repeat' first|(refine Qe ?_;(first|refine QG rfl ?_|refine QJ rfl ?_|refine Qb rfl rfl rfl ?_|(refine Qo ?_;(first|refine Zz rfl rfl (by omega) ?_|refine Zp rfl rfl ?_|refine QS rfl rfl ?_))|refine Wi 0 (WG l hl _ _ _ (by omega) (by omega)) rfl rfl rfl rfl ?_|refine Wr rfl rfl ?_|(refine Wl ?_;(first|refine WR rfl rfl rfl rfl ?_|refine Q7 rfl rfl rfl rfl (by rfl) (by rfl) (by rfl) ?_))|refine Qd rfl rfl ?_|refine QQ rfl rfl ?_|refine QA rfl rfl ?_|refine QC (fun _ _ => ?_)))|(refine Qk ?_;(first|refine Qi ?_|refine QN rfl ?_|refine Q5 ?_|refine WD rfl rfl rfl rfl ?_|refine Q6 rfl rfl (by omega) ?_))|(refine Qj ?_;(first|refine Qn ?_|refine Qc ?_|refine Qf ?_|refine Qx ?_|refine Qp rfl (by omega) ?_|refine Qm rfl (by omega) ?_|refine Qs ?_)))
   exact e_1 (Tryz.results125) (QH (size := 4) rfl rfl rfl rfl) (W5 (es := 4) (.node rfl rfl rfl) (by show _ = DV.agg (Enc.enc (Nd.mk _ _ _ []));rw [QW];rfl) rfl)
 ·clear hrq hsm
  obtain ⟨hq1, hE1⟩ := hE (a + 1 + 1) (L - 1) ⟨by omega, by omega, by omega, by omega⟩
  obtain ⟨f1, d1, s1, w1, m1, u1⟩ := hq1
  generalize E (a + 1 + 1) (L - 1) = e1 at *
  obtain ⟨v1, b1, M1⟩ := e1
  dsimp only at *
  have sp1 := Wh v1
  clear hE
  refine ⟨((.mk 7 (atI l (a + 1) 6) (0) [v1]), b1, M1), ?_, fun g B hg => ?_⟩
  ·refine ⟨Zk ⟨4, 0, 5, 0, [4], 0, 0, 0⟩ rfl (by decide) (by decide) (by dsimp only;omega) (by dsimp only;omega) (by first|(simp;done)|(simp;omega)) (kids1 f1), ?_, ?_, ?_, ?_, ?_⟩
   ·rw [Ww];(try simp only [Wx, qG, qT]);omega
   ·rw [Qu];(try simp only [QT]);omega
   ·dsimp only;omega
   ·dsimp only;omega
   ·dsimp only;omega
  ·refine Qa Tryz.func125 rfl Tryz.ntmps125 rfl (t := [(0, .ptr 0 g 0), (1, .i dd)]) rfl fun E0 hE0 => ?_
   (repeat' first|(refine Qe ?_;(first|refine QG rfl ?_|refine QJ rfl ?_|refine Qb rfl rfl rfl ?_|(refine Qo ?_;(first|refine s_sub_as2 rfl rfl hd1 ⟨by omega, by omega⟩ ?_|refine Zz rfl rfl (by omega) ?_|refine Zp rfl rfl ?_|refine QS rfl rfl ?_))|(refine Qq ?_;(first|refine Wi 0 (WG l hl _ _ _ (by omega) (by omega)) rfl rfl rfl rfl ?_|refine Wi 0 (hE1) rfl rfl rfl rfl ?_))|refine Wr rfl rfl ?_|(refine Wl ?_;(first|refine WR rfl rfl rfl rfl ?_|refine Q7 rfl rfl rfl rfl (by rfl) (by rfl) (by rfl) ?_))|refine Wc (z := v1) rfl rfl (by decide) ?_|refine Qd rfl rfl ?_|refine QQ rfl rfl ?_|refine QA rfl rfl ?_|refine QC (fun _ _ => ?_)))|(refine Qk ?_;(first|refine Qi ?_|refine QN rfl ?_|refine Q5 ?_|refine WD rfl rfl rfl rfl ?_|refine Q6 rfl rfl (by omega) ?_))|(refine Qj ?_;(first|refine Qn ?_|refine Qc ?_|refine Qf ?_|refine Qx ?_|refine Qp rfl (by omega) ?_|refine Qm rfl (by omega) ?_|refine Qs ?_)))
   refine e_1 (Tryz.results125) (QH (size := 4) rfl rfl rfl rfl) ?_
   rw [QW]
   exact c_ce (by first|rfl|(simp [QR, Ws];try rfl)) rfl
 ·clear hE hrq hsm
  refine ⟨((.mk 8 (atI l (a + 1) 6) (atI l (a + 1 + 1) 3) []), a + 1 + 1 + 1, L - 1), ?_, fun g B hg => ?_⟩
  ·refine ⟨Zk ⟨4, 0, 5, 2, [], 0, 0, 0⟩ rfl (by decide) (by decide) (by dsimp only;omega) (by dsimp only;omega) (by first|(simp;done)|(simp;omega)) (kids0), ?_, ?_, ?_, ?_, ?_⟩
   ·rw [Ww];(try simp only [Wx, qG, qT]);omega
   ·rw [Qu];(try simp only [QT]);omega
   ·dsimp only;omega
   ·dsimp only;omega
   ·dsimp only;omega
  ·refine Qa Tryz.func125 rfl Tryz.ntmps125 rfl (t := [(0, .ptr 0 g 0), (1, .i dd)]) rfl fun E0 hE0 => ?_
   (repeat' first|(refine Qe ?_;(first|refine QG rfl ?_|refine QJ rfl ?_|refine Qb rfl rfl rfl ?_|(refine Qo ?_;(first|refine Zz rfl rfl (by omega) ?_|refine Zp rfl rfl ?_|refine QS rfl rfl ?_))|refine Wi 0 (WG l hl _ _ _ (by omega) (by omega)) rfl rfl rfl rfl ?_|refine Wr rfl rfl ?_|(refine Wl ?_;(first|refine WR rfl rfl rfl rfl ?_|refine Q7 rfl rfl rfl rfl (by rfl) (by rfl) (by rfl) ?_))|refine Qd rfl rfl ?_|refine QQ rfl rfl ?_|refine QA rfl rfl ?_|refine QC (fun _ _ => ?_)))|(refine Qk ?_;(first|refine Qi ?_|refine QN rfl ?_|refine Q5 ?_|refine WD rfl rfl rfl rfl ?_|refine Q6 rfl rfl (by omega) ?_))|(refine Qj ?_;(first|refine Qn ?_|refine Qc ?_|refine Qf ?_|refine Qx ?_|refine Qp rfl (by omega) ?_|refine Qm rfl (by omega) ?_|refine Qs ?_)))
   exact e_1 (Tryz.results125) (QH (size := 4) rfl rfl rfl rfl) (W5 (es := 4) (.node rfl rfl rfl) (by show _ = DV.agg (Enc.enc (Nd.mk _ _ _ []));rw [QW];rfl) rfl)
 ·clear hrq hsm
  obtain ⟨hq1, hE1⟩ := hE (a + 1) (L - 1) ⟨by omega, by omega, by omega, by omega⟩
  obtain ⟨f1, d1, s1, w1, m1, u1⟩ := hq1
  generalize E (a + 1) (L - 1) = e1 at *
  obtain ⟨v1, b1, M1⟩ := e1
  dsimp only at *
  have sp1 := Wh v1
  clear hE
  refine ⟨((.mk 10 (0) (0) [v1]), b1, M1), ?_, fun g B hg => ?_⟩
  ·refine ⟨Zk ⟨4, 0, 0, 0, [4], 0, 0, 0⟩ rfl (by decide) (by decide) (by dsimp only;omega) (by dsimp only;omega) (by first|(simp;done)|(simp;omega)) (kids1 f1), ?_, ?_, ?_, ?_, ?_⟩
   ·rw [Ww];(try simp only [Wx, qG, qT]);omega
   ·rw [Qu];(try simp only [QT]);omega
   ·dsimp only;omega
   ·dsimp only;omega
   ·dsimp only;omega
  ·refine Qa Tryz.func125 rfl Tryz.ntmps125 rfl (t := [(0, .ptr 0 g 0), (1, .i dd)]) rfl fun E0 hE0 => ?_
   (repeat' first|(refine Qe ?_;(first|refine QG rfl ?_|refine QJ rfl ?_|refine Qb rfl rfl rfl ?_|(refine Qo ?_;(first|refine s_sub_as2 rfl rfl hd1 ⟨by omega, by omega⟩ ?_|refine Zz rfl rfl (by omega) ?_|refine Zp rfl rfl ?_|refine QS rfl rfl ?_))|(refine Qq ?_;(first|refine Wi 0 (WG l hl _ _ _ (by omega) (by omega)) rfl rfl rfl rfl ?_|refine Wi 0 (hE1) rfl rfl rfl rfl ?_))|refine Wr rfl rfl ?_|(refine Wl ?_;(first|refine WR rfl rfl rfl rfl ?_|refine Q7 rfl rfl rfl rfl (by rfl) (by rfl) (by rfl) ?_))|refine Wc (z := v1) rfl rfl (by decide) ?_|refine Qd rfl rfl ?_|refine QQ rfl rfl ?_|refine QA rfl rfl ?_|refine QC (fun _ _ => ?_)))|(refine Qk ?_;(first|refine Qi ?_|refine QN rfl ?_|refine Q5 ?_|refine WD rfl rfl rfl rfl ?_|refine Q6 rfl rfl (by omega) ?_))|(refine Qj ?_;(first|refine Qn ?_|refine Qc ?_|refine Qf ?_|refine Qx ?_|refine Qp rfl (by omega) ?_|refine Qm rfl (by omega) ?_|refine Qs ?_)))
   refine e_1 (Tryz.results125) (QH (size := 4) rfl rfl rfl rfl) ?_
   rw [QW]
   exact c_ce (by first|rfl|(simp [QR, Ws];try rfl)) rfl
 ·have hS1 := hsm (a + 1 + 1) (L - 1) ⟨by omega, by omega, by omega, by omega⟩ (by omega) (by omega)
  have hb := Q9 l (a + 1 + 1) (most := 4) (by decide)
  obtain ⟨N, hN⟩ : ∃ N : Nat, atI l (a + 1 + 1) 4 = (N : Int) := ⟨(atI l (a + 1 + 1) 4).toNat, by omega⟩
  rw [hN, show ((N : Int)).toNat = N by omega] at hS1
  have hq := hrq N (a + 1 + 1 + 1) (L - 1) (by omega) ⟨by omega, by omega, by omega, by omega⟩ (by omega)
  have hln := runM_len E N (a + 1 + 1 + 1) (L - 1)
  obtain ⟨f1, d1, s1, w1, m1, u1⟩ := hq
  generalize runM E N (a + 1 + 1 + 1) (L - 1) = T at *
  obtain ⟨ks, b1, M1⟩ := T
  dsimp only at *
  have hdl := depthL_le d1
  rw [show (d : Int) + 1 = dd by omega] at hS1
  clear hE hrq hsm
  refine ⟨((.mk 11 (atI l (a + 1) 6) (0) ks), b1, M1), ?_, fun g B hg => ?_⟩
  ·refine ⟨Zk ⟨4, 0, 5, 0, [], 3, 0, 4⟩ rfl (by decide) (by decide) (by dsimp only;omega) (by dsimp only;omega) (by first|(simp;done)|(simp;omega)) (kidsA rfl f1), ?_, ?_, ?_, ?_, ?_⟩
   ·rw [Ww];(try simp only [Wx, qG, qT]);omega
   ·rw [Qu];(try simp only [QT]);omega
   ·dsimp only;omega
   ·dsimp only;omega
   ·dsimp only;omega
  ·refine Qa Tryz.func125 rfl Tryz.ntmps125 rfl (t := [(0, .ptr 0 g 0), (1, .i dd)]) rfl fun E0 hE0 => ?_
   (repeat' first|(refine Qe ?_;(first|refine QG rfl ?_|refine QJ rfl ?_|refine Qb rfl rfl rfl ?_|(refine Qo ?_;(first|refine Zz rfl rfl (by omega) ?_|refine Zp rfl rfl ?_|refine QS rfl rfl ?_))|(refine Qq ?_;(first|refine Wi 0 (WG l hl _ _ _ (by omega) (by omega)) rfl rfl rfl rfl ?_|refine Wi 0 (hS1) rfl rfl rfl rfl ?_))|refine Wr rfl rfl ?_|(refine Wl ?_;(first|refine WR rfl rfl rfl rfl ?_|refine Q7 rfl rfl rfl rfl (by rfl) (by rfl) (by rfl) ?_))|refine Qd rfl rfl ?_|refine QQ rfl rfl ?_|refine QA rfl rfl ?_|refine QC (fun _ _ => ?_)))|(refine Qk ?_;(first|refine Qi ?_|refine QN rfl ?_|refine Q5 ?_|refine WD rfl rfl rfl rfl ?_|refine Q6 rfl rfl (by omega) ?_))|(refine Qj ?_;(first|refine Qn ?_|refine Qc ?_|refine Qf ?_|refine Qx ?_|refine Qp rfl (by omega) ?_|refine Qm rfl (by omega) ?_|refine Qs ?_)))
   refine e_1 (Tryz.results125) (QH (size := 4) rfl rfl rfl rfl) ?_
   rw [QW]
   exact c_ce (by first|rfl|(simp [QR, Ws];try rfl)) rfl
 ·clear hrq hsm
  obtain ⟨hq1, hE1⟩ := hE (a + 1 + 1) (L - 1) ⟨by omega, by omega, by omega, by omega⟩
  obtain ⟨f1, d1, s1, w1, m1, u1⟩ := hq1
  generalize E (a + 1 + 1) (L - 1) = e1 at *
  obtain ⟨v1, b1, M1⟩ := e1
  dsimp only at *
  have sp1 := Wh v1
  obtain ⟨hq2, hE2⟩ := hE (b1) (M1) ⟨by omega, by omega, by omega, by omega⟩
  obtain ⟨f2, d2, s2, w2, m2, u2⟩ := hq2
  generalize E (b1) (M1) = e2 at *
  obtain ⟨v2, b2, M2⟩ := e2
  dsimp only at *
  have sp2 := Wh v2
  clear hE
  refine ⟨((.mk 9 (atI l (a + 1) 14) (0) [v1, v2]), b2, M2), ?_, fun g B hg => ?_⟩
  ·refine ⟨Zk ⟨4, 0, 13, 0, [4, 4], 0, 0, 0⟩ rfl (by decide) (by decide) (by dsimp only;omega) (by dsimp only;omega) (by first|(simp;done)|(simp;omega)) (kids2 f1 f2), ?_, ?_, ?_, ?_, ?_⟩
   ·rw [Ww];(try simp only [Wx, qG, qT]);omega
   ·rw [Qu];(try simp only [QT]);omega
   ·dsimp only;omega
   ·dsimp only;omega
   ·dsimp only;omega
  ·refine Qa Tryz.func125 rfl Tryz.ntmps125 rfl (t := [(0, .ptr 0 g 0), (1, .i dd)]) rfl fun E0 hE0 => ?_
   (repeat' first|(refine Qe ?_;(first|refine QG rfl ?_|refine QJ rfl ?_|refine Qb rfl rfl rfl ?_|(refine Qo ?_;(first|refine s_sub_as2 rfl rfl hd1 ⟨by omega, by omega⟩ ?_|refine Zz rfl rfl (by omega) ?_|refine Zp rfl rfl ?_|refine QS rfl rfl ?_))|(refine Qq ?_;(first|refine Wi 0 (WG l hl _ _ _ (by omega) (by omega)) rfl rfl rfl rfl ?_|refine Wi 0 (hE1) rfl rfl rfl rfl ?_|refine Wi 0 (hE2) rfl rfl rfl rfl ?_))|refine Wr rfl rfl ?_|(refine Wl ?_;(first|refine WR rfl rfl rfl rfl ?_|refine Q7 rfl rfl rfl rfl (by rfl) (by rfl) (by rfl) ?_))|refine ZS (y := v1) (z := v2) rfl rfl (by decide) ?_|refine Qd rfl rfl ?_|refine QQ rfl rfl ?_|refine QA rfl rfl ?_|refine QC (fun _ _ => ?_)))|(refine Qk ?_;(first|refine Qi ?_|refine QN rfl ?_|refine Q5 ?_|refine WD rfl rfl rfl rfl ?_|refine Q6 rfl rfl (by omega) ?_))|(refine Qj ?_;(first|refine Qn ?_|refine Qc ?_|refine Qf ?_|refine Qx ?_|refine Qm rfl (by omega) ?_|refine Qs ?_)))
   refine e_1 (Tryz.results125) (QH (size := 4) rfl rfl rfl rfl) ?_
   rw [QW]
   exact c_ce (by first|rfl|(simp [QR, Ws];try rfl)) rfl
end Go.Proofs
end
section
namespace Go.Av
open Classical
theorem spliceD_mid : ∀ (l1 l rest : List DV) (d : DV) (ds : List DV), l.length = (d :: ds).length -> Zs (l1 ++ (l ++ rest)) l1.length (d :: ds) = some (l1 ++ ((d :: ds) ++ rest))
 | [], l, rest, d, ds, h => spliceD_pre l (d :: ds) rest h
 | x :: r, l, rest, d, ds, h => by
  have ih := spliceD_mid r l rest d ds h
  show (match Zs (r ++ (l ++ rest)) r.length (d :: ds) with|some r' => some (x :: r')|none => none) = _
  rw [ih];rfl
theorem fill_three {zs : List Value} {cs ds es : List DV} {n : Nat} (h1 : zs.length = n) (h2 : cs.length = n) (h3 : ds.length = n) (h4 : es.length = n) (h0 : 0 < n) : fillD (fun i => some (i * n, n)) (WV zs 3) [(0, .agg cs), (1, .agg ds), (2, .agg es)] = some (cs ++ (ds ++ es)) := by
 have hz : WV zs 3 = WV zs 1 ++ (WV zs 1 ++ WV zs 1) := by simp [WV, List.replicate]
 have hz1 : (WV zs 1).length = n := by rw [qI, h1];omega
 cases cs with
 | nil => simp at h2;omega
 | cons e r =>
 cases ds with
 | nil => simp at h3;omega
 | cons e2 r2 =>
 cases es with
 | nil => simp at h4;omega
 | cons e3 r3 =>
  have hb : Nat.beq (e :: r).length n = true := by rw [h2];exact Nat.beq_refl n
  have hb2 : Nat.beq (e2 :: r2).length n = true := by rw [h3];exact Nat.beq_refl n
  have hb3 : Nat.beq (e3 :: r3).length n = true := by rw [h4];exact Nat.beq_refl n
  have s1 : Zs (WV zs 1 ++ (WV zs 1 ++ WV zs 1)) 0 (e :: r) = some ((e :: r) ++ (WV zs 1 ++ WV zs 1)) := spliceD_pre (WV zs 1) (e :: r) _ (by rw [hz1, h2])
  have s2 : Zs ((e :: r) ++ (WV zs 1 ++ WV zs 1)) n (e2 :: r2) = some ((e :: r) ++ ((e2 :: r2) ++ WV zs 1)) := by
   have := spliceD_mid (e :: r) (WV zs 1) (WV zs 1) e2 r2 (by rw [hz1, h3])
   rwa [h2] at this
  have s3 : Zs ((e :: r) ++ ((e2 :: r2) ++ WV zs 1)) (2 * n) (e3 :: r3) = some ((e :: r) ++ ((e2 :: r2) ++ (e3 :: r3))) := by
   have := spliceD_at ((e :: r) ++ (e2 :: r2)) (WV zs 1) e3 r3 (by rw [hz1, h4])
   rw [List.append_assoc, List.append_assoc, List.length_append, h2, h3, show n + n = 2 * n by omega] at this
   exact this
  rw [hz]
  simp only [fillD, dcells, hb, hb2, hb3, Nat.zero_mul, Nat.one_mul, s1, s2, s3]
  exact qM _
theorem s_bslice_three {P : Program} {G : Nat -> DV} {B : Nat} {f : Operand -> DV} {σ : List ABlk} {K : DV -> List ABlk -> Prop} {dst : Option Tmp} {type : TypeId} {pos : String} {after : Array Edge} {gd : Option (Nat × Bool)} {α : Type} [Enc α] {x y z : α} {t e : Nat} {g1 g2 : Bool} {z1 : Nat} {td : TypeDesc} {zs : List Value} {ps : List (Nat × Operand)} [ht : TyI P t (.slice e) g1 z1] [he : TyI P e td g2 (Enc.es α)] [hz : TyZ P e zs] (hzl : zs.length = Enc.es α) (hp : qS f ps = some [(0, .agg (Enc.enc x)), (1, .agg (Enc.enc y)), (2, .agg (Enc.enc z))]) (hn : 3 * Enc.es α <= 16777216)
  (k : K (QR [x, y, z]) σ) : OpSem P G B ⟨dst, .buildSlice t 3 ps.toArray, type, pos, after, gd⟩ f σ K := by
 refine W1 hzl hp hn (fill_three hzl (Enc.len x) (Enc.len y) (Enc.len z) Enc.pos) ?_
 have e1 : QR [x, y, z] = .sl (Enc.es α) (Enc.enc x ++ (Enc.enc y ++ Enc.enc z)) := by simp [QR, Ws]
 rwa [<- e1]
end Go.Av
end
