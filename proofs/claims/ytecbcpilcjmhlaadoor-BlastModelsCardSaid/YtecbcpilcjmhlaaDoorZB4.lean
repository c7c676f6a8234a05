/-
  Part 4 of the proof: B13 Ct4 Ct5 Ct6a Ct6b Ct6c Ct9a Ct9b Ct10 Ct29 Ctx Ctb CtJ CtV M3 E5 E6 E7.
-/
import Derived.Test.YtecbcpilcjmhlaaDoorZB1
import Derived.Test.YtecbcpilcjmhlaaDoorZB2
import Derived.Test.YtecbcpilcjmhlaaDoorZB3
set_option linter.unusedSimpArgs false
set_option linter.unusedVariables false
set_option maxRecDepth 10000
set_option maxHeartbeats 4000000
section
namespace Go.Proofs
open Go.Av
variable {G : Nat -> DV}
attribute [local irreducible] OpSem WE WY W0 ACalls ZE QV RV
open Go.Bl
def WF (k n m : Int) (l : List Int) (M : List (Int × Int)) : Int × List (Int × Int) :=
 if k = 4 then (if l = [] /\ -8 <= n /\ n <= 7 then 0 else -1, M)
 else if k = 5 then (if l = [] /\ (n = 0 \/ n = 1) then 1 else -1, M)
 else if k = 6 then (if l = [] /\ 0 <= n /\ n <= 63 /\ (m = 0 \/ m = 1) then (if (W7 M n).isSome = true /\ (W7 M n).getD 0 ≠ m then (-1, M) else (m, putI M n m)) else (-1, M))
 else if k = 9 then (if 0 <= n /\ n < 12 /\ l = [0, 0] then (if truthM n = true then 1 else 0) else if (n = 12 \/ n = 13) /\ l = [1, 1] then 1 else -1, M)
 else if k = 10 then (if n = 0 /\ l = [1] then 1 else -1, M)
 else if k = 29 then (if n = 0 /\ l.length = 3 /\ l.getD 0 0 = 1 /\ l.getD 1 0 = l.getD 2 0 then l.getD 1 0 else -1, M)
 else (-1, M)
mutual
def Wt : Nd -> List (Int × Int) -> Int × List (Int × Int)
 | .mk k n m ks, M => if m ≠ 0 /\ k ≠ 6 then (-1, M) else match Wy ks M with
  | (none, M') => (-1, M')
  | (some l, M') => WF k n m l M'
def Wy : List Nd -> List (Int × Int) -> Option (List Int) × List (Int × Int)
 | [], M => (some [], M)
 | x :: r, M => if (Wt x M).1 < 0 then (none, (Wt x M).2) else match Wy r (Wt x M).2 with
  | (none, M') => (none, M')
  | (some l, M') => (some ((Wt x M).1 :: l), M')
end
theorem ctyL_snoc (x : Nd) : ∀ (a : List Nd) (M : List (Int × Int)), Wy (a ++ [x]) M = match Wy a M with
  | (none, M') => (none, M')
  | (some l, M') => if (Wt x M').1 < 0 then (none, (Wt x M').2) else (some (l ++ [(Wt x M').1]), (Wt x M').2)
 | [], M => by
  simp only [List.nil_append, Wy]
 | y :: r, M => by
  rw [List.cons_append, Wy, Wy]
  split
  ·rfl
  ·rw [ctyL_snoc x r]
   rcases Wy r (Wt y M).2 with ⟨_ | l, M'⟩
   ·rfl
   ·show _ = (if (Wt x M').1 < 0 then ((none : Option (List Int)), (Wt x M').2) else (some (((Wt y M).1 :: l) ++ [(Wt x M').1]), (Wt x M').2))
    by_cases h : (Wt x M').1 < 0
    ·simp only [if_pos h]
    ·simp only [if_neg h]; rfl
theorem ZN : ∀ (a : List Nd) (M : List (Int × Int)) (l : List Int) (M' : List (Int × Int)), Wy a M = (some l, M') -> l.length = a.length
 | [], M, l, M', h => by cases h; rfl
 | y :: r, M, l, M', h => by
  rw [Wy] at h
  split at h
  ·cases h
  ·rcases he : Wy r (Wt y M).2 with ⟨_ | l', M''⟩
   ·rw [he] at h; cases h
   ·rw [he] at h
    cases h
    rw [List.length_cons, List.length_cons, ZN r _ l' _ he]
theorem ctyL_none {a : List Nd} {M M' : List (Int × Int)} (h : Wy a M = (none, M')) (b : List Nd) : Wy (a ++ b) M = (none, M') := by
 induction a generalizing M with
 | nil => cases h
 | cons y r ih =>
  rw [List.cons_append, Wy]
  rw [Wy] at h
  split
  ·rename_i h1
   rw [if_pos h1] at h
   exact h
  ·rename_i h1
   rw [if_neg h1] at h
   rcases he : Wy r (Wt y M).2 with ⟨_ | l', M''⟩
   ·rw [he] at h
    cases h
    rw [ih he]
   ·rw [he] at h; cases h
def Q1 (ks : List Nd) (M : List (Int × Int)) (i : Nat) : List Int := ((Wy (ks.take i) M).1.getD []) ++ List.replicate (ks.length - i) 0
theorem Zw {ks : List Nd} {M : List (Int × Int)} {i : Nat} (hi : i <= ks.length) (h : (Wy (ks.take i) M).1.isSome = true) : (Q1 ks M i).length = ks.length := by
 unfold Q1
 rcases he : Wy (ks.take i) M with ⟨_ | l, M'⟩
 ·rw [he] at h; cases h
 ·have := ZN _ _ _ _ he
  rw [List.length_take] at this
  simp; omega
theorem ZS {ks : List Nd} {M : List (Int × Int)} {i : Nat} (hi : i < ks.length) (h : (Wy (ks.take i) M).1.isSome = true) :
  ((Wt ks[i] (Wy (ks.take i) M).2).1 < 0 -> Wy ks M = (none, (Wt ks[i] (Wy (ks.take i) M).2).2)) /\
  (¬ (Wt ks[i] (Wy (ks.take i) M).2).1 < 0 -> (Wy (ks.take (i + 1)) M).1.isSome = true /\ (Wy (ks.take (i + 1)) M).2 = (Wt ks[i] (Wy (ks.take i) M).2).2 /\ Q1 ks M (i + 1) = (Q1 ks M i).set i (Wt ks[i] (Wy (ks.take i) M).2).1) := by
 have hs := ctyL_snoc ks[i] (ks.take i) M
 rw [<- List.take_succ_eq_append_getElem hi] at hs
 rcases he : Wy (ks.take i) M with ⟨_ | l, M'⟩
 ·rw [he] at h; cases h
 rw [he] at hs
 have hs : Wy (ks.take (i + 1)) M = if (Wt ks[i] M').1 < 0 then (none, (Wt ks[i] M').2) else (some (l ++ [(Wt ks[i] M').1]), (Wt ks[i] M').2) := hs
 constructor
 ·intro hn
  rw [if_pos hn] at hs
  have := ctyL_none hs (ks.drop (i + 1))
  rwa [List.take_append_drop] at this
 ·intro hn
  rw [if_neg hn] at hs
  have hl := ZN _ _ _ _ he
  rw [List.length_take, Nat.min_eq_left (by omega)] at hl
  refine ⟨by rw [hs]; rfl, by rw [hs], ?_⟩
  unfold Q1
  rw [hs, he]
  simp only [Option.getD_some]
  rw [show ks.length - i = (ks.length - (i + 1)) + 1 by omega, List.replicate_succ, List.append_assoc]
  subst hl
  rw [List.set_append_right _ _ (Nat.le_refl _)]
  simp
theorem Zg : ∀ n : Nat, WP [Value.int .i64 0] n = Qq (List.replicate n (0 : Int))
 | 0 => rfl
 | n + 1 => by
  rw [List.replicate_succ, WD, <- Zg n]
  rfl
theorem ctypes_4 (hG : G 0 = opsD) (n : Int) (ks : List Nd)  (ih : ∀ x ∈ ks, Fit x -> ∀ M : List (Int × Int), TM Tryd.prog G 64 (fun g => [.mp 0 g, .agg (Enc.enc x)]) M (.i (Wt x M).1) (Wt x M).2) (hfit : Fit (.mk 4 n 0 ks)) (M : List (Int × Int)) :
  TM Tryd.prog G 64 (fun g => [.mp 0 g, .agg (Enc.enc (Nd.mk 4 n 0 ks))]) M (.i (Wt (.mk 4 n 0 ks) M).1) (Wt (.mk 4 n 0 ks) M).2 := by
 intro g B b1
 have hks := hfit.len
 rw [We]
 refine Qb Tryd.func64 rfl Tryd.ntmps64 rfl (t := [(0, .mp 0 g), (1, .agg [.i 4, .i n, .i 0, Qy ks])]) rfl fun E hE => ?_
 have hM : Wt (.mk 4 n 0 ks) M = (match Wy ks M with | (none, M') => (-1, M') | (some l, M') => WF 4 n 0 l M') := by (rw [Wt, if_neg (fun h => h.1 rfl)]; try rfl)
 have hz : WP [Value.int .i64 0] (ks.length : Int).toNat = Qq (Q1 ks M 0) := by
  show _ = Qq (List.replicate ks.length (0 : Int))
  rw [show (ks.length : Int).toNat = ks.length from rfl]
  exact Zg _
 (repeat' first | refine Qt rfl ?_ | refine Qv rfl ?_ | refine Qc rfl rfl rfl ?_ | refine W6 rfl rfl ?_ | refine Qn rfl ?_ | refine Wk rfl rfl ?_ | refine Qd rfl rfl ?_ | refine s_make rfl rfl rfl (by omega) (by omega) (by omega) (by omega) (fun _ _ => ?_) | refine Q5 rfl rfl (fun _ _ => ?_) | refine Qe ?_ | refine Qp rfl ?_ | refine WO rfl rfl rfl rfl ?_ | refine Qf ?_ | (refine QI [0, 1, 2, 3, 4, 5, 6, 7, 8, 9, 23, 24, 25] rfl ?_; refine Qa ?_) | refine Qg ?_ | refine Qj ?_ | refine Qi rfl ?_)
 all_goals
  rename_i gt hgt gk hgk
  refine Wi (fun (i : Nat) => ⟨[(0, .mp 0 g), (3, .ptr 1 gt 0), (5, .ref 2 gk 0 ks.length (Enc.es Int)), (23, Qy ks), (24, .i ks.length), (25, .i i)], [.mapb g (Wg (Zq (Wy (ks.take i) M).2)), .row gt [.i 4, .i n, .i 0, Qy ks], .row gk (Qq (Q1 ks M i))]⟩) (fun i => i <= ks.length /\ (Wy (ks.take i) M).1.isSome = true) (fun i => ks.length - i) 0 ?_ ⟨by omega, rfl⟩ ?_
  ·rw [<- hz]
   exact zal rfl
  intro i ⟨hi, hok⟩
  have hkl := Zw hi hok
  (repeat' first | refine QG rfl rfl ?_ | refine Qe ?_ | refine Qp rfl ?_ | refine Qf ?_ | (refine QI [0, 1, 2, 3, 4, 5, 6, 7, 8, 9, 23, 24, 25] rfl ?_; refine Qa ?_))
  refine QE rfl (fun h => ?_) (fun h => ?_)
  ·have hil : i < ks.length := by omega
   have htm := ih _ (List.getElem_mem hil) (hfit.kids _ (List.getElem_mem hil)) (Wy (ks.take i) M).2
   obtain ⟨hst1, hst2⟩ := ZS hil hok
   have hik : i < (Q1 ks M i).length := by omega
   have hik2 : i < ((Q1 ks M i).set i (Wt ks[i] (Wy (ks.take i) M).2).1).length := by rw [List.length_set]; omega
   have hget : ((Q1 ks M i).set i (Wt ks[i] (Wy (ks.take i) M).2).1)[i] = (Wt ks[i] (Wy (ks.take i) M).2).1 := List.getElem_set_self ..
   clear ih hfit hz
   (repeat' first | refine Qt rfl ?_ | refine Qv rfl ?_ | refine Qu rfl rfl (by first | exact Enc.len _ | rfl) ?_ | refine QM rfl ?_ | refine Q9 rfl rfl rfl (by first | assumption | omega) rfl ?_ | refine Qo rfl rfl (by first | assumption | omega | (simp; done) | (simp; omega)) ?_ | refine WK rfl rfl rfl (by omega) ?_ | refine QG rfl rfl ?_ | refine s_ctm 0 (htm) rfl rfl rfl ?_ | refine Ql rfl rfl rfl (by first | exact Enc.len _ | rfl) (by first | exact Enc.len _ | rfl) (by rfl) ?_ | refine Q2 rfl rfl rfl rfl rfl (by first | assumption | omega) rfl ?_ | refine QJ (fun _ _ => ?_) | refine Qe ?_ | refine Qp rfl ?_ | refine Q0 ?_ | refine Qf ?_ | (refine QI [0, 1, 2, 3, 4, 5, 6, 7, 8, 9, 23, 24, 25] rfl ?_; refine Qa ?_) | refine Qg ?_ | refine Qj ?_)
   refine QE rfl (fun hn => ?_) (fun hn => ?_)
   ·rw [hget] at hn
    rw [hM, hst1 hn]
    (repeat' first | refine Qv rfl ?_ | refine Qe ?_ | refine Qp rfl ?_ | refine Qf ?_ | (refine QI [0, 1, 2, 3, 4, 5, 6, 7, 8, 9, 23, 24, 25] rfl ?_; refine Qa ?_) | refine Qm ?_)
    exact e_1 (Tryd.results64) (Qh rfl) (QC (σ := [_]) (r := [_, _, _]) ⟨rfl, rfl⟩)
   ·rw [hget] at hn
    obtain ⟨k1, k2, k3⟩ := hst2 hn
    (repeat' first | refine Qt rfl ?_ | refine QS rfl rfl (by omega) ?_ | refine Qe ?_ | refine Qp rfl ?_ | (refine QI [0, 1, 2, 3, 4, 5, 6, 7, 8, 9, 23, 24, 25] rfl ?_; refine Qa ?_) | refine Qj ?_)
    refine ⟨i + 1, ⟨by omega, k1⟩, by omega, ?_⟩
    rw [k2, k3]
    exact zal rfl
  ·have hil : i = ks.length := by omega
   subst hil
   refine QU rfl ?_
   refine r_pub 5 rfl rfl (by rw [Qz, hkl]) rfl ?_
   rw [List.take_length] at hok ⊢
   obtain ⟨l, M', hl⟩ : ∃ l M', Wy ks M = (some l, M') := by
    rcases he : Wy ks M with ⟨_ | l, M'⟩
    ·rw [he] at hok; cases hok
    ·exact ⟨l, M', rfl⟩
   have hkt : Q1 ks M ks.length = l := by unfold Q1; rw [List.take_length, hl]; simp
   have hll := ZN _ _ _ _ hl
   rw [hl] at hM
   rw [hM, hl, hkt]
   have hM2 : (match (some l, M') with | (none, M') => (-1, M') | (some l, M') => WF 4 n 0 l M' : Int × List (Int × Int)) = WF 4 n 0 l M' := rfl
   rw [hM2]
   have hq0 := Ws (G := G) l [0, 0] (by omega) (by decide)
   have hq1 := Ws (G := G) l [1, 1] (by omega) (by decide)
   have hq2 := Ws (G := G) l [1] (by omega) (by decide)
   clear hM hM2 hkt hkl hok hz ih hl hfit
   have hnil : l.length = 0 -> l = [] := List.length_eq_zero_iff.1
   have hnil' : l = [] -> l.length = 0 := List.length_eq_zero_iff.2
   clear hq0 hq1 hq2
   by_cases hc1 : l.length = 0
   ·by_cases hc2 : -8 <= n
    ·by_cases hc3 : n <= 7
     ·rw [show WF 4 n 0 l M' = (0, M') by unfold WF; rw [if_pos rfl, if_pos ⟨hnil hc1, hc2, hc3⟩]]
      (repeat' first | refine Qt rfl ?_ | refine Qv rfl ?_ | refine Qc rfl rfl rfl ?_ | refine s_leq rfl rfl ?_ | refine Wv rfl rfl ?_ | refine QH rfl rfl ?_ | refine Qn rfl ?_ | refine WR rfl rfl ?_ | refine Qd rfl rfl ?_ | refine Qe ?_ | refine Qp rfl ?_ | refine WC rfl rfl rfl rfl ?_ | refine Wm rfl rfl (by omega) ?_ | refine Qf ?_ | (refine QI [0, 1, 2, 3, 4, 5, 6, 7, 8, 9, 23, 24, 25] rfl ?_; refine Qa ?_) | refine Qg ?_ | refine Qx rfl (by omega) ?_ | refine Qm ?_)
      all_goals exact e_1 (Tryd.results64) (Qh rfl) (QC (σ := [_]) (r := [_, _]) ⟨rfl, rfl⟩)
     ·rw [show WF 4 n 0 l M' = (-1, M') by unfold WF; rw [if_pos rfl, if_neg (fun h => hc3 h.2.2)]]
      (repeat' first | refine Qt rfl ?_ | refine Qv rfl ?_ | refine Qc rfl rfl rfl ?_ | refine s_leq rfl rfl ?_ | refine Wv rfl rfl ?_ | refine QH rfl rfl ?_ | refine Qn rfl ?_ | refine WR rfl rfl ?_ | refine Wk rfl rfl ?_ | refine Qd rfl rfl ?_ | refine x_gn rfl rfl rfl rfl ?_ | refine Qe ?_ | refine Qp rfl ?_ | refine WC rfl rfl rfl rfl ?_ | refine WO rfl rfl rfl rfl ?_ | refine o_gu rfl rfl rfl rfl rfl ?_ | refine Wm rfl rfl (by omega) ?_ | refine Qf ?_ | (refine QI [0, 1, 2, 3, 4, 5, 6, 7, 8, 9, 23, 24, 25] rfl ?_; refine Qa ?_) | refine Qg ?_ | (refine Wa ?_; refine QI [0, 1, 2, 3, 4, 5, 6, 7, 8, 9, 23, 24, 25] rfl ?_; first | refine WA (by rfl) (by kernel_rfl) (by kernel_rfl) rfl ?_ | refine QT (by kernel_rfl) (by kernel_rfl) ?_) | refine Qj ?_ | refine Qi rfl ?_ | refine QD rfl (by omega) ?_ | refine Qm ?_ | refine x_op rfl (by (repeat' first | refine Qt rfl ?_ | refine Qv rfl ?_ | refine Qc rfl rfl rfl ?_ | refine QH rfl rfl ?_ | refine Wk rfl rfl ?_ | refine Qd rfl rfl ?_ | exact ⟨rfl, rfl⟩)) ?_ | refine Zm ?_)
      all_goals exact e_1 (Tryd.results64) (Qh rfl) (QC (σ := [_]) (r := [_, _]) ⟨rfl, rfl⟩)
    ·rw [show WF 4 n 0 l M' = (-1, M') by unfold WF; rw [if_pos rfl, if_neg (fun h => hc2 h.2.1)]]
     (repeat' first | refine Qt rfl ?_ | refine Qv rfl ?_ | refine Qc rfl rfl rfl ?_ | refine Wv rfl rfl ?_ | refine QH rfl rfl ?_ | refine Qn rfl ?_ | refine WR rfl rfl ?_ | refine Wk rfl rfl ?_ | refine Qd rfl rfl ?_ | refine x_gn rfl rfl rfl rfl ?_ | refine Qe ?_ | refine Qp rfl ?_ | refine WC rfl rfl rfl rfl ?_ | refine WO rfl rfl rfl rfl ?_ | refine o_gu rfl rfl rfl rfl rfl ?_ | refine Wm rfl rfl (by omega) ?_ | refine Wn rfl rfl (by omega) ?_ | refine Qf ?_ | (refine QI [0, 1, 2, 3, 4, 5, 6, 7, 8, 9, 23, 24, 25] rfl ?_; refine Qa ?_) | refine Qg ?_ | (refine Wa ?_; refine QI [0, 1, 2, 3, 4, 5, 6, 7, 8, 9, 23, 24, 25] rfl ?_; first | refine WA (by rfl) (by kernel_rfl) (by kernel_rfl) rfl ?_ | refine QT (by kernel_rfl) (by kernel_rfl) ?_) | refine Qj ?_ | refine Qi rfl ?_ | refine Qm ?_ | refine x_op rfl (by (repeat' first | refine Qt rfl ?_ | refine Qv rfl ?_ | refine Qc rfl rfl rfl ?_ | refine QH rfl rfl ?_ | refine Wk rfl rfl ?_ | refine Qd rfl rfl ?_ | exact ⟨rfl, rfl⟩)) ?_ | refine Zm ?_)
     all_goals exact e_1 (Tryd.results64) (Qh rfl) (QC (σ := [_]) (r := [_, _]) ⟨rfl, rfl⟩)
   ·rw [show WF 4 n 0 l M' = (-1, M') by unfold WF; rw [if_pos rfl, if_neg (fun h => hc1 (hnil' h.1))]]
    (repeat' first | refine Qt rfl ?_ | refine Qv rfl ?_ | refine Qc rfl rfl rfl ?_ | refine QH rfl rfl ?_ | refine Qn rfl ?_ | refine WR rfl rfl ?_ | refine Wk rfl rfl ?_ | refine Qd rfl rfl ?_ | refine x_gn rfl rfl rfl rfl ?_ | refine Qe ?_ | refine Qp rfl ?_ | refine WC rfl rfl rfl rfl ?_ | refine WO rfl rfl rfl rfl ?_ | refine o_gu rfl rfl rfl rfl rfl ?_ | refine Wn rfl rfl (by omega) ?_ | refine Qf ?_ | (refine QI [0, 1, 2, 3, 4, 5, 6, 7, 8, 9, 23, 24, 25] rfl ?_; refine Qa ?_) | refine Qg ?_ | (refine Wa ?_; refine QI [0, 1, 2, 3, 4, 5, 6, 7, 8, 9, 23, 24, 25] rfl ?_; first | refine WA (by rfl) (by kernel_rfl) (by kernel_rfl) rfl ?_ | refine QT (by kernel_rfl) (by kernel_rfl) ?_) | refine Qj ?_ | refine Qi rfl ?_ | refine Qm ?_ | refine x_op rfl (by (repeat' first | refine Qt rfl ?_ | refine Qv rfl ?_ | refine Qc rfl rfl rfl ?_ | refine QH rfl rfl ?_ | refine Wk rfl rfl ?_ | refine Qd rfl rfl ?_ | exact ⟨rfl, rfl⟩)) ?_ | refine Zm ?_)
    all_goals exact e_1 (Tryd.results64) (Qh rfl) (QC (σ := [_]) (r := [_, _]) ⟨rfl, rfl⟩)
theorem ctypes_5 (hG : G 0 = opsD) (n : Int) (ks : List Nd)  (ih : ∀ x ∈ ks, Fit x -> ∀ M : List (Int × Int), TM Tryd.prog G 64 (fun g => [.mp 0 g, .agg (Enc.enc x)]) M (.i (Wt x M).1) (Wt x M).2) (hfit : Fit (.mk 5 n 0 ks)) (M : List (Int × Int)) :
  TM Tryd.prog G 64 (fun g => [.mp 0 g, .agg (Enc.enc (Nd.mk 5 n 0 ks))]) M (.i (Wt (.mk 5 n 0 ks) M).1) (Wt (.mk 5 n 0 ks) M).2 := by
 intro g B b1
 have hks := hfit.len
 rw [We]
 refine Qb Tryd.func64 rfl Tryd.ntmps64 rfl (t := [(0, .mp 0 g), (1, .agg [.i 5, .i n, .i 0, Qy ks])]) rfl fun E hE => ?_
 have hM : Wt (.mk 5 n 0 ks) M = (match Wy ks M with | (none, M') => (-1, M') | (some l, M') => WF 5 n 0 l M') := by (rw [Wt, if_neg (fun h => h.1 rfl)]; try rfl)
 have hz : WP [Value.int .i64 0] (ks.length : Int).toNat = Qq (Q1 ks M 0) := by
  show _ = Qq (List.replicate ks.length (0 : Int))
  rw [show (ks.length : Int).toNat = ks.length from rfl]
  exact Zg _
 (repeat' first | refine Qt rfl ?_ | refine Qv rfl ?_ | refine Qc rfl rfl rfl ?_ | refine W6 rfl rfl ?_ | refine Qn rfl ?_ | refine Wk rfl rfl ?_ | refine Qd rfl rfl ?_ | refine s_make rfl rfl rfl (by omega) (by omega) (by omega) (by omega) (fun _ _ => ?_) | refine Q5 rfl rfl (fun _ _ => ?_) | refine Qe ?_ | refine Qp rfl ?_ | refine WO rfl rfl rfl rfl ?_ | refine Qf ?_ | (refine QI [0, 1, 2, 3, 4, 5, 6, 7, 8, 9, 23, 24, 25] rfl ?_; refine Qa ?_) | refine Qg ?_ | refine Qj ?_ | refine Qi rfl ?_)
 all_goals
  rename_i gt hgt gk hgk
  refine Wi (fun (i : Nat) => ⟨[(0, .mp 0 g), (3, .ptr 1 gt 0), (5, .ref 2 gk 0 ks.length (Enc.es Int)), (23, Qy ks), (24, .i ks.length), (25, .i i)], [.mapb g (Wg (Zq (Wy (ks.take i) M).2)), .row gt [.i 5, .i n, .i 0, Qy ks], .row gk (Qq (Q1 ks M i))]⟩) (fun i => i <= ks.length /\ (Wy (ks.take i) M).1.isSome = true) (fun i => ks.length - i) 0 ?_ ⟨by omega, rfl⟩ ?_
  ·rw [<- hz]
   exact zal rfl
  intro i ⟨hi, hok⟩
  have hkl := Zw hi hok
  (repeat' first | refine QG rfl rfl ?_ | refine Qe ?_ | refine Qp rfl ?_ | refine Qf ?_ | (refine QI [0, 1, 2, 3, 4, 5, 6, 7, 8, 9, 23, 24, 25] rfl ?_; refine Qa ?_))
  refine QE rfl (fun h => ?_) (fun h => ?_)
  ·have hil : i < ks.length := by omega
   have htm := ih _ (List.getElem_mem hil) (hfit.kids _ (List.getElem_mem hil)) (Wy (ks.take i) M).2
   obtain ⟨hst1, hst2⟩ := ZS hil hok
   have hik : i < (Q1 ks M i).length := by omega
   have hik2 : i < ((Q1 ks M i).set i (Wt ks[i] (Wy (ks.take i) M).2).1).length := by rw [List.length_set]; omega
   have hget : ((Q1 ks M i).set i (Wt ks[i] (Wy (ks.take i) M).2).1)[i] = (Wt ks[i] (Wy (ks.take i) M).2).1 := List.getElem_set_self ..
   clear ih hfit hz
   (repeat' first | refine Qt rfl ?_ | refine Qv rfl ?_ | refine Qu rfl rfl (by first | exact Enc.len _ | rfl) ?_ | refine QM rfl ?_ | refine Q9 rfl rfl rfl (by first | assumption | omega) rfl ?_ | refine Qo rfl rfl (by first | assumption | omega | (simp; done) | (simp; omega)) ?_ | refine WK rfl rfl rfl (by omega) ?_ | refine QG rfl rfl ?_ | refine s_ctm 0 (htm) rfl rfl rfl ?_ | refine Ql rfl rfl rfl (by first | exact Enc.len _ | rfl) (by first | exact Enc.len _ | rfl) (by rfl) ?_ | refine Q2 rfl rfl rfl rfl rfl (by first | assumption | omega) rfl ?_ | refine QJ (fun _ _ => ?_) | refine Qe ?_ | refine Qp rfl ?_ | refine Q0 ?_ | refine Qf ?_ | (refine QI [0, 1, 2, 3, 4, 5, 6, 7, 8, 9, 23, 24, 25] rfl ?_; refine Qa ?_) | refine Qg ?_ | refine Qj ?_)
   refine QE rfl (fun hn => ?_) (fun hn => ?_)
   ·rw [hget] at hn
    rw [hM, hst1 hn]
    (repeat' first | refine Qv rfl ?_ | refine Qe ?_ | refine Qp rfl ?_ | refine Qf ?_ | (refine QI [0, 1, 2, 3, 4, 5, 6, 7, 8, 9, 23, 24, 25] rfl ?_; refine Qa ?_) | refine Qm ?_)
    exact e_1 (Tryd.results64) (Qh rfl) (QC (σ := [_]) (r := [_, _, _]) ⟨rfl, rfl⟩)
   ·rw [hget] at hn
    obtain ⟨k1, k2, k3⟩ := hst2 hn
    (repeat' first | refine Qt rfl ?_ | refine QS rfl rfl (by omega) ?_ | refine Qe ?_ | refine Qp rfl ?_ | (refine QI [0, 1, 2, 3, 4, 5, 6, 7, 8, 9, 23, 24, 25] rfl ?_; refine Qa ?_) | refine Qj ?_)
    refine ⟨i + 1, ⟨by omega, k1⟩, by omega, ?_⟩
    rw [k2, k3]
    exact zal rfl
  ·have hil : i = ks.length := by omega
   subst hil
   refine QU rfl ?_
   refine r_pub 5 rfl rfl (by rw [Qz, hkl]) rfl ?_
   rw [List.take_length] at hok ⊢
   obtain ⟨l, M', hl⟩ : ∃ l M', Wy ks M = (some l, M') := by
    rcases he : Wy ks M with ⟨_ | l, M'⟩
    ·rw [he] at hok; cases hok
    ·exact ⟨l, M', rfl⟩
   have hkt : Q1 ks M ks.length = l := by unfold Q1; rw [List.take_length, hl]; simp
   have hll := ZN _ _ _ _ hl
   rw [hl] at hM
   rw [hM, hl, hkt]
   have hM2 : (match (some l, M') with | (none, M') => (-1, M') | (some l, M') => WF 5 n 0 l M' : Int × List (Int × Int)) = WF 5 n 0 l M' := rfl
   rw [hM2]
   have hq0 := Ws (G := G) l [0, 0] (by omega) (by decide)
   have hq1 := Ws (G := G) l [1, 1] (by omega) (by decide)
   have hq2 := Ws (G := G) l [1] (by omega) (by decide)
   clear hM hM2 hkt hkl hok hz ih hl hfit
   have hnil : l.length = 0 -> l = [] := List.length_eq_zero_iff.1
   have hnil' : l = [] -> l.length = 0 := List.length_eq_zero_iff.2
   clear hq0 hq1 hq2
   by_cases hc1 : l.length = 0
   ·by_cases hc2 : n = 0
    ·rw [show WF 5 n 0 l M' = (1, M') by unfold WF; rw [if_neg (by decide), if_pos rfl, if_pos ⟨hnil hc1, .inl hc2⟩]]
     (repeat' first | refine Qt rfl ?_ | refine Qv rfl ?_ | refine Qc rfl rfl rfl ?_ | refine QH rfl rfl ?_ | refine Qn rfl ?_ | refine WR rfl rfl ?_ | refine Wk rfl rfl ?_ | refine Qd rfl rfl ?_ | refine Qe ?_ | refine Qp rfl ?_ | refine WC rfl rfl rfl rfl ?_ | refine WO rfl rfl rfl rfl ?_ | refine Wm rfl rfl (by omega) ?_ | refine Qf ?_ | (refine QI [0, 1, 2, 3, 4, 5, 6, 7, 8, 9, 23, 24, 25] rfl ?_; refine Qa ?_) | refine Qg ?_ | refine Qs rfl ?_ | refine Qi rfl ?_ | refine Qm ?_)
     all_goals exact e_1 (Tryd.results64) (Qh rfl) (QC (σ := [_]) (r := [_, _]) ⟨rfl, rfl⟩)
    ·by_cases hc3 : n = 1
     ·rw [show WF 5 n 0 l M' = (1, M') by unfold WF; rw [if_neg (by decide), if_pos rfl, if_pos ⟨hnil hc1, .inr hc3⟩]]
      (repeat' first | refine Qt rfl ?_ | refine Qv rfl ?_ | refine Qc rfl rfl rfl ?_ | refine QH rfl rfl ?_ | refine Qn rfl ?_ | refine WR rfl rfl ?_ | refine Wk rfl rfl ?_ | refine Qd rfl rfl ?_ | refine Qe ?_ | refine Qp rfl ?_ | refine WC rfl rfl rfl rfl ?_ | refine WO rfl rfl rfl rfl ?_ | refine Wm rfl rfl (by omega) ?_ | refine Wn rfl rfl (by omega) ?_ | refine Qf ?_ | (refine QI [0, 1, 2, 3, 4, 5, 6, 7, 8, 9, 23, 24, 25] rfl ?_; refine Qa ?_) | refine Qg ?_ | refine Qi rfl ?_ | refine Qx rfl (by omega) ?_ | refine Qm ?_)
      all_goals exact e_1 (Tryd.results64) (Qh rfl) (QC (σ := [_]) (r := [_, _]) ⟨rfl, rfl⟩)
     ·rw [show WF 5 n 0 l M' = (-1, M') by unfold WF; rw [if_neg (by decide), if_pos rfl, if_neg (fun h => h.2.elim hc2 hc3)]]
      (repeat' first | refine Qt rfl ?_ | refine Qv rfl ?_ | refine Qc rfl rfl rfl ?_ | refine QH rfl rfl ?_ | refine Qn rfl ?_ | refine WR rfl rfl ?_ | refine Wk rfl rfl ?_ | refine Qd rfl rfl ?_ | refine x_gn rfl rfl rfl rfl ?_ | refine Qe ?_ | refine Qp rfl ?_ | refine WC rfl rfl rfl rfl ?_ | refine WO rfl rfl rfl rfl ?_ | refine o_gu rfl rfl rfl rfl rfl ?_ | refine Wm rfl rfl (by omega) ?_ | refine Wn rfl rfl (by omega) ?_ | refine Qf ?_ | (refine QI [0, 1, 2, 3, 4, 5, 6, 7, 8, 9, 23, 24, 25] rfl ?_; refine Qa ?_) | refine Qg ?_ | (refine Wa ?_; refine QI [0, 1, 2, 3, 4, 5, 6, 7, 8, 9, 23, 24, 25] rfl ?_; first | refine WA (by rfl) (by kernel_rfl) (by kernel_rfl) rfl ?_ | refine QT (by kernel_rfl) (by kernel_rfl) ?_) | refine Qj ?_ | refine Qi rfl ?_ | refine QD rfl (by omega) ?_ | refine Qm ?_ | refine x_op rfl (by (repeat' first | refine Qt rfl ?_ | refine Qv rfl ?_ | refine Qc rfl rfl rfl ?_ | refine QH rfl rfl ?_ | refine Wk rfl rfl ?_ | refine Qd rfl rfl ?_ | exact ⟨rfl, rfl⟩)) ?_ | refine Zm ?_)
      all_goals exact e_1 (Tryd.results64) (Qh rfl) (QC (σ := [_]) (r := [_, _]) ⟨rfl, rfl⟩)
   ·rw [show WF 5 n 0 l M' = (-1, M') by unfold WF; rw [if_neg (by decide), if_pos rfl, if_neg (fun h => hc1 (hnil' h.1))]]
    (repeat' first | refine Qt rfl ?_ | refine Qv rfl ?_ | refine Qc rfl rfl rfl ?_ | refine QH rfl rfl ?_ | refine Qn rfl ?_ | refine WR rfl rfl ?_ | refine Wk rfl rfl ?_ | refine Qd rfl rfl ?_ | refine x_gn rfl rfl rfl rfl ?_ | refine Qe ?_ | refine Qp rfl ?_ | refine WC rfl rfl rfl rfl ?_ | refine WO rfl rfl rfl rfl ?_ | refine o_gu rfl rfl rfl rfl rfl ?_ | refine Wn rfl rfl (by omega) ?_ | refine Qf ?_ | (refine QI [0, 1, 2, 3, 4, 5, 6, 7, 8, 9, 23, 24, 25] rfl ?_; refine Qa ?_) | refine Qg ?_ | (refine Wa ?_; refine QI [0, 1, 2, 3, 4, 5, 6, 7, 8, 9, 23, 24, 25] rfl ?_; first | refine WA (by rfl) (by kernel_rfl) (by kernel_rfl) rfl ?_ | refine QT (by kernel_rfl) (by kernel_rfl) ?_) | refine Qj ?_ | refine Qi rfl ?_ | refine Qm ?_ | refine x_op rfl (by (repeat' first | refine Qt rfl ?_ | refine Qv rfl ?_ | refine Qc rfl rfl rfl ?_ | refine QH rfl rfl ?_ | refine Wk rfl rfl ?_ | refine Qd rfl rfl ?_ | exact ⟨rfl, rfl⟩)) ?_ | refine Zm ?_)
    all_goals exact e_1 (Tryd.results64) (Qh rfl) (QC (σ := [_]) (r := [_, _]) ⟨rfl, rfl⟩)
theorem s_lookup_some {P : Program} {B : Nat} {f : Operand -> DV} {σ : List ABlk} {K : DV -> List ABlk -> Prop} {dst : Option Tmp} {type : TypeId} {pos : String} {after : Array Edge} {gd : Option (Nat × Bool)} {t kt et : TypeId} {agg a1 : Bool} {size s1 : Nat} {m ix : Operand} {k g : Nat} {M : List (Int × Int)} {x v : Int} [ht : TyI P t (.map kt et) agg size] [hkt : TyI P kt (.int .i64) a1 s1] (hg : W7 M x = some v) (hm : f m = .mp k g) (hσk : σ[k]? = some (.mapb g (Wg (Zq M)))) (hx : f ix = .sc (.int .i64 x)) (hz : (P.info? et).bind (·.zero) = some (.int .i64 0))
  (kk : K (.tup [.i v, .b true]) σ) : OpSem P G B ⟨dst, .lookup t m ix true, type, pos, after, gd⟩ f σ K := qm hm hσk hx hz (by rw [hg]; exact kk)
theorem s_lookup_none {P : Program} {B : Nat} {f : Operand -> DV} {σ : List ABlk} {K : DV -> List ABlk -> Prop} {dst : Option Tmp} {type : TypeId} {pos : String} {after : Array Edge} {gd : Option (Nat × Bool)} {t kt et : TypeId} {agg a1 : Bool} {size s1 : Nat} {m ix : Operand} {k g : Nat} {M : List (Int × Int)} {x : Int} [ht : TyI P t (.map kt et) agg size] [hkt : TyI P kt (.int .i64) a1 s1] (hg : W7 M x = none) (hm : f m = .mp k g) (hσk : σ[k]? = some (.mapb g (Wg (Zq M)))) (hx : f ix = .sc (.int .i64 x)) (hz : (P.info? et).bind (·.zero) = some (.int .i64 0))
  (kk : K (.tup [.i 0, .b false]) σ) : OpSem P G B ⟨dst, .lookup t m ix true, type, pos, after, gd⟩ f σ K := qm hm hσk hx hz (by rw [hg]; exact kk)
theorem ctypes_6a (hG : G 0 = opsD) (n m : Int) (ks : List Nd) (hm : m = 0) (ih : ∀ x ∈ ks, Fit x -> ∀ M : List (Int × Int), TM Tryd.prog G 64 (fun g => [.mp 0 g, .agg (Enc.enc x)]) M (.i (Wt x M).1) (Wt x M).2) (hfit : Fit (.mk 6 n m ks)) (M : List (Int × Int)) :
  TM Tryd.prog G 64 (fun g => [.mp 0 g, .agg (Enc.enc (Nd.mk 6 n m ks))]) M (.i (Wt (.mk 6 n m ks) M).1) (Wt (.mk 6 n m ks) M).2 := by
 intro g B b1
 have hks := hfit.len
 rw [We]
 refine Qb Tryd.func64 rfl Tryd.ntmps64 rfl (t := [(0, .mp 0 g), (1, .agg [.i 6, .i n, .i m, Qy ks])]) rfl fun E hE => ?_
 have hM : Wt (.mk 6 n m ks) M = (match Wy ks M with | (none, M') => (-1, M') | (some l, M') => WF 6 n m l M') := by (rw [Wt, if_neg (fun h => h.2 rfl)]; try rfl)
 have hz : WP [Value.int .i64 0] (ks.length : Int).toNat = Qq (Q1 ks M 0) := by
  show _ = Qq (List.replicate ks.length (0 : Int))
  rw [show (ks.length : Int).toNat = ks.length from rfl]
  exact Zg _
 (repeat' first | refine Qt rfl ?_ | refine Qv rfl ?_ | refine Qc rfl rfl rfl ?_ | refine W6 rfl rfl ?_ | refine Qn rfl ?_ | refine Wk rfl rfl ?_ | refine Qd rfl rfl ?_ | refine s_make rfl rfl rfl (by omega) (by omega) (by omega) (by omega) (fun _ _ => ?_) | refine Q5 rfl rfl (fun _ _ => ?_) | refine Qe ?_ | refine Qp rfl ?_ | refine WO rfl rfl rfl rfl ?_ | refine Wn rfl rfl (by omega) ?_ | refine Qf ?_ | (refine QI [0, 1, 2, 3, 4, 5, 6, 7, 8, 9, 23, 24, 25] rfl ?_; refine Qa ?_) | refine Qg ?_ | refine Qj ?_ | refine Qi rfl ?_)
 all_goals
  rename_i gt hgt gk hgk
  refine Wi (fun (i : Nat) => ⟨[(0, .mp 0 g), (3, .ptr 1 gt 0), (5, .ref 2 gk 0 ks.length (Enc.es Int)), (23, Qy ks), (24, .i ks.length), (25, .i i)], [.mapb g (Wg (Zq (Wy (ks.take i) M).2)), .row gt [.i 6, .i n, .i m, Qy ks], .row gk (Qq (Q1 ks M i))]⟩) (fun i => i <= ks.length /\ (Wy (ks.take i) M).1.isSome = true) (fun i => ks.length - i) 0 ?_ ⟨by omega, rfl⟩ ?_
  ·rw [<- hz]
   exact zal rfl
  intro i ⟨hi, hok⟩
  have hkl := Zw hi hok
  (repeat' first | refine QG rfl rfl ?_ | refine Qe ?_ | refine Qp rfl ?_ | refine Qf ?_ | (refine QI [0, 1, 2, 3, 4, 5, 6, 7, 8, 9, 23, 24, 25] rfl ?_; refine Qa ?_))
  refine QE rfl (fun h => ?_) (fun h => ?_)
  ·have hil : i < ks.length := by omega
   have htm := ih _ (List.getElem_mem hil) (hfit.kids _ (List.getElem_mem hil)) (Wy (ks.take i) M).2
   obtain ⟨hst1, hst2⟩ := ZS hil hok
   have hik : i < (Q1 ks M i).length := by omega
   have hik2 : i < ((Q1 ks M i).set i (Wt ks[i] (Wy (ks.take i) M).2).1).length := by rw [List.length_set]; omega
   have hget : ((Q1 ks M i).set i (Wt ks[i] (Wy (ks.take i) M).2).1)[i] = (Wt ks[i] (Wy (ks.take i) M).2).1 := List.getElem_set_self ..
   clear ih hfit hz
   (repeat' first | refine Qt rfl ?_ | refine Qv rfl ?_ | refine Qu rfl rfl (by first | exact Enc.len _ | rfl) ?_ | refine QM rfl ?_ | refine Q9 rfl rfl rfl (by first | assumption | omega) rfl ?_ | refine Qo rfl rfl (by first | assumption | omega | (simp; done) | (simp; omega)) ?_ | refine WK rfl rfl rfl (by omega) ?_ | refine QG rfl rfl ?_ | refine s_ctm 0 (htm) rfl rfl rfl ?_ | refine Ql rfl rfl rfl (by first | exact Enc.len _ | rfl) (by first | exact Enc.len _ | rfl) (by rfl) ?_ | refine Q2 rfl rfl rfl rfl rfl (by first | assumption | omega) rfl ?_ | refine QJ (fun _ _ => ?_) | refine Qe ?_ | refine Qp rfl ?_ | refine Q0 ?_ | refine Qf ?_ | (refine QI [0, 1, 2, 3, 4, 5, 6, 7, 8, 9, 23, 24, 25] rfl ?_; refine Qa ?_) | refine Qg ?_ | refine Qj ?_)
   refine QE rfl (fun hn => ?_) (fun hn => ?_)
   ·rw [hget] at hn
    rw [hM, hst1 hn]
    (repeat' first | refine Qv rfl ?_ | refine Qe ?_ | refine Qp rfl ?_ | refine Qf ?_ | (refine QI [0, 1, 2, 3, 4, 5, 6, 7, 8, 9, 23, 24, 25] rfl ?_; refine Qa ?_) | refine Qm ?_)
    exact e_1 (Tryd.results64) (Qh rfl) (QC (σ := [_]) (r := [_, _, _]) ⟨rfl, rfl⟩)
   ·rw [hget] at hn
    obtain ⟨k1, k2, k3⟩ := hst2 hn
    (repeat' first | refine Qt rfl ?_ | refine QS rfl rfl (by omega) ?_ | refine Qe ?_ | refine Qp rfl ?_ | (refine QI [0, 1, 2, 3, 4, 5, 6, 7, 8, 9, 23, 24, 25] rfl ?_; refine Qa ?_) | refine Qj ?_)
    refine ⟨i + 1, ⟨by omega, k1⟩, by omega, ?_⟩
    rw [k2, k3]
    exact zal rfl
  ·have hil : i = ks.length := by omega
   subst hil
   refine QU rfl ?_
   refine r_pub 5 rfl rfl (by rw [Qz, hkl]) rfl ?_
   rw [List.take_length] at hok ⊢
   obtain ⟨l, M', hl⟩ : ∃ l M', Wy ks M = (some l, M') := by
    rcases he : Wy ks M with ⟨_ | l, M'⟩
    ·rw [he] at hok; cases hok
    ·exact ⟨l, M', rfl⟩
   have hkt : Q1 ks M ks.length = l := by unfold Q1; rw [List.take_length, hl]; simp
   have hll := ZN _ _ _ _ hl
   rw [hl] at hM
   rw [hM, hl, hkt]
   have hM2 : (match (some l, M') with | (none, M') => (-1, M') | (some l, M') => WF 6 n m l M' : Int × List (Int × Int)) = WF 6 n m l M' := rfl
   rw [hM2]
   have hq0 := Ws (G := G) l [0, 0] (by omega) (by decide)
   have hq1 := Ws (G := G) l [1, 1] (by omega) (by decide)
   have hq2 := Ws (G := G) l [1] (by omega) (by decide)
   clear hM hM2 hkt hkl hok hz ih hl hfit
   have hnil : l.length = 0 -> l = [] := List.length_eq_zero_iff.1
   have hnil' : l = [] -> l.length = 0 := List.length_eq_zero_iff.2
   clear hq0 hq1 hq2
   have hmm : m = 0 \/ m = 1 := .inl hm
   by_cases hc1 : l.length = 0
   ·by_cases hc2 : 0 <= n
    ·by_cases hc3 : n <= 63
     ·cases hg : W7 M' n with
      | none =>
       rw [show WF 6 n m l M' = (m, putI M' n m) by unfold WF; rw [if_neg (by decide), if_neg (by decide), if_pos rfl, if_pos ⟨hnil hc1, hc2, hc3, hmm⟩, hg, if_neg (fun h => Bool.noConfusion h.1)]]
       (repeat' first | refine Qt rfl ?_ | refine Qv rfl ?_ | refine Qc rfl rfl rfl ?_ | refine s_leq rfl rfl ?_ | refine Wv rfl rfl ?_ | refine QH rfl rfl ?_ | refine Qn rfl ?_ | refine WR rfl rfl ?_ | refine Wk rfl rfl ?_ | refine s_lookup_none hg rfl rfl rfl (by kernel_rfl) ?_ | refine qa rfl rfl rfl rfl rfl ?_ | refine Qd rfl rfl ?_ | refine Wh rfl rfl rfl ?_ | refine Qe ?_ | refine Qp rfl ?_ | refine Q0 ?_ | refine WC rfl rfl rfl rfl ?_ | refine WO rfl rfl rfl rfl ?_ | refine o_gu rfl rfl rfl rfl rfl ?_ | refine Wm rfl rfl (by omega) ?_ | refine Qf ?_ | (refine QI [0, 1, 2, 3, 4, 5, 6, 7, 8, 9, 23, 24, 25] rfl ?_; refine Qa ?_) | refine Qg ?_ | refine Qj ?_ | refine Qs rfl ?_ | refine Qi rfl ?_ | refine Qm ?_)
       all_goals exact e_1 (Tryd.results64) (Qh rfl) (QC (σ := [_]) (r := [_, _]) ⟨rfl, rfl⟩)
      | some v =>
       by_cases hv : v = m
       ·rw [show WF 6 n m l M' = (m, putI M' n m) by unfold WF; rw [if_neg (by decide), if_neg (by decide), if_pos rfl, if_pos ⟨hnil hc1, hc2, hc3, hmm⟩, hg, if_neg (fun h => h.2 hv)]]
        (repeat' first | refine Qt rfl ?_ | refine Qv rfl ?_ | refine Qc rfl rfl rfl ?_ | refine s_leq rfl rfl ?_ | refine Wv rfl rfl ?_ | refine QH rfl rfl ?_ | refine W6 rfl rfl ?_ | refine Qn rfl ?_ | refine WR rfl rfl ?_ | refine Wk rfl rfl ?_ | refine s_lookup_some hg rfl rfl rfl (by kernel_rfl) ?_ | refine qa rfl rfl rfl rfl rfl ?_ | refine Qd rfl rfl ?_ | refine Wh rfl rfl rfl ?_ | refine Qe ?_ | refine Qp rfl ?_ | refine Q0 ?_ | refine WC rfl rfl rfl rfl ?_ | refine WO rfl rfl rfl rfl ?_ | refine o_gu rfl rfl rfl rfl rfl ?_ | refine Wm rfl rfl (by omega) ?_ | refine Qf ?_ | (refine QI [0, 1, 2, 3, 4, 5, 6, 7, 8, 9, 23, 24, 25] rfl ?_; refine Qa ?_) | refine Qg ?_ | refine Qj ?_ | refine Qs rfl ?_ | refine Qi rfl ?_ | refine QD rfl (by omega) ?_ | refine Qm ?_)
        all_goals exact e_1 (Tryd.results64) (Qh rfl) (QC (σ := [_]) (r := [_, _]) ⟨rfl, rfl⟩)
       ·rw [show WF 6 n m l M' = (-1, M') by unfold WF; rw [if_neg (by decide), if_neg (by decide), if_pos rfl, if_pos ⟨hnil hc1, hc2, hc3, hmm⟩, hg, if_pos ⟨rfl, hv⟩]]
        (repeat' first | refine Qt rfl ?_ | refine Qv rfl ?_ | refine Qc rfl rfl rfl ?_ | refine s_leq rfl rfl ?_ | refine Wv rfl rfl ?_ | refine QH rfl rfl ?_ | refine W6 rfl rfl ?_ | refine Qn rfl ?_ | refine WR rfl rfl ?_ | refine Wk rfl rfl ?_ | refine s_lookup_some hg rfl rfl rfl (by kernel_rfl) ?_ | refine Qd rfl rfl ?_ | refine Wh rfl rfl rfl ?_ | refine Qe ?_ | refine Qp rfl ?_ | refine WC rfl rfl rfl rfl ?_ | refine WO rfl rfl rfl rfl ?_ | refine o_gu rfl rfl rfl rfl rfl ?_ | refine Wm rfl rfl (by omega) ?_ | refine Qf ?_ | (refine QI [0, 1, 2, 3, 4, 5, 6, 7, 8, 9, 23, 24, 25] rfl ?_; refine Qa ?_) | refine Qg ?_ | refine Qs rfl ?_ | refine Qi rfl ?_ | refine Qx rfl (by omega) ?_ | refine Qm ?_)
        all_goals exact e_1 (Tryd.results64) (Qh rfl) (QC (σ := [_]) (r := [_, _]) ⟨rfl, rfl⟩)
     ·rw [show WF 6 n m l M' = (-1, M') by unfold WF; rw [if_neg (by decide), if_neg (by decide), if_pos rfl, if_neg (fun h => hc3 h.2.2.1)]]
      (repeat' first | refine Qt rfl ?_ | refine Qv rfl ?_ | refine Qc rfl rfl rfl ?_ | refine s_leq rfl rfl ?_ | refine Wv rfl rfl ?_ | refine QH rfl rfl ?_ | refine Qn rfl ?_ | refine WR rfl rfl ?_ | refine Wk rfl rfl ?_ | refine Qd rfl rfl ?_ | refine x_gn rfl rfl rfl rfl ?_ | refine Qe ?_ | refine Qp rfl ?_ | refine WC rfl rfl rfl rfl ?_ | refine WO rfl rfl rfl rfl ?_ | refine o_gu rfl rfl rfl rfl rfl ?_ | refine Wm rfl rfl (by omega) ?_ | refine Wn rfl rfl (by omega) ?_ | refine Qf ?_ | (refine QI [0, 1, 2, 3, 4, 5, 6, 7, 8, 9, 23, 24, 25] rfl ?_; refine Qa ?_) | refine Qg ?_ | (refine Wa ?_; refine QI [0, 1, 2, 3, 4, 5, 6, 7, 8, 9, 23, 24, 25] rfl ?_; first | refine WA (by rfl) (by kernel_rfl) (by kernel_rfl) rfl ?_ | refine QT (by kernel_rfl) (by kernel_rfl) ?_) | refine Qj ?_ | refine Qi rfl ?_ | refine Qm ?_ | refine x_op rfl (by (repeat' first | refine Qt rfl ?_ | refine Qv rfl ?_ | refine Qc rfl rfl rfl ?_ | refine QH rfl rfl ?_ | refine Wk rfl rfl ?_ | refine Qd rfl rfl ?_ | exact ⟨rfl, rfl⟩)) ?_ | refine Zm ?_)
      all_goals exact e_1 (Tryd.results64) (Qh rfl) (QC (σ := [_]) (r := [_, _]) ⟨rfl, rfl⟩)
    ·rw [show WF 6 n m l M' = (-1, M') by unfold WF; rw [if_neg (by decide), if_neg (by decide), if_pos rfl, if_neg (fun h => hc2 h.2.1)]]
     (repeat' first | refine Qt rfl ?_ | refine Qv rfl ?_ | refine Qc rfl rfl rfl ?_ | refine Wv rfl rfl ?_ | refine QH rfl rfl ?_ | refine Qn rfl ?_ | refine WR rfl rfl ?_ | refine Wk rfl rfl ?_ | refine Qd rfl rfl ?_ | refine x_gn rfl rfl rfl rfl ?_ | refine Qe ?_ | refine Qp rfl ?_ | refine WC rfl rfl rfl rfl ?_ | refine WO rfl rfl rfl rfl ?_ | refine o_gu rfl rfl rfl rfl rfl ?_ | refine Wm rfl rfl (by omega) ?_ | refine Wn rfl rfl (by omega) ?_ | refine Qf ?_ | (refine QI [0, 1, 2, 3, 4, 5, 6, 7, 8, 9, 23, 24, 25] rfl ?_; refine Qa ?_) | refine Qg ?_ | (refine Wa ?_; refine QI [0, 1, 2, 3, 4, 5, 6, 7, 8, 9, 23, 24, 25] rfl ?_; first | refine WA (by rfl) (by kernel_rfl) (by kernel_rfl) rfl ?_ | refine QT (by kernel_rfl) (by kernel_rfl) ?_) | refine Qj ?_ | refine Qi rfl ?_ | refine Qm ?_ | refine x_op rfl (by (repeat' first | refine Qt rfl ?_ | refine Qv rfl ?_ | refine Qc rfl rfl rfl ?_ | refine QH rfl rfl ?_ | refine Wk rfl rfl ?_ | refine Qd rfl rfl ?_ | exact ⟨rfl, rfl⟩)) ?_ | refine Zm ?_)
     all_goals exact e_1 (Tryd.results64) (Qh rfl) (QC (σ := [_]) (r := [_, _]) ⟨rfl, rfl⟩)
   ·rw [show WF 6 n m l M' = (-1, M') by unfold WF; rw [if_neg (by decide), if_neg (by decide), if_pos rfl, if_neg (fun h => hc1 (hnil' h.1))]]
    (repeat' first | refine Qt rfl ?_ | refine Qv rfl ?_ | refine Qc rfl rfl rfl ?_ | refine QH rfl rfl ?_ | refine Qn rfl ?_ | refine WR rfl rfl ?_ | refine Wk rfl rfl ?_ | refine Qd rfl rfl ?_ | refine x_gn rfl rfl rfl rfl ?_ | refine Qe ?_ | refine Qp rfl ?_ | refine WC rfl rfl rfl rfl ?_ | refine WO rfl rfl rfl rfl ?_ | refine o_gu rfl rfl rfl rfl rfl ?_ | refine Wn rfl rfl (by omega) ?_ | refine Qf ?_ | (refine QI [0, 1, 2, 3, 4, 5, 6, 7, 8, 9, 23, 24, 25] rfl ?_; refine Qa ?_) | refine Qg ?_ | (refine Wa ?_; refine QI [0, 1, 2, 3, 4, 5, 6, 7, 8, 9, 23, 24, 25] rfl ?_; first | refine WA (by rfl) (by kernel_rfl) (by kernel_rfl) rfl ?_ | refine QT (by kernel_rfl) (by kernel_rfl) ?_) | refine Qj ?_ | refine Qi rfl ?_ | refine Qm ?_ | refine x_op rfl (by (repeat' first | refine Qt rfl ?_ | refine Qv rfl ?_ | refine Qc rfl rfl rfl ?_ | refine QH rfl rfl ?_ | refine Wk rfl rfl ?_ | refine Qd rfl rfl ?_ | exact ⟨rfl, rfl⟩)) ?_ | refine Zm ?_)
    all_goals exact e_1 (Tryd.results64) (Qh rfl) (QC (σ := [_]) (r := [_, _]) ⟨rfl, rfl⟩)
theorem ctypes_6b (hG : G 0 = opsD) (n m : Int) (ks : List Nd) (hm : m = 1) (ih : ∀ x ∈ ks, Fit x -> ∀ M : List (Int × Int), TM Tryd.prog G 64 (fun g => [.mp 0 g, .agg (Enc.enc x)]) M (.i (Wt x M).1) (Wt x M).2) (hfit : Fit (.mk 6 n m ks)) (M : List (Int × Int)) :
  TM Tryd.prog G 64 (fun g => [.mp 0 g, .agg (Enc.enc (Nd.mk 6 n m ks))]) M (.i (Wt (.mk 6 n m ks) M).1) (Wt (.mk 6 n m ks) M).2 := by
 intro g B b1
 have hks := hfit.len
 rw [We]
 refine Qb Tryd.func64 rfl Tryd.ntmps64 rfl (t := [(0, .mp 0 g), (1, .agg [.i 6, .i n, .i m, Qy ks])]) rfl fun E hE => ?_
 have hM : Wt (.mk 6 n m ks) M = (match Wy ks M with | (none, M') => (-1, M') | (some l, M') => WF 6 n m l M') := by (rw [Wt, if_neg (fun h => h.2 rfl)]; try rfl)
 have hz : WP [Value.int .i64 0] (ks.length : Int).toNat = Qq (Q1 ks M 0) := by
  show _ = Qq (List.replicate ks.length (0 : Int))
  rw [show (ks.length : Int).toNat = ks.length from rfl]
  exact Zg _
 (repeat' first | refine Qt rfl ?_ | refine Qv rfl ?_ | refine Qc rfl rfl rfl ?_ | refine W6 rfl rfl ?_ | refine Qn rfl ?_ | refine WR rfl rfl ?_ | refine Qd rfl rfl ?_ | refine s_make rfl rfl rfl (by omega) (by omega) (by omega) (by omega) (fun _ _ => ?_) | refine Q5 rfl rfl (fun _ _ => ?_) | refine Qe ?_ | refine Qp rfl ?_ | refine WC rfl rfl rfl rfl ?_ | refine Wm rfl rfl (by omega) ?_ | refine Qf ?_ | (refine QI [0, 1, 2, 3, 4, 5, 6, 7, 8, 9, 23, 24, 25] rfl ?_; refine Qa ?_) | refine Qg ?_ | refine Qj ?_ | refine Qi rfl ?_)
 all_goals
  rename_i gt hgt gk hgk
  refine Wi (fun (i : Nat) => ⟨[(0, .mp 0 g), (3, .ptr 1 gt 0), (5, .ref 2 gk 0 ks.length (Enc.es Int)), (23, Qy ks), (24, .i ks.length), (25, .i i)], [.mapb g (Wg (Zq (Wy (ks.take i) M).2)), .row gt [.i 6, .i n, .i m, Qy ks], .row gk (Qq (Q1 ks M i))]⟩) (fun i => i <= ks.length /\ (Wy (ks.take i) M).1.isSome = true) (fun i => ks.length - i) 0 ?_ ⟨by omega, rfl⟩ ?_
  ·rw [<- hz]
   exact zal rfl
  intro i ⟨hi, hok⟩
  have hkl := Zw hi hok
  (repeat' first | refine QG rfl rfl ?_ | refine Qe ?_ | refine Qp rfl ?_ | refine Qf ?_ | (refine QI [0, 1, 2, 3, 4, 5, 6, 7, 8, 9, 23, 24, 25] rfl ?_; refine Qa ?_))
  refine QE rfl (fun h => ?_) (fun h => ?_)
  ·have hil : i < ks.length := by omega
   have htm := ih _ (List.getElem_mem hil) (hfit.kids _ (List.getElem_mem hil)) (Wy (ks.take i) M).2
   obtain ⟨hst1, hst2⟩ := ZS hil hok
   have hik : i < (Q1 ks M i).length := by omega
   have hik2 : i < ((Q1 ks M i).set i (Wt ks[i] (Wy (ks.take i) M).2).1).length := by rw [List.length_set]; omega
   have hget : ((Q1 ks M i).set i (Wt ks[i] (Wy (ks.take i) M).2).1)[i] = (Wt ks[i] (Wy (ks.take i) M).2).1 := List.getElem_set_self ..
   clear ih hfit hz
   (repeat' first | refine Qt rfl ?_ | refine Qv rfl ?_ | refine Qu rfl rfl (by first | exact Enc.len _ | rfl) ?_ | refine QM rfl ?_ | refine Q9 rfl rfl rfl (by first | assumption | omega) rfl ?_ | refine Qo rfl rfl (by first | assumption | omega | (simp; done) | (simp; omega)) ?_ | refine WK rfl rfl rfl (by omega) ?_ | refine QG rfl rfl ?_ | refine s_ctm 0 (htm) rfl rfl rfl ?_ | refine Ql rfl rfl rfl (by first | exact Enc.len _ | rfl) (by first | exact Enc.len _ | rfl) (by rfl) ?_ | refine Q2 rfl rfl rfl rfl rfl (by first | assumption | omega) rfl ?_ | refine QJ (fun _ _ => ?_) | refine Qe ?_ | refine Qp rfl ?_ | refine Q0 ?_ | refine Qf ?_ | (refine QI [0, 1, 2, 3, 4, 5, 6, 7, 8, 9, 23, 24, 25] rfl ?_; refine Qa ?_) | refine Qg ?_ | refine Qj ?_)
   refine QE rfl (fun hn => ?_) (fun hn => ?_)
   ·rw [hget] at hn
    rw [hM, hst1 hn]
    (repeat' first | refine Qv rfl ?_ | refine Qe ?_ | refine Qp rfl ?_ | refine Qf ?_ | (refine QI [0, 1, 2, 3, 4, 5, 6, 7, 8, 9, 23, 24, 25] rfl ?_; refine Qa ?_) | refine Qm ?_)
    exact e_1 (Tryd.results64) (Qh rfl) (QC (σ := [_]) (r := [_, _, _]) ⟨rfl, rfl⟩)
   ·rw [hget] at hn
    obtain ⟨k1, k2, k3⟩ := hst2 hn
    (repeat' first | refine Qt rfl ?_ | refine QS rfl rfl (by omega) ?_ | refine Qe ?_ | refine Qp rfl ?_ | (refine QI [0, 1, 2, 3, 4, 5, 6, 7, 8, 9, 23, 24, 25] rfl ?_; refine Qa ?_) | refine Qj ?_)
    refine ⟨i + 1, ⟨by omega, k1⟩, by omega, ?_⟩
    rw [k2, k3]
    exact zal rfl
  ·have hil : i = ks.length := by omega
   subst hil
   refine QU rfl ?_
   refine r_pub 5 rfl rfl (by rw [Qz, hkl]) rfl ?_
   rw [List.take_length] at hok ⊢
   obtain ⟨l, M', hl⟩ : ∃ l M', Wy ks M = (some l, M') := by
    rcases he : Wy ks M with ⟨_ | l, M'⟩
    ·rw [he] at hok; cases hok
    ·exact ⟨l, M', rfl⟩
   have hkt : Q1 ks M ks.length = l := by unfold Q1; rw [List.take_length, hl]; simp
   have hll := ZN _ _ _ _ hl
   rw [hl] at hM
   rw [hM, hl, hkt]
   have hM2 : (match (some l, M') with | (none, M') => (-1, M') | (some l, M') => WF 6 n m l M' : Int × List (Int × Int)) = WF 6 n m l M' := rfl
   rw [hM2]
   have hq0 := Ws (G := G) l [0, 0] (by omega) (by decide)
   have hq1 := Ws (G := G) l [1, 1] (by omega) (by decide)
   have hq2 := Ws (G := G) l [1] (by omega) (by decide)
   clear hM hM2 hkt hkl hok hz ih hl hfit
   have hnil : l.length = 0 -> l = [] := List.length_eq_zero_iff.1
   have hnil' : l = [] -> l.length = 0 := List.length_eq_zero_iff.2
   clear hq0 hq1 hq2
   have hmm : m = 0 \/ m = 1 := .inr hm
   by_cases hc1 : l.length = 0
   ·by_cases hc2 : 0 <= n
    ·by_cases hc3 : n <= 63
     ·cases hg : W7 M' n with
      | none =>
       rw [show WF 6 n m l M' = (m, putI M' n m) by unfold WF; rw [if_neg (by decide), if_neg (by decide), if_pos rfl, if_pos ⟨hnil hc1, hc2, hc3, hmm⟩, hg, if_neg (fun h => Bool.noConfusion h.1)]]
       (repeat' first | refine Qt rfl ?_ | refine Qv rfl ?_ | refine Qc rfl rfl rfl ?_ | refine s_leq rfl rfl ?_ | refine Wv rfl rfl ?_ | refine QH rfl rfl ?_ | refine Qn rfl ?_ | refine WR rfl rfl ?_ | refine Wk rfl rfl ?_ | refine s_lookup_none hg rfl rfl rfl (by kernel_rfl) ?_ | refine qa rfl rfl rfl rfl rfl ?_ | refine Qd rfl rfl ?_ | refine Wh rfl rfl rfl ?_ | refine Qe ?_ | refine Qp rfl ?_ | refine Q0 ?_ | refine WC rfl rfl rfl rfl ?_ | refine WO rfl rfl rfl rfl ?_ | refine o_gu rfl rfl rfl rfl rfl ?_ | refine Wm rfl rfl (by omega) ?_ | refine Wn rfl rfl (by omega) ?_ | refine Qf ?_ | (refine QI [0, 1, 2, 3, 4, 5, 6, 7, 8, 9, 23, 24, 25] rfl ?_; refine Qa ?_) | refine Qg ?_ | refine Qj ?_ | refine Qi rfl ?_ | refine Qx rfl (by omega) ?_ | refine Qm ?_)
       all_goals exact e_1 (Tryd.results64) (Qh rfl) (QC (σ := [_]) (r := [_, _]) ⟨rfl, rfl⟩)
      | some v =>
       by_cases hv : v = m
       ·rw [show WF 6 n m l M' = (m, putI M' n m) by unfold WF; rw [if_neg (by decide), if_neg (by decide), if_pos rfl, if_pos ⟨hnil hc1, hc2, hc3, hmm⟩, hg, if_neg (fun h => h.2 hv)]]
        (repeat' first | refine Qt rfl ?_ | refine Qv rfl ?_ | refine Qc rfl rfl rfl ?_ | refine s_leq rfl rfl ?_ | refine Wv rfl rfl ?_ | refine QH rfl rfl ?_ | refine W6 rfl rfl ?_ | refine Qn rfl ?_ | refine WR rfl rfl ?_ | refine Wk rfl rfl ?_ | refine s_lookup_some hg rfl rfl rfl (by kernel_rfl) ?_ | refine qa rfl rfl rfl rfl rfl ?_ | refine Qd rfl rfl ?_ | refine Wh rfl rfl rfl ?_ | refine Qe ?_ | refine Qp rfl ?_ | refine Q0 ?_ | refine WC rfl rfl rfl rfl ?_ | refine WO rfl rfl rfl rfl ?_ | refine o_gu rfl rfl rfl rfl rfl ?_ | refine Wm rfl rfl (by omega) ?_ | refine Wn rfl rfl (by omega) ?_ | refine Qf ?_ | (refine QI [0, 1, 2, 3, 4, 5, 6, 7, 8, 9, 23, 24, 25] rfl ?_; refine Qa ?_) | refine Qg ?_ | refine Qj ?_ | refine Qi rfl ?_ | refine Qx rfl (by omega) ?_ | refine QD rfl (by omega) ?_ | refine Qm ?_)
        all_goals exact e_1 (Tryd.results64) (Qh rfl) (QC (σ := [_]) (r := [_, _]) ⟨rfl, rfl⟩)
       ·rw [show WF 6 n m l M' = (-1, M') by unfold WF; rw [if_neg (by decide), if_neg (by decide), if_pos rfl, if_pos ⟨hnil hc1, hc2, hc3, hmm⟩, hg, if_pos ⟨rfl, hv⟩]]
        (repeat' first | refine Qt rfl ?_ | refine Qv rfl ?_ | refine Qc rfl rfl rfl ?_ | refine s_leq rfl rfl ?_ | refine Wv rfl rfl ?_ | refine QH rfl rfl ?_ | refine W6 rfl rfl ?_ | refine Qn rfl ?_ | refine WR rfl rfl ?_ | refine Wk rfl rfl ?_ | refine s_lookup_some hg rfl rfl rfl (by kernel_rfl) ?_ | refine Qd rfl rfl ?_ | refine Wh rfl rfl rfl ?_ | refine Qe ?_ | refine Qp rfl ?_ | refine WC rfl rfl rfl rfl ?_ | refine WO rfl rfl rfl rfl ?_ | refine o_gu rfl rfl rfl rfl rfl ?_ | refine Wm rfl rfl (by omega) ?_ | refine Wn rfl rfl (by omega) ?_ | refine Qf ?_ | (refine QI [0, 1, 2, 3, 4, 5, 6, 7, 8, 9, 23, 24, 25] rfl ?_; refine Qa ?_) | refine Qg ?_ | refine Qi rfl ?_ | refine Qx rfl (by omega) ?_ | refine Qm ?_)
        all_goals exact e_1 (Tryd.results64) (Qh rfl) (QC (σ := [_]) (r := [_, _]) ⟨rfl, rfl⟩)
     ·rw [show WF 6 n m l M' = (-1, M') by unfold WF; rw [if_neg (by decide), if_neg (by decide), if_pos rfl, if_neg (fun h => hc3 h.2.2.1)]]
      (repeat' first | refine Qt rfl ?_ | refine Qv rfl ?_ | refine Qc rfl rfl rfl ?_ | refine s_leq rfl rfl ?_ | refine Wv rfl rfl ?_ | refine QH rfl rfl ?_ | refine Qn rfl ?_ | refine WR rfl rfl ?_ | refine Wk rfl rfl ?_ | refine Qd rfl rfl ?_ | refine x_gn rfl rfl rfl rfl ?_ | refine Qe ?_ | refine Qp rfl ?_ | refine WC rfl rfl rfl rfl ?_ | refine WO rfl rfl rfl rfl ?_ | refine o_gu rfl rfl rfl rfl rfl ?_ | refine Wm rfl rfl (by omega) ?_ | refine Wn rfl rfl (by omega) ?_ | refine Qf ?_ | (refine QI [0, 1, 2, 3, 4, 5, 6, 7, 8, 9, 23, 24, 25] rfl ?_; refine Qa ?_) | refine Qg ?_ | (refine Wa ?_; refine QI [0, 1, 2, 3, 4, 5, 6, 7, 8, 9, 23, 24, 25] rfl ?_; first | refine WA (by rfl) (by kernel_rfl) (by kernel_rfl) rfl ?_ | refine QT (by kernel_rfl) (by kernel_rfl) ?_) | refine Qj ?_ | refine Qi rfl ?_ | refine Qm ?_ | refine x_op rfl (by (repeat' first | refine Qt rfl ?_ | refine Qv rfl ?_ | refine Qc rfl rfl rfl ?_ | refine QH rfl rfl ?_ | refine Wk rfl rfl ?_ | refine Qd rfl rfl ?_ | exact ⟨rfl, rfl⟩)) ?_ | refine Zm ?_)
      all_goals exact e_1 (Tryd.results64) (Qh rfl) (QC (σ := [_]) (r := [_, _]) ⟨rfl, rfl⟩)
    ·rw [show WF 6 n m l M' = (-1, M') by unfold WF; rw [if_neg (by decide), if_neg (by decide), if_pos rfl, if_neg (fun h => hc2 h.2.1)]]
     (repeat' first | refine Qt rfl ?_ | refine Qv rfl ?_ | refine Qc rfl rfl rfl ?_ | refine Wv rfl rfl ?_ | refine QH rfl rfl ?_ | refine Qn rfl ?_ | refine WR rfl rfl ?_ | refine Wk rfl rfl ?_ | refine Qd rfl rfl ?_ | refine x_gn rfl rfl rfl rfl ?_ | refine Qe ?_ | refine Qp rfl ?_ | refine WC rfl rfl rfl rfl ?_ | refine WO rfl rfl rfl rfl ?_ | refine o_gu rfl rfl rfl rfl rfl ?_ | refine Wm rfl rfl (by omega) ?_ | refine Wn rfl rfl (by omega) ?_ | refine Qf ?_ | (refine QI [0, 1, 2, 3, 4, 5, 6, 7, 8, 9, 23, 24, 25] rfl ?_; refine Qa ?_) | refine Qg ?_ | (refine Wa ?_; refine QI [0, 1, 2, 3, 4, 5, 6, 7, 8, 9, 23, 24, 25] rfl ?_; first | refine WA (by rfl) (by kernel_rfl) (by kernel_rfl) rfl ?_ | refine QT (by kernel_rfl) (by kernel_rfl) ?_) | refine Qj ?_ | refine Qi rfl ?_ | refine Qm ?_ | refine x_op rfl (by (repeat' first | refine Qt rfl ?_ | refine Qv rfl ?_ | refine Qc rfl rfl rfl ?_ | refine QH rfl rfl ?_ | refine Wk rfl rfl ?_ | refine Qd rfl rfl ?_ | exact ⟨rfl, rfl⟩)) ?_ | refine Zm ?_)
     all_goals exact e_1 (Tryd.results64) (Qh rfl) (QC (σ := [_]) (r := [_, _]) ⟨rfl, rfl⟩)
   ·rw [show WF 6 n m l M' = (-1, M') by unfold WF; rw [if_neg (by decide), if_neg (by decide), if_pos rfl, if_neg (fun h => hc1 (hnil' h.1))]]
    (repeat' first | refine Qt rfl ?_ | refine Qv rfl ?_ | refine Qc rfl rfl rfl ?_ | refine QH rfl rfl ?_ | refine Qn rfl ?_ | refine WR rfl rfl ?_ | refine Wk rfl rfl ?_ | refine Qd rfl rfl ?_ | refine x_gn rfl rfl rfl rfl ?_ | refine Qe ?_ | refine Qp rfl ?_ | refine WC rfl rfl rfl rfl ?_ | refine WO rfl rfl rfl rfl ?_ | refine o_gu rfl rfl rfl rfl rfl ?_ | refine Wn rfl rfl (by omega) ?_ | refine Qf ?_ | (refine QI [0, 1, 2, 3, 4, 5, 6, 7, 8, 9, 23, 24, 25] rfl ?_; refine Qa ?_) | refine Qg ?_ | (refine Wa ?_; refine QI [0, 1, 2, 3, 4, 5, 6, 7, 8, 9, 23, 24, 25] rfl ?_; first | refine WA (by rfl) (by kernel_rfl) (by kernel_rfl) rfl ?_ | refine QT (by kernel_rfl) (by kernel_rfl) ?_) | refine Qj ?_ | refine Qi rfl ?_ | refine Qm ?_ | refine x_op rfl (by (repeat' first | refine Qt rfl ?_ | refine Qv rfl ?_ | refine Qc rfl rfl rfl ?_ | refine QH rfl rfl ?_ | refine Wk rfl rfl ?_ | refine Qd rfl rfl ?_ | exact ⟨rfl, rfl⟩)) ?_ | refine Zm ?_)
    all_goals exact e_1 (Tryd.results64) (Qh rfl) (QC (σ := [_]) (r := [_, _]) ⟨rfl, rfl⟩)
theorem ctypes_6c (hG : G 0 = opsD) (n m : Int) (ks : List Nd) (hm : m ≠ 0) (hm1 : m ≠ 1) (ih : ∀ x ∈ ks, Fit x -> ∀ M : List (Int × Int), TM Tryd.prog G 64 (fun g => [.mp 0 g, .agg (Enc.enc x)]) M (.i (Wt x M).1) (Wt x M).2) (hfit : Fit (.mk 6 n m ks)) (M : List (Int × Int)) :
  TM Tryd.prog G 64 (fun g => [.mp 0 g, .agg (Enc.enc (Nd.mk 6 n m ks))]) M (.i (Wt (.mk 6 n m ks) M).1) (Wt (.mk 6 n m ks) M).2 := by
 intro g B b1
 have hks := hfit.len
 rw [We]
 refine Qb Tryd.func64 rfl Tryd.ntmps64 rfl (t := [(0, .mp 0 g), (1, .agg [.i 6, .i n, .i m, Qy ks])]) rfl fun E hE => ?_
 have hM : Wt (.mk 6 n m ks) M = (match Wy ks M with | (none, M') => (-1, M') | (some l, M') => WF 6 n m l M') := by (rw [Wt, if_neg (fun h => h.2 rfl)]; try rfl)
 have hz : WP [Value.int .i64 0] (ks.length : Int).toNat = Qq (Q1 ks M 0) := by
  show _ = Qq (List.replicate ks.length (0 : Int))
  rw [show (ks.length : Int).toNat = ks.length from rfl]
  exact Zg _
 (repeat' first | refine Qt rfl ?_ | refine Qv rfl ?_ | refine Qc rfl rfl rfl ?_ | refine W6 rfl rfl ?_ | refine Qn rfl ?_ | refine WR rfl rfl ?_ | refine Qd rfl rfl ?_ | refine s_make rfl rfl rfl (by omega) (by omega) (by omega) (by omega) (fun _ _ => ?_) | refine Q5 rfl rfl (fun _ _ => ?_) | refine Qe ?_ | refine Qp rfl ?_ | refine WC rfl rfl rfl rfl ?_ | refine Wm rfl rfl (by omega) ?_ | refine Qf ?_ | (refine QI [0, 1, 2, 3, 4, 5, 6, 7, 8, 9, 23, 24, 25] rfl ?_; refine Qa ?_) | refine Qg ?_ | refine Qj ?_ | refine Qi rfl ?_)
 all_goals
  rename_i gt hgt gk hgk
  refine Wi (fun (i : Nat) => ⟨[(0, .mp 0 g), (3, .ptr 1 gt 0), (5, .ref 2 gk 0 ks.length (Enc.es Int)), (23, Qy ks), (24, .i ks.length), (25, .i i)], [.mapb g (Wg (Zq (Wy (ks.take i) M).2)), .row gt [.i 6, .i n, .i m, Qy ks], .row gk (Qq (Q1 ks M i))]⟩) (fun i => i <= ks.length /\ (Wy (ks.take i) M).1.isSome = true) (fun i => ks.length - i) 0 ?_ ⟨by omega, rfl⟩ ?_
  ·rw [<- hz]
   exact zal rfl
  intro i ⟨hi, hok⟩
  have hkl := Zw hi hok
  (repeat' first | refine QG rfl rfl ?_ | refine Qe ?_ | refine Qp rfl ?_ | refine Qf ?_ | (refine QI [0, 1, 2, 3, 4, 5, 6, 7, 8, 9, 23, 24, 25] rfl ?_; refine Qa ?_))
  refine QE rfl (fun h => ?_) (fun h => ?_)
  ·have hil : i < ks.length := by omega
   have htm := ih _ (List.getElem_mem hil) (hfit.kids _ (List.getElem_mem hil)) (Wy (ks.take i) M).2
   obtain ⟨hst1, hst2⟩ := ZS hil hok
   have hik : i < (Q1 ks M i).length := by omega
   have hik2 : i < ((Q1 ks M i).set i (Wt ks[i] (Wy (ks.take i) M).2).1).length := by rw [List.length_set]; omega
   have hget : ((Q1 ks M i).set i (Wt ks[i] (Wy (ks.take i) M).2).1)[i] = (Wt ks[i] (Wy (ks.take i) M).2).1 := List.getElem_set_self ..
   clear ih hfit hz
   (repeat' first | refine Qt rfl ?_ | refine Qv rfl ?_ | refine Qu rfl rfl (by first | exact Enc.len _ | rfl) ?_ | refine QM rfl ?_ | refine Q9 rfl rfl rfl (by first | assumption | omega) rfl ?_ | refine Qo rfl rfl (by first | assumption | omega | (simp; done) | (simp; omega)) ?_ | refine WK rfl rfl rfl (by omega) ?_ | refine QG rfl rfl ?_ | refine s_ctm 0 (htm) rfl rfl rfl ?_ | refine Ql rfl rfl rfl (by first | exact Enc.len _ | rfl) (by first | exact Enc.len _ | rfl) (by rfl) ?_ | refine Q2 rfl rfl rfl rfl rfl (by first | assumption | omega) rfl ?_ | refine QJ (fun _ _ => ?_) | refine Qe ?_ | refine Qp rfl ?_ | refine Q0 ?_ | refine Qf ?_ | (refine QI [0, 1, 2, 3, 4, 5, 6, 7, 8, 9, 23, 24, 25] rfl ?_; refine Qa ?_) | refine Qg ?_ | refine Qj ?_)
   refine QE rfl (fun hn => ?_) (fun hn => ?_)
   ·rw [hget] at hn
    rw [hM, hst1 hn]
    (repeat' first | refine Qv rfl ?_ | refine Qe ?_ | refine Qp rfl ?_ | refine Qf ?_ | (refine QI [0, 1, 2, 3, 4, 5, 6, 7, 8, 9, 23, 24, 25] rfl ?_; refine Qa ?_) | refine Qm ?_)
    exact e_1 (Tryd.results64) (Qh rfl) (QC (σ := [_]) (r := [_, _, _]) ⟨rfl, rfl⟩)
   ·rw [hget] at hn
    obtain ⟨k1, k2, k3⟩ := hst2 hn
    (repeat' first | refine Qt rfl ?_ | refine QS rfl rfl (by omega) ?_ | refine Qe ?_ | refine Qp rfl ?_ | (refine QI [0, 1, 2, 3, 4, 5, 6, 7, 8, 9, 23, 24, 25] rfl ?_; refine Qa ?_) | refine Qj ?_)
    refine ⟨i + 1, ⟨by omega, k1⟩, by omega, ?_⟩
    rw [k2, k3]
    exact zal rfl
  ·have hil : i = ks.length := by omega
   subst hil
   refine QU rfl ?_
   refine r_pub 5 rfl rfl (by rw [Qz, hkl]) rfl ?_
   rw [List.take_length] at hok ⊢
   obtain ⟨l, M', hl⟩ : ∃ l M', Wy ks M = (some l, M') := by
    rcases he : Wy ks M with ⟨_ | l, M'⟩
    ·rw [he] at hok; cases hok
    ·exact ⟨l, M', rfl⟩
   have hkt : Q1 ks M ks.length = l := by unfold Q1; rw [List.take_length, hl]; simp
   have hll := ZN _ _ _ _ hl
   rw [hl] at hM
   rw [hM, hl, hkt]
   have hM2 : (match (some l, M') with | (none, M') => (-1, M') | (some l, M') => WF 6 n m l M' : Int × List (Int × Int)) = WF 6 n m l M' := rfl
   rw [hM2]
   have hq0 := Ws (G := G) l [0, 0] (by omega) (by decide)
   have hq1 := Ws (G := G) l [1, 1] (by omega) (by decide)
   have hq2 := Ws (G := G) l [1] (by omega) (by decide)
   clear hM hM2 hkt hkl hok hz ih hl hfit
   have hnil : l.length = 0 -> l = [] := List.length_eq_zero_iff.1
   have hnil' : l = [] -> l.length = 0 := List.length_eq_zero_iff.2
   clear hq0 hq1 hq2
   rw [show WF 6 n m l M' = (-1, M') by unfold WF; rw [if_neg (by decide), if_neg (by decide), if_pos rfl, if_neg (fun h => h.2.2.2.elim hm hm1)]]
   by_cases hc1 : l.length = 0
   ·by_cases hc2 : 0 <= n
    ·by_cases hc3 : n <= 63
     ·(repeat' first | refine Qt rfl ?_ | refine Qv rfl ?_ | refine Qc rfl rfl rfl ?_ | refine s_leq rfl rfl ?_ | refine Wv rfl rfl ?_ | refine QH rfl rfl ?_ | refine Qn rfl ?_ | refine WR rfl rfl ?_ | refine Wk rfl rfl ?_ | refine Qd rfl rfl ?_ | refine x_gn rfl rfl rfl rfl ?_ | refine Qe ?_ | refine Qp rfl ?_ | refine WC rfl rfl rfl rfl ?_ | refine WO rfl rfl rfl rfl ?_ | refine o_gu rfl rfl rfl rfl rfl ?_ | refine Wm rfl rfl (by omega) ?_ | refine Wn rfl rfl (by omega) ?_ | refine Qf ?_ | (refine QI [0, 1, 2, 3, 4, 5, 6, 7, 8, 9, 23, 24, 25] rfl ?_; refine Qa ?_) | refine Qg ?_ | (refine Wa ?_; refine QI [0, 1, 2, 3, 4, 5, 6, 7, 8, 9, 23, 24, 25] rfl ?_; first | refine WA (by rfl) (by kernel_rfl) (by kernel_rfl) rfl ?_ | refine QT (by kernel_rfl) (by kernel_rfl) ?_) | refine Qj ?_ | refine Qi rfl ?_ | refine QD rfl (by omega) ?_ | refine Qm ?_ | refine x_op rfl (by (repeat' first | refine Qt rfl ?_ | refine Qv rfl ?_ | refine Qc rfl rfl rfl ?_ | refine QH rfl rfl ?_ | refine Wk rfl rfl ?_ | refine Qd rfl rfl ?_ | exact ⟨rfl, rfl⟩)) ?_ | refine Zm ?_)
      all_goals exact e_1 (Tryd.results64) (Qh rfl) (QC (σ := [_]) (r := [_, _]) ⟨rfl, rfl⟩)
     ·(repeat' first | refine Qt rfl ?_ | refine Qv rfl ?_ | refine Qc rfl rfl rfl ?_ | refine s_leq rfl rfl ?_ | refine Wv rfl rfl ?_ | refine QH rfl rfl ?_ | refine Qn rfl ?_ | refine WR rfl rfl ?_ | refine Wk rfl rfl ?_ | refine Qd rfl rfl ?_ | refine x_gn rfl rfl rfl rfl ?_ | refine Qe ?_ | refine Qp rfl ?_ | refine WC rfl rfl rfl rfl ?_ | refine WO rfl rfl rfl rfl ?_ | refine o_gu rfl rfl rfl rfl rfl ?_ | refine Wm rfl rfl (by omega) ?_ | refine Wn rfl rfl (by omega) ?_ | refine Qf ?_ | (refine QI [0, 1, 2, 3, 4, 5, 6, 7, 8, 9, 23, 24, 25] rfl ?_; refine Qa ?_) | refine Qg ?_ | (refine Wa ?_; refine QI [0, 1, 2, 3, 4, 5, 6, 7, 8, 9, 23, 24, 25] rfl ?_; first | refine WA (by rfl) (by kernel_rfl) (by kernel_rfl) rfl ?_ | refine QT (by kernel_rfl) (by kernel_rfl) ?_) | refine Qj ?_ | refine Qi rfl ?_ | refine Qm ?_ | refine x_op rfl (by (repeat' first | refine Qt rfl ?_ | refine Qv rfl ?_ | refine Qc rfl rfl rfl ?_ | refine QH rfl rfl ?_ | refine Wk rfl rfl ?_ | refine Qd rfl rfl ?_ | exact ⟨rfl, rfl⟩)) ?_ | refine Zm ?_)
      all_goals exact e_1 (Tryd.results64) (Qh rfl) (QC (σ := [_]) (r := [_, _]) ⟨rfl, rfl⟩)
    ·(repeat' first | refine Qt rfl ?_ | refine Qv rfl ?_ | refine Qc rfl rfl rfl ?_ | refine Wv rfl rfl ?_ | refine QH rfl rfl ?_ | refine Qn rfl ?_ | refine WR rfl rfl ?_ | refine Wk rfl rfl ?_ | refine Qd rfl rfl ?_ | refine x_gn rfl rfl rfl rfl ?_ | refine Qe ?_ | refine Qp rfl ?_ | refine WC rfl rfl rfl rfl ?_ | refine WO rfl rfl rfl rfl ?_ | refine o_gu rfl rfl rfl rfl rfl ?_ | refine Wm rfl rfl (by omega) ?_ | refine Wn rfl rfl (by omega) ?_ | refine Qf ?_ | (refine QI [0, 1, 2, 3, 4, 5, 6, 7, 8, 9, 23, 24, 25] rfl ?_; refine Qa ?_) | refine Qg ?_ | (refine Wa ?_; refine QI [0, 1, 2, 3, 4, 5, 6, 7, 8, 9, 23, 24, 25] rfl ?_; first | refine WA (by rfl) (by kernel_rfl) (by kernel_rfl) rfl ?_ | refine QT (by kernel_rfl) (by kernel_rfl) ?_) | refine Qj ?_ | refine Qi rfl ?_ | refine Qm ?_ | refine x_op rfl (by (repeat' first | refine Qt rfl ?_ | refine Qv rfl ?_ | refine Qc rfl rfl rfl ?_ | refine QH rfl rfl ?_ | refine Wk rfl rfl ?_ | refine Qd rfl rfl ?_ | exact ⟨rfl, rfl⟩)) ?_ | refine Zm ?_)
     all_goals exact e_1 (Tryd.results64) (Qh rfl) (QC (σ := [_]) (r := [_, _]) ⟨rfl, rfl⟩)
   ·(repeat' first | refine Qt rfl ?_ | refine Qv rfl ?_ | refine Qc rfl rfl rfl ?_ | refine QH rfl rfl ?_ | refine Qn rfl ?_ | refine WR rfl rfl ?_ | refine Wk rfl rfl ?_ | refine Qd rfl rfl ?_ | refine x_gn rfl rfl rfl rfl ?_ | refine Qe ?_ | refine Qp rfl ?_ | refine WC rfl rfl rfl rfl ?_ | refine WO rfl rfl rfl rfl ?_ | refine o_gu rfl rfl rfl rfl rfl ?_ | refine Wn rfl rfl (by omega) ?_ | refine Qf ?_ | (refine QI [0, 1, 2, 3, 4, 5, 6, 7, 8, 9, 23, 24, 25] rfl ?_; refine Qa ?_) | refine Qg ?_ | (refine Wa ?_; refine QI [0, 1, 2, 3, 4, 5, 6, 7, 8, 9, 23, 24, 25] rfl ?_; first | refine WA (by rfl) (by kernel_rfl) (by kernel_rfl) rfl ?_ | refine QT (by kernel_rfl) (by kernel_rfl) ?_) | refine Qj ?_ | refine Qi rfl ?_ | refine Qm ?_ | refine x_op rfl (by (repeat' first | refine Qt rfl ?_ | refine Qv rfl ?_ | refine Qc rfl rfl rfl ?_ | refine QH rfl rfl ?_ | refine Wk rfl rfl ?_ | refine Qd rfl rfl ?_ | exact ⟨rfl, rfl⟩)) ?_ | refine Zm ?_)
    all_goals exact e_1 (Tryd.results64) (Qh rfl) (QC (σ := [_]) (r := [_, _]) ⟨rfl, rfl⟩)
theorem ctypes_9a (hG : G 0 = opsD) (n : Int) (ks : List Nd) (hc1 : 0 <= n) (hc2 : n < 12) (ih : ∀ x ∈ ks, Fit x -> ∀ M : List (Int × Int), TM Tryd.prog G 64 (fun g => [.mp 0 g, .agg (Enc.enc x)]) M (.i (Wt x M).1) (Wt x M).2) (hfit : Fit (.mk 9 n 0 ks)) (M : List (Int × Int)) :
  TM Tryd.prog G 64 (fun g => [.mp 0 g, .agg (Enc.enc (Nd.mk 9 n 0 ks))]) M (.i (Wt (.mk 9 n 0 ks) M).1) (Wt (.mk 9 n 0 ks) M).2 := by
 intro g B b1
 have hks := hfit.len
 rw [We]
 refine Qb Tryd.func64 rfl Tryd.ntmps64 rfl (t := [(0, .mp 0 g), (1, .agg [.i 9, .i n, .i 0, Qy ks])]) rfl fun E hE => ?_
 have hM : Wt (.mk 9 n 0 ks) M = (match Wy ks M with | (none, M') => (-1, M') | (some l, M') => WF 9 n 0 l M') := by (rw [Wt, if_neg (fun h => h.1 rfl)]; try rfl)
 have hz : WP [Value.int .i64 0] (ks.length : Int).toNat = Qq (Q1 ks M 0) := by
  show _ = Qq (List.replicate ks.length (0 : Int))
  rw [show (ks.length : Int).toNat = ks.length from rfl]
  exact Zg _
 (repeat' first | refine Qt rfl ?_ | refine Qv rfl ?_ | refine Qc rfl rfl rfl ?_ | refine W6 rfl rfl ?_ | refine Qn rfl ?_ | refine Wk rfl rfl ?_ | refine Qd rfl rfl ?_ | refine s_make rfl rfl rfl (by omega) (by omega) (by omega) (by omega) (fun _ _ => ?_) | refine Q5 rfl rfl (fun _ _ => ?_) | refine Qe ?_ | refine Qp rfl ?_ | refine WO rfl rfl rfl rfl ?_ | refine Qf ?_ | (refine QI [0, 1, 2, 3, 4, 5, 6, 7, 8, 9, 23, 24, 25] rfl ?_; refine Qa ?_) | refine Qg ?_ | refine Qj ?_ | refine Qi rfl ?_)
 all_goals
  rename_i gt hgt gk hgk
  refine Wi (fun (i : Nat) => ⟨[(0, .mp 0 g), (3, .ptr 1 gt 0), (5, .ref 2 gk 0 ks.length (Enc.es Int)), (23, Qy ks), (24, .i ks.length), (25, .i i)], [.mapb g (Wg (Zq (Wy (ks.take i) M).2)), .row gt [.i 9, .i n, .i 0, Qy ks], .row gk (Qq (Q1 ks M i))]⟩) (fun i => i <= ks.length /\ (Wy (ks.take i) M).1.isSome = true) (fun i => ks.length - i) 0 ?_ ⟨by omega, rfl⟩ ?_
  ·rw [<- hz]
   exact zal rfl
  intro i ⟨hi, hok⟩
  have hkl := Zw hi hok
  (repeat' first | refine QG rfl rfl ?_ | refine Qe ?_ | refine Qp rfl ?_ | refine Qf ?_ | (refine QI [0, 1, 2, 3, 4, 5, 6, 7, 8, 9, 23, 24, 25] rfl ?_; refine Qa ?_))
  refine QE rfl (fun h => ?_) (fun h => ?_)
  ·have hil : i < ks.length := by omega
   have htm := ih _ (List.getElem_mem hil) (hfit.kids _ (List.getElem_mem hil)) (Wy (ks.take i) M).2
   obtain ⟨hst1, hst2⟩ := ZS hil hok
   have hik : i < (Q1 ks M i).length := by omega
   have hik2 : i < ((Q1 ks M i).set i (Wt ks[i] (Wy (ks.take i) M).2).1).length := by rw [List.length_set]; omega
   have hget : ((Q1 ks M i).set i (Wt ks[i] (Wy (ks.take i) M).2).1)[i] = (Wt ks[i] (Wy (ks.take i) M).2).1 := List.getElem_set_self ..
   clear ih hfit hz
   (repeat' first | refine Qt rfl ?_ | refine Qv rfl ?_ | refine Qu rfl rfl (by first | exact Enc.len _ | rfl) ?_ | refine QM rfl ?_ | refine Q9 rfl rfl rfl (by first | assumption | omega) rfl ?_ | refine Qo rfl rfl (by first | assumption | omega | (simp; done) | (simp; omega)) ?_ | refine WK rfl rfl rfl (by omega) ?_ | refine QG rfl rfl ?_ | refine s_ctm 0 (htm) rfl rfl rfl ?_ | refine Ql rfl rfl rfl (by first | exact Enc.len _ | rfl) (by first | exact Enc.len _ | rfl) (by rfl) ?_ | refine Q2 rfl rfl rfl rfl rfl (by first | assumption | omega) rfl ?_ | refine QJ (fun _ _ => ?_) | refine Qe ?_ | refine Qp rfl ?_ | refine Q0 ?_ | refine Qf ?_ | (refine QI [0, 1, 2, 3, 4, 5, 6, 7, 8, 9, 23, 24, 25] rfl ?_; refine Qa ?_) | refine Qg ?_ | refine Qj ?_)
   refine QE rfl (fun hn => ?_) (fun hn => ?_)
   ·rw [hget] at hn
    rw [hM, hst1 hn]
    (repeat' first | refine Qv rfl ?_ | refine Qe ?_ | refine Qp rfl ?_ | refine Qf ?_ | (refine QI [0, 1, 2, 3, 4, 5, 6, 7, 8, 9, 23, 24, 25] rfl ?_; refine Qa ?_) | refine Qm ?_)
    exact e_1 (Tryd.results64) (Qh rfl) (QC (σ := [_]) (r := [_, _, _]) ⟨rfl, rfl⟩)
   ·rw [hget] at hn
    obtain ⟨k1, k2, k3⟩ := hst2 hn
    (repeat' first | refine Qt rfl ?_ | refine QS rfl rfl (by omega) ?_ | refine Qe ?_ | refine Qp rfl ?_ | (refine QI [0, 1, 2, 3, 4, 5, 6, 7, 8, 9, 23, 24, 25] rfl ?_; refine Qa ?_) | refine Qj ?_)
    refine ⟨i + 1, ⟨by omega, k1⟩, by omega, ?_⟩
    rw [k2, k3]
    exact zal rfl
  ·have hil : i = ks.length := by omega
   subst hil
   refine QU rfl ?_
   refine r_pub 5 rfl rfl (by rw [Qz, hkl]) rfl ?_
   rw [List.take_length] at hok ⊢
   obtain ⟨l, M', hl⟩ : ∃ l M', Wy ks M = (some l, M') := by
    rcases he : Wy ks M with ⟨_ | l, M'⟩
    ·rw [he] at hok; cases hok
    ·exact ⟨l, M', rfl⟩
   have hkt : Q1 ks M ks.length = l := by unfold Q1; rw [List.take_length, hl]; simp
   have hll := ZN _ _ _ _ hl
   rw [hl] at hM
   rw [hM, hl, hkt]
   have hM2 : (match (some l, M') with | (none, M') => (-1, M') | (some l, M') => WF 9 n 0 l M' : Int × List (Int × Int)) = WF 9 n 0 l M' := rfl
   rw [hM2]
   have hq0 := Ws (G := G) l [0, 0] (by omega) (by decide)
   have hq1 := Ws (G := G) l [1, 1] (by omega) (by decide)
   have hq2 := Ws (G := G) l [1] (by omega) (by decide)
   clear hM hM2 hkt hkl hok hz ih hl hfit
   have hnil : l.length = 0 -> l = [] := List.length_eq_zero_iff.1
   have hnil' : l = [] -> l.length = 0 := List.length_eq_zero_iff.2
   clear hq1 hq2
   have hw := wTruth_c hG n
   by_cases hc3 : l = [0, 0]
   ·rw [decide_eq_true hc3] at hq0
    cases ht : truthM n
    ·rw [ht] at hw
     rw [show WF 9 n 0 l M' = (0, M') by unfold WF; rw [if_neg (by decide), if_neg (by decide), if_neg (by decide), if_pos rfl, if_pos ⟨hc1, hc2, hc3⟩, if_neg (by rw [ht]; exact Bool.noConfusion)]]
     (repeat' first | refine Qt rfl ?_ | refine Qv rfl ?_ | refine Qc rfl rfl rfl ?_ | refine QG rfl rfl ?_ | refine Wv rfl rfl ?_ | refine QH rfl rfl ?_ | refine QZ rfl rfl (hw) ?_ | refine QZ rfl rfl (hq0) ?_ | refine WR rfl rfl ?_ | refine Wk rfl rfl ?_ | refine Qd rfl rfl ?_ | refine Wl rfl rfl (by decide) rfl ?_ | refine Qe ?_ | refine Qp rfl ?_ | refine WC rfl rfl rfl rfl ?_ | refine WO rfl rfl rfl rfl ?_ | refine o_gu rfl rfl rfl rfl rfl ?_ | refine Wm rfl rfl (by omega) ?_ | refine Qf ?_ | (refine QI [0, 1, 2, 3, 4, 5, 6, 7, 8, 9, 23, 24, 25] rfl ?_; refine Qa ?_) | refine Qg ?_ | refine Qj ?_ | refine Qs rfl ?_ | refine Qi rfl ?_ | refine Qm ?_)
     all_goals exact e_1 (Tryd.results64) (Qh rfl) (QC (σ := [_]) (r := [_, _]) ⟨rfl, rfl⟩)
    ·rw [ht] at hw
     rw [show WF 9 n 0 l M' = (1, M') by unfold WF; rw [if_neg (by decide), if_neg (by decide), if_neg (by decide), if_pos rfl, if_pos ⟨hc1, hc2, hc3⟩, if_pos ht]]
     (repeat' first | refine Qt rfl ?_ | refine Qv rfl ?_ | refine Qc rfl rfl rfl ?_ | refine QG rfl rfl ?_ | refine Wv rfl rfl ?_ | refine QH rfl rfl ?_ | refine QZ rfl rfl (hw) ?_ | refine QZ rfl rfl (hq0) ?_ | refine WR rfl rfl ?_ | refine Wk rfl rfl ?_ | refine Qd rfl rfl ?_ | refine Wl rfl rfl (by decide) rfl ?_ | refine Qe ?_ | refine Qp rfl ?_ | refine WC rfl rfl rfl rfl ?_ | refine WO rfl rfl rfl rfl ?_ | refine o_gu rfl rfl rfl rfl rfl ?_ | refine Wm rfl rfl (by omega) ?_ | refine Qf ?_ | (refine QI [0, 1, 2, 3, 4, 5, 6, 7, 8, 9, 23, 24, 25] rfl ?_; refine Qa ?_) | refine Qg ?_ | refine Qs rfl ?_ | refine Qi rfl ?_ | refine Qm ?_)
     all_goals exact e_1 (Tryd.results64) (Qh rfl) (QC (σ := [_]) (r := [_, _]) ⟨rfl, rfl⟩)
   ·rw [decide_eq_false hc3] at hq0
    rw [show WF 9 n 0 l M' = (-1, M') by unfold WF; rw [if_neg (by decide), if_neg (by decide), if_neg (by decide), if_pos rfl, if_neg (fun h => hc3 h.2.2), if_neg (fun h => by omega)]]
    (repeat' first | refine Qt rfl ?_ | refine Qv rfl ?_ | refine Qc rfl rfl rfl ?_ | refine QG rfl rfl ?_ | refine Wv rfl rfl ?_ | refine QH rfl rfl ?_ | refine QZ rfl rfl (hq0) ?_ | refine WR rfl rfl ?_ | refine Wk rfl rfl ?_ | refine Qd rfl rfl ?_ | refine Wl rfl rfl (by decide) rfl ?_ | refine x_gn rfl rfl rfl rfl ?_ | refine Qe ?_ | refine Qp rfl ?_ | refine WC rfl rfl rfl rfl ?_ | refine WO rfl rfl rfl rfl ?_ | refine o_gu rfl rfl rfl rfl rfl ?_ | refine Wm rfl rfl (by omega) ?_ | refine Wn rfl rfl (by omega) ?_ | refine Qf ?_ | (refine QI [0, 1, 2, 3, 4, 5, 6, 7, 8, 9, 23, 24, 25] rfl ?_; refine Qa ?_) | refine Qg ?_ | (refine Wa ?_; refine QI [0, 1, 2, 3, 4, 5, 6, 7, 8, 9, 23, 24, 25] rfl ?_; first | refine WA (by rfl) (by kernel_rfl) (by kernel_rfl) rfl ?_ | refine QT (by kernel_rfl) (by kernel_rfl) ?_) | refine Qj ?_ | refine Qi rfl ?_ | refine Qm ?_ | refine x_op rfl (by (repeat' first | refine Qt rfl ?_ | refine Qv rfl ?_ | refine Qc rfl rfl rfl ?_ | refine QH rfl rfl ?_ | refine Wk rfl rfl ?_ | refine Qd rfl rfl ?_ | exact ⟨rfl, rfl⟩)) ?_ | refine Zm ?_)
    all_goals exact e_1 (Tryd.results64) (Qh rfl) (QC (σ := [_]) (r := [_, _]) ⟨rfl, rfl⟩)
theorem ctypes_9b (hG : G 0 = opsD) (n : Int) (ks : List Nd) (hc12 : ¬ (0 <= n /\ n < 12)) (ih : ∀ x ∈ ks, Fit x -> ∀ M : List (Int × Int), TM Tryd.prog G 64 (fun g => [.mp 0 g, .agg (Enc.enc x)]) M (.i (Wt x M).1) (Wt x M).2) (hfit : Fit (.mk 9 n 0 ks)) (M : List (Int × Int)) :
  TM Tryd.prog G 64 (fun g => [.mp 0 g, .agg (Enc.enc (Nd.mk 9 n 0 ks))]) M (.i (Wt (.mk 9 n 0 ks) M).1) (Wt (.mk 9 n 0 ks) M).2 := by
 intro g B b1
 have hks := hfit.len
 rw [We]
 refine Qb Tryd.func64 rfl Tryd.ntmps64 rfl (t := [(0, .mp 0 g), (1, .agg [.i 9, .i n, .i 0, Qy ks])]) rfl fun E hE => ?_
 have hM : Wt (.mk 9 n 0 ks) M = (match Wy ks M with | (none, M') => (-1, M') | (some l, M') => WF 9 n 0 l M') := by (rw [Wt, if_neg (fun h => h.1 rfl)]; try rfl)
 have hz : WP [Value.int .i64 0] (ks.length : Int).toNat = Qq (Q1 ks M 0) := by
  show _ = Qq (List.replicate ks.length (0 : Int))
  rw [show (ks.length : Int).toNat = ks.length from rfl]
  exact Zg _
 (repeat' first | refine Qt rfl ?_ | refine Qv rfl ?_ | refine Qc rfl rfl rfl ?_ | refine W6 rfl rfl ?_ | refine Qn rfl ?_ | refine Wk rfl rfl ?_ | refine Qd rfl rfl ?_ | refine s_make rfl rfl rfl (by omega) (by omega) (by omega) (by omega) (fun _ _ => ?_) | refine Q5 rfl rfl (fun _ _ => ?_) | refine Qe ?_ | refine Qp rfl ?_ | refine WO rfl rfl rfl rfl ?_ | refine Qf ?_ | (refine QI [0, 1, 2, 3, 4, 5, 6, 7, 8, 9, 23, 24, 25] rfl ?_; refine Qa ?_) | refine Qg ?_ | refine Qj ?_ | refine Qi rfl ?_)
 all_goals
  rename_i gt hgt gk hgk
  refine Wi (fun (i : Nat) => ⟨[(0, .mp 0 g), (3, .ptr 1 gt 0), (5, .ref 2 gk 0 ks.length (Enc.es Int)), (23, Qy ks), (24, .i ks.length), (25, .i i)], [.mapb g (Wg (Zq (Wy (ks.take i) M).2)), .row gt [.i 9, .i n, .i 0, Qy ks], .row gk (Qq (Q1 ks M i))]⟩) (fun i => i <= ks.length /\ (Wy (ks.take i) M).1.isSome = true) (fun i => ks.length - i) 0 ?_ ⟨by omega, rfl⟩ ?_
  ·rw [<- hz]
   exact zal rfl
  intro i ⟨hi, hok⟩
  have hkl := Zw hi hok
  (repeat' first | refine QG rfl rfl ?_ | refine Qe ?_ | refine Qp rfl ?_ | refine Qf ?_ | (refine QI [0, 1, 2, 3, 4, 5, 6, 7, 8, 9, 23, 24, 25] rfl ?_; refine Qa ?_))
  refine QE rfl (fun h => ?_) (fun h => ?_)
  ·have hil : i < ks.length := by omega
   have htm := ih _ (List.getElem_mem hil) (hfit.kids _ (List.getElem_mem hil)) (Wy (ks.take i) M).2
   obtain ⟨hst1, hst2⟩ := ZS hil hok
   have hik : i < (Q1 ks M i).length := by omega
   have hik2 : i < ((Q1 ks M i).set i (Wt ks[i] (Wy (ks.take i) M).2).1).length := by rw [List.length_set]; omega
   have hget : ((Q1 ks M i).set i (Wt ks[i] (Wy (ks.take i) M).2).1)[i] = (Wt ks[i] (Wy (ks.take i) M).2).1 := List.getElem_set_self ..
   clear ih hfit hz
   (repeat' first | refine Qt rfl ?_ | refine Qv rfl ?_ | refine Qu rfl rfl (by first | exact Enc.len _ | rfl) ?_ | refine QM rfl ?_ | refine Q9 rfl rfl rfl (by first | assumption | omega) rfl ?_ | refine Qo rfl rfl (by first | assumption | omega | (simp; done) | (simp; omega)) ?_ | refine WK rfl rfl rfl (by omega) ?_ | refine QG rfl rfl ?_ | refine s_ctm 0 (htm) rfl rfl rfl ?_ | refine Ql rfl rfl rfl (by first | exact Enc.len _ | rfl) (by first | exact Enc.len _ | rfl) (by rfl) ?_ | refine Q2 rfl rfl rfl rfl rfl (by first | assumption | omega) rfl ?_ | refine QJ (fun _ _ => ?_) | refine Qe ?_ | refine Qp rfl ?_ | refine Q0 ?_ | refine Qf ?_ | (refine QI [0, 1, 2, 3, 4, 5, 6, 7, 8, 9, 23, 24, 25] rfl ?_; refine Qa ?_) | refine Qg ?_ | refine Qj ?_)
   refine QE rfl (fun hn => ?_) (fun hn => ?_)
   ·rw [hget] at hn
    rw [hM, hst1 hn]
    (repeat' first | refine Qv rfl ?_ | refine Qe ?_ | refine Qp rfl ?_ | refine Qf ?_ | (refine QI [0, 1, 2, 3, 4, 5, 6, 7, 8, 9, 23, 24, 25] rfl ?_; refine Qa ?_) | refine Qm ?_)
    exact e_1 (Tryd.results64) (Qh rfl) (QC (σ := [_]) (r := [_, _, _]) ⟨rfl, rfl⟩)
   ·rw [hget] at hn
    obtain ⟨k1, k2, k3⟩ := hst2 hn
    (repeat' first | refine Qt rfl ?_ | refine QS rfl rfl (by omega) ?_ | refine Qe ?_ | refine Qp rfl ?_ | (refine QI [0, 1, 2, 3, 4, 5, 6, 7, 8, 9, 23, 24, 25] rfl ?_; refine Qa ?_) | refine Qj ?_)
    refine ⟨i + 1, ⟨by omega, k1⟩, by omega, ?_⟩
    rw [k2, k3]
    exact zal rfl
  ·have hil : i = ks.length := by omega
   subst hil
   refine QU rfl ?_
   refine r_pub 5 rfl rfl (by rw [Qz, hkl]) rfl ?_
   rw [List.take_length] at hok ⊢
   obtain ⟨l, M', hl⟩ : ∃ l M', Wy ks M = (some l, M') := by
    rcases he : Wy ks M with ⟨_ | l, M'⟩
    ·rw [he] at hok; cases hok
    ·exact ⟨l, M', rfl⟩
   have hkt : Q1 ks M ks.length = l := by unfold Q1; rw [List.take_length, hl]; simp
   have hll := ZN _ _ _ _ hl
   rw [hl] at hM
   rw [hM, hl, hkt]
   have hM2 : (match (some l, M') with | (none, M') => (-1, M') | (some l, M') => WF 9 n 0 l M' : Int × List (Int × Int)) = WF 9 n 0 l M' := rfl
   rw [hM2]
   have hq0 := Ws (G := G) l [0, 0] (by omega) (by decide)
   have hq1 := Ws (G := G) l [1, 1] (by omega) (by decide)
   have hq2 := Ws (G := G) l [1] (by omega) (by decide)
   clear hM hM2 hkt hkl hok hz ih hl hfit
   have hnil : l.length = 0 -> l = [] := List.length_eq_zero_iff.1
   have hnil' : l = [] -> l.length = 0 := List.length_eq_zero_iff.2
   clear hq0 hq2
   by_cases h12 : n = 12 \/ n = 13
   ·by_cases hc4 : l = [1, 1]
    ·rw [decide_eq_true hc4] at hq1
     rcases h12 with h12 | h12
     all_goals
      rw [show WF 9 n 0 l M' = (1, M') by unfold WF; rw [if_neg (by decide), if_neg (by decide), if_neg (by decide), if_pos rfl, if_neg (fun h => hc12 ⟨h.1, h.2.1⟩), if_pos ⟨by omega, hc4⟩]]
      (repeat' first | refine Qt rfl ?_ | refine Qv rfl ?_ | refine Qc rfl rfl rfl ?_ | refine QG rfl rfl ?_ | refine Wv rfl rfl ?_ | refine QH rfl rfl ?_ | refine QZ rfl rfl (hq1) ?_ | refine WR rfl rfl ?_ | refine Wk rfl rfl ?_ | refine Qd rfl rfl ?_ | refine Wl rfl rfl (by decide) rfl ?_ | refine Qe ?_ | refine Qp rfl ?_ | refine WC rfl rfl rfl rfl ?_ | refine WO rfl rfl rfl rfl ?_ | refine o_gu rfl rfl rfl rfl rfl ?_ | refine Wm rfl rfl (by omega) ?_ | refine Wn rfl rfl (by omega) ?_ | refine Qf ?_ | (refine QI [0, 1, 2, 3, 4, 5, 6, 7, 8, 9, 23, 24, 25] rfl ?_; refine Qa ?_) | refine Qg ?_ | refine Qs rfl ?_ | refine Qi rfl ?_ | refine Qm ?_)
      all_goals exact e_1 (Tryd.results64) (Qh rfl) (QC (σ := [_]) (r := [_, _]) ⟨rfl, rfl⟩)
    ·rw [decide_eq_false hc4] at hq1
     rcases h12 with h12 | h12
     all_goals
      rw [show WF 9 n 0 l M' = (-1, M') by unfold WF; rw [if_neg (by decide), if_neg (by decide), if_neg (by decide), if_pos rfl, if_neg (fun h => hc12 ⟨h.1, h.2.1⟩), if_neg (fun h => hc4 h.2)]]
      (repeat' first | refine Qt rfl ?_ | refine Qv rfl ?_ | refine Qc rfl rfl rfl ?_ | refine QG rfl rfl ?_ | refine Wv rfl rfl ?_ | refine QH rfl rfl ?_ | refine QZ rfl rfl (hq1) ?_ | refine WR rfl rfl ?_ | refine Wk rfl rfl ?_ | refine Qd rfl rfl ?_ | refine Wl rfl rfl (by decide) rfl ?_ | refine x_gn rfl rfl rfl rfl ?_ | refine Qe ?_ | refine Qp rfl ?_ | refine WC rfl rfl rfl rfl ?_ | refine WO rfl rfl rfl rfl ?_ | refine o_gu rfl rfl rfl rfl rfl ?_ | refine Wm rfl rfl (by omega) ?_ | refine Wn rfl rfl (by omega) ?_ | refine Qf ?_ | (refine QI [0, 1, 2, 3, 4, 5, 6, 7, 8, 9, 23, 24, 25] rfl ?_; refine Qa ?_) | refine Qg ?_ | (refine Wa ?_; refine QI [0, 1, 2, 3, 4, 5, 6, 7, 8, 9, 23, 24, 25] rfl ?_; first | refine WA (by rfl) (by kernel_rfl) (by kernel_rfl) rfl ?_ | refine QT (by kernel_rfl) (by kernel_rfl) ?_) | refine Qj ?_ | refine Qi rfl ?_ | refine Qm ?_ | refine x_op rfl (by (repeat' first | refine Qt rfl ?_ | refine Qv rfl ?_ | refine Qc rfl rfl rfl ?_ | refine QH rfl rfl ?_ | refine Wk rfl rfl ?_ | refine Qd rfl rfl ?_ | exact ⟨rfl, rfl⟩)) ?_ | refine Zm ?_)
      all_goals exact e_1 (Tryd.results64) (Qh rfl) (QC (σ := [_]) (r := [_, _]) ⟨rfl, rfl⟩)
   ·by_cases h0 : 0 <= n
    all_goals
     rw [show WF 9 n 0 l M' = (-1, M') by unfold WF; rw [if_neg (by decide), if_neg (by decide), if_neg (by decide), if_pos rfl, if_neg (fun h => hc12 ⟨h.1, h.2.1⟩), if_neg (fun h => h12 h.1)]]
     (repeat' first | refine Qt rfl ?_ | refine Qv rfl ?_ | refine Qc rfl rfl rfl ?_ | refine QG rfl rfl ?_ | refine Wv rfl rfl ?_ | refine QH rfl rfl ?_ | refine WR rfl rfl ?_ | refine Wk rfl rfl ?_ | refine Qd rfl rfl ?_ | refine x_gn rfl rfl rfl rfl ?_ | refine Qe ?_ | refine Qp rfl ?_ | refine WC rfl rfl rfl rfl ?_ | refine WO rfl rfl rfl rfl ?_ | refine o_gu rfl rfl rfl rfl rfl ?_ | refine Wm rfl rfl (by omega) ?_ | refine Wn rfl rfl (by omega) ?_ | refine Qf ?_ | (refine QI [0, 1, 2, 3, 4, 5, 6, 7, 8, 9, 23, 24, 25] rfl ?_; refine Qa ?_) | refine Qg ?_ | (refine Wa ?_; refine QI [0, 1, 2, 3, 4, 5, 6, 7, 8, 9, 23, 24, 25] rfl ?_; first | refine WA (by rfl) (by kernel_rfl) (by kernel_rfl) rfl ?_ | refine QT (by kernel_rfl) (by kernel_rfl) ?_) | refine Qj ?_ | refine Qi rfl ?_ | refine Qm ?_ | refine x_op rfl (by (repeat' first | refine Qt rfl ?_ | refine Qv rfl ?_ | refine Qc rfl rfl rfl ?_ | refine QH rfl rfl ?_ | refine Wk rfl rfl ?_ | refine Qd rfl rfl ?_ | exact ⟨rfl, rfl⟩)) ?_ | refine Zm ?_)
     all_goals exact e_1 (Tryd.results64) (Qh rfl) (QC (σ := [_]) (r := [_, _]) ⟨rfl, rfl⟩)
theorem ctypes_10 (hG : G 0 = opsD) (n : Int) (ks : List Nd)  (ih : ∀ x ∈ ks, Fit x -> ∀ M : List (Int × Int), TM Tryd.prog G 64 (fun g => [.mp 0 g, .agg (Enc.enc x)]) M (.i (Wt x M).1) (Wt x M).2) (hfit : Fit (.mk 10 n 0 ks)) (M : List (Int × Int)) :
  TM Tryd.prog G 64 (fun g => [.mp 0 g, .agg (Enc.enc (Nd.mk 10 n 0 ks))]) M (.i (Wt (.mk 10 n 0 ks) M).1) (Wt (.mk 10 n 0 ks) M).2 := by
 intro g B b1
 have hks := hfit.len
 rw [We]
 refine Qb Tryd.func64 rfl Tryd.ntmps64 rfl (t := [(0, .mp 0 g), (1, .agg [.i 10, .i n, .i 0, Qy ks])]) rfl fun E hE => ?_
 have hM : Wt (.mk 10 n 0 ks) M = (match Wy ks M with | (none, M') => (-1, M') | (some l, M') => WF 10 n 0 l M') := by (rw [Wt, if_neg (fun h => h.1 rfl)]; try rfl)
 have hz : WP [Value.int .i64 0] (ks.length : Int).toNat = Qq (Q1 ks M 0) := by
  show _ = Qq (List.replicate ks.length (0 : Int))
  rw [show (ks.length : Int).toNat = ks.length from rfl]
  exact Zg _
 (repeat' first | refine Qt rfl ?_ | refine Qv rfl ?_ | refine Qc rfl rfl rfl ?_ | refine W6 rfl rfl ?_ | refine Qn rfl ?_ | refine Wk rfl rfl ?_ | refine Qd rfl rfl ?_ | refine s_make rfl rfl rfl (by omega) (by omega) (by omega) (by omega) (fun _ _ => ?_) | refine Q5 rfl rfl (fun _ _ => ?_) | refine Qe ?_ | refine Qp rfl ?_ | refine WO rfl rfl rfl rfl ?_ | refine Qf ?_ | (refine QI [0, 1, 2, 3, 4, 5, 6, 7, 8, 9, 23, 24, 25] rfl ?_; refine Qa ?_) | refine Qg ?_ | refine Qj ?_ | refine Qi rfl ?_)
 all_goals
  rename_i gt hgt gk hgk
  refine Wi (fun (i : Nat) => ⟨[(0, .mp 0 g), (3, .ptr 1 gt 0), (5, .ref 2 gk 0 ks.length (Enc.es Int)), (23, Qy ks), (24, .i ks.length), (25, .i i)], [.mapb g (Wg (Zq (Wy (ks.take i) M).2)), .row gt [.i 10, .i n, .i 0, Qy ks], .row gk (Qq (Q1 ks M i))]⟩) (fun i => i <= ks.length /\ (Wy (ks.take i) M).1.isSome = true) (fun i => ks.length - i) 0 ?_ ⟨by omega, rfl⟩ ?_
  ·rw [<- hz]
   exact zal rfl
  intro i ⟨hi, hok⟩
  have hkl := Zw hi hok
  (repeat' first | refine QG rfl rfl ?_ | refine Qe ?_ | refine Qp rfl ?_ | refine Qf ?_ | (refine QI [0, 1, 2, 3, 4, 5, 6, 7, 8, 9, 23, 24, 25] rfl ?_; refine Qa ?_))
  refine QE rfl (fun h => ?_) (fun h => ?_)
  ·have hil : i < ks.length := by omega
   have htm := ih _ (List.getElem_mem hil) (hfit.kids _ (List.getElem_mem hil)) (Wy (ks.take i) M).2
   obtain ⟨hst1, hst2⟩ := ZS hil hok
   have hik : i < (Q1 ks M i).length := by omega
   have hik2 : i < ((Q1 ks M i).set i (Wt ks[i] (Wy (ks.take i) M).2).1).length := by rw [List.length_set]; omega
   have hget : ((Q1 ks M i).set i (Wt ks[i] (Wy (ks.take i) M).2).1)[i] = (Wt ks[i] (Wy (ks.take i) M).2).1 := List.getElem_set_self ..
   clear ih hfit hz
   (repeat' first | refine Qt rfl ?_ | refine Qv rfl ?_ | refine Qu rfl rfl (by first | exact Enc.len _ | rfl) ?_ | refine QM rfl ?_ | refine Q9 rfl rfl rfl (by first | assumption | omega) rfl ?_ | refine Qo rfl rfl (by first | assumption | omega | (simp; done) | (simp; omega)) ?_ | refine WK rfl rfl rfl (by omega) ?_ | refine QG rfl rfl ?_ | refine s_ctm 0 (htm) rfl rfl rfl ?_ | refine Ql rfl rfl rfl (by first | exact Enc.len _ | rfl) (by first | exact Enc.len _ | rfl) (by rfl) ?_ | refine Q2 rfl rfl rfl rfl rfl (by first | assumption | omega) rfl ?_ | refine QJ (fun _ _ => ?_) | refine Qe ?_ | refine Qp rfl ?_ | refine Q0 ?_ | refine Qf ?_ | (refine QI [0, 1, 2, 3, 4, 5, 6, 7, 8, 9, 23, 24, 25] rfl ?_; refine Qa ?_) | refine Qg ?_ | refine Qj ?_)
   refine QE rfl (fun hn => ?_) (fun hn => ?_)
   ·rw [hget] at hn
    rw [hM, hst1 hn]
    (repeat' first | refine Qv rfl ?_ | refine Qe ?_ | refine Qp rfl ?_ | refine Qf ?_ | (refine QI [0, 1, 2, 3, 4, 5, 6, 7, 8, 9, 23, 24, 25] rfl ?_; refine Qa ?_) | refine Qm ?_)
    exact e_1 (Tryd.results64) (Qh rfl) (QC (σ := [_]) (r := [_, _, _]) ⟨rfl, rfl⟩)
   ·rw [hget] at hn
    obtain ⟨k1, k2, k3⟩ := hst2 hn
    (repeat' first | refine Qt rfl ?_ | refine QS rfl rfl (by omega) ?_ | refine Qe ?_ | refine Qp rfl ?_ | (refine QI [0, 1, 2, 3, 4, 5, 6, 7, 8, 9, 23, 24, 25] rfl ?_; refine Qa ?_) | refine Qj ?_)
    refine ⟨i + 1, ⟨by omega, k1⟩, by omega, ?_⟩
    rw [k2, k3]
    exact zal rfl
  ·have hil : i = ks.length := by omega
   subst hil
   refine QU rfl ?_
   refine r_pub 5 rfl rfl (by rw [Qz, hkl]) rfl ?_
   rw [List.take_length] at hok ⊢
   obtain ⟨l, M', hl⟩ : ∃ l M', Wy ks M = (some l, M') := by
    rcases he : Wy ks M with ⟨_ | l, M'⟩
    ·rw [he] at hok; cases hok
    ·exact ⟨l, M', rfl⟩
   have hkt : Q1 ks M ks.length = l := by unfold Q1; rw [List.take_length, hl]; simp
   have hll := ZN _ _ _ _ hl
   rw [hl] at hM
   rw [hM, hl, hkt]
   have hM2 : (match (some l, M') with | (none, M') => (-1, M') | (some l, M') => WF 10 n 0 l M' : Int × List (Int × Int)) = WF 10 n 0 l M' := rfl
   rw [hM2]
   have hq0 := Ws (G := G) l [0, 0] (by omega) (by decide)
   have hq1 := Ws (G := G) l [1, 1] (by omega) (by decide)
   have hq2 := Ws (G := G) l [1] (by omega) (by decide)
   clear hM hM2 hkt hkl hok hz ih hl hfit
   have hnil : l.length = 0 -> l = [] := List.length_eq_zero_iff.1
   have hnil' : l = [] -> l.length = 0 := List.length_eq_zero_iff.2
   clear hq0 hq1
   by_cases hc1 : n = 0
   ·by_cases hc2 : l = [1]
    ·rw [decide_eq_true hc2] at hq2
     rw [show WF 10 n 0 l M' = (1, M') by unfold WF; rw [if_neg (by decide), if_neg (by decide), if_neg (by decide), if_neg (by decide), if_pos rfl, if_pos ⟨hc1, hc2⟩]]
     (repeat' first | refine Qt rfl ?_ | refine Qv rfl ?_ | refine Qc rfl rfl rfl ?_ | refine QH rfl rfl ?_ | refine QZ rfl rfl (hq2) ?_ | refine WR rfl rfl ?_ | refine Wk rfl rfl ?_ | refine Qd rfl rfl ?_ | refine Wl rfl rfl (by decide) rfl ?_ | refine Qe ?_ | refine Qp rfl ?_ | refine WC rfl rfl rfl rfl ?_ | refine WO rfl rfl rfl rfl ?_ | refine o_gu rfl rfl rfl rfl rfl ?_ | refine Wm rfl rfl (by omega) ?_ | refine Qf ?_ | (refine QI [0, 1, 2, 3, 4, 5, 6, 7, 8, 9, 23, 24, 25] rfl ?_; refine Qa ?_) | refine Qg ?_ | refine Qs rfl ?_ | refine Qi rfl ?_ | refine Qm ?_)
     all_goals exact e_1 (Tryd.results64) (Qh rfl) (QC (σ := [_]) (r := [_, _]) ⟨rfl, rfl⟩)
    ·rw [decide_eq_false hc2] at hq2
     rw [show WF 10 n 0 l M' = (-1, M') by unfold WF; rw [if_neg (by decide), if_neg (by decide), if_neg (by decide), if_neg (by decide), if_pos rfl, if_neg (fun h => hc2 h.2)]]
     (repeat' first | refine Qt rfl ?_ | refine Qv rfl ?_ | refine Qc rfl rfl rfl ?_ | refine QH rfl rfl ?_ | refine QZ rfl rfl (hq2) ?_ | refine WR rfl rfl ?_ | refine Wk rfl rfl ?_ | refine Qd rfl rfl ?_ | refine Wl rfl rfl (by decide) rfl ?_ | refine x_gn rfl rfl rfl rfl ?_ | refine Qe ?_ | refine Qp rfl ?_ | refine WC rfl rfl rfl rfl ?_ | refine WO rfl rfl rfl rfl ?_ | refine o_gu rfl rfl rfl rfl rfl ?_ | refine Wm rfl rfl (by omega) ?_ | refine Qf ?_ | (refine QI [0, 1, 2, 3, 4, 5, 6, 7, 8, 9, 23, 24, 25] rfl ?_; refine Qa ?_) | refine Qg ?_ | (refine Wa ?_; refine QI [0, 1, 2, 3, 4, 5, 6, 7, 8, 9, 23, 24, 25] rfl ?_; first | refine WA (by rfl) (by kernel_rfl) (by kernel_rfl) rfl ?_ | refine QT (by kernel_rfl) (by kernel_rfl) ?_) | refine Qj ?_ | refine Qi rfl ?_ | refine Qm ?_ | refine x_op rfl (by (repeat' first | refine Qt rfl ?_ | refine Qv rfl ?_ | refine Qc rfl rfl rfl ?_ | refine QH rfl rfl ?_ | refine Wk rfl rfl ?_ | refine Qd rfl rfl ?_ | exact ⟨rfl, rfl⟩)) ?_ | refine Zm ?_)
     all_goals exact e_1 (Tryd.results64) (Qh rfl) (QC (σ := [_]) (r := [_, _]) ⟨rfl, rfl⟩)
   ·rw [show WF 10 n 0 l M' = (-1, M') by unfold WF; rw [if_neg (by decide), if_neg (by decide), if_neg (by decide), if_neg (by decide), if_pos rfl, if_neg (fun h => hc1 h.1)]]
    (repeat' first | refine Qt rfl ?_ | refine Qv rfl ?_ | refine Qc rfl rfl rfl ?_ | refine QH rfl rfl ?_ | refine WR rfl rfl ?_ | refine Wk rfl rfl ?_ | refine Qd rfl rfl ?_ | refine x_gn rfl rfl rfl rfl ?_ | refine Qe ?_ | refine Qp rfl ?_ | refine WC rfl rfl rfl rfl ?_ | refine WO rfl rfl rfl rfl ?_ | refine o_gu rfl rfl rfl rfl rfl ?_ | refine Wn rfl rfl (by omega) ?_ | refine Qf ?_ | (refine QI [0, 1, 2, 3, 4, 5, 6, 7, 8, 9, 23, 24, 25] rfl ?_; refine Qa ?_) | refine Qg ?_ | (refine Wa ?_; refine QI [0, 1, 2, 3, 4, 5, 6, 7, 8, 9, 23, 24, 25] rfl ?_; first | refine WA (by rfl) (by kernel_rfl) (by kernel_rfl) rfl ?_ | refine QT (by kernel_rfl) (by kernel_rfl) ?_) | refine Qj ?_ | refine Qi rfl ?_ | refine Qm ?_ | refine x_op rfl (by (repeat' first | refine Qt rfl ?_ | refine Qv rfl ?_ | refine Qc rfl rfl rfl ?_ | refine QH rfl rfl ?_ | refine Wk rfl rfl ?_ | refine Qd rfl rfl ?_ | exact ⟨rfl, rfl⟩)) ?_ | refine Zm ?_)
    all_goals exact e_1 (Tryd.results64) (Qh rfl) (QC (σ := [_]) (r := [_, _]) ⟨rfl, rfl⟩)
theorem ctypes_29 (hG : G 0 = opsD) (n : Int) (ks : List Nd)  (ih : ∀ x ∈ ks, Fit x -> ∀ M : List (Int × Int), TM Tryd.prog G 64 (fun g => [.mp 0 g, .agg (Enc.enc x)]) M (.i (Wt x M).1) (Wt x M).2) (hfit : Fit (.mk 29 n 0 ks)) (M : List (Int × Int)) :
  TM Tryd.prog G 64 (fun g => [.mp 0 g, .agg (Enc.enc (Nd.mk 29 n 0 ks))]) M (.i (Wt (.mk 29 n 0 ks) M).1) (Wt (.mk 29 n 0 ks) M).2 := by
 intro g B b1
 have hks := hfit.len
 rw [We]
 refine Qb Tryd.func64 rfl Tryd.ntmps64 rfl (t := [(0, .mp 0 g), (1, .agg [.i 29, .i n, .i 0, Qy ks])]) rfl fun E hE => ?_
 have hM : Wt (.mk 29 n 0 ks) M = (match Wy ks M with | (none, M') => (-1, M') | (some l, M') => WF 29 n 0 l M') := by (rw [Wt, if_neg (fun h => h.1 rfl)]; try rfl)
 have hz : WP [Value.int .i64 0] (ks.length : Int).toNat = Qq (Q1 ks M 0) := by
  show _ = Qq (List.replicate ks.length (0 : Int))
  rw [show (ks.length : Int).toNat = ks.length from rfl]
  exact Zg _
 (repeat' first | refine Qt rfl ?_ | refine Qv rfl ?_ | refine Qc rfl rfl rfl ?_ | refine W6 rfl rfl ?_ | refine Qn rfl ?_ | refine Wk rfl rfl ?_ | refine Qd rfl rfl ?_ | refine s_make rfl rfl rfl (by omega) (by omega) (by omega) (by omega) (fun _ _ => ?_) | refine Q5 rfl rfl (fun _ _ => ?_) | refine Qe ?_ | refine Qp rfl ?_ | refine WO rfl rfl rfl rfl ?_ | refine Qf ?_ | (refine QI [0, 1, 2, 3, 4, 5, 6, 7, 8, 9, 23, 24, 25] rfl ?_; refine Qa ?_) | refine Qg ?_ | refine Qj ?_ | refine Qi rfl ?_)
 all_goals
  rename_i gt hgt gk hgk
  refine Wi (fun (i : Nat) => ⟨[(0, .mp 0 g), (3, .ptr 1 gt 0), (5, .ref 2 gk 0 ks.length (Enc.es Int)), (23, Qy ks), (24, .i ks.length), (25, .i i)], [.mapb g (Wg (Zq (Wy (ks.take i) M).2)), .row gt [.i 29, .i n, .i 0, Qy ks], .row gk (Qq (Q1 ks M i))]⟩) (fun i => i <= ks.length /\ (Wy (ks.take i) M).1.isSome = true) (fun i => ks.length - i) 0 ?_ ⟨by omega, rfl⟩ ?_
  ·rw [<- hz]
   exact zal rfl
  intro i ⟨hi, hok⟩
  have hkl := Zw hi hok
  (repeat' first | refine QG rfl rfl ?_ | refine Qe ?_ | refine Qp rfl ?_ | refine Qf ?_ | (refine QI [0, 1, 2, 3, 4, 5, 6, 7, 8, 9, 23, 24, 25] rfl ?_; refine Qa ?_))
  refine QE rfl (fun h => ?_) (fun h => ?_)
  ·have hil : i < ks.length := by omega
   have htm := ih _ (List.getElem_mem hil) (hfit.kids _ (List.getElem_mem hil)) (Wy (ks.take i) M).2
   obtain ⟨hst1, hst2⟩ := ZS hil hok
   have hik : i < (Q1 ks M i).length := by omega
   have hik2 : i < ((Q1 ks M i).set i (Wt ks[i] (Wy (ks.take i) M).2).1).length := by rw [List.length_set]; omega
   have hget : ((Q1 ks M i).set i (Wt ks[i] (Wy (ks.take i) M).2).1)[i] = (Wt ks[i] (Wy (ks.take i) M).2).1 := List.getElem_set_self ..
   clear ih hfit hz
   (repeat' first | refine Qt rfl ?_ | refine Qv rfl ?_ | refine Qu rfl rfl (by first | exact Enc.len _ | rfl) ?_ | refine QM rfl ?_ | refine Q9 rfl rfl rfl (by first | assumption | omega) rfl ?_ | refine Qo rfl rfl (by first | assumption | omega | (simp; done) | (simp; omega)) ?_ | refine WK rfl rfl rfl (by omega) ?_ | refine QG rfl rfl ?_ | refine s_ctm 0 (htm) rfl rfl rfl ?_ | refine Ql rfl rfl rfl (by first | exact Enc.len _ | rfl) (by first | exact Enc.len _ | rfl) (by rfl) ?_ | refine Q2 rfl rfl rfl rfl rfl (by first | assumption | omega) rfl ?_ | refine QJ (fun _ _ => ?_) | refine Qe ?_ | refine Qp rfl ?_ | refine Q0 ?_ | refine Qf ?_ | (refine QI [0, 1, 2, 3, 4, 5, 6, 7, 8, 9, 23, 24, 25] rfl ?_; refine Qa ?_) | refine Qg ?_ | refine Qj ?_)
   refine QE rfl (fun hn => ?_) (fun hn => ?_)
   ·rw [hget] at hn
    rw [hM, hst1 hn]
    (repeat' first | refine Qv rfl ?_ | refine Qe ?_ | refine Qp rfl ?_ | refine Qf ?_ | (refine QI [0, 1, 2, 3, 4, 5, 6, 7, 8, 9, 23, 24, 25] rfl ?_; refine Qa ?_) | refine Qm ?_)
    exact e_1 (Tryd.results64) (Qh rfl) (QC (σ := [_]) (r := [_, _, _]) ⟨rfl, rfl⟩)
   ·rw [hget] at hn
    obtain ⟨k1, k2, k3⟩ := hst2 hn
    (repeat' first | refine Qt rfl ?_ | refine QS rfl rfl (by omega) ?_ | refine Qe ?_ | refine Qp rfl ?_ | (refine QI [0, 1, 2, 3, 4, 5, 6, 7, 8, 9, 23, 24, 25] rfl ?_; refine Qa ?_) | refine Qj ?_)
    refine ⟨i + 1, ⟨by omega, k1⟩, by omega, ?_⟩
    rw [k2, k3]
    exact zal rfl
  ·have hil : i = ks.length := by omega
   subst hil
   refine QU rfl ?_
   refine r_pub 5 rfl rfl (by rw [Qz, hkl]) rfl ?_
   rw [List.take_length] at hok ⊢
   obtain ⟨l, M', hl⟩ : ∃ l M', Wy ks M = (some l, M') := by
    rcases he : Wy ks M with ⟨_ | l, M'⟩
    ·rw [he] at hok; cases hok
    ·exact ⟨l, M', rfl⟩
   have hkt : Q1 ks M ks.length = l := by unfold Q1; rw [List.take_length, hl]; simp
   have hll := ZN _ _ _ _ hl
   rw [hl] at hM
   rw [hM, hl, hkt]
   have hM2 : (match (some l, M') with | (none, M') => (-1, M') | (some l, M') => WF 29 n 0 l M' : Int × List (Int × Int)) = WF 29 n 0 l M' := rfl
   rw [hM2]
   have hq0 := Ws (G := G) l [0, 0] (by omega) (by decide)
   have hq1 := Ws (G := G) l [1, 1] (by omega) (by decide)
   have hq2 := Ws (G := G) l [1] (by omega) (by decide)
   clear hM hM2 hkt hkl hok hz ih hl hfit
   have hnil : l.length = 0 -> l = [] := List.length_eq_zero_iff.1
   have hnil' : l = [] -> l.length = 0 := List.length_eq_zero_iff.2
   clear hq0 hq1 hq2
   by_cases hc1 : n = 0
   ·by_cases hc2 : l.length = 3
    ·have h0 : 0 < l.length := by omega
     have h1 : 1 < l.length := by omega
     have h2 : 2 < l.length := by omega
     have g0 : l.getD 0 0 = l[0] := Ord.getD_lt h0 _
     have g1 : l.getD 1 0 = l[1] := Ord.getD_lt h1 _
     have g2 : l.getD 2 0 = l[2] := Ord.getD_lt h2 _
     by_cases ha : l[0] = 1
     ·by_cases hb : l[1] = l[2]
      ·rw [show WF 29 n 0 l M' = (l[1], M') by unfold WF; rw [if_neg (by decide), if_neg (by decide), if_neg (by decide), if_neg (by decide), if_neg (by decide), if_pos rfl, if_pos ⟨hc1, hc2, by rw [g0]; exact ha, by rw [g1, g2]; exact hb⟩, g1]]
       (repeat' first | refine Qt rfl ?_ | refine Qv rfl ?_ | refine QF rfl ?_ | refine Qc rfl rfl rfl ?_ | refine Qo rfl rfl (by first | assumption | omega | (simp; done) | (simp; omega)) ?_ | refine QH rfl rfl ?_ | refine Wk rfl rfl ?_ | refine Qd rfl rfl ?_ | refine Qe ?_ | refine Qp rfl ?_ | refine WO rfl rfl rfl rfl ?_ | refine o_gu rfl rfl rfl rfl rfl ?_ | refine Qf ?_ | (refine QI [0, 1, 2, 3, 4, 5, 6, 7, 8, 9, 23, 24, 25] rfl ?_; refine Qa ?_) | refine Qg ?_ | (refine Wa ?_; refine QI [0, 1, 2, 3, 4, 5, 6, 7, 8, 9, 23, 24, 25] rfl ?_; first | refine WA (by rfl) (by kernel_rfl) (by kernel_rfl) rfl ?_ | refine QT (by kernel_rfl) (by kernel_rfl) ?_) | refine Qi rfl ?_ | refine Qx rfl (by omega) ?_ | refine Qm ?_ | refine x_op rfl (by (repeat' first | refine Qt rfl ?_ | refine Qv rfl ?_ | refine QF rfl ?_ | refine Qc rfl rfl rfl ?_ | refine Qo rfl rfl (by first | assumption | omega | (simp; done) | (simp; omega)) ?_ | refine QH rfl rfl ?_ | refine Qn rfl ?_ | refine WR rfl rfl ?_ | refine Qd rfl rfl ?_ | exact ⟨rfl, rfl⟩)) ?_ | refine x_gy rfl rfl rfl rfl (by (repeat' first | refine Qt rfl ?_ | refine Qv rfl ?_ | refine QF rfl ?_ | refine Qc rfl rfl rfl ?_ | refine Qo rfl rfl (by first | assumption | omega | (simp; done) | (simp; omega)) ?_ | refine QH rfl rfl ?_ | refine Qn rfl ?_ | refine WR rfl rfl ?_ | refine Qd rfl rfl ?_ | exact ⟨rfl, rfl⟩)) ?_ | refine x_sp_t rfl rfl (by omega) ?_ | refine Zm ?_)
       all_goals exact e_1 (Tryd.results64) (Qh rfl) (QC (σ := [_]) (r := [_, _]) ⟨rfl, rfl⟩)
      ·rw [show WF 29 n 0 l M' = (-1, M') by unfold WF; rw [if_neg (by decide), if_neg (by decide), if_neg (by decide), if_neg (by decide), if_neg (by decide), if_pos rfl, if_neg (fun h => hb (by rw [<- g1, <- g2]; exact h.2.2.2))]]
       (repeat' first | refine Qt rfl ?_ | refine Qv rfl ?_ | refine Qc rfl rfl rfl ?_ | refine QH rfl rfl ?_ | refine Wk rfl rfl ?_ | refine Qd rfl rfl ?_ | refine Qe ?_ | refine Qp rfl ?_ | refine WO rfl rfl rfl rfl ?_ | refine o_gu rfl rfl rfl rfl rfl ?_ | refine Qf ?_ | (refine QI [0, 1, 2, 3, 4, 5, 6, 7, 8, 9, 23, 24, 25] rfl ?_; refine Qa ?_) | refine Qg ?_ | (refine Wa ?_; refine QI [0, 1, 2, 3, 4, 5, 6, 7, 8, 9, 23, 24, 25] rfl ?_; first | refine WA (by rfl) (by kernel_rfl) (by kernel_rfl) rfl ?_ | refine QT (by kernel_rfl) (by kernel_rfl) ?_) | refine Qj ?_ | refine Qi rfl ?_ | refine QD rfl (by omega) ?_ | refine Qm ?_ | refine x_op rfl (by (repeat' first | refine Qt rfl ?_ | refine Qv rfl ?_ | refine QF rfl ?_ | refine Qc rfl rfl rfl ?_ | refine Qo rfl rfl (by first | assumption | omega | (simp; done) | (simp; omega)) ?_ | refine QH rfl rfl ?_ | refine Qn rfl ?_ | refine WR rfl rfl ?_ | refine Qd rfl rfl ?_ | exact ⟨rfl, rfl⟩)) ?_ | refine x_gy rfl rfl rfl rfl (by (repeat' first | refine Qt rfl ?_ | refine Qv rfl ?_ | refine QF rfl ?_ | refine Qc rfl rfl rfl ?_ | refine Qo rfl rfl (by first | assumption | omega | (simp; done) | (simp; omega)) ?_ | refine QH rfl rfl ?_ | refine Qn rfl ?_ | refine WR rfl rfl ?_ | refine Qd rfl rfl ?_ | exact ⟨rfl, rfl⟩)) ?_ | refine x_sp_t rfl rfl (by omega) ?_ | refine Zm ?_)
       all_goals exact e_1 (Tryd.results64) (Qh rfl) (QC (σ := [_]) (r := [_, _]) ⟨rfl, rfl⟩)
     ·rw [show WF 29 n 0 l M' = (-1, M') by unfold WF; rw [if_neg (by decide), if_neg (by decide), if_neg (by decide), if_neg (by decide), if_neg (by decide), if_pos rfl, if_neg (fun h => ha (by rw [<- g0]; exact h.2.2.1))]]
      (repeat' first | refine Qt rfl ?_ | refine Qv rfl ?_ | refine Qc rfl rfl rfl ?_ | refine QH rfl rfl ?_ | refine Wk rfl rfl ?_ | refine Qd rfl rfl ?_ | refine x_gn rfl rfl rfl rfl ?_ | refine Qe ?_ | refine Qp rfl ?_ | refine WO rfl rfl rfl rfl ?_ | refine o_gu rfl rfl rfl rfl rfl ?_ | refine Qf ?_ | (refine QI [0, 1, 2, 3, 4, 5, 6, 7, 8, 9, 23, 24, 25] rfl ?_; refine Qa ?_) | refine Qg ?_ | (refine Wa ?_; refine QI [0, 1, 2, 3, 4, 5, 6, 7, 8, 9, 23, 24, 25] rfl ?_; first | refine WA (by rfl) (by kernel_rfl) (by kernel_rfl) rfl ?_ | refine QT (by kernel_rfl) (by kernel_rfl) ?_) | refine Qj ?_ | refine Qi rfl ?_ | refine Qm ?_ | refine x_op rfl (by (repeat' first | refine Qt rfl ?_ | refine Qv rfl ?_ | refine QF rfl ?_ | refine Qc rfl rfl rfl ?_ | refine Qo rfl rfl (by first | assumption | omega | (simp; done) | (simp; omega)) ?_ | refine QH rfl rfl ?_ | refine Qn rfl ?_ | refine WR rfl rfl ?_ | refine Wk rfl rfl ?_ | refine Qd rfl rfl ?_ | exact ⟨rfl, rfl⟩)) ?_ | refine x_gy rfl rfl rfl rfl (by (repeat' first | refine Qt rfl ?_ | refine Qv rfl ?_ | refine QF rfl ?_ | refine Qc rfl rfl rfl ?_ | refine Qo rfl rfl (by first | assumption | omega | (simp; done) | (simp; omega)) ?_ | refine QH rfl rfl ?_ | refine Qn rfl ?_ | refine WR rfl rfl ?_ | refine Wk rfl rfl ?_ | refine Qd rfl rfl ?_ | exact ⟨rfl, rfl⟩)) ?_ | refine x_sp_t rfl rfl (by omega) ?_ | refine x_sp_f rfl rfl (by omega) ?_ | refine Zm ?_)
      all_goals exact e_1 (Tryd.results64) (Qh rfl) (QC (σ := [_]) (r := [_, _]) ⟨rfl, rfl⟩)
    ·rw [show WF 29 n 0 l M' = (-1, M') by unfold WF; rw [if_neg (by decide), if_neg (by decide), if_neg (by decide), if_neg (by decide), if_neg (by decide), if_pos rfl, if_neg (fun h => hc2 h.2.1)]]
     (repeat' first | refine Qt rfl ?_ | refine Qv rfl ?_ | refine Qc rfl rfl rfl ?_ | refine QH rfl rfl ?_ | refine Wk rfl rfl ?_ | refine Qd rfl rfl ?_ | refine x_gn rfl rfl rfl rfl ?_ | refine Qe ?_ | refine Qp rfl ?_ | refine WO rfl rfl rfl rfl ?_ | refine o_gu rfl rfl rfl rfl rfl ?_ | refine Qf ?_ | (refine QI [0, 1, 2, 3, 4, 5, 6, 7, 8, 9, 23, 24, 25] rfl ?_; refine Qa ?_) | refine Qg ?_ | (refine Wa ?_; refine QI [0, 1, 2, 3, 4, 5, 6, 7, 8, 9, 23, 24, 25] rfl ?_; first | refine WA (by rfl) (by kernel_rfl) (by kernel_rfl) rfl ?_ | refine QT (by kernel_rfl) (by kernel_rfl) ?_) | refine Qj ?_ | refine Qi rfl ?_ | refine Qm ?_ | refine x_op rfl (by (repeat' first | refine Qt rfl ?_ | refine Qv rfl ?_ | refine Qc rfl rfl rfl ?_ | refine QH rfl rfl ?_ | refine Qn rfl ?_ | refine WR rfl rfl ?_ | refine Wk rfl rfl ?_ | refine Qd rfl rfl ?_ | exact ⟨rfl, rfl⟩)) ?_ | refine x_gy rfl rfl rfl rfl (by (repeat' first | refine Qt rfl ?_ | refine Qv rfl ?_ | refine Qc rfl rfl rfl ?_ | refine QH rfl rfl ?_ | refine Qn rfl ?_ | refine WR rfl rfl ?_ | refine Wk rfl rfl ?_ | refine Qd rfl rfl ?_ | exact ⟨rfl, rfl⟩)) ?_ | refine x_sp_t rfl rfl (by omega) ?_ | refine x_sp_f rfl rfl (by omega) ?_ | refine Zm ?_)
     all_goals exact e_1 (Tryd.results64) (Qh rfl) (QC (σ := [_]) (r := [_, _]) ⟨rfl, rfl⟩)
   ·rw [show WF 29 n 0 l M' = (-1, M') by unfold WF; rw [if_neg (by decide), if_neg (by decide), if_neg (by decide), if_neg (by decide), if_neg (by decide), if_pos rfl, if_neg (fun h => hc1 h.1)]]
    (repeat' first | refine Qt rfl ?_ | refine Qv rfl ?_ | refine Qc rfl rfl rfl ?_ | refine QH rfl rfl ?_ | refine Wk rfl rfl ?_ | refine Qd rfl rfl ?_ | refine x_gn rfl rfl rfl rfl ?_ | refine Qe ?_ | refine Qp rfl ?_ | refine WO rfl rfl rfl rfl ?_ | refine o_gu rfl rfl rfl rfl rfl ?_ | refine Qf ?_ | (refine QI [0, 1, 2, 3, 4, 5, 6, 7, 8, 9, 23, 24, 25] rfl ?_; refine Qa ?_) | refine Qg ?_ | (refine Wa ?_; refine QI [0, 1, 2, 3, 4, 5, 6, 7, 8, 9, 23, 24, 25] rfl ?_; first | refine WA (by rfl) (by kernel_rfl) (by kernel_rfl) rfl ?_ | refine QT (by kernel_rfl) (by kernel_rfl) ?_) | refine Qj ?_ | refine Qi rfl ?_ | refine Qm ?_ | refine x_op rfl (by (repeat' first | refine Qt rfl ?_ | refine Qv rfl ?_ | refine Qc rfl rfl rfl ?_ | refine QH rfl rfl ?_ | refine WR rfl rfl ?_ | refine Wk rfl rfl ?_ | refine Qd rfl rfl ?_ | exact ⟨rfl, rfl⟩)) ?_ | refine x_gy rfl rfl rfl rfl (by (repeat' first | refine Qt rfl ?_ | refine Qv rfl ?_ | refine Qc rfl rfl rfl ?_ | refine QH rfl rfl ?_ | refine WR rfl rfl ?_ | refine Wk rfl rfl ?_ | refine Qd rfl rfl ?_ | exact ⟨rfl, rfl⟩)) ?_ | refine x_sp_f rfl rfl (by omega) ?_ | refine Zm ?_)
    all_goals exact e_1 (Tryd.results64) (Qh rfl) (QC (σ := [_]) (r := [_, _]) ⟨rfl, rfl⟩)
theorem ctypes_x (hG : G 0 = opsD) (k n : Int) (ks : List Nd) (h4 : k ≠ 4) (h5 : k ≠ 5) (h6 : k ≠ 6) (h9 : k ≠ 9) (h10 : k ≠ 10) (h29 : k ≠ 29) (ih : ∀ x ∈ ks, Fit x -> ∀ M : List (Int × Int), TM Tryd.prog G 64 (fun g => [.mp 0 g, .agg (Enc.enc x)]) M (.i (Wt x M).1) (Wt x M).2) (hfit : Fit (.mk k n 0 ks)) (M : List (Int × Int)) :
  TM Tryd.prog G 64 (fun g => [.mp 0 g, .agg (Enc.enc (Nd.mk k n 0 ks))]) M (.i (Wt (.mk k n 0 ks) M).1) (Wt (.mk k n 0 ks) M).2 := by
 intro g B b1
 have hks := hfit.len
 rw [We]
 refine Qb Tryd.func64 rfl Tryd.ntmps64 rfl (t := [(0, .mp 0 g), (1, .agg [.i k, .i n, .i 0, Qy ks])]) rfl fun E hE => ?_
 have hM : Wt (.mk k n 0 ks) M = (match Wy ks M with | (none, M') => (-1, M') | (some l, M') => WF k n 0 l M') := by (rw [Wt, if_neg (fun h => h.1 rfl)]; try rfl)
 have hz : WP [Value.int .i64 0] (ks.length : Int).toNat = Qq (Q1 ks M 0) := by
  show _ = Qq (List.replicate ks.length (0 : Int))
  rw [show (ks.length : Int).toNat = ks.length from rfl]
  exact Zg _
 (repeat' first | refine Qt rfl ?_ | refine Qv rfl ?_ | refine Qc rfl rfl rfl ?_ | refine W6 rfl rfl ?_ | refine Qn rfl ?_ | refine Wk rfl rfl ?_ | refine Qd rfl rfl ?_ | refine s_make rfl rfl rfl (by omega) (by omega) (by omega) (by omega) (fun _ _ => ?_) | refine Q5 rfl rfl (fun _ _ => ?_) | refine Qe ?_ | refine Qp rfl ?_ | refine WO rfl rfl rfl rfl ?_ | refine Qf ?_ | (refine QI [0, 1, 2, 3, 4, 5, 6, 7, 8, 9, 23, 24, 25] rfl ?_; refine Qa ?_) | refine Qg ?_ | refine Qj ?_ | refine Qi rfl ?_)
 all_goals
  rename_i gt hgt gk hgk
  refine Wi (fun (i : Nat) => ⟨[(0, .mp 0 g), (3, .ptr 1 gt 0), (5, .ref 2 gk 0 ks.length (Enc.es Int)), (23, Qy ks), (24, .i ks.length), (25, .i i)], [.mapb g (Wg (Zq (Wy (ks.take i) M).2)), .row gt [.i k, .i n, .i 0, Qy ks], .row gk (Qq (Q1 ks M i))]⟩) (fun i => i <= ks.length /\ (Wy (ks.take i) M).1.isSome = true) (fun i => ks.length - i) 0 ?_ ⟨by omega, rfl⟩ ?_
  ·rw [<- hz]
   exact zal rfl
  intro i ⟨hi, hok⟩
  have hkl := Zw hi hok
  (repeat' first | refine QG rfl rfl ?_ | refine Qe ?_ | refine Qp rfl ?_ | refine Qf ?_ | (refine QI [0, 1, 2, 3, 4, 5, 6, 7, 8, 9, 23, 24, 25] rfl ?_; refine Qa ?_))
  refine QE rfl (fun h => ?_) (fun h => ?_)
  ·have hil : i < ks.length := by omega
   have htm := ih _ (List.getElem_mem hil) (hfit.kids _ (List.getElem_mem hil)) (Wy (ks.take i) M).2
   obtain ⟨hst1, hst2⟩ := ZS hil hok
   have hik : i < (Q1 ks M i).length := by omega
   have hik2 : i < ((Q1 ks M i).set i (Wt ks[i] (Wy (ks.take i) M).2).1).length := by rw [List.length_set]; omega
   have hget : ((Q1 ks M i).set i (Wt ks[i] (Wy (ks.take i) M).2).1)[i] = (Wt ks[i] (Wy (ks.take i) M).2).1 := List.getElem_set_self ..
   clear ih hfit hz
   (repeat' first | refine Qt rfl ?_ | refine Qv rfl ?_ | refine Qu rfl rfl (by first | exact Enc.len _ | rfl) ?_ | refine QM rfl ?_ | refine Q9 rfl rfl rfl (by first | assumption | omega) rfl ?_ | refine Qo rfl rfl (by first | assumption | omega | (simp; done) | (simp; omega)) ?_ | refine WK rfl rfl rfl (by omega) ?_ | refine QG rfl rfl ?_ | refine s_ctm 0 (htm) rfl rfl rfl ?_ | refine Ql rfl rfl rfl (by first | exact Enc.len _ | rfl) (by first | exact Enc.len _ | rfl) (by rfl) ?_ | refine Q2 rfl rfl rfl rfl rfl (by first | assumption | omega) rfl ?_ | refine QJ (fun _ _ => ?_) | refine Qe ?_ | refine Qp rfl ?_ | refine Q0 ?_ | refine Qf ?_ | (refine QI [0, 1, 2, 3, 4, 5, 6, 7, 8, 9, 23, 24, 25] rfl ?_; refine Qa ?_) | refine Qg ?_ | refine Qj ?_)
   refine QE rfl (fun hn => ?_) (fun hn => ?_)
   ·rw [hget] at hn
    rw [hM, hst1 hn]
    (repeat' first | refine Qv rfl ?_ | refine Qe ?_ | refine Qp rfl ?_ | refine Qf ?_ | (refine QI [0, 1, 2, 3, 4, 5, 6, 7, 8, 9, 23, 24, 25] rfl ?_; refine Qa ?_) | refine Qm ?_)
    exact e_1 (Tryd.results64) (Qh rfl) (QC (σ := [_]) (r := [_, _, _]) ⟨rfl, rfl⟩)
   ·rw [hget] at hn
    obtain ⟨k1, k2, k3⟩ := hst2 hn
    (repeat' first | refine Qt rfl ?_ | refine QS rfl rfl (by omega) ?_ | refine Qe ?_ | refine Qp rfl ?_ | (refine QI [0, 1, 2, 3, 4, 5, 6, 7, 8, 9, 23, 24, 25] rfl ?_; refine Qa ?_) | refine Qj ?_)
    refine ⟨i + 1, ⟨by omega, k1⟩, by omega, ?_⟩
    rw [k2, k3]
    exact zal rfl
  ·have hil : i = ks.length := by omega
   subst hil
   refine QU rfl ?_
   refine r_pub 5 rfl rfl (by rw [Qz, hkl]) rfl ?_
   rw [List.take_length] at hok ⊢
   obtain ⟨l, M', hl⟩ : ∃ l M', Wy ks M = (some l, M') := by
    rcases he : Wy ks M with ⟨_ | l, M'⟩
    ·rw [he] at hok; cases hok
    ·exact ⟨l, M', rfl⟩
   have hkt : Q1 ks M ks.length = l := by unfold Q1; rw [List.take_length, hl]; simp
   have hll := ZN _ _ _ _ hl
   rw [hl] at hM
   rw [hM, hl, hkt]
   have hM2 : (match (some l, M') with | (none, M') => (-1, M') | (some l, M') => WF k n 0 l M' : Int × List (Int × Int)) = WF k n 0 l M' := rfl
   rw [hM2]
   have hq0 := Ws (G := G) l [0, 0] (by omega) (by decide)
   have hq1 := Ws (G := G) l [1, 1] (by omega) (by decide)
   have hq2 := Ws (G := G) l [1] (by omega) (by decide)
   clear hM hM2 hkt hkl hok hz ih hl hfit
   have hnil : l.length = 0 -> l = [] := List.length_eq_zero_iff.1
   have hnil' : l = [] -> l.length = 0 := List.length_eq_zero_iff.2
   clear hq0 hq1 hq2
   rw [show WF k n 0 l M' = (-1, M') by unfold WF; rw [if_neg h4, if_neg h5, if_neg h6, if_neg h9, if_neg h10, if_neg h29]]
   (repeat' first | refine Qt rfl ?_ | refine Qv rfl ?_ | refine Qc rfl rfl rfl ?_ | refine QH rfl rfl ?_ | refine Wk rfl rfl ?_ | refine Qd rfl rfl ?_ | refine x_gn rfl rfl rfl rfl ?_ | refine Qe ?_ | refine Qp rfl ?_ | refine WO rfl rfl rfl rfl ?_ | refine o_gu rfl rfl rfl rfl rfl ?_ | refine Wn rfl rfl (by omega) ?_ | refine Qf ?_ | (refine QI [0, 1, 2, 3, 4, 5, 6, 7, 8, 9, 23, 24, 25] rfl ?_; refine Qa ?_) | refine Qg ?_ | (refine Wa ?_; refine QI [0, 1, 2, 3, 4, 5, 6, 7, 8, 9, 23, 24, 25] rfl ?_; first | refine WA (by rfl) (by kernel_rfl) (by kernel_rfl) rfl ?_ | refine QT (by kernel_rfl) (by kernel_rfl) ?_) | refine Qj ?_ | refine Qi rfl ?_ | refine Qm ?_ | refine x_op rfl (by (repeat' first | refine Qt rfl ?_ | refine Qv rfl ?_ | refine Qc rfl rfl rfl ?_ | refine QH rfl rfl ?_ | refine Wk rfl rfl ?_ | refine Qd rfl rfl ?_ | exact ⟨rfl, rfl⟩)) ?_ | refine x_sp_f rfl rfl (by omega) ?_ | refine Zm ?_)
   all_goals exact e_1 (Tryd.results64) (Qh rfl) (QC (σ := [_]) (r := [_, _]) ⟨rfl, rfl⟩)
theorem ctypes_b (k n m : Int) (ks : List Nd) (hm0 : m ≠ 0) (hk6 : k ≠ 6) (M : List (Int × Int)) :
  TM Tryd.prog G 64 (fun g => [.mp 0 g, .agg (Enc.enc (Nd.mk k n m ks))]) M (.i (Wt (.mk k n m ks) M).1) (Wt (.mk k n m ks) M).2 := by
 intro g B b1
 rw [We]
 refine Qb Tryd.func64 rfl Tryd.ntmps64 rfl (t := [(0, .mp 0 g), (1, .agg [.i k, .i n, .i m, Qy ks])]) rfl fun E hE => ?_
 rw [show Wt (.mk k n m ks) M = (-1, M) by rw [Wt, if_pos ⟨hm0, hk6⟩]]
 (repeat' first | refine Qt rfl ?_ | refine Qv rfl ?_ | refine Qc rfl rfl rfl ?_ | refine W6 rfl rfl ?_ | refine WR rfl rfl ?_ | refine Qd rfl rfl ?_ | refine Q5 rfl rfl (fun _ _ => ?_) | refine Qe ?_ | refine Qp rfl ?_ | refine WC rfl rfl rfl rfl ?_ | refine Wm rfl rfl (by omega) ?_ | refine Qf ?_ | (refine QI [0, 1, 2, 3, 4, 5, 6, 7, 8, 9, 23, 24, 25] rfl ?_; refine Qa ?_) | refine Qx rfl (by omega) ?_ | refine Qm ?_)
 exact e_1 (Tryd.results64) (Qh rfl) (QC (σ := [_]) (r := [_]) ⟨rfl, rfl⟩)
theorem ctypes_c (hG : G 0 = opsD) (t : Nd) : Fit t -> ∀ M : List (Int × Int), TM Tryd.prog G 64 (fun g => [.mp 0 g, .agg (Enc.enc t)]) M (.i (Wt t M).1) (Wt t M).2 := by
 induction t using Nd.ind with
 | h k n m ks ih =>
 intro hfit M
 by_cases h6 : k = 6
 ·subst h6
  by_cases hm : m = 0
  ·exact ctypes_6a hG n m ks hm ih hfit M
  by_cases hm1 : m = 1
  ·exact ctypes_6b hG n m ks hm1 ih hfit M
  ·exact ctypes_6c hG n m ks hm hm1 ih hfit M
 by_cases hm : m = 0
 ·subst hm
  by_cases h4 : k = 4
  ·subst h4; exact ctypes_4 hG n ks ih hfit M
  by_cases h5 : k = 5
  ·subst h5; exact ctypes_5 hG n ks ih hfit M
  by_cases h9 : k = 9
  ·subst h9
   by_cases hc : 0 <= n /\ n < 12
   ·exact ctypes_9a hG n ks hc.1 hc.2 ih hfit M
   ·exact ctypes_9b hG n ks hc ih hfit M
  by_cases h10 : k = 10
  ·subst h10; exact ctypes_10 hG n ks ih hfit M
  by_cases h29 : k = 29
  ·subst h29; exact ctypes_29 hG n ks ih hfit M
  exact ctypes_x hG k n ks h4 h5 h6 h9 h10 h29 ih hfit M
 ·exact ctypes_b k n m ks hm h6 M
theorem s_max_v {P : Program} {B : Nat} {f : Operand -> DV} {σ : List ABlk} {K : DV -> List ABlk -> Prop} {dst : Option Tmp} {type : TypeId} {pos : String} {after : Array Edge} {gd : Option (Nat × Bool)} {ts : Array TypeId} {x y : Operand} {k1 : IntKind} {a b : Int} (hx : f x = .sc (.int k1 a)) (hy : f y = .sc (.int k1 b)) (k : K (.sc (.int k1 (max a b))) σ) : OpSem P G B ⟨dst, .call ⟨.builtin .max, #[x, y], ts⟩, type, pos, after, gd⟩ f σ K :=
 s_max hx hy (by rwa [show (if a < b then b else a) = max a b by rw [Int.max_def]; split <;> split <;> omega])
theorem valid_of (t : Nd) (htm : TM Tryd.prog G 64 (fun g => [.mp 0 g, .agg (Enc.enc t)]) [] (.i (Wt t []).1) (Wt t []).2) :
  Go.Av.Pure Tryd.prog G 36 [.agg (Enc.enc t)] (.tup [.i (max (Wt t []).1 0), .b (decide (0 <= (Wt t []).1))]) := fun B => by
 refine Qb Tryd.func36 rfl Tryd.ntmps36 rfl (t := [(0, .agg (Enc.enc t))]) rfl fun E hE => ?_
 (repeat' first | refine Qt rfl ?_ | refine Qv rfl ?_ | refine Qu rfl rfl (by first | exact Enc.len _ | rfl) ?_ | refine Wv rfl rfl ?_ | refine s_max_v rfl rfl ?_ | refine s_ctm 1 (htm) rfl rfl rfl ?_ | refine s_mkmap_i (fun _ _ => ?_) | refine Q5 rfl rfl (fun _ _ => ?_) | refine Qe ?_ | refine Qp rfl ?_ | refine Qf ?_ | refine Qa ?_ | refine Qm ?_)
 exact e_2 (Tryd.results36) (Qh rfl) (Qh rfl) (QC (σ := []) (r := [_, _]) ⟨rfl, rfl⟩)
end Go.Proofs
end
section
namespace Go.Av
open Go.Bl
section
variable {P : Program} {G : Nat -> DV}
def BS (P : Program) (G : Nat -> DV) (f : FuncId) (args : List DV) (A : List (Int × Int)) (v : Int) (cl : List (List Int)) (S : ZP) (res : DV) (s' : St) (S' : ZP) : Prop :=
 ∀ (g0 g1 g2 g3 : Nat) (c2 c3 c4 : DV), c2.clo = true -> c3.clo = true -> c4.clo = true -> ∀ B, g0 <= B -> g1 <= B -> g2 <= B -> g3 <= B ->
  ACalls P G B f (.ptr 0 g0 0 :: args) [.row g0 [.sc (.int .i64 v), .ref 1 g1 0 cl.length 1, c2, c3, c4, .mp 2 g2, .mp 3 g3], .row g1 (Qq cl), .mapb g2 (Wg (Zq A)), .mapb g3 (Zo S)]
   (fun d' τ' => d' = res /\ ∃ g1', (g1' = g1 \/ B < g1') /\ τ' = [.row g0 [.sc (.int .i64 s'.vars), .ref 1 g1' 0 s'.cl.length 1, c2, c3, c4, .mp 2 g2, .mp 3 g3], .row g1' (Qq s'.cl), .mapb g2 (Wg (Zq A)), .mapb g3 (Zo S')])
variable {B : Nat} {f : Operand -> DV} {σ : List ABlk} {K : DV -> List ABlk -> Prop} {dst : Option Tmp} {type : TypeId} {pos : String} {after : Array Edge} {gd : Option (Nat × Bool)}
theorem ZR {args : Array Operand} {ts : Array TypeId} {fid : FuncId} {ds : List DV} {A : List (Int × Int)} {v : Int} {cl : List (List Int)} {S S' : ZP} {res : DV} {s' : St} {g0 g1 g2 g3 : Nat} {c2 c3 c4 : DV} {rest : List ABlk} [FnOk P fid]
  (hx : f (.func fid) = .fn (.func fid) [] []) (hds : reL (args.toList.map f) = some (.ptr 0 g0 0 :: ds)) (h : BS P G fid ds A v cl S res s' S')
  (hσ : σ = .row g0 [.sc (.int .i64 v), .ref 1 g1 0 cl.length 1, c2, c3, c4, .mp 2 g2, .mp 3 g3] :: .row g1 (Qq cl) :: .mapb g2 (Wg (Zq A)) :: .mapb g3 (Zo S) :: rest)
  (h2 : c2.clo = true) (h3 : c3.clo = true) (h4 : c4.clo = true) (hdc : ∀ d ∈ ds, d.clo = true) (hres : res.clo = true)
  (k : ∀ g1', (g1' = g1 \/ B < g1') -> K res (.row g0 [.sc (.int .i64 s'.vars), .ref 1 g1' 0 s'.cl.length 1, c2, c3, c4, .mp 2 g2, .mp 3 g3] :: .row g1' (Qq s'.cl) :: .mapb g2 (Wg (Zq A)) :: .mapb g3 (Zo S') :: rest)) :
  OpSem P G B ⟨dst, .call ⟨.value (.func fid), args, ts⟩, type, pos, after, gd⟩ f σ K := by
 subst hσ
 have hrow : ∀ {n : Nat} {v : Int} {g1 l : Nat}, RenB (qf [0, 1, 2, 3] n) (.row g0 [.sc (.int .i64 v), .ref 1 g1 0 l 1, c2, c3, c4, .mp 2 g2, .mp 3 g3]) (.row g0 [.sc (.int .i64 v), .ref 1 g1 0 l 1, c2, c3, c4, .mp 2 g2, .mp 3 g3]) := fun {n v g1 l} =>
  .row (.cons (.clo (by simp [DV.clo])) (.cons (.ref rfl) (.cons (.clo h2) (.cons (.clo h3) (.cons (.clo h4) (.cons (.mp rfl) (.cons (.mp rfl) .nil)))))))
 have hbs : ∀ {n : Nat} {v : Int} {cl : List (List Int)} {g1 : Nat} {S : ZP}, RenBs (qf [0, 1, 2, 3] n) [.row g0 [.sc (.int .i64 v), .ref 1 g1 0 cl.length 1, c2, c3, c4, .mp 2 g2, .mp 3 g3], .row g1 (Qq cl), .mapb g2 (Wg (Zq A)), .mapb g3 (Zo S)] [.row g0 [.sc (.int .i64 v), .ref 1 g1 0 cl.length 1, c2, c3, c4, .mp 2 g2, .mp 3 g3], .row g1 (Qq cl), .mapb g2 (Wg (Zq A)), .mapb g3 (Zo S)] := fun {n v cl g1 S} =>
  .cons hrow (.cons (.rowc (Qk cl)) (.cons (.map ZA) (.cons (.map qk) .nil)))
 refine Zh (R := fun B d' τ' => d' = res /\ ∃ g1', (g1' = g1 \/ B < g1') /\ τ' = [.row g0 [.sc (.int .i64 s'.vars), .ref 1 g1' 0 s'.cl.length 1, c2, c3, c4, .mp 2 g2, .mp 3 g3], .row g1' (Qq s'.cl), .mapb g2 (Wg (Zq A)), .mapb g3 (Zo S')]) [0, 1, 2, 3] hx hds (.cons (.s (.ptr rfl)) (renl_clo hdc)) (by decide) rfl hbs (fun B' hB hg => h g0 g1 g2 g3 c2 c3 c4 h2 h3 h4 B' (hg 0 _ _ rfl rfl) (hg 1 _ _ rfl rfl) (hg 2 _ _ rfl rfl) (hg 3 _ _ rfl rfl)) ?_
 rintro B' d' τ' hB ⟨rfl, g1', hg, rfl⟩
 exact ⟨d', _, _, .s (.clo hres), hbs, rfl, k g1' (by omega)⟩
theorem s_lookup_s1 {t kt et : TypeId} {agg a1 : Bool} {size s1 : Nat} {m ix : Operand} {k g : Nat} {S : ZP} {x : List UInt8} {v : List Int} [ht : TyI P t (.map kt et) agg size] [hkt : TyI P kt .string a1 s1] (hm : f m = .mp k g) (hσk : σ[k]? = some (.mapb g (Zo S))) (hx : f ix = .sc (.string ⟨x.toArray⟩)) (hz : (P.info? et).bind (·.zero) = some (.agg #[.int .i64 0, .int .i64 0, .int .i64 0, .int .i64 0])) (hget : getS S x = some v)
  (kk : K (.tup [.agg (Qq v), .b true]) σ) : OpSem P G B ⟨dst, .lookup t m ix true, type, pos, after, gd⟩ f σ K := s_lookup_sok hm hσk hx hz (by rw [hget]; exact kk)
theorem s_lookup_s0 {t kt et : TypeId} {agg a1 : Bool} {size s1 : Nat} {m ix : Operand} {k g : Nat} {S : ZP} {x : List UInt8} [ht : TyI P t (.map kt et) agg size] [hkt : TyI P kt .string a1 s1] (hm : f m = .mp k g) (hσk : σ[k]? = some (.mapb g (Zo S))) (hx : f ix = .sc (.string ⟨x.toArray⟩)) (hz : (P.info? et).bind (·.zero) = some (.agg #[.int .i64 0, .int .i64 0, .int .i64 0, .int .i64 0])) (hget : getS S x = none)
  (kk : K (.tup [.agg (Qq ([0, 0, 0, 0] : List Int)), .b false]) σ) : OpSem P G B ⟨dst, .lookup t m ix true, type, pos, after, gd⟩ f σ K := s_lookup_sok hm hσk hx hz (by rw [hget]; exact kk)
theorem s_index_e {t e n : Nat} {d : TypeDesc} {g1 : Bool} {z1 : Nat} {x y : Operand} {l : List Int} {kd : IntKind} {i : Nat} [ht : TyI P t (.array n e) g1 z1] [he : TyI P e d false 1]
  (hx : f x = .agg (Qq l)) (hy : f y = .sc (.int kd (i : Nat))) (h1 : i < n) (hl : i < l.length) (k : K (.i (l.getD i 0)) σ) : OpSem P G B ⟨dst, .index t x y, type, pos, after, gd⟩ f σ K :=
 s_index_a hx hy h1 (e' := .i (l.getD i 0)) (by
  rw [Nat.mul_one]
  refine encs_at1 (α := Int) rfl hl ?_
  rw [List.getD_eq_getElem?_getD, List.getElem?_eq_getElem hl]; rfl) k
end
end Go.Av
namespace Go.Proofs
open Go.Av Go.Bl
def varTo (a : Int) : Nat -> List Int
 | 0 => [0, 0, 0, 0]
 | i + 1 => (varTo a i).set i (a + i)
theorem qi (a : Int) : ∀ i, (varTo a i).length = 4
 | 0 => rfl
 | i + 1 => by rw [varTo, List.length_set, qi a i]
def varM (a m : Int) : List Int := if m = 1 then varTo a 1 else varTo a 4
mutual
def QK (A : List (Int × Int)) (t : Nd) (s : St) (S : ZP) : List Int × St × ZP :=
 match getS S (keyS t) with
 | some x => (x, s, S)
 | none => if Zy s = true then ([0, 0, 0, 0], s, S) else ((Ze A t s S).1, (Ze A t s S).2.1, putS (Ze A t s S).2.2 (keyS t) (Ze A t s S).1)
termination_by (SizeOf.sizeOf t, 1)
def Ze (A : List (Int × Int)) (t : Nd) (s : St) (S : ZP) : List Int × St × ZP :=
 match t with
 | .mk k n m [] => if k = 4 then (qo n, s, S) else if k = 5 then ([1 * (2 * n - 1), 0, 0, 0], s, S) else (varM ((W7 A n).getD 0) m, s, S)
 | .mk k n m [a] => ([-((QK A a s S).1.getD 0 0), 0, 0, 0], (QK A a s S).2.1, (QK A a s S).2.2)
 | .mk k n m [a, b] =>
  ((Zv n (QK A b (QK A a s S).2.1 (QK A a s S).2.2).2.1 (QK A a s S).1 (QK A b (QK A a s S).2.1 (QK A a s S).2.2).1).1,
  (Zv n (QK A b (QK A a s S).2.1 (QK A a s S).2.2).2.1 (QK A a s S).1 (QK A b (QK A a s S).2.1 (QK A a s S).2.2).1).2,
  (QK A b (QK A a s S).2.1 (QK A a s S).2.2).2.2)
 | .mk k n m [c, a, b] =>
  let r := QK A c s S
  let q := QK A a r.2.1 r.2.2
  let u := QK A b q.2.1 q.2.2
  if (Wt (.mk k n m [c, a, b]) []).1 = 1 then ([(muxM u.2.1 (r.1.getD 0 0) (q.1.getD 0 0) (u.1.getD 0 0)).1, 0, 0, 0], (muxM u.2.1 (r.1.getD 0 0) (q.1.getD 0 0) (u.1.getD 0 0)).2, u.2.2)
  else ((eachTo (muxG (r.1.getD 0 0)) u.2.1 q.1 u.1 4).1, (eachTo (muxG (r.1.getD 0 0)) u.2.1 q.1 u.1 4).2, u.2.2)
 | .mk k n m _ => ([0, 0, 0, 0], s, S)
termination_by (SizeOf.sizeOf t, 0)
decreasing_by all_goals (simp_wf; try omega)
end
theorem Zx (A : List (Int × Int)) (k n m : Int) (s : St) (S : ZP) : Ze A (.mk k n m []) s S = if k = 4 then (qo n, s, S) else if k = 5 then ([1 * (2 * n - 1), 0, 0, 0], s, S) else (varM ((W7 A n).getD 0) m, s, S) := by rw [Ze]
theorem madeM_1 (A : List (Int × Int)) (k n m : Int) (a : Nd) (s : St) (S : ZP) : Ze A (.mk k n m [a]) s S = ([-((QK A a s S).1.getD 0 0), 0, 0, 0], (QK A a s S).2.1, (QK A a s S).2.2) := by rw [Ze]
theorem madeM_2 (A : List (Int × Int)) (k n m : Int) (a b : Nd) (s : St) (S : ZP) : Ze A (.mk k n m [a, b]) s S =
  ((Zv n (QK A b (QK A a s S).2.1 (QK A a s S).2.2).2.1 (QK A a s S).1 (QK A b (QK A a s S).2.1 (QK A a s S).2.2).1).1,
  (Zv n (QK A b (QK A a s S).2.1 (QK A a s S).2.2).2.1 (QK A a s S).1 (QK A b (QK A a s S).2.1 (QK A a s S).2.2).1).2,
  (QK A b (QK A a s S).2.1 (QK A a s S).2.2).2.2) := by rw [Ze]
def condM (ty : Int) (s : St) (c : Int) (x y : List Int) : List Int × St :=
 if ty = 1 then ([(muxM s c (x.getD 0 0) (y.getD 0 0)).1, 0, 0, 0], (muxM s c (x.getD 0 0) (y.getD 0 0)).2) else eachTo (muxG c) s x y 4
theorem madeM_3 (A : List (Int × Int)) (k n m : Int) (c a b : Nd) (s : St) (S : ZP) : Ze A (.mk k n m [c, a, b]) s S =
  ((condM (Wt (.mk k n m [c, a, b]) []).1 (QK A b (QK A a (QK A c s S).2.1 (QK A c s S).2.2).2.1 (QK A a (QK A c s S).2.1 (QK A c s S).2.2).2.2).2.1 ((QK A c s S).1.getD 0 0) (QK A a (QK A c s S).2.1 (QK A c s S).2.2).1 (QK A b (QK A a (QK A c s S).2.1 (QK A c s S).2.2).2.1 (QK A a (QK A c s S).2.1 (QK A c s S).2.2).2.2).1).1,
  (condM (Wt (.mk k n m [c, a, b]) []).1 (QK A b (QK A a (QK A c s S).2.1 (QK A c s S).2.2).2.1 (QK A a (QK A c s S).2.1 (QK A c s S).2.2).2.2).2.1 ((QK A c s S).1.getD 0 0) (QK A a (QK A c s S).2.1 (QK A c s S).2.2).1 (QK A b (QK A a (QK A c s S).2.1 (QK A c s S).2.2).2.1 (QK A a (QK A c s S).2.1 (QK A c s S).2.2).2.2).1).2,
  (QK A b (QK A a (QK A c s S).2.1 (QK A c s S).2.2).2.1 (QK A a (QK A c s S).2.1 (QK A c s S).2.2).2.2).2.2) := by
 rw [Ze]
 unfold condM
 by_cases h : (Wt (.mk k n m [c, a, b]) []).1 = 1
 ·rw [if_pos h, if_pos h]
 ·rw [if_neg h, if_neg h]
theorem bitsM_some {A : List (Int × Int)} {t : Nd} {s : St} {S : ZP} {x : List Int} (h : getS S (keyS t) = some x) : QK A t s S = (x, s, S) := by rw [QK, h]
theorem bitsM_full {A : List (Int × Int)} {t : Nd} {s : St} {S : ZP} (h : getS S (keyS t) = none) (hf : Zy s = true) : QK A t s S = ([0, 0, 0, 0], s, S) := by rw [QK, h]; exact if_pos hf
theorem bitsM_new {A : List (Int × Int)} {t : Nd} {s : St} {S : ZP} (h : getS S (keyS t) = none) (hf : Zy s = false) : QK A t s S = ((Ze A t s S).1, (Ze A t s S).2.1, putS (Ze A t s S).2.2 (keyS t) (Ze A t s S).1) := by
 rw [QK, h]; exact if_neg (by rw [hf]; decide)
end Go.Proofs
end
section
namespace Go.Proofs
open Go.Av
variable {G : Nat -> DV}
attribute [local irreducible] OpSem WE WY W0 ACalls ZE QV RV
open Go.Bl
theorem bits_of (hG : G 1 = pow10T) (A : List (Int × Int)) (t : Nd) (ht : Tin t) (hk : (keyS t).length <= 1048576) (s : St) (S : ZP) (hs : Ok s) (hS : ∀ p ∈ S, p.2.length = 4)
  (hmade : getS S (keyS t) = none -> Zy s = false -> (Ze A t s S).1.length = 4 /\ BS Tryd.prog G 71 [.agg (Enc.enc t)] A s.vars s.cl S (.agg (Qq (Ze A t s S).1)) (Ze A t s S).2.1 (Ze A t s S).2.2) :
  BS Tryd.prog G 41 [.agg (Enc.enc t)] A s.vars s.cl S (.agg (Qq (QK A t s S).1)) (QK A t s S).2.1 (QK A t s S).2.2 := fun g0 g1 g2 g3 c2 c3 c4 h2 h3 h4 B b0 b1 b2 b3 => by
 have hkey := keyS_c (G := G) hG t ht hk
 have hwn : (Enc.enc t : List DV).length = 4 := Enc.len t
 have hsn := qk (S := S)
 have hm := ZA (M := A)
 have hfc := full_c (G := G) s hs
 have hM1 := fun x => bitsM_some (A := A) (t := t) (s := s) (S := S) (x := x)
 have hM2 := bitsM_full (A := A) (t := t) (s := s) (S := S)
 have hM3 := bitsM_new (A := A) (t := t) (s := s) (S := S)
 generalize keyS t = key at *
 cases hget : getS S key with
 | some x =>
  have hxl : x.length = 4 := by
   unfold getS at hget
   cases hi : idxS S key with
   | none => rw [hi] at hget; cases hget
   | some j =>
    rw [hi] at hget
    have hj : j < S.length := (List.findIdx?_eq_some_iff_getElem.1 hi).1
    rw [Option.map_some, List.getD_eq_getElem?_getD, List.getElem?_eq_getElem hj] at hget
    have := hS _ (List.getElem_mem hj)
    have e : S[j].2 = x := Option.some.inj hget
    rw [<- e]; exact this
  have hwx : (Qq x).length = 4 := by rw [Qz, hxl]; rfl
  rw [hM1 x hget]
  clear hmade hS hM1 hM2 hM3
  refine Qb Tryd.func41 rfl Tryd.ntmps41 rfl (t := [(0, .ptr 0 g0 0), (1, .agg (Enc.enc t))]) rfl fun E hE => ?_
  (repeat' first | refine Qt rfl ?_ | refine Qv rfl ?_ | refine Qu rfl rfl (by first | assumption | rfl) ?_ | refine Qc rfl rfl rfl ?_ | refine QZ rfl rfl (hkey) ?_ | refine WR rfl rfl ?_ | refine Ql rfl rfl rfl (by first | assumption | rfl) (by first | assumption | rfl) rfl ?_ | refine s_lookup_s1 rfl rfl rfl (by kernel_rfl) hget ?_ | refine Qd rfl rfl ?_ | refine Wh rfl rfl rfl ?_ | refine Q3 rfl rfl ?_ | refine QJ (fun _ _ => ?_) | refine Q5 rfl rfl (fun _ _ => ?_) | refine Qe ?_ | refine Qp rfl ?_ | refine Q0 ?_ | refine WO rfl rfl rfl rfl ?_ | refine Qf ?_ | refine Qa ?_ | refine Qs rfl ?_ | refine Qm ?_)
  exact e_1 (Tryd.results41) (QY (size := 4) rfl rfl (Q4 hwx) hwx) (QC (σ := [_, _, _, _]) (r := [_, _, _]) ⟨rfl, g1, by omega, rfl⟩)
 | none =>
  cases hf : Zy s with
  | true =>
   rw [hM2 hget hf]
   rw [hf] at hfc
   have hw0 : (Qq ([0, 0, 0, 0] : List Int)).length = 4 := rfl
   clear hmade hS hM1 hM2 hM3
   refine Qb Tryd.func41 rfl Tryd.ntmps41 rfl (t := [(0, .ptr 0 g0 0), (1, .agg (Enc.enc t))]) rfl fun E hE => ?_
   (repeat' first | refine Qt rfl ?_ | refine Qv rfl ?_ | refine Qu rfl rfl (by first | assumption | rfl) ?_ | refine Qc rfl rfl rfl ?_ | refine Zd rfl rfl (hfc) rfl (fun _ _ => ?_) | refine QZ rfl rfl (hkey) ?_ | refine Wk rfl rfl ?_ | refine Ql rfl rfl rfl (by first | assumption | rfl) (by first | assumption | rfl) rfl ?_ | refine s_lookup_s0 rfl rfl rfl (by kernel_rfl) hget ?_ | refine Qd rfl rfl ?_ | refine Wh rfl rfl rfl ?_ | refine Q3 rfl rfl ?_ | refine QJ (fun _ _ => ?_) | refine Q5 rfl rfl (fun _ _ => ?_) | refine Qe ?_ | refine Qp rfl ?_ | refine Q0 ?_ | refine WC rfl rfl rfl rfl ?_ | refine Qf ?_ | refine Qa ?_ | refine Qs rfl ?_ | refine Qm ?_)
   exact e_1 (Tryd.results41) (QY (size := 4) rfl rfl (Q4 hw0) hw0) (QC (σ := [_, _, _, _]) (r := [_, _, _]) ⟨rfl, _, by omega, rfl⟩)
  | false =>
   obtain ⟨hml, hmd⟩ := hmade hget hf
   rw [hM3 hget hf]
   rw [hf] at hfc
   have hw0 : (Qq ([0, 0, 0, 0] : List Int)).length = 4 := rfl
   generalize Ze A t s S = r at *
   have hwr : (Qq r.1).length = 4 := by rw [Qz, hml]; rfl
   clear hmade hS hM1 hM2 hM3
   refine Qb Tryd.func41 rfl Tryd.ntmps41 rfl (t := [(0, .ptr 0 g0 0), (1, .agg (Enc.enc t))]) rfl fun E hE => ?_
   (repeat' first | refine Qt rfl ?_ | refine Qv rfl ?_ | refine Qu rfl rfl (by first | assumption | rfl) ?_ | refine Qc rfl rfl rfl ?_ | refine ZR rfl rfl hmd rfl (by assumption) (by assumption) (by assumption) (by repeat' first | exact QX | refine QN ?_ ?_ | exact QA | exact QB (Enc.clo _) | exact QB (Qk _)) (QB (Qk _)) (fun _ _ => ?_) | refine Zd rfl rfl (hfc) rfl (fun _ _ => ?_) | refine QZ rfl rfl (hkey) ?_ | refine Wk rfl rfl ?_ | refine Ql rfl rfl rfl (by first | assumption | rfl) (by first | assumption | rfl) rfl ?_ | refine s_lookup_s0 rfl rfl rfl (by kernel_rfl) hget ?_ | refine s_mapupd_s rfl rfl rfl rfl (by rfl) ?_ | refine Qd rfl rfl ?_ | refine Wh rfl rfl rfl ?_ | refine Q3 rfl rfl ?_ | refine QJ (fun _ _ => ?_) | refine Q5 rfl rfl (fun _ _ => ?_) | refine Qe ?_ | refine Qp rfl ?_ | refine Q0 ?_ | refine WC rfl rfl rfl rfl ?_ | refine Qf ?_ | refine Qa ?_ | (refine Wa ?_; first | refine Wj (by rfl) (by kernel_rfl) (by kernel_rfl) ?_ | refine QT (by kernel_rfl) (by kernel_rfl) ?_) | refine Qj ?_ | refine Qi rfl ?_ | refine Qm ?_ | refine x_op rfl (by (repeat' first | refine Qt rfl ?_ | refine Qu rfl rfl (by first | assumption | rfl) ?_ | refine Qc rfl rfl rfl ?_ | refine Qd rfl rfl ?_ | refine Q3 rfl rfl ?_ | exact ⟨rfl, rfl⟩)) ?_ | refine x_nil ?_)
   exact e_1 (Tryd.results41) (QY (size := 4) rfl rfl (Q4 hwr) hwr) (QC (σ := [_, _, _, _]) (r := [_, _, _, _]) ⟨rfl, _, by omega, rfl⟩)
theorem made_num (A : List (Int × Int)) (n m : Int) (s : St) (S : ZP) : BS Tryd.prog G 71 [.agg (Enc.enc (Nd.mk 4 n m []))] A s.vars s.cl S (.agg (Qq (qo n))) s S := fun g0 g1 g2 g3 c2 c3 c4 h2 h3 h4 B b0 b1 b2 b3 => by
 have hw : (Qq (qo n)).length = 4 := by rw [Qz, show (qo n).length = 4 from ZX n 4]; rfl
 rw [We]
 refine Qb Tryd.func71 rfl Tryd.ntmps71 rfl (t := [(0, .ptr 0 g0 0), (1, .agg [.i 4, .i n, .i m, Qy []])]) rfl fun E hE => ?_
 (repeat' first | refine Qv rfl ?_ | refine Qc rfl rfl rfl ?_ | refine QH rfl rfl ?_ | refine QZ rfl rfl (number_c _) ?_ | refine Ql rfl rfl rfl (by first | assumption | rfl) (by first | assumption | rfl) rfl ?_ | refine Qd rfl rfl ?_ | refine QJ (fun _ _ => ?_) | refine Q5 rfl rfl (fun _ _ => ?_) | refine Qe ?_ | refine Qp rfl ?_ | refine Q0 ?_ | refine Qf ?_ | refine Qa ?_ | refine Qg ?_ | refine Qs rfl ?_ | refine Qm ?_)
 exact e_1 (Tryd.results71) (QY (size := 4) rfl rfl (Q4 hw) hw) (QC (σ := [_, _, _, _]) (r := [_, _, _]) ⟨rfl, g1, by omega, rfl⟩)
theorem made_tru (A : List (Int × Int)) (n m : Int) (hn : n = 0 \/ n = 1) (s : St) (S : ZP) : BS Tryd.prog G 71 [.agg (Enc.enc (Nd.mk 5 n m []))] A s.vars s.cl S (.agg (Qq [1 * (2 * n - 1), 0, 0, 0])) s S := fun g0 g1 g2 g3 c2 c3 c4 h2 h3 h4 B b0 b1 b2 b3 => by
 rw [We]
 refine Qb Tryd.func71 rfl Tryd.ntmps71 rfl (t := [(0, .ptr 0 g0 0), (1, .agg [.i 5, .i n, .i m, Qy []])]) rfl fun E hE => ?_
 (repeat' first | refine Qv rfl ?_ | refine Qc rfl rfl rfl ?_ | refine QH rfl rfl ?_ | refine Zn rfl rfl (by omega) ?_ | refine Z2 rfl rfl (by omega) ?_ | refine Ql rfl rfl rfl (by first | assumption | rfl) (by first | assumption | rfl) rfl ?_ | refine Qd rfl rfl ?_ | refine s_build_a rfl rfl ?_ | refine QJ (fun _ _ => ?_) | refine Q5 rfl rfl (fun _ _ => ?_) | refine Qe ?_ | refine Qp rfl ?_ | refine Q0 ?_ | refine Qf ?_ | refine Qa ?_ | refine Qg ?_ | refine Qs rfl ?_ | refine Qi rfl ?_ | refine Qm ?_)
 exact e_1 (Tryd.results71) (QY (size := 4) rfl rfl rfl rfl) (QC (σ := [_, _, _, _]) (r := [_, _, _]) ⟨rfl, g1, by omega, rfl⟩)
theorem made_var (A : List (Int × Int)) (n m : Int) (ha : 0 <= (W7 A n).getD 0 /\ (W7 A n).getD 0 <= 1099511627776) (s : St) (S : ZP) : BS Tryd.prog G 71 [.agg (Enc.enc (Nd.mk 6 n m []))] A s.vars s.cl S (.agg (Qq (varM ((W7 A n).getD 0) m))) s S := fun g0 g1 g2 g3 c2 c3 c4 h2 h3 h4 B b0 b1 b2 b3 => by
 rw [We]
 refine Qb Tryd.func71 rfl Tryd.ntmps71 rfl (t := [(0, .ptr 0 g0 0), (1, .agg [.i 6, .i n, .i m, Qy []])]) rfl fun E hE => ?_
 (repeat' first | refine Qt rfl ?_ | refine Qv rfl ?_ | refine Qc rfl rfl rfl ?_ | refine QH rfl rfl ?_ | refine Qd rfl rfl ?_ | refine QJ (fun _ _ => ?_) | refine Q5 rfl rfl (fun _ _ => ?_) | refine Qe ?_ | refine Qp rfl ?_ | refine Qf ?_ | refine Qa ?_ | refine Qg ?_ | refine Qs rfl ?_ | refine Qi rfl ?_)
 rename_i gt2 hgt2 gt3 hgt3 gt4 hgt4 gt5 hgt5
 refine Wi (fun (i : Nat) => ⟨[(2, .ptr 4 gt2 0), (3, .ptr 5 gt3 0), (4, .ptr 6 gt4 0), (5, .ptr 7 gt5 0), (29, .i i)], [.row g0 [.sc (.int .i64 s.vars), .ref 1 g1 0 s.cl.length 1, c2, c3, c4, .mp 2 g2, .mp 3 g3], .row g1 (Qq s.cl), .mapb g2 (Wg (Zq A)), .mapb g3 (Zo S), .row gt2 [.ptr 0 g0 0], .row gt3 [.i 6, .i n, .i m, Qy ([] : List Nd)], .row gt4 [.i 0, .i 0, .i 0, .i 0], .row gt5 (Qq (varTo ((W7 A n).getD 0) i))]⟩) (fun i => i <= 4 /\ (i = 0 \/ m ≠ 1)) (fun i => 4 - i) 0 ?_ ⟨by omega, .inl rfl⟩ ?_
 ·exact zal rfl
 intro i ⟨hi, him⟩
 have hl := qi ((W7 A n).getD 0) i
 have hs1 : varTo ((W7 A n).getD 0) (i + 1) = (varTo ((W7 A n).getD 0) i).set i ((W7 A n).getD 0 + i) := rfl
 (repeat' first | refine QG rfl rfl ?_ | refine Qe ?_ | refine Qp rfl ?_ | refine Qf ?_ | refine Qa ?_)
 refine QE rfl (fun h => ?_) (fun h => ?_)
 ·have hil : i < (varTo ((W7 A n).getD 0) i).length := by omega
  (repeat' first | refine Qt rfl ?_ | refine Qv rfl ?_ | refine Qc rfl rfl rfl ?_ | refine QH rfl rfl ?_ | refine Q2 rfl rfl rfl rfl rfl (by first | assumption | omega) rfl ?_ | refine Qd rfl rfl ?_ | refine Qe ?_ | refine Qp rfl ?_ | refine Q0 ?_ | refine Qf ?_ | refine Qa ?_ | refine Qg ?_ | (refine Wa ?_; first | refine Wj (by rfl) (by kernel_rfl) (by kernel_rfl) ?_ | refine QT (by kernel_rfl) (by kernel_rfl) ?_) | refine Qj ?_ | refine x_op rfl (by (repeat' first | refine Qt rfl ?_ | refine Qc rfl rfl rfl ?_ | refine WB rfl rfl rfl (by omega) ?_ | refine QS rfl rfl (by omega) ?_ | refine s_lookup_i rfl rfl rfl (by kernel_rfl) ?_ | refine Qd rfl rfl ?_ | refine Q3 rfl rfl ?_ | exact ⟨rfl, rfl⟩)) ?_ | refine x_nil ?_)
  refine QE rfl (fun hm => ?_) (fun hm => ?_)
  ·have hi0 : i = 0 := by
    rcases him with h | h
    ·exact h
    ·exact absurd hm h
   subst hi0
   rw [show varM ((W7 A n).getD 0) m = varTo ((W7 A n).getD 0) 1 from if_pos hm]
   have hw : (Qq (varTo ((W7 A n).getD 0) 1)).length = 4 := by rw [Qz, qi]; rfl
   rw [<- hs1]
   (repeat' first | refine Qu rfl rfl (by first | assumption | rfl) ?_ | refine Ql rfl rfl rfl (by first | assumption | rfl) (by first | assumption | rfl) rfl ?_ | refine Qe ?_ | refine Qp rfl ?_ | refine Q0 ?_ | refine Qf ?_ | refine Qa ?_ | refine QU rfl ?_ | refine Qm ?_)
   exact e_1 (Tryd.results71) (QY (size := 4) rfl rfl (Q4 hw) hw) (QC (σ := [_, _, _, _]) (r := [_, _, _, _]) ⟨rfl, g1, by omega, rfl⟩)
  ·(repeat' first | refine Qt rfl ?_ | refine QS rfl rfl (by omega) ?_ | refine Qe ?_ | refine Qp rfl ?_ | refine Qa ?_ | refine Qj ?_)
   refine ⟨i + 1, ⟨by omega, .inr hm⟩, by omega, ?_⟩
   rw [hs1]
   exact zal rfl
 ·have hi4 : i = 4 := by omega
  subst hi4
  have hm1 : m ≠ 1 := by
    rcases him with h | h
    ·omega
    ·exact h
  rw [show varM ((W7 A n).getD 0) m = varTo ((W7 A n).getD 0) 4 from if_neg hm1]
  have hw : (Qq (varTo ((W7 A n).getD 0) 4)).length = 4 := by rw [Qz, qi]; rfl
  (repeat' first | refine Qu rfl rfl (by first | assumption | rfl) ?_ | refine Ql rfl rfl rfl (by first | assumption | rfl) (by first | assumption | rfl) rfl ?_ | refine Qe ?_ | refine Qp rfl ?_ | refine Q0 ?_ | refine Qf ?_ | refine Qa ?_ | refine QU rfl ?_ | refine Qm ?_)
  exact e_1 (Tryd.results71) (QY (size := 4) rfl rfl (Q4 hw) hw) (QC (σ := [_, _, _, _]) (r := [_, _, _, _]) ⟨rfl, g1, by omega, rfl⟩)
theorem made_not (A : List (Int × Int)) (n m : Int) (a : Nd) (s : St) (S : ZP) (r : List Int × St × ZP) (hrl : r.1.length = 4) (hb : -2000000000000 <= r.1.getD 0 0 /\ r.1.getD 0 0 <= 2000000000000)
  (hk1 : BS Tryd.prog G 41 [.agg (Enc.enc a)] A s.vars s.cl S (.agg (Qq r.1)) r.2.1 r.2.2) : BS Tryd.prog G 71 [.agg (Enc.enc (Nd.mk 10 n m [a]))] A s.vars s.cl S (.agg (Qq [-(r.1.getD 0 0), 0, 0, 0])) r.2.1 r.2.2 := fun g0 g1 g2 g3 c2 c3 c4 h2 h3 h4 B b0 b1 b2 b3 => by
 have hwa : (Enc.enc a : List DV).length = 4 := Enc.len a
 have h0l : 0 < r.1.length := by omega
 have hb7 : -9223372036854775807 <= r.1.getD 0 0 /\ r.1.getD 0 0 <= 9223372036854775807 := ⟨by omega, by omega⟩
 rw [We]
 refine Qb Tryd.func71 rfl Tryd.ntmps71 rfl (t := [(0, .ptr 0 g0 0), (1, .agg [.i 10, .i n, .i m, Qy [a]])]) rfl fun E hE => ?_
 (repeat' first | refine Qv rfl ?_ | refine Qc rfl rfl rfl ?_ | refine QH rfl rfl ?_ | refine ZR rfl rfl hk1 rfl (by assumption) (by assumption) (by assumption) (by repeat' first | exact QX | refine QN ?_ ?_ | exact QA | exact QB (Enc.clo _) | exact QB (Qk _)) (QB (Qk _)) (fun _ _ => ?_) | refine Ql rfl rfl rfl (by first | assumption | rfl) (by first | assumption | rfl) rfl ?_ | refine Q5 (ds := [.ptr 0 g0 0]) rfl rfl (fun gt2 hgt2 => ?_) | refine Q5 (ds := [.i _, .i n, .i m, Qy _]) rfl rfl (fun gt3 hgt3 => ?_) | refine Qd rfl rfl ?_ | refine QJ (fun _ _ => ?_) | refine Qe ?_ | refine Qp rfl ?_ | refine Qf ?_ | refine Qa ?_ | refine Qg ?_ | (refine Wa ?_; first | (refine Wu (fun p => p.1 :: p.2.1 :: p.2.2.1 :: p.2.2.2.1 :: .row gt2 [.ptr 0 g0 0] :: .row gt3 [.i 9, .i n, .i m, Qy [a, b]] :: p.2.2.2.2) 17 [(0, true), (1, true), (2, true), (3, true), (4, true), (5, true), (6, true), (7, true), (9, true), (10, true), (11, true), (12, true), (13, true), (8, false), (14, false), (15, false), (16, false)] (by rfl) (by rfl) (by kernel_rfl) (by decide +kernel) (by decide +kernel) ⟨(_, _, _, _, _), rfl⟩ ?_) | (refine Wu (fun p => p.1 :: p.2.1 :: p.2.2.1 :: p.2.2.2.1 :: .row gt2 [.ptr 0 g0 0] :: .row gt3 [.i 10, .i n, .i m, Qy [a]] :: p.2.2.2.2) 10 [(0, true), (1, true), (2, true), (3, true), (4, true), (5, false), (6, true), (7, true), (8, true), (9, false)] (by rfl) (by rfl) (by kernel_rfl) (by decide +kernel) (by decide +kernel) ⟨(_, _, _, _, _), rfl⟩ ?_) | refine Wj (by rfl) (by kernel_rfl) (by kernel_rfl) ?_ | refine QT (by kernel_rfl) (by kernel_rfl) ?_) | refine Qs rfl ?_ | refine Qi rfl ?_ | refine Qm ?_ | refine i_nil ?_ | refine i_st rfl rfl (fun _ => (by (repeat' first | refine QM rfl ?_ | refine Qc rfl rfl rfl ?_ | refine Qo rfl rfl (by first | assumption | omega | (simp; done) | (simp; omega)) ?_ | refine Z1 rfl hb7 ?_ | refine s_index_e rfl rfl (by decide) (by assumption) ?_ | refine Qd rfl rfl ?_ | refine s_build_a rfl rfl ?_ | exact ⟨rfl, rfl⟩))) ?_ | refine i_ef rfl ?_ | refine i_ef0 ?_ | refine And.intro (Exists.intro ((_, _, _, _, _)) rfl) ?_)
 exact e_1 (Tryd.results71) (QY (size := 4) rfl rfl rfl rfl) (QC (σ := [_, _, _, _]) (r := [_, _, _]) ⟨rfl, _, by omega, rfl⟩)
theorem made_bin (A : List (Int × Int)) (n m : Int) (a b : Nd) (s : St) (S : ZP) (r q : List Int × St × ZP) (o : List Int × St) (hrl : r.1.length = 4) (hol : o.1.length = 4)
  (hk1 : BS Tryd.prog G 41 [.agg (Enc.enc a)] A s.vars s.cl S (.agg (Qq r.1)) r.2.1 r.2.2) (hk2 : BS Tryd.prog G 41 [.agg (Enc.enc b)] A r.2.1.vars r.2.1.cl r.2.2 (.agg (Qq q.1)) q.2.1 q.2.2)
  (hop : BM Tryd.prog G 88 [.i n, .agg (Qq r.1), .agg (Qq q.1)] q.2.1.vars q.2.1.cl (.agg (Qq o.1)) o.2) : BS Tryd.prog G 71 [.agg (Enc.enc (Nd.mk 9 n m [a, b]))] A s.vars s.cl S (.agg (Qq o.1)) o.2 q.2.2 := fun g0 g1 g2 g3 c2 c3 c4 h2 h3 h4 B b0 b1 b2 b3 => by
 have hsn := qk (S := q.2.2)
 have hm := ZA (M := A)
 have hwo : (Qq o.1).length = 4 := by rw [Qz, hol]; rfl
 rw [We]
 refine Qb Tryd.func71 rfl Tryd.ntmps71 rfl (t := [(0, .ptr 0 g0 0), (1, .agg [.i 9, .i n, .i m, Qy [a, b]])]) rfl fun E hE => ?_
 (repeat' first | refine Qv rfl ?_ | refine Qc rfl rfl rfl ?_ | refine QH rfl rfl ?_ | refine ZR rfl rfl hk1 rfl (by assumption) (by assumption) (by assumption) (by repeat' first | exact QX | refine QN ?_ ?_ | exact QA | exact QB (Enc.clo _) | exact QB (Qk _)) (QB (Qk _)) (fun _ _ => ?_) | refine ZR rfl rfl hk2 rfl (by assumption) (by assumption) (by assumption) (by repeat' first | exact QX | refine QN ?_ ?_ | exact QA | exact QB (Enc.clo _) | exact QB (Qk _)) (QB (Qk _)) (fun _ _ => ?_) | refine Zd rfl rfl (hop) rfl (fun _ _ => ?_) | refine Ql rfl rfl rfl (by first | assumption | rfl) (by first | assumption | rfl) rfl ?_ | refine Q5 (ds := [.ptr 0 g0 0]) rfl rfl (fun gt2 hgt2 => ?_) | refine Q5 (ds := [.i _, .i n, .i m, Qy _]) rfl rfl (fun gt3 hgt3 => ?_) | refine Qd rfl rfl ?_ | refine QJ (fun _ _ => ?_) | refine Qe ?_ | refine Qp rfl ?_ | refine Qf ?_ | refine Qa ?_ | refine Qg ?_ | (refine Wa ?_; first | (refine Wu (fun p => p.1 :: p.2.1 :: p.2.2.1 :: p.2.2.2.1 :: .row gt2 [.ptr 0 g0 0] :: .row gt3 [.i 9, .i n, .i m, Qy [a, b]] :: p.2.2.2.2) 17 [(0, true), (1, true), (2, true), (3, true), (4, true), (5, true), (6, true), (7, true), (9, true), (10, true), (11, true), (12, true), (13, true), (8, false), (14, false), (15, false), (16, false)] (by rfl) (by rfl) (by kernel_rfl) (by decide +kernel) (by decide +kernel) ⟨(_, _, _, _, _), rfl⟩ ?_) | (refine Wu (fun p => p.1 :: p.2.1 :: p.2.2.1 :: p.2.2.2.1 :: .row gt2 [.ptr 0 g0 0] :: .row gt3 [.i 10, .i n, .i m, Qy [a]] :: p.2.2.2.2) 10 [(0, true), (1, true), (2, true), (3, true), (4, true), (5, false), (6, true), (7, true), (8, true), (9, false)] (by rfl) (by rfl) (by kernel_rfl) (by decide +kernel) (by decide +kernel) ⟨(_, _, _, _, _), rfl⟩ ?_) | refine Wj (by rfl) (by kernel_rfl) (by kernel_rfl) ?_ | refine QT (by kernel_rfl) (by kernel_rfl) ?_) | refine Qj ?_ | refine Qi rfl ?_ | refine Qm ?_ | refine i_nil ?_ | refine i_st rfl rfl (fun _ => (by (repeat' first | refine QM rfl ?_ | refine Qc rfl rfl rfl ?_ | refine Qo rfl rfl (by first | assumption | omega | (simp; done) | (simp; omega)) ?_ | refine Qd rfl rfl ?_ | exact ⟨rfl, rfl⟩))) ?_ | refine i_ef rfl ?_ | refine i_ef0 ?_ | refine And.intro (Exists.intro ((_, _, _, _, _)) rfl) ?_)
 exact e_1 (Tryd.results71) (QY (size := 4) rfl rfl (Q4 hwo) hwo) (QC (σ := [_, _, _, _]) (r := [_, _, _]) ⟨rfl, _, by omega, rfl⟩)
end Go.Proofs
end
