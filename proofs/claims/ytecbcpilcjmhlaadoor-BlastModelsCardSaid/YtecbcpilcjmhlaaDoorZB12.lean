/-
  Part 12 of the proof: S5.
-/
import Derived.Test.YtecbcpilcjmhlaaDoorZB1
import Derived.Test.YtecbcpilcjmhlaaDoorZB2
import Derived.Test.YtecbcpilcjmhlaaDoorZB11
set_option linter.unusedSimpArgs false
set_option linter.unusedVariables false
set_option maxRecDepth 10000
set_option maxHeartbeats 4000000
section
namespace Go.Proofs
open Go.Av
variable {G : Nat -> DV}
attribute [local irreducible] OpSem WE WY W0 ACalls ZE QV RV
open Go.Bl
def refM (op a b : Int) : Int :=
 if op = 0 then wW (a + b) else if op = 1 then wW (a - b) else if op = 2 then wW (a * b) else if op = 3 then wW (a.tdiv b) else if op = 4 then wW (a - b * a.tdiv b) else
 if op = 5 then bwM false false true a b else if op = 6 then bwM true true true a b else if op = 7 then bwM true true false a b else
 if op = 8 then dblM a (wN b % 4) else if op = 9 then halM a (wN b % 4) else
 if op = 10 then (if a < b then 1 else 0) else if op = 11 then (if a = b then 1 else 0) else if op = 12 then (if a ≠ 0 /\ b ≠ 0 then 1 else 0) else if a ≠ 0 \/ b ≠ 0 then 1 else 0
def chk : Bool := (List.range 14).all fun op => (List.range 16).all fun a => (List.range 16).all fun b =>
 let op : Int := op; let a : Int := (a : Int) - 8; let b : Int := (b : Int) - 8
 decide (opM op a b = if (op = 3 \/ op = 4) /\ b = 0 then (0, 2) else (refM op a b, 0))
theorem chk_ok : chk = true := by kernel_rfl
theorem ref_op {op a b : Int} (hop : 0 <= op /\ op < 14) (ha : -8 <= a /\ a <= 7) (hb : -8 <= b /\ b <= 7) : opM op a b = if (op = 3 \/ op = 4) /\ b = 0 then (0, 2) else (refM op a b, 0) := by
 have h := chk_ok
 unfold chk at h
 have h1 := List.all_eq_true.1 h op.toNat (List.mem_range.2 (by omega))
 have h2 := List.all_eq_true.1 h1 (a + 8).toNat (List.mem_range.2 (by omega))
 have h3 := List.all_eq_true.1 h2 (b + 8).toNat (List.mem_range.2 (by omega))
 have h3 := of_decide_eq_true h3
 have e1 : (op.toNat : Int) = op := by omega
 have e2 : ((a + 8).toNat : Int) - 8 = a := by omega
 have e3 : ((b + 8).toNat : Int) - 8 = b := by omega
 rw [e1, e2, e3] at h3
 exact h3
theorem tdiv_bd {a b : Int} (ha : -8 <= a /\ a <= 7) : -8 <= a.tdiv b /\ a.tdiv b <= 8 := by
 have h1 : (a.tdiv b).natAbs <= a.natAbs := by rw [Int.natAbs_tdiv]; exact Nat.div_le_self _ _
 omega
theorem mul_bd2 {a b : Int} (ha : -8 <= a /\ a <= 7) (hb : -8 <= b /\ b <= 8) : -64 <= a * b /\ a * b <= 64 := by
 have : a = -8 \/ a = -7 \/ a = -6 \/ a = -5 \/ a = -4 \/ a = -3 \/ a = -2 \/ a = -1 \/ a = 0 \/ a = 1 \/ a = 2 \/ a = 3 \/ a = 4 \/ a = 5 \/ a = 6 \/ a = 7 := by omega
 rcases this with rfl | rfl | rfl | rfl | rfl | rfl | rfl | rfl | rfl | rfl | rfl | rfl | rfl | rfl | rfl | rfl <;> omega
theorem r04Op_c (op a b : Int) (hop : 0 <= op /\ op < 14) (ha : -8 <= a /\ a <= 7) (hb : -8 <= b /\ b <= 7) : Go.Av.Pure Tryd.prog G 78 [.i op, .i a, .i b] (.tup [.i (opM op a b).1, .i (opM op a b).2]) := fun B => by
 have hwa : Go.Av.Pure Tryd.prog G 58 [.i a] (.i a) := by have := W8 (G := G) a (by omega); rwa [wW_self ha] at this
 have hwb : Go.Av.Pure Tryd.prog G 58 [.i b] (.i b) := by have := W8 (G := G) b (by omega); rwa [wW_self hb] at this
 have hro := ref_op hop ha hb
 have hop2 : op = 0 \/ op = 1 \/ op = 2 \/ op = 3 \/ op = 4 \/ op = 5 \/ op = 6 \/ op = 7 \/ op = 8 \/ op = 9 \/ op = 10 \/ op = 11 \/ op = 12 \/ op = 13 := by omega
 clear hop
 rcases hop2 with rfl | rfl | rfl | rfl | rfl | rfl | rfl | rfl | rfl | rfl | rfl | rfl | rfl | rfl
 ·rw [if_neg fun h => absurd h.1 (by decide)] at hro
  rw [hro]
  refine Qb Tryd.func78 rfl Tryd.ntmps78 rfl (t := [(0, .i 0), (1, .i a), (2, .i b)]) rfl fun E hE => ?_
  (repeat' first | refine Qt rfl ?_ | refine Qv rfl ?_ | refine QH rfl rfl ?_ | refine QS rfl rfl (by omega) ?_ | refine QZ rfl rfl (hwa) ?_ | refine QZ rfl rfl (hwb) ?_ | refine QZ rfl rfl (W8 _ (by omega)) ?_ | refine Wk rfl rfl ?_ | refine Qe ?_ | refine Qp rfl ?_ | refine WC rfl rfl rfl rfl ?_ | refine WO rfl rfl rfl rfl ?_ | refine Qf ?_ | refine Qa ?_ | refine Qg ?_ | refine Qj ?_ | refine Qs rfl ?_ | refine Qi rfl ?_ | refine Qm ?_ | fail)
  exact e_2 (Tryd.results78) (Qh rfl) (Qh rfl) (Qr rfl)
 ·rw [if_neg fun h => absurd h.1 (by decide)] at hro
  rw [hro]
  refine Qb Tryd.func78 rfl Tryd.ntmps78 rfl (t := [(0, .i 1), (1, .i a), (2, .i b)]) rfl fun E hE => ?_
  (repeat' first | refine Qt rfl ?_ | refine Qv rfl ?_ | refine QH rfl rfl ?_ | refine Zn rfl rfl (by omega) ?_ | refine QZ rfl rfl (hwa) ?_ | refine QZ rfl rfl (hwb) ?_ | refine QZ rfl rfl (W8 _ (by omega)) ?_ | refine Wk rfl rfl ?_ | refine Qe ?_ | refine Qp rfl ?_ | refine WC rfl rfl rfl rfl ?_ | refine WO rfl rfl rfl rfl ?_ | refine Qf ?_ | refine Qa ?_ | refine Qg ?_ | refine Qj ?_ | refine Qs rfl ?_ | refine Qi rfl ?_ | refine Qm ?_ | fail)
  exact e_2 (Tryd.results78) (Qh rfl) (Qh rfl) (Qr rfl)
 ·rw [if_neg fun h => absurd h.1 (by decide)] at hro
  rw [hro]
  have hm0 := mul_bd2 ha (b := b) (by omega)
  have hm : -9223372036854775808 <= a * b /\ a * b <= 9223372036854775807 := by omega
  refine Qb Tryd.func78 rfl Tryd.ntmps78 rfl (t := [(0, .i 2), (1, .i a), (2, .i b)]) rfl fun E hE => ?_
  (repeat' first | refine Qt rfl ?_ | refine Qv rfl ?_ | refine Z2 rfl rfl (by assumption) ?_ | refine QH rfl rfl ?_ | refine QZ rfl rfl (hwa) ?_ | refine QZ rfl rfl (hwb) ?_ | refine QZ rfl rfl (W8 _ (by omega)) ?_ | refine Wk rfl rfl ?_ | refine Qe ?_ | refine Qp rfl ?_ | refine WC rfl rfl rfl rfl ?_ | refine WO rfl rfl rfl rfl ?_ | refine Qf ?_ | refine Qa ?_ | refine Qg ?_ | refine Qj ?_ | refine Qs rfl ?_ | refine Qi rfl ?_ | refine Qm ?_ | fail)
  exact e_2 (Tryd.results78) (Qh rfl) (Qh rfl) (Qr rfl)
 ·by_cases h0 : b = 0
  ·rw [if_pos ⟨by decide, h0⟩] at hro
   rw [hro]
   refine Qb Tryd.func78 rfl Tryd.ntmps78 rfl (t := [(0, .i 3), (1, .i a), (2, .i b)]) rfl fun E hE => ?_
   (repeat' first | refine Qt rfl ?_ | refine Qv rfl ?_ | refine QH rfl rfl ?_ | refine QZ rfl rfl (hwa) ?_ | refine QZ rfl rfl (hwb) ?_ | refine WR rfl rfl ?_ | refine Qe ?_ | refine Qp rfl ?_ | refine WC rfl rfl rfl rfl ?_ | refine WO rfl rfl rfl rfl ?_ | refine Qf ?_ | refine Qa ?_ | refine Qx rfl (by omega) ?_ | refine Qm ?_ | fail)
   exact e_2 (Tryd.results78) (Qh rfl) (Qh rfl) (Qr rfl)
  ·rw [if_neg fun h => h0 h.2] at hro
   rw [hro]
   have htd := tdiv_bd (b := b) ha
   have hq := quo_c (G := G) a b (by omega) (by omega) h0
   have hm := mul_bd2 hb htd
   have hm2 : -9223372036854775808 <= b * a.tdiv b /\ b * a.tdiv b <= 9223372036854775807 := by omega
   change ACalls Tryd.prog G B 78 _ [] (fun d' σ' => d' = .tup [.i (wW (a.tdiv b)), .i 0] /\ σ' = [])
   generalize a.tdiv b = q at *
   refine Qb Tryd.func78 rfl Tryd.ntmps78 rfl (t := [(0, .i 3), (1, .i a), (2, .i b)]) rfl fun E hE => ?_
   (repeat' first | refine Qt rfl ?_ | refine Qv rfl ?_ | refine QH rfl rfl ?_ | refine QZ rfl rfl (hwa) ?_ | refine QZ rfl rfl (hwb) ?_ | refine QZ rfl rfl (W8 _ (by omega)) ?_ | refine QZ rfl rfl (hq) ?_ | refine WR rfl rfl ?_ | refine Qe ?_ | refine Qp rfl ?_ | refine WC rfl rfl rfl rfl ?_ | refine WO rfl rfl rfl rfl ?_ | refine Qf ?_ | refine Qa ?_ | refine Qg ?_ | refine Qj ?_ | refine Qs rfl ?_ | refine Qi rfl ?_ | refine QD rfl (by omega) ?_ | refine Qm ?_ | fail)
   exact e_2 (Tryd.results78) (Qh rfl) (Qh rfl) (Qr rfl)
 ·by_cases h0 : b = 0
  ·rw [if_pos ⟨by decide, h0⟩] at hro
   rw [hro]
   refine Qb Tryd.func78 rfl Tryd.ntmps78 rfl (t := [(0, .i 4), (1, .i a), (2, .i b)]) rfl fun E hE => ?_
   (repeat' first | refine Qt rfl ?_ | refine Qv rfl ?_ | refine QH rfl rfl ?_ | refine QZ rfl rfl (hwa) ?_ | refine QZ rfl rfl (hwb) ?_ | refine WR rfl rfl ?_ | refine Wk rfl rfl ?_ | refine Qe ?_ | refine Qp rfl ?_ | refine WC rfl rfl rfl rfl ?_ | refine Qf ?_ | refine Qa ?_ | refine Qx rfl (by omega) ?_ | refine Qm ?_ | fail)
   exact e_2 (Tryd.results78) (Qh rfl) (Qh rfl) (Qr rfl)
  ·rw [if_neg fun h => h0 h.2] at hro
   rw [hro]
   have htd := tdiv_bd (b := b) ha
   have hq := quo_c (G := G) a b (by omega) (by omega) h0
   have hm := mul_bd2 hb htd
   have hm2 : -9223372036854775808 <= b * a.tdiv b /\ b * a.tdiv b <= 9223372036854775807 := by omega
   change ACalls Tryd.prog G B 78 _ [] (fun d' σ' => d' = .tup [.i (wW (a - b * a.tdiv b)), .i 0] /\ σ' = [])
   generalize a.tdiv b = q at *
   refine Qb Tryd.func78 rfl Tryd.ntmps78 rfl (t := [(0, .i 4), (1, .i a), (2, .i b)]) rfl fun E hE => ?_
   (repeat' first | refine Qt rfl ?_ | refine Qv rfl ?_ | refine Z2 rfl rfl (by assumption) ?_ | refine QH rfl rfl ?_ | refine Zn rfl rfl (by omega) ?_ | refine QZ rfl rfl (hwa) ?_ | refine QZ rfl rfl (hwb) ?_ | refine QZ rfl rfl (W8 _ (by omega)) ?_ | refine QZ rfl rfl (hq) ?_ | refine WR rfl rfl ?_ | refine Wk rfl rfl ?_ | refine Qe ?_ | refine Qp rfl ?_ | refine WC rfl rfl rfl rfl ?_ | refine Qf ?_ | refine Qa ?_ | refine Qg ?_ | refine Qj ?_ | refine Qs rfl ?_ | refine Qi rfl ?_ | refine QD rfl (by omega) ?_ | refine Qm ?_ | fail)
   exact e_2 (Tryd.results78) (Qh rfl) (Qh rfl) (Qr rfl)
 ·rw [if_neg fun h => absurd h.1 (by decide)] at hro
  rw [hro]
  refine Qb Tryd.func78 rfl Tryd.ntmps78 rfl (t := [(0, .i 5), (1, .i a), (2, .i b)]) rfl fun E hE => ?_
  (repeat' first | refine Qt rfl ?_ | refine Qv rfl ?_ | refine QH rfl rfl ?_ | refine QZ rfl rfl (hwa) ?_ | refine QZ rfl rfl (hwb) ?_ | refine QZ rfl rfl (bw_and _ _ ha hb) ?_ | refine Wk rfl rfl ?_ | refine Qe ?_ | refine Qp rfl ?_ | refine WC rfl rfl rfl rfl ?_ | refine WO rfl rfl rfl rfl ?_ | refine Qf ?_ | refine Qa ?_ | refine Qg ?_ | refine Qj ?_ | refine Qs rfl ?_ | refine Qi rfl ?_ | refine Qm ?_ | fail)
  exact e_2 (Tryd.results78) (Qh rfl) (Qh rfl) (Qr rfl)
 ·rw [if_neg fun h => absurd h.1 (by decide)] at hro
  rw [hro]
  refine Qb Tryd.func78 rfl Tryd.ntmps78 rfl (t := [(0, .i 6), (1, .i a), (2, .i b)]) rfl fun E hE => ?_
  (repeat' first | refine Qt rfl ?_ | refine Qv rfl ?_ | refine QH rfl rfl ?_ | refine QZ rfl rfl (hwa) ?_ | refine QZ rfl rfl (hwb) ?_ | refine QZ rfl rfl (bw_or _ _ ha hb) ?_ | refine Wk rfl rfl ?_ | refine Qe ?_ | refine Qp rfl ?_ | refine WC rfl rfl rfl rfl ?_ | refine WO rfl rfl rfl rfl ?_ | refine Qf ?_ | refine Qa ?_ | refine Qg ?_ | refine Qj ?_ | refine Qs rfl ?_ | refine Qi rfl ?_ | refine Qm ?_ | fail)
  exact e_2 (Tryd.results78) (Qh rfl) (Qh rfl) (Qr rfl)
 ·rw [if_neg fun h => absurd h.1 (by decide)] at hro
  rw [hro]
  refine Qb Tryd.func78 rfl Tryd.ntmps78 rfl (t := [(0, .i 7), (1, .i a), (2, .i b)]) rfl fun E hE => ?_
  (repeat' first | refine Qt rfl ?_ | refine Qv rfl ?_ | refine QH rfl rfl ?_ | refine QZ rfl rfl (hwa) ?_ | refine QZ rfl rfl (hwb) ?_ | refine QZ rfl rfl (bw_xor _ _ ha hb) ?_ | refine Wk rfl rfl ?_ | refine Qe ?_ | refine Qp rfl ?_ | refine WC rfl rfl rfl rfl ?_ | refine WO rfl rfl rfl rfl ?_ | refine Qf ?_ | refine Qa ?_ | refine Qg ?_ | refine Qj ?_ | refine Qs rfl ?_ | refine Qi rfl ?_ | refine Qm ?_ | fail)
  exact e_2 (Tryd.results78) (Qh rfl) (Qh rfl) (Qr rfl)
 ·rw [if_neg fun h => absurd h.1 (by decide)] at hro
  rw [hro]
  have hcb := Z4 (G := G) b (by omega)
  have hlb := wN_lt b
  have hdb0 := doubled_c (G := G) a ha (wN b % 4) (by omega)
  have e4 : ((wN b % 4 : Nat) : Int) = (wN b : Int).tmod 4 := by rw [Int.tmod_eq_emod_of_nonneg (by omega)]; omega
  rw [e4] at hdb0
  have hdb : Go.Av.Pure Tryd.prog G _ _ _ := hdb0
  clear hdb0
  refine Qb Tryd.func78 rfl Tryd.ntmps78 rfl (t := [(0, .i 8), (1, .i a), (2, .i b)]) rfl fun E hE => ?_
  (repeat' first | refine Qt rfl ?_ | refine Qv rfl ?_ | refine ZV rfl rfl (by omega) ?_ | refine QH rfl rfl ?_ | refine QZ rfl rfl (hwa) ?_ | refine QZ rfl rfl (hwb) ?_ | refine QZ rfl rfl (hcb) ?_ | refine QZ rfl rfl (hdb) ?_ | refine Wk rfl rfl ?_ | refine Qe ?_ | refine Qp rfl ?_ | refine WC rfl rfl rfl rfl ?_ | refine WO rfl rfl rfl rfl ?_ | refine Qf ?_ | refine Qa ?_ | refine Qg ?_ | refine Qj ?_ | refine Qs rfl ?_ | refine Qi rfl ?_ | refine Qm ?_ | fail)
  exact e_2 (Tryd.results78) (Qh rfl) (Qh rfl) (Qr rfl)
 ·rw [if_neg fun h => absurd h.1 (by decide)] at hro
  rw [hro]
  have hcb := Z4 (G := G) b (by omega)
  have hlb := wN_lt b
  have hdb0 := halved_c (G := G) a ha (wN b % 4) (by omega)
  have e4 : ((wN b % 4 : Nat) : Int) = (wN b : Int).tmod 4 := by rw [Int.tmod_eq_emod_of_nonneg (by omega)]; omega
  rw [e4] at hdb0
  have hhv : Go.Av.Pure Tryd.prog G _ _ _ := hdb0
  clear hdb0
  refine Qb Tryd.func78 rfl Tryd.ntmps78 rfl (t := [(0, .i 9), (1, .i a), (2, .i b)]) rfl fun E hE => ?_
  (repeat' first | refine Qt rfl ?_ | refine Qv rfl ?_ | refine ZV rfl rfl (by omega) ?_ | refine QH rfl rfl ?_ | refine QZ rfl rfl (hwa) ?_ | refine QZ rfl rfl (hwb) ?_ | refine QZ rfl rfl (hcb) ?_ | refine QZ rfl rfl (hhv) ?_ | refine Wk rfl rfl ?_ | refine Qe ?_ | refine Qp rfl ?_ | refine WC rfl rfl rfl rfl ?_ | refine WO rfl rfl rfl rfl ?_ | refine Qf ?_ | refine Qa ?_ | refine Qg ?_ | refine Qj ?_ | refine Qs rfl ?_ | refine Qi rfl ?_ | refine Qm ?_ | fail)
  exact e_2 (Tryd.results78) (Qh rfl) (Qh rfl) (Qr rfl)
 ·rw [if_neg fun h => absurd h.1 (by decide)] at hro
  rw [hro]
  refine Qb Tryd.func78 rfl Tryd.ntmps78 rfl (t := [(0, .i 10), (1, .i a), (2, .i b)]) rfl fun E hE => ?_
  (repeat' first | refine Qt rfl ?_ | refine Qv rfl ?_ | refine QG rfl rfl ?_ | refine QH rfl rfl ?_ | refine QZ rfl rfl (hwa) ?_ | refine QZ rfl rfl (hwb) ?_ | refine QZ rfl rfl (qc _) ?_ | refine Wk rfl rfl ?_ | refine Qe ?_ | refine Qp rfl ?_ | refine WC rfl rfl rfl rfl ?_ | refine WO rfl rfl rfl rfl ?_ | refine Qf ?_ | refine Qa ?_ | refine Qg ?_ | refine Qj ?_ | refine Qs rfl ?_ | refine Qi rfl ?_ | refine Qm ?_ | fail)
  exact e_2 (Tryd.results78) (Qh rfl) (Qh rfl) (Qr (by simp [refM]))
 ·rw [if_neg fun h => absurd h.1 (by decide)] at hro
  rw [hro]
  refine Qb Tryd.func78 rfl Tryd.ntmps78 rfl (t := [(0, .i 11), (1, .i a), (2, .i b)]) rfl fun E hE => ?_
  (repeat' first | refine Qt rfl ?_ | refine Qv rfl ?_ | refine QH rfl rfl ?_ | refine QZ rfl rfl (hwa) ?_ | refine QZ rfl rfl (hwb) ?_ | refine QZ rfl rfl (qc _) ?_ | refine Wk rfl rfl ?_ | refine Qe ?_ | refine Qp rfl ?_ | refine WC rfl rfl rfl rfl ?_ | refine WO rfl rfl rfl rfl ?_ | refine Qf ?_ | refine Qa ?_ | refine Qg ?_ | refine Qj ?_ | refine Qs rfl ?_ | refine Qi rfl ?_ | refine Qm ?_ | fail)
  exact e_2 (Tryd.results78) (Qh rfl) (Qh rfl) (Qr (by simp [refM]))
 ·rw [if_neg fun h => absurd h.1 (by decide)] at hro
  rw [hro]
  refine Qb Tryd.func78 rfl Tryd.ntmps78 rfl (t := [(0, .i 12), (1, .i a), (2, .i b)]) rfl fun E hE => ?_
  by_cases q1 : a = 0
  all_goals by_cases q2 : b = 0
  all_goals
   (repeat' first | refine Qt rfl ?_ | refine Qv rfl ?_ | refine QH rfl rfl ?_ | refine W6 rfl rfl ?_ | refine QZ rfl rfl (hwa) ?_ | refine QZ rfl rfl (hwb) ?_ | refine QZ rfl rfl (qc _) ?_ | refine WR rfl rfl ?_ | refine Wk rfl rfl ?_ | refine Qe ?_ | refine Qp rfl ?_ | refine WC rfl rfl rfl rfl ?_ | refine WO rfl rfl rfl rfl ?_ | refine Wm rfl rfl (by omega) ?_ | refine Wn rfl rfl (by omega) ?_ | refine Qf ?_ | refine Qa ?_ | refine Qg ?_ | refine Qj ?_ | refine Qs rfl ?_ | refine Qi rfl ?_ | refine Qm ?_ | fail)
   exact e_2 (Tryd.results78) (Qh rfl) (Qh rfl) (Qr (by simp [refM, q1, q2]))
 ·rw [if_neg fun h => absurd h.1 (by decide)] at hro
  rw [hro]
  refine Qb Tryd.func78 rfl Tryd.ntmps78 rfl (t := [(0, .i 13), (1, .i a), (2, .i b)]) rfl fun E hE => ?_
  by_cases q1 : a = 0
  all_goals by_cases q2 : b = 0
  all_goals
   (repeat' first | refine Qt rfl ?_ | refine Qv rfl ?_ | refine QH rfl rfl ?_ | refine W6 rfl rfl ?_ | refine QZ rfl rfl (hwa) ?_ | refine QZ rfl rfl (hwb) ?_ | refine QZ rfl rfl (qc _) ?_ | refine WR rfl rfl ?_ | refine Wk rfl rfl ?_ | refine Qe ?_ | refine Qp rfl ?_ | refine WC rfl rfl rfl rfl ?_ | refine WO rfl rfl rfl rfl ?_ | refine Wm rfl rfl (by omega) ?_ | refine Wn rfl rfl (by omega) ?_ | refine Qf ?_ | refine Qa ?_ | refine Qg ?_ | refine Qj ?_ | refine Qs rfl ?_ | refine Qi rfl ?_ | refine Qm ?_ | fail)
   exact e_2 (Tryd.results78) (Qh rfl) (Qh rfl) (Qr (by simp [refM, q1, q2]))
end Go.Proofs
end
