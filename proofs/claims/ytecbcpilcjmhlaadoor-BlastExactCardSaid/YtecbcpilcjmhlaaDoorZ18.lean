/-
  Part 18 of the proof: S5.
-/
import Derived.Test.YtecbcpilcjmhlaaDoorZ1
import Derived.Test.YtecbcpilcjmhlaaDoorZ3
import Derived.Test.YtecbcpilcjmhlaaDoorZ17
set_option linter.unusedSimpArgs false
set_option linter.unusedVariables false
set_option maxRecDepth 10000
set_option maxHeartbeats 4000000
section
namespace Go.Proofs
open Go.Av
variable {G : Nat → DV}
attribute [local irreducible] OpSem ARun AOps ALex ACalls AEnd AClose RV
open Go.Bl
def refM (op a b : Int) : Int :=
  if op = 0 then wW (a + b) else if op = 1 then wW (a - b) else if op = 2 then wW (a * b) else if op = 3 then wW (a.tdiv b) else if op = 4 then wW (a - b * a.tdiv b) else
  if op = 5 then bwM false false true a b else if op = 6 then bwM true true true a b else if op = 7 then bwM true true false a b else
  if op = 8 then dblM a (wN b % 4) else if op = 9 then halM a (wN b % 4) else
  if op = 10 then (if a < b then 1 else 0) else if op = 11 then (if a = b then 1 else 0) else if op = 12 then (if a ≠ 0 ∧ b ≠ 0 then 1 else 0) else if a ≠ 0 ∨ b ≠ 0 then 1 else 0
def chk : Bool := (List.range 14).all fun op => (List.range 16).all fun a => (List.range 16).all fun b =>
  let op : Int := op; let a : Int := (a : Int) - 8; let b : Int := (b : Int) - 8
  decide (opM op a b = if (op = 3 ∨ op = 4) ∧ b = 0 then (0, 2) else (refM op a b, 0))
theorem chk_ok : chk = true := by kernel_rfl
theorem ref_op {op a b : Int} (hop : 0 ≤ op ∧ op < 14) (ha : -8 ≤ a ∧ a ≤ 7) (hb : -8 ≤ b ∧ b ≤ 7) : opM op a b = if (op = 3 ∨ op = 4) ∧ b = 0 then (0, 2) else (refM op a b, 0) := by
  have h := chk_ok
  unfold chk at h
  have h1 := List.all_eq_true.1 h op.toNat (List.mem_range.2 (by omega))
  have h2 := List.all_eq_true.1 h1 (a + 8).toNat (List.mem_range.2 (by omega))
  have h3 := List.all_eq_true.1 h2 (b + 8).toNat (List.mem_range.2 (by omega))
  have h3 := of_decide_eq_true h3
  have e1 : (op.toNat : Int) = op := by omega
  have e2 : ((a + 8).toNat : Int) - 8 = a := by omega
  have e3 : ((b + 8).toNat : Int) - 8 = b := by omega
  rw [e1, e2, e3] at h3
  exact h3
theorem tdiv_bd {a b : Int} (ha : -8 ≤ a ∧ a ≤ 7) : -8 ≤ a.tdiv b ∧ a.tdiv b ≤ 8 := by
  have h1 : (a.tdiv b).natAbs ≤ a.natAbs := by rw [Int.natAbs_tdiv]; exact Nat.div_le_self _ _
  omega
theorem mul_bd2 {a b : Int} (ha : -8 ≤ a ∧ a ≤ 7) (hb : -8 ≤ b ∧ b ≤ 8) : -64 ≤ a * b ∧ a * b ≤ 64 := by
  have : a = -8 ∨ a = -7 ∨ a = -6 ∨ a = -5 ∨ a = -4 ∨ a = -3 ∨ a = -2 ∨ a = -1 ∨ a = 0 ∨ a = 1 ∨ a = 2 ∨ a = 3 ∨ a = 4 ∨ a = 5 ∨ a = 6 ∨ a = 7 := by omega
  rcases this with rfl | rfl | rfl | rfl | rfl | rfl | rfl | rfl | rfl | rfl | rfl | rfl | rfl | rfl | rfl | rfl <;> omega
theorem r04Op_c (op a b : Int) (hop : 0 ≤ op ∧ op < 14) (ha : -8 ≤ a ∧ a ≤ 7) (hb : -8 ≤ b ∧ b ≤ 7) : Go.Av.Pure Tryd.prog G 78 [.i op, .i a, .i b] (.tup [.i (opM op a b).1, .i (opM op a b).2]) := fun B => by
  have hwa : Go.Av.Pure Tryd.prog G 58 [.i a] (.i a) := by have := r04Wrap_t (G := G) a (by omega); rwa [wW_self ha] at this
  have hwb : Go.Av.Pure Tryd.prog G 58 [.i b] (.i b) := by have := r04Wrap_t (G := G) b (by omega); rwa [wW_self hb] at this
  have hro := ref_op hop ha hb
  have hop2 : op = 0 ∨ op = 1 ∨ op = 2 ∨ op = 3 ∨ op = 4 ∨ op = 5 ∨ op = 6 ∨ op = 7 ∨ op = 8 ∨ op = 9 ∨ op = 10 ∨ op = 11 ∨ op = 12 ∨ op = 13 := by omega
  clear hop
  rcases hop2 with rfl | rfl | rfl | rfl | rfl | rfl | rfl | rfl | rfl | rfl | rfl | rfl | rfl | rfl
  · rw [if_neg fun h => absurd h.1 (by decide)] at hro
    rw [hro]
    refine calls_of_run Tryd.func78 rfl Tryd.ntmps78 rfl (t := [(0, .i 0), (1, .i a), (2, .i b)]) rfl fun E hE => ?_
    (repeat' first | refine s_mv rfl ?_ | refine s_as rfl ?_ | refine s_eql rfl rfl ?_ | refine s_add rfl rfl (by omega) ?_ | refine s_cp rfl rfl (hwa) ?_ | refine s_cp rfl rfl (hwb) ?_ | refine s_cp rfl rfl (r04Wrap_t _ (by omega)) ?_ | refine s_pf rfl rfl ?_ | refine o_nil ?_ | refine o_op rfl ?_ | refine o_gy rfl rfl rfl rfl ?_ | refine o_gn rfl rfl rfl rfl ?_ | refine r_seq ?_ | refine r_region ?_ | refine r_block ?_ | refine r_skip ?_ | refine r_cond_t rfl ?_ | refine r_cond_f rfl ?_ | refine r_ret ?_ | fail)
    exact e_2 (Tryd.results78) (rv_tmp rfl) (rv_tmp rfl) (c_pure' rfl)
  · rw [if_neg fun h => absurd h.1 (by decide)] at hro
    rw [hro]
    refine calls_of_run Tryd.func78 rfl Tryd.ntmps78 rfl (t := [(0, .i 1), (1, .i a), (2, .i b)]) rfl fun E hE => ?_
    (repeat' first | refine s_mv rfl ?_ | refine s_as rfl ?_ | refine s_eql rfl rfl ?_ | refine s_sub rfl rfl (by omega) ?_ | refine s_cp rfl rfl (hwa) ?_ | refine s_cp rfl rfl (hwb) ?_ | refine s_cp rfl rfl (r04Wrap_t _ (by omega)) ?_ | refine s_pf rfl rfl ?_ | refine o_nil ?_ | refine o_op rfl ?_ | refine o_gy rfl rfl rfl rfl ?_ | refine o_gn rfl rfl rfl rfl ?_ | refine r_seq ?_ | refine r_region ?_ | refine r_block ?_ | refine r_skip ?_ | refine r_cond_t rfl ?_ | refine r_cond_f rfl ?_ | refine r_ret ?_ | fail)
    exact e_2 (Tryd.results78) (rv_tmp rfl) (rv_tmp rfl) (c_pure' rfl)
  · rw [if_neg fun h => absurd h.1 (by decide)] at hro
    rw [hro]
    have hm0 := mul_bd2 ha (b := b) (by omega)
    have hm : -9223372036854775808 ≤ a * b ∧ a * b ≤ 9223372036854775807 := by omega
    refine calls_of_run Tryd.func78 rfl Tryd.ntmps78 rfl (t := [(0, .i 2), (1, .i a), (2, .i b)]) rfl fun E hE => ?_
    (repeat' first | refine s_mv rfl ?_ | refine s_as rfl ?_ | refine s_mul rfl rfl (by assumption) ?_ | refine s_eql rfl rfl ?_ | refine s_cp rfl rfl (hwa) ?_ | refine s_cp rfl rfl (hwb) ?_ | refine s_cp rfl rfl (r04Wrap_t _ (by omega)) ?_ | refine s_pf rfl rfl ?_ | refine o_nil ?_ | refine o_op rfl ?_ | refine o_gy rfl rfl rfl rfl ?_ | refine o_gn rfl rfl rfl rfl ?_ | refine r_seq ?_ | refine r_region ?_ | refine r_block ?_ | refine r_skip ?_ | refine r_cond_t rfl ?_ | refine r_cond_f rfl ?_ | refine r_ret ?_ | fail)
    exact e_2 (Tryd.results78) (rv_tmp rfl) (rv_tmp rfl) (c_pure' rfl)
  · by_cases h0 : b = 0
    · rw [if_pos ⟨by decide, h0⟩] at hro
      rw [hro]
      refine calls_of_run Tryd.func78 rfl Tryd.ntmps78 rfl (t := [(0, .i 3), (1, .i a), (2, .i b)]) rfl fun E hE => ?_
      (repeat' first | refine s_mv rfl ?_ | refine s_as rfl ?_ | refine s_eql rfl rfl ?_ | refine s_cp rfl rfl (hwa) ?_ | refine s_cp rfl rfl (hwb) ?_ | refine s_pt rfl rfl ?_ | refine o_nil ?_ | refine o_op rfl ?_ | refine o_gy rfl rfl rfl rfl ?_ | refine o_gn rfl rfl rfl rfl ?_ | refine r_seq ?_ | refine r_region ?_ | refine r_cond_dt rfl (by omega) ?_ | refine r_ret ?_ | fail)
      exact e_2 (Tryd.results78) (rv_tmp rfl) (rv_tmp rfl) (c_pure' rfl)
    · rw [if_neg fun h => h0 h.2] at hro
      rw [hro]
      have htd := tdiv_bd (b := b) ha
      have hq := quo_c (G := G) a b (by omega) (by omega) h0
      have hm := mul_bd2 hb htd
      have hm2 : -9223372036854775808 ≤ b * a.tdiv b ∧ b * a.tdiv b ≤ 9223372036854775807 := by omega
      change ACalls Tryd.prog G B 78 _ [] (fun d' σ' => d' = .tup [.i (wW (a.tdiv b)), .i 0] ∧ σ' = [])
      generalize a.tdiv b = q at *
      refine calls_of_run Tryd.func78 rfl Tryd.ntmps78 rfl (t := [(0, .i 3), (1, .i a), (2, .i b)]) rfl fun E hE => ?_
      (repeat' first | refine s_mv rfl ?_ | refine s_as rfl ?_ | refine s_eql rfl rfl ?_ | refine s_cp rfl rfl (hwa) ?_ | refine s_cp rfl rfl (hwb) ?_ | refine s_cp rfl rfl (r04Wrap_t _ (by omega)) ?_ | refine s_cp rfl rfl (hq) ?_ | refine s_pt rfl rfl ?_ | refine o_nil ?_ | refine o_op rfl ?_ | refine o_gy rfl rfl rfl rfl ?_ | refine o_gn rfl rfl rfl rfl ?_ | refine r_seq ?_ | refine r_region ?_ | refine r_block ?_ | refine r_skip ?_ | refine r_cond_t rfl ?_ | refine r_cond_f rfl ?_ | refine r_cond_df rfl (by omega) ?_ | refine r_ret ?_ | fail)
      exact e_2 (Tryd.results78) (rv_tmp rfl) (rv_tmp rfl) (c_pure' rfl)
  · by_cases h0 : b = 0
    · rw [if_pos ⟨by decide, h0⟩] at hro
      rw [hro]
      refine calls_of_run Tryd.func78 rfl Tryd.ntmps78 rfl (t := [(0, .i 4), (1, .i a), (2, .i b)]) rfl fun E hE => ?_
      (repeat' first | refine s_mv rfl ?_ | refine s_as rfl ?_ | refine s_eql rfl rfl ?_ | refine s_cp rfl rfl (hwa) ?_ | refine s_cp rfl rfl (hwb) ?_ | refine s_pt rfl rfl ?_ | refine s_pf rfl rfl ?_ | refine o_nil ?_ | refine o_op rfl ?_ | refine o_gy rfl rfl rfl rfl ?_ | refine r_seq ?_ | refine r_region ?_ | refine r_cond_dt rfl (by omega) ?_ | refine r_ret ?_ | fail)
      exact e_2 (Tryd.results78) (rv_tmp rfl) (rv_tmp rfl) (c_pure' rfl)
    · rw [if_neg fun h => h0 h.2] at hro
      rw [hro]
      have htd := tdiv_bd (b := b) ha
      have hq := quo_c (G := G) a b (by omega) (by omega) h0
      have hm := mul_bd2 hb htd
      have hm2 : -9223372036854775808 ≤ b * a.tdiv b ∧ b * a.tdiv b ≤ 9223372036854775807 := by omega
      change ACalls Tryd.prog G B 78 _ [] (fun d' σ' => d' = .tup [.i (wW (a - b * a.tdiv b)), .i 0] ∧ σ' = [])
      generalize a.tdiv b = q at *
      refine calls_of_run Tryd.func78 rfl Tryd.ntmps78 rfl (t := [(0, .i 4), (1, .i a), (2, .i b)]) rfl fun E hE => ?_
      (repeat' first | refine s_mv rfl ?_ | refine s_as rfl ?_ | refine s_mul rfl rfl (by assumption) ?_ | refine s_eql rfl rfl ?_ | refine s_sub rfl rfl (by omega) ?_ | refine s_cp rfl rfl (hwa) ?_ | refine s_cp rfl rfl (hwb) ?_ | refine s_cp rfl rfl (r04Wrap_t _ (by omega)) ?_ | refine s_cp rfl rfl (hq) ?_ | refine s_pt rfl rfl ?_ | refine s_pf rfl rfl ?_ | refine o_nil ?_ | refine o_op rfl ?_ | refine o_gy rfl rfl rfl rfl ?_ | refine r_seq ?_ | refine r_region ?_ | refine r_block ?_ | refine r_skip ?_ | refine r_cond_t rfl ?_ | refine r_cond_f rfl ?_ | refine r_cond_df rfl (by omega) ?_ | refine r_ret ?_ | fail)
      exact e_2 (Tryd.results78) (rv_tmp rfl) (rv_tmp rfl) (c_pure' rfl)
  · rw [if_neg fun h => absurd h.1 (by decide)] at hro
    rw [hro]
    refine calls_of_run Tryd.func78 rfl Tryd.ntmps78 rfl (t := [(0, .i 5), (1, .i a), (2, .i b)]) rfl fun E hE => ?_
    (repeat' first | refine s_mv rfl ?_ | refine s_as rfl ?_ | refine s_eql rfl rfl ?_ | refine s_cp rfl rfl (hwa) ?_ | refine s_cp rfl rfl (hwb) ?_ | refine s_cp rfl rfl (bw_and _ _ ha hb) ?_ | refine s_pf rfl rfl ?_ | refine o_nil ?_ | refine o_op rfl ?_ | refine o_gy rfl rfl rfl rfl ?_ | refine o_gn rfl rfl rfl rfl ?_ | refine r_seq ?_ | refine r_region ?_ | refine r_block ?_ | refine r_skip ?_ | refine r_cond_t rfl ?_ | refine r_cond_f rfl ?_ | refine r_ret ?_ | fail)
    exact e_2 (Tryd.results78) (rv_tmp rfl) (rv_tmp rfl) (c_pure' rfl)
  · rw [if_neg fun h => absurd h.1 (by decide)] at hro
    rw [hro]
    refine calls_of_run Tryd.func78 rfl Tryd.ntmps78 rfl (t := [(0, .i 6), (1, .i a), (2, .i b)]) rfl fun E hE => ?_
    (repeat' first | refine s_mv rfl ?_ | refine s_as rfl ?_ | refine s_eql rfl rfl ?_ | refine s_cp rfl rfl (hwa) ?_ | refine s_cp rfl rfl (hwb) ?_ | refine s_cp rfl rfl (bw_or _ _ ha hb) ?_ | refine s_pf rfl rfl ?_ | refine o_nil ?_ | refine o_op rfl ?_ | refine o_gy rfl rfl rfl rfl ?_ | refine o_gn rfl rfl rfl rfl ?_ | refine r_seq ?_ | refine r_region ?_ | refine r_block ?_ | refine r_skip ?_ | refine r_cond_t rfl ?_ | refine r_cond_f rfl ?_ | refine r_ret ?_ | fail)
    exact e_2 (Tryd.results78) (rv_tmp rfl) (rv_tmp rfl) (c_pure' rfl)
  · rw [if_neg fun h => absurd h.1 (by decide)] at hro
    rw [hro]
    refine calls_of_run Tryd.func78 rfl Tryd.ntmps78 rfl (t := [(0, .i 7), (1, .i a), (2, .i b)]) rfl fun E hE => ?_
    (repeat' first | refine s_mv rfl ?_ | refine s_as rfl ?_ | refine s_eql rfl rfl ?_ | refine s_cp rfl rfl (hwa) ?_ | refine s_cp rfl rfl (hwb) ?_ | refine s_cp rfl rfl (bw_xor _ _ ha hb) ?_ | refine s_pf rfl rfl ?_ | refine o_nil ?_ | refine o_op rfl ?_ | refine o_gy rfl rfl rfl rfl ?_ | refine o_gn rfl rfl rfl rfl ?_ | refine r_seq ?_ | refine r_region ?_ | refine r_block ?_ | refine r_skip ?_ | refine r_cond_t rfl ?_ | refine r_cond_f rfl ?_ | refine r_ret ?_ | fail)
    exact e_2 (Tryd.results78) (rv_tmp rfl) (rv_tmp rfl) (c_pure' rfl)
  · rw [if_neg fun h => absurd h.1 (by decide)] at hro
    rw [hro]
    have hcb := r04Bits_c (G := G) b (by omega)
    have hlb := wN_lt b
    have hdb0 := doubled_c (G := G) a ha (wN b % 4) (by omega)
    have e4 : ((wN b % 4 : Nat) : Int) = (wN b : Int).tmod 4 := by rw [Int.tmod_eq_emod_of_nonneg (by omega)]; omega
    rw [e4] at hdb0
    have hdb : Go.Av.Pure Tryd.prog G _ _ _ := hdb0
    clear hdb0
    refine calls_of_run Tryd.func78 rfl Tryd.ntmps78 rfl (t := [(0, .i 8), (1, .i a), (2, .i b)]) rfl fun E hE => ?_
    (repeat' first | refine s_mv rfl ?_ | refine s_as rfl ?_ | refine s_remw rfl rfl (by omega) ?_ | refine s_eql rfl rfl ?_ | refine s_cp rfl rfl (hwa) ?_ | refine s_cp rfl rfl (hwb) ?_ | refine s_cp rfl rfl (hcb) ?_ | refine s_cp rfl rfl (hdb) ?_ | refine s_pf rfl rfl ?_ | refine o_nil ?_ | refine o_op rfl ?_ | refine o_gy rfl rfl rfl rfl ?_ | refine o_gn rfl rfl rfl rfl ?_ | refine r_seq ?_ | refine r_region ?_ | refine r_block ?_ | refine r_skip ?_ | refine r_cond_t rfl ?_ | refine r_cond_f rfl ?_ | refine r_ret ?_ | fail)
    exact e_2 (Tryd.results78) (rv_tmp rfl) (rv_tmp rfl) (c_pure' rfl)
  · rw [if_neg fun h => absurd h.1 (by decide)] at hro
    rw [hro]
    have hcb := r04Bits_c (G := G) b (by omega)
    have hlb := wN_lt b
    have hdb0 := halved_c (G := G) a ha (wN b % 4) (by omega)
    have e4 : ((wN b % 4 : Nat) : Int) = (wN b : Int).tmod 4 := by rw [Int.tmod_eq_emod_of_nonneg (by omega)]; omega
    rw [e4] at hdb0
    have hhv : Go.Av.Pure Tryd.prog G _ _ _ := hdb0
    clear hdb0
    refine calls_of_run Tryd.func78 rfl Tryd.ntmps78 rfl (t := [(0, .i 9), (1, .i a), (2, .i b)]) rfl fun E hE => ?_
    (repeat' first | refine s_mv rfl ?_ | refine s_as rfl ?_ | refine s_remw rfl rfl (by omega) ?_ | refine s_eql rfl rfl ?_ | refine s_cp rfl rfl (hwa) ?_ | refine s_cp rfl rfl (hwb) ?_ | refine s_cp rfl rfl (hcb) ?_ | refine s_cp rfl rfl (hhv) ?_ | refine s_pf rfl rfl ?_ | refine o_nil ?_ | refine o_op rfl ?_ | refine o_gy rfl rfl rfl rfl ?_ | refine o_gn rfl rfl rfl rfl ?_ | refine r_seq ?_ | refine r_region ?_ | refine r_block ?_ | refine r_skip ?_ | refine r_cond_t rfl ?_ | refine r_cond_f rfl ?_ | refine r_ret ?_ | fail)
    exact e_2 (Tryd.results78) (rv_tmp rfl) (rv_tmp rfl) (c_pure' rfl)
  · rw [if_neg fun h => absurd h.1 (by decide)] at hro
    rw [hro]
    refine calls_of_run Tryd.func78 rfl Tryd.ntmps78 rfl (t := [(0, .i 10), (1, .i a), (2, .i b)]) rfl fun E hE => ?_
    (repeat' first | refine s_mv rfl ?_ | refine s_as rfl ?_ | refine s_lss rfl rfl ?_ | refine s_eql rfl rfl ?_ | refine s_cp rfl rfl (hwa) ?_ | refine s_cp rfl rfl (hwb) ?_ | refine s_cp rfl rfl (r04Number_c _) ?_ | refine s_pf rfl rfl ?_ | refine o_nil ?_ | refine o_op rfl ?_ | refine o_gy rfl rfl rfl rfl ?_ | refine o_gn rfl rfl rfl rfl ?_ | refine r_seq ?_ | refine r_region ?_ | refine r_block ?_ | refine r_skip ?_ | refine r_cond_t rfl ?_ | refine r_cond_f rfl ?_ | refine r_ret ?_ | fail)
    exact e_2 (Tryd.results78) (rv_tmp rfl) (rv_tmp rfl) (c_pure' (by simp [refM]))
  · rw [if_neg fun h => absurd h.1 (by decide)] at hro
    rw [hro]
    refine calls_of_run Tryd.func78 rfl Tryd.ntmps78 rfl (t := [(0, .i 11), (1, .i a), (2, .i b)]) rfl fun E hE => ?_
    (repeat' first | refine s_mv rfl ?_ | refine s_as rfl ?_ | refine s_eql rfl rfl ?_ | refine s_cp rfl rfl (hwa) ?_ | refine s_cp rfl rfl (hwb) ?_ | refine s_cp rfl rfl (r04Number_c _) ?_ | refine s_pf rfl rfl ?_ | refine o_nil ?_ | refine o_op rfl ?_ | refine o_gy rfl rfl rfl rfl ?_ | refine o_gn rfl rfl rfl rfl ?_ | refine r_seq ?_ | refine r_region ?_ | refine r_block ?_ | refine r_skip ?_ | refine r_cond_t rfl ?_ | refine r_cond_f rfl ?_ | refine r_ret ?_ | fail)
    exact e_2 (Tryd.results78) (rv_tmp rfl) (rv_tmp rfl) (c_pure' (by simp [refM]))
  · rw [if_neg fun h => absurd h.1 (by decide)] at hro
    rw [hro]
    refine calls_of_run Tryd.func78 rfl Tryd.ntmps78 rfl (t := [(0, .i 12), (1, .i a), (2, .i b)]) rfl fun E hE => ?_
    by_cases q1 : a = 0
    all_goals by_cases q2 : b = 0
    all_goals
      (repeat' first | refine s_mv rfl ?_ | refine s_as rfl ?_ | refine s_eql rfl rfl ?_ | refine s_neq rfl rfl ?_ | refine s_cp rfl rfl (hwa) ?_ | refine s_cp rfl rfl (hwb) ?_ | refine s_cp rfl rfl (r04Number_c _) ?_ | refine s_pt rfl rfl ?_ | refine s_pf rfl rfl ?_ | refine o_nil ?_ | refine o_op rfl ?_ | refine o_gy rfl rfl rfl rfl ?_ | refine o_gn rfl rfl rfl rfl ?_ | refine o_sp_t rfl rfl (by omega) ?_ | refine o_sp_f rfl rfl (by omega) ?_ | refine r_seq ?_ | refine r_region ?_ | refine r_block ?_ | refine r_skip ?_ | refine r_cond_t rfl ?_ | refine r_cond_f rfl ?_ | refine r_ret ?_ | fail)
      exact e_2 (Tryd.results78) (rv_tmp rfl) (rv_tmp rfl) (c_pure' (by simp [refM, q1, q2]))
  · rw [if_neg fun h => absurd h.1 (by decide)] at hro
    rw [hro]
    refine calls_of_run Tryd.func78 rfl Tryd.ntmps78 rfl (t := [(0, .i 13), (1, .i a), (2, .i b)]) rfl fun E hE => ?_
    by_cases q1 : a = 0
    all_goals by_cases q2 : b = 0
    all_goals
      (repeat' first | refine s_mv rfl ?_ | refine s_as rfl ?_ | refine s_eql rfl rfl ?_ | refine s_neq rfl rfl ?_ | refine s_cp rfl rfl (hwa) ?_ | refine s_cp rfl rfl (hwb) ?_ | refine s_cp rfl rfl (r04Number_c _) ?_ | refine s_pt rfl rfl ?_ | refine s_pf rfl rfl ?_ | refine o_nil ?_ | refine o_op rfl ?_ | refine o_gy rfl rfl rfl rfl ?_ | refine o_gn rfl rfl rfl rfl ?_ | refine o_sp_t rfl rfl (by omega) ?_ | refine o_sp_f rfl rfl (by omega) ?_ | refine r_seq ?_ | refine r_region ?_ | refine r_block ?_ | refine r_skip ?_ | refine r_cond_t rfl ?_ | refine r_cond_f rfl ?_ | refine r_ret ?_ | fail)
      exact e_2 (Tryd.results78) (rv_tmp rfl) (rv_tmp rfl) (c_pure' (by simp [refM, q1, q2]))
end Go.Proofs
end
