/-
  Part 3 of the proof: B11 B12 E0.
-/
import Derived.Test.YtecbcpilcjmhlaaDoorZ1
import Derived.Test.YtecbcpilcjmhlaaDoorZ2
set_option linter.unusedSimpArgs false
set_option linter.unusedVariables false
set_option maxRecDepth 10000
set_option maxHeartbeats 4000000
section
namespace Go.Proofs
open Go.Av
variable {G : Nat → DV}
attribute [local irreducible] OpSem ARun AOps ALex ACalls AEnd AClose RV
open Go.Bl
inductive Fit : Nd → Prop
  | mk {k n m : Int} {ks : List Nd} : ks.length ≤ 1048576 → (∀ x ∈ ks, Fit x) → Fit (.mk k n m ks)
theorem Fit.len {k n m : Int} {ks : List Nd} (h : Fit (.mk k n m ks)) : ks.length ≤ 1048576 := by cases h; assumption
theorem Fit.kids {k n m : Int} {ks : List Nd} (h : Fit (.mk k n m ks)) : ∀ x ∈ ks, Fit x := by cases h; assumption
theorem types1_c (x : Nd) (M : List (Int × Int)) (htm : TM Tryd.prog G 37 (fun g => [.agg (Enc.enc x), .mp 0 g]) M (.b (typesM x M).1) (typesM x M).2) :
    CM Tryd.prog G 66 (fun gp => [.agg (Enc.enc x), .ptr 0 gp 0]) M (.b (!(typesM x M).1)) (typesM x M).2 := fun gp g B b1 b2 => by
  refine calls_of_run Tryd.func66 rfl Tryd.ntmps66 rfl (t := [(0, .agg (Enc.enc x)), (1, .ptr 0 gp 0)]) rfl fun E hE => ?_
  (repeat' first | refine s_as rfl ?_ | refine s_load_whole rfl rfl (by first | exact Enc.len _ | rfl) ?_ | refine s_load_row rfl rfl rfl ?_ | refine s_call_tm (k := 1) (htm) rfl rfl rfl (by repeat' first | exact .nil | refine .cons ?_ ?_ | exact .s (.mp rfl) | exact .s (.ptr rfl) | exact .s (.ref rfl) | exact .fn (by repeat' first | exact .nil | refine .cons ?_ ?_ | exact .ptr rfl | exact .mp rfl | exact .clo clo_sc) (by repeat' first | exact .nil | refine .cons ?_ ?_ | exact .ptr rfl | exact .mp rfl | exact .clo clo_sc) | exact .s (.clo (by (repeat' first | exact Enc.clo _ | exact clo_sc | exact clo_slOf _ | exact clo_sl (encs_clo _) | exact encs_clo _ | refine clo_fn ?_ ?_ | refine clo_ep ?_ | refine clo_tup ?_ | refine clo_agg ?_ | exact ac_nil | refine ac_cons ?_ ?_ | refine clo_sl ?_); done))) (by repeat' first | exact clo_sc | exact clo_slOf _ | exact clo_sl (encs_clo _) | exact encs_clo _ | refine clo_fn ?_ ?_ | refine clo_ep ?_ | refine clo_tup ?_ | refine clo_agg ?_ | exact ac_nil | refine ac_cons ?_ ?_ | refine clo_sl ?_) (by rfl) ?_ | refine s_not rfl ?_ | refine s_box rfl rfl (fun _ _ => ?_) | refine o_nil ?_ | refine o_op rfl ?_ | refine r_seq ?_ | refine r_region ?_ | refine r_ret ?_)
  exact e_1 (Tryd.results66) (rv_tmp rfl) (c_drop (σ := [_, _]) (r := [_]) ⟨rfl, rfl⟩)
theorem types_c (t : Nd) : Fit t → ∀ M : List (Int × Int), TM Tryd.prog G 37 (fun g => [.agg (Enc.enc t), .mp 0 g]) M (.b (typesM t M).1) (typesM t M).2 := by
  induction t using Nd.ind with
  | h k n m ks ih =>
  intro hfit M g B b1
  have hks := hfit.len
  have hcf : ∀ M, _ := fun M => containsFuncT_c (G := G) ks hks M fun i hi M => types1_c ks[i] M (ih _ (List.getElem_mem hi) (hfit.kids _ (List.getElem_mem hi)) M)
  rw [enc_nd]
  refine calls_of_run Tryd.func37 rfl Tryd.ntmps37 rfl (t := [(0, .agg [.i k, .i n, .i m, slOf ks]), (1, .mp 0 g)]) rfl fun E hE => ?_
  have e0 : ¬ (k = 6 ∧ (getI M n).isSome = true ∧ (getI M n).getD 0 ≠ m) → typesM (.mk k n m ks) M = typesL ks (if k = 6 then putI M n m else M) := fun h => by rw [typesM, if_neg h]
  (repeat' first | refine s_mv rfl ?_ | refine s_as rfl ?_ | refine s_load_row rfl rfl rfl ?_ | refine s_eql rfl rfl ?_ | refine s_neq rfl rfl ?_ | refine s_call_cm (kp := 2) (k := 0) (hcf _) rfl rfl rfl rfl (by rfl) (by repeat' first | exact .nil | refine .cons ?_ ?_ | exact .s (.mp rfl) | exact .s (.ptr rfl) | exact .s (.ref rfl) | exact .fn (by repeat' first | exact .nil | refine .cons ?_ ?_ | exact .ptr rfl | exact .mp rfl | exact .clo clo_sc) (by repeat' first | exact .nil | refine .cons ?_ ?_ | exact .ptr rfl | exact .mp rfl | exact .clo clo_sc) | exact .s (.clo (by (repeat' first | exact Enc.clo _ | exact clo_sc | exact clo_slOf _ | exact clo_sl (encs_clo _) | exact encs_clo _ | refine clo_fn ?_ ?_ | refine clo_ep ?_ | refine clo_tup ?_ | refine clo_agg ?_ | exact ac_nil | refine ac_cons ?_ ?_ | refine clo_sl ?_); done))) (by repeat' first | exact clo_sc | exact clo_slOf _ | exact clo_sl (encs_clo _) | exact encs_clo _ | refine clo_fn ?_ ?_ | refine clo_ep ?_ | refine clo_tup ?_ | refine clo_agg ?_ | exact ac_nil | refine ac_cons ?_ ?_ | refine clo_sl ?_) (by rfl) ?_ | refine s_pt rfl rfl ?_ | refine s_pf rfl rfl ?_ | refine s_lookup_iok rfl rfl rfl (by kernel_rfl) ?_ | refine s_mapupd_i rfl rfl rfl rfl rfl ?_ | refine s_not rfl ?_ | refine s_fld_ptr rfl rfl ?_ | refine s_extract rfl rfl rfl ?_ | refine s_makeFunc rfl rfl ?_ | refine s_box rfl rfl (fun _ _ => ?_) | refine o_nil ?_ | refine o_op rfl ?_ | refine o_op0 ?_ | refine o_gy rfl rfl rfl rfl ?_ | refine o_gn rfl rfl rfl rfl ?_ | refine o_sp_d rfl rfl (fun _ => ?_) (fun _ => ?_) | refine o_sp rfl rfl (fun _ => ?_) (fun _ => ?_) | refine r_seq ?_ | refine r_region ?_ | refine r_skip ?_ | refine r_cond_f rfl ?_ | refine r_cond_dt rfl (by omega) ?_ | refine r_cond_df rfl (by omega) ?_ | refine r_ret ?_)
  · rename_i h6 hs
    refine r_cond_d rfl (fun h => ?_) (fun h => ?_)
    · rw [show typesM (.mk k n m ks) M = (false, M) by rw [typesM, if_pos ⟨h6, hs, h⟩]]
      (repeat' first | refine s_as rfl ?_ | refine o_nil ?_ | refine o_op rfl ?_ | refine r_seq ?_ | refine r_region ?_ | refine r_ret ?_)
      exact e_1 (Tryd.results37) (rv_tmp rfl) (c_drop (σ := [_]) (r := [_, _]) ⟨rfl, rfl⟩)
    · rw [e0 fun hh => h hh.2.2, if_pos h6]
      (repeat' first | refine s_as rfl ?_ | refine s_load_row rfl rfl rfl ?_ | refine s_eql rfl rfl ?_ | refine s_call_cm (kp := 2) (k := 0) (hcf _) rfl rfl rfl rfl (by rfl) (by repeat' first | exact .nil | refine .cons ?_ ?_ | exact .s (.mp rfl) | exact .s (.ptr rfl) | exact .s (.ref rfl) | exact .fn (by repeat' first | exact .nil | refine .cons ?_ ?_ | exact .ptr rfl | exact .mp rfl | exact .clo clo_sc) (by repeat' first | exact .nil | refine .cons ?_ ?_ | exact .ptr rfl | exact .mp rfl | exact .clo clo_sc) | exact .s (.clo (by (repeat' first | exact Enc.clo _ | exact clo_sc | exact clo_slOf _ | exact clo_sl (encs_clo _) | exact encs_clo _ | refine clo_fn ?_ ?_ | refine clo_ep ?_ | refine clo_tup ?_ | refine clo_agg ?_ | exact ac_nil | refine ac_cons ?_ ?_ | refine clo_sl ?_); done))) (by repeat' first | exact clo_sc | exact clo_slOf _ | exact clo_sl (encs_clo _) | exact encs_clo _ | refine clo_fn ?_ ?_ | refine clo_ep ?_ | refine clo_tup ?_ | refine clo_agg ?_ | exact ac_nil | refine ac_cons ?_ ?_ | refine clo_sl ?_) (by rfl) ?_ | refine s_mapupd_i rfl rfl rfl rfl rfl ?_ | refine s_not rfl ?_ | refine s_fld_ptr rfl rfl ?_ | refine s_makeFunc rfl rfl ?_ | refine o_nil ?_ | refine o_op rfl ?_ | refine o_op0 ?_ | refine r_seq ?_ | refine r_region ?_ | refine r_skip ?_ | refine r_cond_dt rfl (by omega) ?_ | refine r_ret ?_)
      exact e_1 (Tryd.results37) (rv_tmp rfl) (c_drop (σ := [_]) (r := [_, _]) ⟨congrArg DV.b (Bool.not_not _), rfl⟩)
  · rename_i h6 hs
    rw [e0 fun hh => by rw [hs] at hh; exact absurd hh.2.1 (by simp), if_pos h6]
    exact e_1 (Tryd.results37) (rv_tmp rfl) (c_drop (σ := [_]) (r := [_, _]) ⟨congrArg DV.b (Bool.not_not _), rfl⟩)
  · rename_i h6
    rw [e0 fun hh => h6 hh.1, if_neg h6]
    exact e_1 (Tryd.results37) (rv_tmp rfl) (c_drop (σ := [_]) (r := [_, _]) ⟨congrArg DV.b (Bool.not_not _), rfl⟩)
end Go.Proofs
end
section
namespace Go.Proofs
open Go.Av
variable {G : Nat → DV}
attribute [local irreducible] OpSem ARun AOps ALex ACalls AEnd AClose RV
open Go.Bl
theorem sameInts_c (a b : List Int) (ha : a.length ≤ 4611686018427387904) (hb : b.length ≤ 4611686018427387904) : Go.Av.Pure Tryd.prog G 23 [slOf a, slOf b] (.b (decide (a = b))) := fun B => by
  refine calls_of_run Tryd.func23 rfl Tryd.ntmps23 rfl (t := [(0, slOf a), (1, slOf b)]) rfl fun E hE => ?_
  (repeat' first | refine s_mv rfl ?_ | refine s_as rfl ?_ | refine s_neq rfl rfl ?_ | refine s_len_sl rfl ?_ | refine o_nil ?_ | refine o_op rfl ?_ | refine r_seq ?_ | refine r_region ?_)
  refine r_cond_d rfl (fun h => ?_) (fun h => ?_)
  · (repeat' first | refine s_as rfl ?_ | refine o_nil ?_ | refine o_op rfl ?_ | refine r_seq ?_ | refine r_region ?_ | refine r_ret ?_)
    refine e_1 Tryd.results23 (rv_tmp rfl) (c_pure' ?_)
    rw [decide_eq_false (p := a = b) (fun e => h (by rw [e]))]
  have hl : a.length = b.length := by omega
  (repeat' first | refine s_as rfl ?_ | refine o_nil ?_ | refine o_op rfl ?_ | refine r_seq ?_ | refine r_region ?_ | refine r_block ?_ | refine r_skip ?_)
  refine r_loop (fun k : Nat => ⟨[(0, slOf a), (1, slOf b), (5, .i k)], []⟩) (fun k => k ≤ a.length ∧ a.take k = b.take k) (fun k => a.length - k) 0 ?_ ⟨by omega, by simp⟩ ?_
  · exact al rfl
  intro k ⟨hk, hall⟩
  (repeat' first | refine s_mv rfl ?_ | refine s_lss rfl rfl ?_ | refine s_len_sl rfl ?_ | refine o_nil ?_ | refine o_op rfl ?_ | refine r_seq ?_ | refine r_region ?_)
  refine r_cond_d rfl (fun h => ?_) (fun h => ?_)
  · have hk' : k < a.length := by omega
    have hk'' : k < b.length := by omega
    (repeat' first | refine o_nil ?_ | refine r_seq ?_ | refine r_block ?_ | (refine g_draw ?_; first | refine r_draw0 (by rfl) (by kernel_rfl) (by kernel_rfl) ?_ | refine r_drawq (by kernel_rfl) (by kernel_rfl) ?_) | refine r_skip ?_ | refine x_op rfl (by (repeat' first | refine s_mv rfl ?_ | refine s_load_ep rfl ?_ | refine s_idx_sln rfl rfl (by first | assumption | omega | (simp; done) | (simp; omega)) ?_ | refine s_neq rfl rfl ?_ | exact ⟨rfl, rfl⟩)) ?_ | refine x_nil ?_)
    refine r_cond_d rfl (fun h => ?_) (fun h => ?_)
    · (repeat' first | refine s_as rfl ?_ | refine o_nil ?_ | refine o_op rfl ?_ | refine r_seq ?_ | refine r_region ?_ | refine r_ret ?_)
      refine e_1 Tryd.results23 (rv_tmp rfl) (c_pure' ?_)
      rw [decide_eq_false (p := a = b) (fun e => h (by subst e; rfl))]
    · (repeat' first | refine s_mv rfl ?_ | refine s_as rfl ?_ | refine s_add rfl rfl (by omega) ?_ | refine o_nil ?_ | refine o_op rfl ?_ | refine r_region ?_ | refine r_skip ?_)
      refine ⟨k + 1, ⟨hk', ?_⟩, by omega, ?_⟩
      · rw [List.take_succ_eq_append_getElem hk', List.take_succ_eq_append_getElem hk'', hall, Decidable.not_not.1 h]
      · exact al rfl
  · (repeat' first | refine s_as rfl ?_ | refine o_nil ?_ | refine o_op rfl ?_ | refine r_seq ?_ | refine r_region ?_ | refine r_exit rfl ?_ | refine r_ret ?_)
    refine e_1 Tryd.results23 (rv_tmp rfl) (c_pure' ?_)
    rw [List.take_of_length_le (by omega), List.take_of_length_le (by omega)] at hall
    rw [decide_eq_true hall]
theorem equalI_c (a b : List Int) (ha : a.length ≤ 4611686018427387904) (hb : b.length ≤ 4611686018427387904) : Go.Av.Pure Tryd.prog G 79 [slOf a, slOf b] (.b (decide (a = b))) := fun B => by
  refine calls_of_run Tryd.func79 rfl Tryd.ntmps79 rfl (t := [(0, slOf a), (1, slOf b)]) rfl fun E hE => ?_
  (repeat' first | refine s_mv rfl ?_ | refine s_as rfl ?_ | refine s_neq rfl rfl ?_ | refine s_len_sl rfl ?_ | refine o_nil ?_ | refine o_op rfl ?_ | refine r_seq ?_ | refine r_region ?_)
  refine r_cond_d rfl (fun h => ?_) (fun h => ?_)
  · (repeat' first | refine s_as rfl ?_ | refine o_nil ?_ | refine o_op rfl ?_ | refine r_seq ?_ | refine r_region ?_ | refine r_ret ?_)
    refine e_1 Tryd.results79 (rv_tmp rfl) (c_pure' ?_)
    rw [decide_eq_false (p := a = b) (fun e => h (by rw [e]))]
  have hl : a.length = b.length := by omega
  (repeat' first | refine s_mv rfl ?_ | refine s_len_sl rfl ?_ | refine o_nil ?_ | refine o_op rfl ?_ | refine r_seq ?_ | refine r_region ?_ | refine r_block ?_ | refine r_skip ?_)
  refine r_loop (fun k : Nat => ⟨[(0, slOf a), (1, slOf b), (12, .i a.length), (13, .i k)], []⟩) (fun k => k ≤ a.length ∧ a.take k = b.take k) (fun k => a.length - k) 0 ?_ ⟨by omega, by simp⟩ ?_
  · exact al rfl
  intro k ⟨hk, hall⟩
  (repeat' first | refine s_lss rfl rfl ?_ | refine o_nil ?_ | refine o_op rfl ?_ | refine r_seq ?_ | refine r_region ?_)
  refine r_cond_d rfl (fun h => ?_) (fun h => ?_)
  · have hk' : k < a.length := by omega
    have hk'' : k < b.length := by omega
    (repeat' first | refine s_mv rfl ?_ | refine s_as rfl ?_ | refine o_nil ?_ | refine o_op rfl ?_ | refine r_seq ?_ | refine r_region ?_ | refine r_block ?_ | (refine g_draw ?_; first | refine r_draw0 (by rfl) (by kernel_rfl) (by kernel_rfl) ?_ | refine r_drawq (by kernel_rfl) (by kernel_rfl) ?_) | refine r_skip ?_ | refine x_op rfl (by (repeat' first | refine s_mv rfl ?_ | refine s_load_ep rfl ?_ | refine s_idx_sln rfl rfl (by first | assumption | omega | (simp; done) | (simp; omega)) ?_ | refine s_neq rfl rfl ?_ | exact ⟨rfl, rfl⟩)) ?_ | refine x_nil ?_)
    refine r_cond_d rfl (fun h => ?_) (fun h => ?_)
    · (repeat' first | refine s_as rfl ?_ | refine o_nil ?_ | refine o_op rfl ?_ | refine r_seq ?_ | refine r_region ?_ | refine r_ret ?_)
      refine e_1 Tryd.results79 (rv_tmp rfl) (c_pure' ?_)
      rw [decide_eq_false (p := a = b) (fun e => h (by subst e; rfl))]
    · (repeat' first | refine s_mv rfl ?_ | refine s_add rfl rfl (by omega) ?_ | refine o_nil ?_ | refine o_op rfl ?_ | refine r_region ?_ | refine r_skip ?_)
      refine ⟨k + 1, ⟨hk', ?_⟩, by omega, ?_⟩
      · rw [List.take_succ_eq_append_getElem hk', List.take_succ_eq_append_getElem hk'', hall, Decidable.not_not.1 h]
      · exact al rfl
  · (repeat' first | refine s_as rfl ?_ | refine o_nil ?_ | refine o_op rfl ?_ | refine r_seq ?_ | refine r_region ?_ | refine r_exit rfl ?_ | refine r_ret ?_)
    refine e_1 Tryd.results79 (rv_tmp rfl) (c_pure' ?_)
    rw [List.take_of_length_le (by omega), List.take_of_length_le (by omega)] at hall
    rw [decide_eq_true hall]
def opsD : DV := .ep [.fn (.func 136) [] [], .b false, .b false, .fn (.func 137) [] [], .b false, .b false, .fn (.func 138) [] [], .b false, .b false, .fn (.func 139) [] [], .b true, .b false, .fn (.func 140) [] [], .b true, .b false,
  .fn (.func 141) [] [], .b false, .b false, .fn (.func 142) [] [], .b false, .b false, .fn (.func 143) [] [], .b false, .b false, .fn (.func 144) [] [], .b false, .b false, .fn (.func 146) [] [], .b false, .b false,
  .fn (.func 147) [] [], .b false, .b true, .fn (.func 149) [] [], .b false, .b true, .fn (.func 150) [] [], .b false, .b true, .fn (.func 151) [] [], .b false, .b true]
def truthM (op : Int) : Bool := decide (10 ≤ op ∧ op ≤ 13)
theorem wTruth_c (hG : G 0 = opsD) (op : Int) : Go.Av.Pure Tryd.prog G 80 [.i op] (.b (truthM op)) := fun B => by
  by_cases hop : 0 ≤ op ∧ op < 14
  · have : op = 0 ∨ op = 1 ∨ op = 2 ∨ op = 3 ∨ op = 4 ∨ op = 5 ∨ op = 6 ∨ op = 7 ∨ op = 8 ∨ op = 9 ∨ op = 10 ∨ op = 11 ∨ op = 12 ∨ op = 13 := by omega
    rcases this with rfl | rfl | rfl | rfl | rfl | rfl | rfl | rfl | rfl | rfl | rfl | rfl | rfl | rfl
    all_goals
      refine calls_of_run Tryd.func80 rfl Tryd.ntmps80 rfl (t := [(0, .i _)]) rfl fun E hE => ?_
      (repeat' first | refine s_mv rfl ?_ | refine s_as rfl ?_ | refine s_load_ep rfl ?_ | refine s_idx_ep hG rfl (by omega) (by omega) ?_ | refine s_lss rfl rfl ?_ | refine s_geq rfl rfl ?_ | refine s_pt rfl rfl ?_ | refine s_fld_ep rfl rfl ?_ | refine o_nil ?_ | refine o_op rfl ?_ | refine o_gy rfl rfl rfl rfl ?_ | refine r_seq ?_ | refine r_region ?_ | refine r_ret ?_)
      refine e_1 Tryd.results80 (rv_tmp rfl) (c_pure' ?_)
      rfl
  · refine calls_of_run Tryd.func80 rfl Tryd.ntmps80 rfl (t := [(0, .i op)]) rfl fun E hE => ?_
    have e : truthM op = false := decide_eq_false (by omega)
    rw [e]
    (repeat' first | refine s_mv rfl ?_ | refine s_as rfl ?_ | refine s_lss rfl rfl ?_ | refine s_geq rfl rfl ?_ | refine s_pt rfl rfl ?_ | refine s_pf rfl rfl ?_ | refine o_nil ?_ | refine o_op rfl ?_ | refine o_gy rfl rfl rfl rfl ?_ | refine o_gn rfl rfl rfl rfl ?_ | refine o_sp_f rfl rfl (by omega) ?_ | refine o_sp_d rfl rfl (fun _ => ?_) (fun _ => ?_) | refine r_seq ?_ | refine r_region ?_ | refine r_ret ?_)
    all_goals
      refine e_1 Tryd.results80 (rv_tmp rfl) (c_pure' ?_)
      rfl
end Go.Proofs
end
section
namespace Go.Proofs
open Go.Av
variable {G : Nat → DV}
attribute [local irreducible] OpSem ARun AOps ALex ACalls AEnd AClose RV
open Go.Bl
def _root_.Go.Bl.wrapI (n : Int) : Int := if 7 < wbits n then wbits n - 16 else wbits n
def _root_.Go.Bl.shiftM (b : Int) : Int := wbits b % 4
def _root_.Go.Bl.doM (op a b : Int) : Int :=
  if op = 0 then a + b else if op = 1 then a - b else if op = 2 then a * b else if op = 3 then IntKind.i64.wrap (a.tdiv b) else if op = 4 then a.tmod b else
  if op = 5 then Av.bitsOf .and .i64 a b else if op = 6 then Av.bitsOf .or .i64 a b else if op = 7 then Av.bitsOf .xor .i64 a b else
  if op = 8 then IntKind.i64.wrap (a * 2 ^ min (shiftM b).toNat 64) else if op = 9 then a / 2 ^ min (shiftM b).toNat 64 else
  if op = 10 then (if a < b then 1 else 0) else if op = 11 then (if a = b then 1 else 0) else if op = 12 then (if a ≠ 0 ∧ b ≠ 0 then 1 else 0) else if a ≠ 0 ∨ b ≠ 0 then 1 else 0
def _root_.Go.Bl.opM (op a b : Int) : Int × Int := if (op = 3 ∨ op = 4) ∧ wrapI b = 0 then (0, 2) else (wrapI (doM op (wrapI a) (wrapI b)), 0)
theorem _root_.Go.Bl.wrapI_bd (n : Int) : -8 ≤ wrapI n ∧ wrapI n ≤ 7 := by
  have := wbits_bound n
  unfold wrapI
  split <;> omega
theorem mul_bd {a b : Int} (ha : -8 ≤ a ∧ a ≤ 7) (hb : -8 ≤ b ∧ b ≤ 7) : -8 * 8 ≤ a * b ∧ a * b ≤ 8 * 8 := by
  have : a = -8 ∨ a = -7 ∨ a = -6 ∨ a = -5 ∨ a = -4 ∨ a = -3 ∨ a = -2 ∨ a = -1 ∨ a = 0 ∨ a = 1 ∨ a = 2 ∨ a = 3 ∨ a = 4 ∨ a = 5 ∨ a = 6 ∨ a = 7 := by omega
  rcases this with rfl | rfl | rfl | rfl | rfl | rfl | rfl | rfl | rfl | rfl | rfl | rfl | rfl | rfl | rfl | rfl <;> omega
theorem wWrapI_c (n : Int) : Go.Av.Pure Tryd.prog G 57 [.i n] (.i (wrapI n)) := fun B => by
  have hw := wbits_bound n
  have hwr : wrapI n = if 7 < wbits n then wbits n - 16 else wbits n := rfl
  refine calls_of_run Tryd.func57 rfl Tryd.ntmps57 rfl (t := [(0, .i n)]) rfl fun E hE => ?_
  (repeat' first | refine s_mv rfl ?_ | refine s_as rfl ?_ | refine s_gtr rfl rfl ?_ | refine s_and rfl rfl ?_ | refine o_nil ?_ | refine o_op rfl ?_ | refine r_seq ?_ | refine r_region ?_)
  refine r_cond_d rfl (fun h => ?_) (fun h => ?_)
  · rw [if_pos (show 7 < wbits n from h)] at hwr
    have h1 : -100 ≤ Av.bitsOf .and .i64 n 15 ∧ Av.bitsOf .and .i64 n 15 ≤ 100 := ⟨by have := hw.1; show -100 ≤ wbits n; omega, by show wbits n ≤ 100; omega⟩
    (repeat' first | refine s_mv rfl ?_ | refine s_as rfl ?_ | refine s_sub rfl rfl (by omega) ?_ | refine o_nil ?_ | refine o_op rfl ?_ | refine r_seq ?_ | refine r_region ?_ | refine r_ret ?_)
    refine e_1 Tryd.results57 (rv_tmp rfl) (c_pure' ?_)
    rw [hwr]; rfl
  · rw [if_neg (show ¬ 7 < wbits n from h)] at hwr
    (repeat' first | refine s_mv rfl ?_ | refine s_as rfl ?_ | refine o_nil ?_ | refine o_op rfl ?_ | refine r_seq ?_ | refine r_region ?_ | refine r_skip ?_ | refine r_ret ?_)
    refine e_1 Tryd.results57 (rv_tmp rfl) (c_pure' ?_)
    rw [hwr]; rfl
theorem wshift_c (b : Int) : Go.Av.Pure Tryd.prog G 145 [.i b] (.sc (.int .u64 (shiftM b))) := fun B => by
  have hw := wbits_bound b
  refine calls_of_run Tryd.func145 rfl Tryd.ntmps145 rfl (t := [(0, .i b)]) rfl fun E hE => ?_
  (repeat' first | refine s_mv rfl ?_ | refine s_as rfl ?_ | refine s_remw rfl rfl (by omega) ?_ | refine s_cp rfl rfl (wBits_c _) ?_ | refine s_conv rfl ?_ | refine o_nil ?_ | refine o_op rfl ?_ | refine r_seq ?_ | refine r_region ?_ | refine r_ret ?_)
  refine e_1 Tryd.results145 (rv_tmp rfl) (c_pure' ?_)
  have h1 : IntKind.u64.wrap (wbits b % 4) = wbits b % 4 := Int.emod_eq_of_lt (by omega) (by show _ < (18446744073709551616 : Int); omega)
  rw [show (wbits b).tmod 4 = wbits b % 4 from Int.tmod_eq_emod_of_nonneg hw.1, h1]
  rfl
theorem wnumber_c (b : Bool) : Go.Av.Pure Tryd.prog G 148 [.b b] (.i (if b = true then 1 else 0)) := fun B => by
  refine calls_of_run Tryd.func148 rfl Tryd.ntmps148 rfl (t := [(0, .b b)]) rfl fun E hE => ?_
  cases b
  · (repeat' first | refine s_mv rfl ?_ | refine s_as rfl ?_ | refine o_nil ?_ | refine o_op rfl ?_ | refine r_seq ?_ | refine r_region ?_ | refine r_skip ?_ | refine r_cond_f rfl ?_ | refine r_ret ?_)
    refine e_1 Tryd.results148 (rv_tmp rfl) (c_pure' ?_)
    rfl
  · (repeat' first | refine s_mv rfl ?_ | refine s_as rfl ?_ | refine o_nil ?_ | refine o_op rfl ?_ | refine r_seq ?_ | refine r_region ?_ | refine r_cond_t rfl ?_ | refine r_ret ?_)
    refine e_1 Tryd.results148 (rv_tmp rfl) (c_pure' ?_)
    rfl
theorem op1_c (a b : Int) (ha : -8 ≤ a ∧ a ≤ 7) (hb : -8 ≤ b ∧ b ≤ 7) : Go.Av.Pure Tryd.prog G 136 [.i a, .i b] (.i (doM 0 a b)) := fun B => by
  refine calls_of_run Tryd.func136 rfl Tryd.ntmps136 rfl (t := [(0, .i a), (1, .i b)]) rfl fun E hE => ?_
  (repeat' first | refine s_mv rfl ?_ | refine s_as rfl ?_ | refine s_add rfl rfl (by omega) ?_ | refine o_nil ?_ | refine o_op rfl ?_ | refine r_seq ?_ | refine r_region ?_ | refine r_ret ?_)
  refine e_1 Tryd.results136 (rv_tmp rfl) (c_pure' ?_)
  rfl
theorem op2_c (a b : Int) (ha : -8 ≤ a ∧ a ≤ 7) (hb : -8 ≤ b ∧ b ≤ 7) : Go.Av.Pure Tryd.prog G 137 [.i a, .i b] (.i (doM 1 a b)) := fun B => by
  refine calls_of_run Tryd.func137 rfl Tryd.ntmps137 rfl (t := [(0, .i a), (1, .i b)]) rfl fun E hE => ?_
  (repeat' first | refine s_mv rfl ?_ | refine s_as rfl ?_ | refine s_sub rfl rfl (by omega) ?_ | refine o_nil ?_ | refine o_op rfl ?_ | refine r_seq ?_ | refine r_region ?_ | refine r_ret ?_)
  refine e_1 Tryd.results137 (rv_tmp rfl) (c_pure' ?_)
  rfl
theorem op3_c (a b : Int) (ha : -8 ≤ a ∧ a ≤ 7) (hb : -8 ≤ b ∧ b ≤ 7) : Go.Av.Pure Tryd.prog G 138 [.i a, .i b] (.i (doM 2 a b)) := fun B => by
  have hm : -9223372036854775808 ≤ a * b ∧ a * b ≤ 9223372036854775807 := by
    have h1 : -8 ≤ a := ha.1
    have e1 : -8 * 8 ≤ a * b ∧ a * b ≤ 8 * 8 := mul_bd ha hb
    omega
  refine calls_of_run Tryd.func138 rfl Tryd.ntmps138 rfl (t := [(0, .i a), (1, .i b)]) rfl fun E hE => ?_
  (repeat' first | refine s_mv rfl ?_ | refine s_as rfl ?_ | refine s_mul rfl rfl (by assumption) ?_ | refine o_nil ?_ | refine o_op rfl ?_ | refine r_seq ?_ | refine r_region ?_ | refine r_ret ?_)
  refine e_1 Tryd.results138 (rv_tmp rfl) (c_pure' ?_)
  rfl
theorem op4_c (a b : Int) (ha : -8 ≤ a ∧ a ≤ 7) (hb : -8 ≤ b ∧ b ≤ 7) (h0 : b ≠ 0) : Go.Av.Pure Tryd.prog G 139 [.i a, .i b] (.i (doM 3 a b)) := fun B => by
  refine calls_of_run Tryd.func139 rfl Tryd.ntmps139 rfl (t := [(0, .i a), (1, .i b)]) rfl fun E hE => ?_
  (repeat' first | refine s_mv rfl ?_ | refine s_as rfl ?_ | refine s_quow rfl rfl (by omega) ?_ | refine o_nil ?_ | refine o_op rfl ?_ | refine r_seq ?_ | refine r_region ?_ | refine r_ret ?_)
  refine e_1 Tryd.results139 (rv_tmp rfl) (c_pure' ?_)
  rfl
theorem op5_c (a b : Int) (ha : -8 ≤ a ∧ a ≤ 7) (hb : -8 ≤ b ∧ b ≤ 7) (h0 : b ≠ 0) : Go.Av.Pure Tryd.prog G 140 [.i a, .i b] (.i (doM 4 a b)) := fun B => by
  refine calls_of_run Tryd.func140 rfl Tryd.ntmps140 rfl (t := [(0, .i a), (1, .i b)]) rfl fun E hE => ?_
  (repeat' first | refine s_mv rfl ?_ | refine s_as rfl ?_ | refine s_remw rfl rfl (by omega) ?_ | refine o_nil ?_ | refine o_op rfl ?_ | refine r_seq ?_ | refine r_region ?_ | refine r_ret ?_)
  refine e_1 Tryd.results140 (rv_tmp rfl) (c_pure' ?_)
  rfl
theorem op6_c (a b : Int) (ha : -8 ≤ a ∧ a ≤ 7) (hb : -8 ≤ b ∧ b ≤ 7) : Go.Av.Pure Tryd.prog G 141 [.i a, .i b] (.i (doM 5 a b)) := fun B => by
  refine calls_of_run Tryd.func141 rfl Tryd.ntmps141 rfl (t := [(0, .i a), (1, .i b)]) rfl fun E hE => ?_
  (repeat' first | refine s_mv rfl ?_ | refine s_as rfl ?_ | refine s_and rfl rfl ?_ | refine o_nil ?_ | refine o_op rfl ?_ | refine r_seq ?_ | refine r_region ?_ | refine r_ret ?_)
  refine e_1 Tryd.results141 (rv_tmp rfl) (c_pure' ?_)
  rfl
theorem op7_c (a b : Int) (ha : -8 ≤ a ∧ a ≤ 7) (hb : -8 ≤ b ∧ b ≤ 7) : Go.Av.Pure Tryd.prog G 142 [.i a, .i b] (.i (doM 6 a b)) := fun B => by
  refine calls_of_run Tryd.func142 rfl Tryd.ntmps142 rfl (t := [(0, .i a), (1, .i b)]) rfl fun E hE => ?_
  (repeat' first | refine s_mv rfl ?_ | refine s_as rfl ?_ | refine s_or rfl rfl ?_ | refine o_nil ?_ | refine o_op rfl ?_ | refine r_seq ?_ | refine r_region ?_ | refine r_ret ?_)
  refine e_1 Tryd.results142 (rv_tmp rfl) (c_pure' ?_)
  rfl
theorem op8_c (a b : Int) (ha : -8 ≤ a ∧ a ≤ 7) (hb : -8 ≤ b ∧ b ≤ 7) : Go.Av.Pure Tryd.prog G 143 [.i a, .i b] (.i (doM 7 a b)) := fun B => by
  refine calls_of_run Tryd.func143 rfl Tryd.ntmps143 rfl (t := [(0, .i a), (1, .i b)]) rfl fun E hE => ?_
  (repeat' first | refine s_mv rfl ?_ | refine s_as rfl ?_ | refine s_xor rfl rfl ?_ | refine o_nil ?_ | refine o_op rfl ?_ | refine r_seq ?_ | refine r_region ?_ | refine r_ret ?_)
  refine e_1 Tryd.results143 (rv_tmp rfl) (c_pure' ?_)
  rfl
theorem op9_c (a b : Int) (ha : -8 ≤ a ∧ a ≤ 7) (hb : -8 ≤ b ∧ b ≤ 7) : Go.Av.Pure Tryd.prog G 144 [.i a, .i b] (.i (doM 8 a b)) := fun B => by
  have hs := wbits_bound b
  have hs1 : 0 ≤ shiftM b := by unfold shiftM; omega
  refine calls_of_run Tryd.func144 rfl Tryd.ntmps144 rfl (t := [(0, .i a), (1, .i b)]) rfl fun E hE => ?_
  (repeat' first | refine s_mv rfl ?_ | refine s_as rfl ?_ | refine s_shl rfl rfl (by omega) ?_ | refine s_cp rfl rfl (wshift_c _) ?_ | refine o_nil ?_ | refine o_op rfl ?_ | refine r_seq ?_ | refine r_region ?_ | refine r_ret ?_)
  refine e_1 Tryd.results144 (rv_tmp rfl) (c_pure' ?_)
  rfl
theorem op10_c (a b : Int) (ha : -8 ≤ a ∧ a ≤ 7) (hb : -8 ≤ b ∧ b ≤ 7) : Go.Av.Pure Tryd.prog G 146 [.i a, .i b] (.i (doM 9 a b)) := fun B => by
  have hs := wbits_bound b
  have hs1 : 0 ≤ shiftM b := by unfold shiftM; omega
  refine calls_of_run Tryd.func146 rfl Tryd.ntmps146 rfl (t := [(0, .i a), (1, .i b)]) rfl fun E hE => ?_
  (repeat' first | refine s_mv rfl ?_ | refine s_as rfl ?_ | refine s_shr rfl rfl (by omega) ?_ | refine s_cp rfl rfl (wshift_c _) ?_ | refine o_nil ?_ | refine o_op rfl ?_ | refine r_seq ?_ | refine r_region ?_ | refine r_ret ?_)
  refine e_1 Tryd.results146 (rv_tmp rfl) (c_pure' ?_)
  rfl
theorem op11_c (a b : Int) (ha : -8 ≤ a ∧ a ≤ 7) (hb : -8 ≤ b ∧ b ≤ 7) : Go.Av.Pure Tryd.prog G 147 [.i a, .i b] (.i (doM 10 a b)) := fun B => by
  refine calls_of_run Tryd.func147 rfl Tryd.ntmps147 rfl (t := [(0, .i a), (1, .i b)]) rfl fun E hE => ?_
  (repeat' first | refine s_mv rfl ?_ | refine s_as rfl ?_ | refine s_lss rfl rfl ?_ | refine s_cp rfl rfl (wnumber_c _) ?_ | refine o_nil ?_ | refine o_op rfl ?_ | refine r_seq ?_ | refine r_region ?_ | refine r_ret ?_)
  refine e_1 Tryd.results147 (rv_tmp rfl) (c_pure' ?_)
  simp [doM]
theorem op12_c (a b : Int) (ha : -8 ≤ a ∧ a ≤ 7) (hb : -8 ≤ b ∧ b ≤ 7) : Go.Av.Pure Tryd.prog G 149 [.i a, .i b] (.i (doM 11 a b)) := fun B => by
  refine calls_of_run Tryd.func149 rfl Tryd.ntmps149 rfl (t := [(0, .i a), (1, .i b)]) rfl fun E hE => ?_
  (repeat' first | refine s_mv rfl ?_ | refine s_as rfl ?_ | refine s_eql rfl rfl ?_ | refine s_cp rfl rfl (wnumber_c _) ?_ | refine o_nil ?_ | refine o_op rfl ?_ | refine r_seq ?_ | refine r_region ?_ | refine r_ret ?_)
  refine e_1 Tryd.results149 (rv_tmp rfl) (c_pure' ?_)
  simp [doM]
theorem op13_c (a b : Int) (ha : -8 ≤ a ∧ a ≤ 7) (hb : -8 ≤ b ∧ b ≤ 7) : Go.Av.Pure Tryd.prog G 150 [.i a, .i b] (.i (doM 12 a b)) := fun B => by
  refine calls_of_run Tryd.func150 rfl Tryd.ntmps150 rfl (t := [(0, .i a), (1, .i b)]) rfl fun E hE => ?_
  by_cases q1 : a = 0
  all_goals by_cases q2 : b = 0
  all_goals
    (repeat' first | refine s_mv rfl ?_ | refine s_as rfl ?_ | refine s_neq rfl rfl ?_ | refine s_cp rfl rfl (wnumber_c _) ?_ | refine s_pt rfl rfl ?_ | refine s_pf rfl rfl ?_ | refine o_nil ?_ | refine o_op rfl ?_ | refine o_gy rfl rfl rfl rfl ?_ | refine o_gn rfl rfl rfl rfl ?_ | refine o_sp_t rfl rfl (by omega) ?_ | refine o_sp_f rfl rfl (by omega) ?_ | refine r_seq ?_ | refine r_region ?_ | refine r_ret ?_)
    refine e_1 Tryd.results150 (rv_tmp rfl) (c_pure' ?_)
    simp [doM, q1, q2]
theorem op14_c (a b : Int) (ha : -8 ≤ a ∧ a ≤ 7) (hb : -8 ≤ b ∧ b ≤ 7) : Go.Av.Pure Tryd.prog G 151 [.i a, .i b] (.i (doM 13 a b)) := fun B => by
  refine calls_of_run Tryd.func151 rfl Tryd.ntmps151 rfl (t := [(0, .i a), (1, .i b)]) rfl fun E hE => ?_
  by_cases q1 : a = 0
  all_goals by_cases q2 : b = 0
  all_goals
    (repeat' first | refine s_mv rfl ?_ | refine s_as rfl ?_ | refine s_neq rfl rfl ?_ | refine s_cp rfl rfl (wnumber_c _) ?_ | refine s_pt rfl rfl ?_ | refine s_pf rfl rfl ?_ | refine o_nil ?_ | refine o_op rfl ?_ | refine o_gy rfl rfl rfl rfl ?_ | refine o_gn rfl rfl rfl rfl ?_ | refine o_sp_t rfl rfl (by omega) ?_ | refine o_sp_f rfl rfl (by omega) ?_ | refine r_seq ?_ | refine r_region ?_ | refine r_ret ?_)
    refine e_1 Tryd.results151 (rv_tmp rfl) (c_pure' ?_)
    simp [doM, q1, q2]
theorem wOp_0 (hG : G 0 = opsD) (a b : Int) (ha : -8 ≤ wrapI a ∧ wrapI a ≤ 7) (hb : -8 ≤ wrapI b ∧ wrapI b ≤ 7) : Go.Av.Pure Tryd.prog G 60 [.i 0, .i a, .i b] (.tup [.i (opM 0 a b).1, .i (opM 0 a b).2]) := fun B => by
  have h_op := op1_c (G := G) (wrapI a) (wrapI b) ha hb
  refine calls_of_run Tryd.func60 rfl Tryd.ntmps60 rfl (t := [(0, .i _), (1, .i a), (2, .i b)]) rfl fun E hE => ?_
  (repeat' first | refine s_mv rfl ?_ | refine s_as rfl ?_ | refine s_load_epa rfl (by rfl) (by rfl) ?_ | refine s_load_row rfl rfl rfl ?_ | refine s_idx_ep hG rfl (by omega) (by omega) ?_ | refine s_lss rfl rfl ?_ | refine s_geq rfl rfl ?_ | refine s_cp rfl rfl (wWrapI_c _) ?_ | refine s_callv_q rfl (h_op) (by repeat' first | exact clo_sc | exact clo_slOf _ | exact clo_sl (encs_clo _) | exact encs_clo _ | refine clo_fn ?_ ?_ | refine clo_ep ?_ | refine clo_tup ?_ | refine clo_agg ?_ | exact ac_nil | refine ac_cons ?_ ?_ | refine clo_sl ?_) ?_ | refine s_pf rfl rfl ?_ | refine s_fld_ptr rfl rfl ?_ | refine s_store rfl rfl rfl rfl (by rfl) (by rfl) (by rfl) ?_ | refine s_alloc (fun _ _ => ?_) | refine o_nil ?_ | refine o_op rfl ?_ | refine o_op0 ?_ | refine o_gy rfl rfl rfl rfl ?_ | refine o_gn rfl rfl rfl rfl ?_ | refine r_seq ?_ | refine r_region ?_ | refine r_skip ?_ | refine r_cond_f rfl ?_ | refine r_ret ?_)
  rw [show opM 0 a b = (wrapI (doM 0 (wrapI a) (wrapI b)), 0) from if_neg fun h => absurd h.1 (by decide)]
  exact e_2 (Tryd.results60) (rv_tmp rfl) (rv_tmp rfl) (c_pure' rfl)
theorem wOp_1 (hG : G 0 = opsD) (a b : Int) (ha : -8 ≤ wrapI a ∧ wrapI a ≤ 7) (hb : -8 ≤ wrapI b ∧ wrapI b ≤ 7) : Go.Av.Pure Tryd.prog G 60 [.i 1, .i a, .i b] (.tup [.i (opM 1 a b).1, .i (opM 1 a b).2]) := fun B => by
  have h_op := op2_c (G := G) (wrapI a) (wrapI b) ha hb
  refine calls_of_run Tryd.func60 rfl Tryd.ntmps60 rfl (t := [(0, .i _), (1, .i a), (2, .i b)]) rfl fun E hE => ?_
  (repeat' first | refine s_mv rfl ?_ | refine s_as rfl ?_ | refine s_load_epa rfl (by rfl) (by rfl) ?_ | refine s_load_row rfl rfl rfl ?_ | refine s_idx_ep hG rfl (by omega) (by omega) ?_ | refine s_lss rfl rfl ?_ | refine s_geq rfl rfl ?_ | refine s_cp rfl rfl (wWrapI_c _) ?_ | refine s_callv_q rfl (h_op) (by repeat' first | exact clo_sc | exact clo_slOf _ | exact clo_sl (encs_clo _) | exact encs_clo _ | refine clo_fn ?_ ?_ | refine clo_ep ?_ | refine clo_tup ?_ | refine clo_agg ?_ | exact ac_nil | refine ac_cons ?_ ?_ | refine clo_sl ?_) ?_ | refine s_pf rfl rfl ?_ | refine s_fld_ptr rfl rfl ?_ | refine s_store rfl rfl rfl rfl (by rfl) (by rfl) (by rfl) ?_ | refine s_alloc (fun _ _ => ?_) | refine o_nil ?_ | refine o_op rfl ?_ | refine o_op0 ?_ | refine o_gy rfl rfl rfl rfl ?_ | refine o_gn rfl rfl rfl rfl ?_ | refine r_seq ?_ | refine r_region ?_ | refine r_skip ?_ | refine r_cond_f rfl ?_ | refine r_ret ?_)
  rw [show opM 1 a b = (wrapI (doM 1 (wrapI a) (wrapI b)), 0) from if_neg fun h => absurd h.1 (by decide)]
  exact e_2 (Tryd.results60) (rv_tmp rfl) (rv_tmp rfl) (c_pure' rfl)
theorem wOp_2 (hG : G 0 = opsD) (a b : Int) (ha : -8 ≤ wrapI a ∧ wrapI a ≤ 7) (hb : -8 ≤ wrapI b ∧ wrapI b ≤ 7) : Go.Av.Pure Tryd.prog G 60 [.i 2, .i a, .i b] (.tup [.i (opM 2 a b).1, .i (opM 2 a b).2]) := fun B => by
  have h_op := op3_c (G := G) (wrapI a) (wrapI b) ha hb
  refine calls_of_run Tryd.func60 rfl Tryd.ntmps60 rfl (t := [(0, .i _), (1, .i a), (2, .i b)]) rfl fun E hE => ?_
  (repeat' first | refine s_mv rfl ?_ | refine s_as rfl ?_ | refine s_load_epa rfl (by rfl) (by rfl) ?_ | refine s_load_row rfl rfl rfl ?_ | refine s_idx_ep hG rfl (by omega) (by omega) ?_ | refine s_lss rfl rfl ?_ | refine s_geq rfl rfl ?_ | refine s_cp rfl rfl (wWrapI_c _) ?_ | refine s_callv_q rfl (h_op) (by repeat' first | exact clo_sc | exact clo_slOf _ | exact clo_sl (encs_clo _) | exact encs_clo _ | refine clo_fn ?_ ?_ | refine clo_ep ?_ | refine clo_tup ?_ | refine clo_agg ?_ | exact ac_nil | refine ac_cons ?_ ?_ | refine clo_sl ?_) ?_ | refine s_pf rfl rfl ?_ | refine s_fld_ptr rfl rfl ?_ | refine s_store rfl rfl rfl rfl (by rfl) (by rfl) (by rfl) ?_ | refine s_alloc (fun _ _ => ?_) | refine o_nil ?_ | refine o_op rfl ?_ | refine o_op0 ?_ | refine o_gy rfl rfl rfl rfl ?_ | refine o_gn rfl rfl rfl rfl ?_ | refine r_seq ?_ | refine r_region ?_ | refine r_skip ?_ | refine r_cond_f rfl ?_ | refine r_ret ?_)
  rw [show opM 2 a b = (wrapI (doM 2 (wrapI a) (wrapI b)), 0) from if_neg fun h => absurd h.1 (by decide)]
  exact e_2 (Tryd.results60) (rv_tmp rfl) (rv_tmp rfl) (c_pure' rfl)
theorem wOp_3 (hG : G 0 = opsD) (a b : Int) (ha : -8 ≤ wrapI a ∧ wrapI a ≤ 7) (hb : -8 ≤ wrapI b ∧ wrapI b ≤ 7) : Go.Av.Pure Tryd.prog G 60 [.i 3, .i a, .i b] (.tup [.i (opM 3 a b).1, .i (opM 3 a b).2]) := fun B => by
  by_cases h0 : wrapI b = 0
  · refine calls_of_run Tryd.func60 rfl Tryd.ntmps60 rfl (t := [(0, .i _), (1, .i a), (2, .i b)]) rfl fun E hE => ?_
    (repeat' first | refine s_mv rfl ?_ | refine s_as rfl ?_ | refine s_load_epa rfl (by rfl) (by rfl) ?_ | refine s_load_row rfl rfl rfl ?_ | refine s_idx_ep hG rfl (by omega) (by omega) ?_ | refine s_lss rfl rfl ?_ | refine s_geq rfl rfl ?_ | refine s_eql rfl rfl ?_ | refine s_cp rfl rfl (wWrapI_c _) ?_ | refine s_pt rfl rfl ?_ | refine s_pf rfl rfl ?_ | refine s_fld_ptr rfl rfl ?_ | refine s_store rfl rfl rfl rfl (by rfl) (by rfl) (by rfl) ?_ | refine s_alloc (fun _ _ => ?_) | refine o_nil ?_ | refine o_op rfl ?_ | refine o_op0 ?_ | refine o_gy rfl rfl rfl rfl ?_ | refine r_seq ?_ | refine r_region ?_ | refine r_skip ?_ | refine r_cond_f rfl ?_ | refine r_cond_dt rfl (by omega) ?_ | refine r_ret ?_)
    rw [show opM 3 a b = (0, 2) from if_pos ⟨by decide, h0⟩]
    exact e_2 (Tryd.results60) (rv_tmp rfl) (rv_tmp rfl) (c_pure' rfl)
  · have h_op := op4_c (G := G) (wrapI a) (wrapI b) ha hb h0
    refine calls_of_run Tryd.func60 rfl Tryd.ntmps60 rfl (t := [(0, .i _), (1, .i a), (2, .i b)]) rfl fun E hE => ?_
    (repeat' first | refine s_mv rfl ?_ | refine s_as rfl ?_ | refine s_load_epa rfl (by rfl) (by rfl) ?_ | refine s_load_row rfl rfl rfl ?_ | refine s_idx_ep hG rfl (by omega) (by omega) ?_ | refine s_lss rfl rfl ?_ | refine s_geq rfl rfl ?_ | refine s_eql rfl rfl ?_ | refine s_cp rfl rfl (wWrapI_c _) ?_ | refine s_callv_q rfl (h_op) (by repeat' first | exact clo_sc | exact clo_slOf _ | exact clo_sl (encs_clo _) | exact encs_clo _ | refine clo_fn ?_ ?_ | refine clo_ep ?_ | refine clo_tup ?_ | refine clo_agg ?_ | exact ac_nil | refine ac_cons ?_ ?_ | refine clo_sl ?_) ?_ | refine s_pt rfl rfl ?_ | refine s_pf rfl rfl ?_ | refine s_fld_ptr rfl rfl ?_ | refine s_store rfl rfl rfl rfl (by rfl) (by rfl) (by rfl) ?_ | refine s_alloc (fun _ _ => ?_) | refine o_nil ?_ | refine o_op rfl ?_ | refine o_op0 ?_ | refine o_gy rfl rfl rfl rfl ?_ | refine r_seq ?_ | refine r_region ?_ | refine r_skip ?_ | refine r_cond_f rfl ?_ | refine r_cond_df rfl (by omega) ?_ | refine r_ret ?_)
    rw [show opM 3 a b = (wrapI (doM 3 (wrapI a) (wrapI b)), 0) from if_neg fun h => h0 h.2]
    exact e_2 (Tryd.results60) (rv_tmp rfl) (rv_tmp rfl) (c_pure' rfl)
theorem wOp_4 (hG : G 0 = opsD) (a b : Int) (ha : -8 ≤ wrapI a ∧ wrapI a ≤ 7) (hb : -8 ≤ wrapI b ∧ wrapI b ≤ 7) : Go.Av.Pure Tryd.prog G 60 [.i 4, .i a, .i b] (.tup [.i (opM 4 a b).1, .i (opM 4 a b).2]) := fun B => by
  by_cases h0 : wrapI b = 0
  · refine calls_of_run Tryd.func60 rfl Tryd.ntmps60 rfl (t := [(0, .i _), (1, .i a), (2, .i b)]) rfl fun E hE => ?_
    (repeat' first | refine s_mv rfl ?_ | refine s_as rfl ?_ | refine s_load_epa rfl (by rfl) (by rfl) ?_ | refine s_load_row rfl rfl rfl ?_ | refine s_idx_ep hG rfl (by omega) (by omega) ?_ | refine s_lss rfl rfl ?_ | refine s_geq rfl rfl ?_ | refine s_eql rfl rfl ?_ | refine s_cp rfl rfl (wWrapI_c _) ?_ | refine s_pt rfl rfl ?_ | refine s_pf rfl rfl ?_ | refine s_fld_ptr rfl rfl ?_ | refine s_store rfl rfl rfl rfl (by rfl) (by rfl) (by rfl) ?_ | refine s_alloc (fun _ _ => ?_) | refine o_nil ?_ | refine o_op rfl ?_ | refine o_op0 ?_ | refine o_gy rfl rfl rfl rfl ?_ | refine r_seq ?_ | refine r_region ?_ | refine r_skip ?_ | refine r_cond_f rfl ?_ | refine r_cond_dt rfl (by omega) ?_ | refine r_ret ?_)
    rw [show opM 4 a b = (0, 2) from if_pos ⟨by decide, h0⟩]
    exact e_2 (Tryd.results60) (rv_tmp rfl) (rv_tmp rfl) (c_pure' rfl)
  · have h_op := op5_c (G := G) (wrapI a) (wrapI b) ha hb h0
    refine calls_of_run Tryd.func60 rfl Tryd.ntmps60 rfl (t := [(0, .i _), (1, .i a), (2, .i b)]) rfl fun E hE => ?_
    (repeat' first | refine s_mv rfl ?_ | refine s_as rfl ?_ | refine s_load_epa rfl (by rfl) (by rfl) ?_ | refine s_load_row rfl rfl rfl ?_ | refine s_idx_ep hG rfl (by omega) (by omega) ?_ | refine s_lss rfl rfl ?_ | refine s_geq rfl rfl ?_ | refine s_eql rfl rfl ?_ | refine s_cp rfl rfl (wWrapI_c _) ?_ | refine s_callv_q rfl (h_op) (by repeat' first | exact clo_sc | exact clo_slOf _ | exact clo_sl (encs_clo _) | exact encs_clo _ | refine clo_fn ?_ ?_ | refine clo_ep ?_ | refine clo_tup ?_ | refine clo_agg ?_ | exact ac_nil | refine ac_cons ?_ ?_ | refine clo_sl ?_) ?_ | refine s_pt rfl rfl ?_ | refine s_pf rfl rfl ?_ | refine s_fld_ptr rfl rfl ?_ | refine s_store rfl rfl rfl rfl (by rfl) (by rfl) (by rfl) ?_ | refine s_alloc (fun _ _ => ?_) | refine o_nil ?_ | refine o_op rfl ?_ | refine o_op0 ?_ | refine o_gy rfl rfl rfl rfl ?_ | refine r_seq ?_ | refine r_region ?_ | refine r_skip ?_ | refine r_cond_f rfl ?_ | refine r_cond_df rfl (by omega) ?_ | refine r_ret ?_)
    rw [show opM 4 a b = (wrapI (doM 4 (wrapI a) (wrapI b)), 0) from if_neg fun h => h0 h.2]
    exact e_2 (Tryd.results60) (rv_tmp rfl) (rv_tmp rfl) (c_pure' rfl)
theorem wOp_5 (hG : G 0 = opsD) (a b : Int) (ha : -8 ≤ wrapI a ∧ wrapI a ≤ 7) (hb : -8 ≤ wrapI b ∧ wrapI b ≤ 7) : Go.Av.Pure Tryd.prog G 60 [.i 5, .i a, .i b] (.tup [.i (opM 5 a b).1, .i (opM 5 a b).2]) := fun B => by
  have h_op := op6_c (G := G) (wrapI a) (wrapI b) ha hb
  refine calls_of_run Tryd.func60 rfl Tryd.ntmps60 rfl (t := [(0, .i _), (1, .i a), (2, .i b)]) rfl fun E hE => ?_
  (repeat' first | refine s_mv rfl ?_ | refine s_as rfl ?_ | refine s_load_epa rfl (by rfl) (by rfl) ?_ | refine s_load_row rfl rfl rfl ?_ | refine s_idx_ep hG rfl (by omega) (by omega) ?_ | refine s_lss rfl rfl ?_ | refine s_geq rfl rfl ?_ | refine s_cp rfl rfl (wWrapI_c _) ?_ | refine s_callv_q rfl (h_op) (by repeat' first | exact clo_sc | exact clo_slOf _ | exact clo_sl (encs_clo _) | exact encs_clo _ | refine clo_fn ?_ ?_ | refine clo_ep ?_ | refine clo_tup ?_ | refine clo_agg ?_ | exact ac_nil | refine ac_cons ?_ ?_ | refine clo_sl ?_) ?_ | refine s_pf rfl rfl ?_ | refine s_fld_ptr rfl rfl ?_ | refine s_store rfl rfl rfl rfl (by rfl) (by rfl) (by rfl) ?_ | refine s_alloc (fun _ _ => ?_) | refine o_nil ?_ | refine o_op rfl ?_ | refine o_op0 ?_ | refine o_gy rfl rfl rfl rfl ?_ | refine o_gn rfl rfl rfl rfl ?_ | refine r_seq ?_ | refine r_region ?_ | refine r_skip ?_ | refine r_cond_f rfl ?_ | refine r_ret ?_)
  rw [show opM 5 a b = (wrapI (doM 5 (wrapI a) (wrapI b)), 0) from if_neg fun h => absurd h.1 (by decide)]
  exact e_2 (Tryd.results60) (rv_tmp rfl) (rv_tmp rfl) (c_pure' rfl)
theorem wOp_6 (hG : G 0 = opsD) (a b : Int) (ha : -8 ≤ wrapI a ∧ wrapI a ≤ 7) (hb : -8 ≤ wrapI b ∧ wrapI b ≤ 7) : Go.Av.Pure Tryd.prog G 60 [.i 6, .i a, .i b] (.tup [.i (opM 6 a b).1, .i (opM 6 a b).2]) := fun B => by
  have h_op := op7_c (G := G) (wrapI a) (wrapI b) ha hb
  refine calls_of_run Tryd.func60 rfl Tryd.ntmps60 rfl (t := [(0, .i _), (1, .i a), (2, .i b)]) rfl fun E hE => ?_
  (repeat' first | refine s_mv rfl ?_ | refine s_as rfl ?_ | refine s_load_epa rfl (by rfl) (by rfl) ?_ | refine s_load_row rfl rfl rfl ?_ | refine s_idx_ep hG rfl (by omega) (by omega) ?_ | refine s_lss rfl rfl ?_ | refine s_geq rfl rfl ?_ | refine s_cp rfl rfl (wWrapI_c _) ?_ | refine s_callv_q rfl (h_op) (by repeat' first | exact clo_sc | exact clo_slOf _ | exact clo_sl (encs_clo _) | exact encs_clo _ | refine clo_fn ?_ ?_ | refine clo_ep ?_ | refine clo_tup ?_ | refine clo_agg ?_ | exact ac_nil | refine ac_cons ?_ ?_ | refine clo_sl ?_) ?_ | refine s_pf rfl rfl ?_ | refine s_fld_ptr rfl rfl ?_ | refine s_store rfl rfl rfl rfl (by rfl) (by rfl) (by rfl) ?_ | refine s_alloc (fun _ _ => ?_) | refine o_nil ?_ | refine o_op rfl ?_ | refine o_op0 ?_ | refine o_gy rfl rfl rfl rfl ?_ | refine o_gn rfl rfl rfl rfl ?_ | refine r_seq ?_ | refine r_region ?_ | refine r_skip ?_ | refine r_cond_f rfl ?_ | refine r_ret ?_)
  rw [show opM 6 a b = (wrapI (doM 6 (wrapI a) (wrapI b)), 0) from if_neg fun h => absurd h.1 (by decide)]
  exact e_2 (Tryd.results60) (rv_tmp rfl) (rv_tmp rfl) (c_pure' rfl)
theorem wOp_7 (hG : G 0 = opsD) (a b : Int) (ha : -8 ≤ wrapI a ∧ wrapI a ≤ 7) (hb : -8 ≤ wrapI b ∧ wrapI b ≤ 7) : Go.Av.Pure Tryd.prog G 60 [.i 7, .i a, .i b] (.tup [.i (opM 7 a b).1, .i (opM 7 a b).2]) := fun B => by
  have h_op := op8_c (G := G) (wrapI a) (wrapI b) ha hb
  refine calls_of_run Tryd.func60 rfl Tryd.ntmps60 rfl (t := [(0, .i _), (1, .i a), (2, .i b)]) rfl fun E hE => ?_
  (repeat' first | refine s_mv rfl ?_ | refine s_as rfl ?_ | refine s_load_epa rfl (by rfl) (by rfl) ?_ | refine s_load_row rfl rfl rfl ?_ | refine s_idx_ep hG rfl (by omega) (by omega) ?_ | refine s_lss rfl rfl ?_ | refine s_geq rfl rfl ?_ | refine s_cp rfl rfl (wWrapI_c _) ?_ | refine s_callv_q rfl (h_op) (by repeat' first | exact clo_sc | exact clo_slOf _ | exact clo_sl (encs_clo _) | exact encs_clo _ | refine clo_fn ?_ ?_ | refine clo_ep ?_ | refine clo_tup ?_ | refine clo_agg ?_ | exact ac_nil | refine ac_cons ?_ ?_ | refine clo_sl ?_) ?_ | refine s_pf rfl rfl ?_ | refine s_fld_ptr rfl rfl ?_ | refine s_store rfl rfl rfl rfl (by rfl) (by rfl) (by rfl) ?_ | refine s_alloc (fun _ _ => ?_) | refine o_nil ?_ | refine o_op rfl ?_ | refine o_op0 ?_ | refine o_gy rfl rfl rfl rfl ?_ | refine o_gn rfl rfl rfl rfl ?_ | refine r_seq ?_ | refine r_region ?_ | refine r_skip ?_ | refine r_cond_f rfl ?_ | refine r_ret ?_)
  rw [show opM 7 a b = (wrapI (doM 7 (wrapI a) (wrapI b)), 0) from if_neg fun h => absurd h.1 (by decide)]
  exact e_2 (Tryd.results60) (rv_tmp rfl) (rv_tmp rfl) (c_pure' rfl)
theorem wOp_8 (hG : G 0 = opsD) (a b : Int) (ha : -8 ≤ wrapI a ∧ wrapI a ≤ 7) (hb : -8 ≤ wrapI b ∧ wrapI b ≤ 7) : Go.Av.Pure Tryd.prog G 60 [.i 8, .i a, .i b] (.tup [.i (opM 8 a b).1, .i (opM 8 a b).2]) := fun B => by
  have h_op := op9_c (G := G) (wrapI a) (wrapI b) ha hb
  refine calls_of_run Tryd.func60 rfl Tryd.ntmps60 rfl (t := [(0, .i _), (1, .i a), (2, .i b)]) rfl fun E hE => ?_
  (repeat' first | refine s_mv rfl ?_ | refine s_as rfl ?_ | refine s_load_epa rfl (by rfl) (by rfl) ?_ | refine s_load_row rfl rfl rfl ?_ | refine s_idx_ep hG rfl (by omega) (by omega) ?_ | refine s_lss rfl rfl ?_ | refine s_geq rfl rfl ?_ | refine s_cp rfl rfl (wWrapI_c _) ?_ | refine s_callv_q rfl (h_op) (by repeat' first | exact clo_sc | exact clo_slOf _ | exact clo_sl (encs_clo _) | exact encs_clo _ | refine clo_fn ?_ ?_ | refine clo_ep ?_ | refine clo_tup ?_ | refine clo_agg ?_ | exact ac_nil | refine ac_cons ?_ ?_ | refine clo_sl ?_) ?_ | refine s_pf rfl rfl ?_ | refine s_fld_ptr rfl rfl ?_ | refine s_store rfl rfl rfl rfl (by rfl) (by rfl) (by rfl) ?_ | refine s_alloc (fun _ _ => ?_) | refine o_nil ?_ | refine o_op rfl ?_ | refine o_op0 ?_ | refine o_gy rfl rfl rfl rfl ?_ | refine o_gn rfl rfl rfl rfl ?_ | refine r_seq ?_ | refine r_region ?_ | refine r_skip ?_ | refine r_cond_f rfl ?_ | refine r_ret ?_)
  rw [show opM 8 a b = (wrapI (doM 8 (wrapI a) (wrapI b)), 0) from if_neg fun h => absurd h.1 (by decide)]
  exact e_2 (Tryd.results60) (rv_tmp rfl) (rv_tmp rfl) (c_pure' rfl)
theorem wOp_9 (hG : G 0 = opsD) (a b : Int) (ha : -8 ≤ wrapI a ∧ wrapI a ≤ 7) (hb : -8 ≤ wrapI b ∧ wrapI b ≤ 7) : Go.Av.Pure Tryd.prog G 60 [.i 9, .i a, .i b] (.tup [.i (opM 9 a b).1, .i (opM 9 a b).2]) := fun B => by
  have h_op := op10_c (G := G) (wrapI a) (wrapI b) ha hb
  refine calls_of_run Tryd.func60 rfl Tryd.ntmps60 rfl (t := [(0, .i _), (1, .i a), (2, .i b)]) rfl fun E hE => ?_
  (repeat' first | refine s_mv rfl ?_ | refine s_as rfl ?_ | refine s_load_epa rfl (by rfl) (by rfl) ?_ | refine s_load_row rfl rfl rfl ?_ | refine s_idx_ep hG rfl (by omega) (by omega) ?_ | refine s_lss rfl rfl ?_ | refine s_geq rfl rfl ?_ | refine s_cp rfl rfl (wWrapI_c _) ?_ | refine s_callv_q rfl (h_op) (by repeat' first | exact clo_sc | exact clo_slOf _ | exact clo_sl (encs_clo _) | exact encs_clo _ | refine clo_fn ?_ ?_ | refine clo_ep ?_ | refine clo_tup ?_ | refine clo_agg ?_ | exact ac_nil | refine ac_cons ?_ ?_ | refine clo_sl ?_) ?_ | refine s_pf rfl rfl ?_ | refine s_fld_ptr rfl rfl ?_ | refine s_store rfl rfl rfl rfl (by rfl) (by rfl) (by rfl) ?_ | refine s_alloc (fun _ _ => ?_) | refine o_nil ?_ | refine o_op rfl ?_ | refine o_op0 ?_ | refine o_gy rfl rfl rfl rfl ?_ | refine o_gn rfl rfl rfl rfl ?_ | refine r_seq ?_ | refine r_region ?_ | refine r_skip ?_ | refine r_cond_f rfl ?_ | refine r_ret ?_)
  rw [show opM 9 a b = (wrapI (doM 9 (wrapI a) (wrapI b)), 0) from if_neg fun h => absurd h.1 (by decide)]
  exact e_2 (Tryd.results60) (rv_tmp rfl) (rv_tmp rfl) (c_pure' rfl)
theorem wOp_10 (hG : G 0 = opsD) (a b : Int) (ha : -8 ≤ wrapI a ∧ wrapI a ≤ 7) (hb : -8 ≤ wrapI b ∧ wrapI b ≤ 7) : Go.Av.Pure Tryd.prog G 60 [.i 10, .i a, .i b] (.tup [.i (opM 10 a b).1, .i (opM 10 a b).2]) := fun B => by
  have h_op := op11_c (G := G) (wrapI a) (wrapI b) ha hb
  refine calls_of_run Tryd.func60 rfl Tryd.ntmps60 rfl (t := [(0, .i _), (1, .i a), (2, .i b)]) rfl fun E hE => ?_
  (repeat' first | refine s_mv rfl ?_ | refine s_as rfl ?_ | refine s_load_epa rfl (by rfl) (by rfl) ?_ | refine s_load_row rfl rfl rfl ?_ | refine s_idx_ep hG rfl (by omega) (by omega) ?_ | refine s_lss rfl rfl ?_ | refine s_geq rfl rfl ?_ | refine s_cp rfl rfl (wWrapI_c _) ?_ | refine s_callv_q rfl (h_op) (by repeat' first | exact clo_sc | exact clo_slOf _ | exact clo_sl (encs_clo _) | exact encs_clo _ | refine clo_fn ?_ ?_ | refine clo_ep ?_ | refine clo_tup ?_ | refine clo_agg ?_ | exact ac_nil | refine ac_cons ?_ ?_ | refine clo_sl ?_) ?_ | refine s_pf rfl rfl ?_ | refine s_fld_ptr rfl rfl ?_ | refine s_store rfl rfl rfl rfl (by rfl) (by rfl) (by rfl) ?_ | refine s_alloc (fun _ _ => ?_) | refine o_nil ?_ | refine o_op rfl ?_ | refine o_op0 ?_ | refine o_gy rfl rfl rfl rfl ?_ | refine o_gn rfl rfl rfl rfl ?_ | refine r_seq ?_ | refine r_region ?_ | refine r_skip ?_ | refine r_cond_f rfl ?_ | refine r_ret ?_)
  rw [show opM 10 a b = (wrapI (doM 10 (wrapI a) (wrapI b)), 0) from if_neg fun h => absurd h.1 (by decide)]
  exact e_2 (Tryd.results60) (rv_tmp rfl) (rv_tmp rfl) (c_pure' rfl)
theorem wOp_11 (hG : G 0 = opsD) (a b : Int) (ha : -8 ≤ wrapI a ∧ wrapI a ≤ 7) (hb : -8 ≤ wrapI b ∧ wrapI b ≤ 7) : Go.Av.Pure Tryd.prog G 60 [.i 11, .i a, .i b] (.tup [.i (opM 11 a b).1, .i (opM 11 a b).2]) := fun B => by
  have h_op := op12_c (G := G) (wrapI a) (wrapI b) ha hb
  refine calls_of_run Tryd.func60 rfl Tryd.ntmps60 rfl (t := [(0, .i _), (1, .i a), (2, .i b)]) rfl fun E hE => ?_
  (repeat' first | refine s_mv rfl ?_ | refine s_as rfl ?_ | refine s_load_epa rfl (by rfl) (by rfl) ?_ | refine s_load_row rfl rfl rfl ?_ | refine s_idx_ep hG rfl (by omega) (by omega) ?_ | refine s_lss rfl rfl ?_ | refine s_geq rfl rfl ?_ | refine s_cp rfl rfl (wWrapI_c _) ?_ | refine s_callv_q rfl (h_op) (by repeat' first | exact clo_sc | exact clo_slOf _ | exact clo_sl (encs_clo _) | exact encs_clo _ | refine clo_fn ?_ ?_ | refine clo_ep ?_ | refine clo_tup ?_ | refine clo_agg ?_ | exact ac_nil | refine ac_cons ?_ ?_ | refine clo_sl ?_) ?_ | refine s_pf rfl rfl ?_ | refine s_fld_ptr rfl rfl ?_ | refine s_store rfl rfl rfl rfl (by rfl) (by rfl) (by rfl) ?_ | refine s_alloc (fun _ _ => ?_) | refine o_nil ?_ | refine o_op rfl ?_ | refine o_op0 ?_ | refine o_gy rfl rfl rfl rfl ?_ | refine o_gn rfl rfl rfl rfl ?_ | refine r_seq ?_ | refine r_region ?_ | refine r_skip ?_ | refine r_cond_f rfl ?_ | refine r_ret ?_)
  rw [show opM 11 a b = (wrapI (doM 11 (wrapI a) (wrapI b)), 0) from if_neg fun h => absurd h.1 (by decide)]
  exact e_2 (Tryd.results60) (rv_tmp rfl) (rv_tmp rfl) (c_pure' rfl)
theorem wOp_12 (hG : G 0 = opsD) (a b : Int) (ha : -8 ≤ wrapI a ∧ wrapI a ≤ 7) (hb : -8 ≤ wrapI b ∧ wrapI b ≤ 7) : Go.Av.Pure Tryd.prog G 60 [.i 12, .i a, .i b] (.tup [.i (opM 12 a b).1, .i (opM 12 a b).2]) := fun B => by
  have h_op := op13_c (G := G) (wrapI a) (wrapI b) ha hb
  refine calls_of_run Tryd.func60 rfl Tryd.ntmps60 rfl (t := [(0, .i _), (1, .i a), (2, .i b)]) rfl fun E hE => ?_
  (repeat' first | refine s_mv rfl ?_ | refine s_as rfl ?_ | refine s_load_epa rfl (by rfl) (by rfl) ?_ | refine s_load_row rfl rfl rfl ?_ | refine s_idx_ep hG rfl (by omega) (by omega) ?_ | refine s_lss rfl rfl ?_ | refine s_geq rfl rfl ?_ | refine s_cp rfl rfl (wWrapI_c _) ?_ | refine s_callv_q rfl (h_op) (by repeat' first | exact clo_sc | exact clo_slOf _ | exact clo_sl (encs_clo _) | exact encs_clo _ | refine clo_fn ?_ ?_ | refine clo_ep ?_ | refine clo_tup ?_ | refine clo_agg ?_ | exact ac_nil | refine ac_cons ?_ ?_ | refine clo_sl ?_) ?_ | refine s_pf rfl rfl ?_ | refine s_fld_ptr rfl rfl ?_ | refine s_store rfl rfl rfl rfl (by rfl) (by rfl) (by rfl) ?_ | refine s_alloc (fun _ _ => ?_) | refine o_nil ?_ | refine o_op rfl ?_ | refine o_op0 ?_ | refine o_gy rfl rfl rfl rfl ?_ | refine o_gn rfl rfl rfl rfl ?_ | refine r_seq ?_ | refine r_region ?_ | refine r_skip ?_ | refine r_cond_f rfl ?_ | refine r_ret ?_)
  rw [show opM 12 a b = (wrapI (doM 12 (wrapI a) (wrapI b)), 0) from if_neg fun h => absurd h.1 (by decide)]
  exact e_2 (Tryd.results60) (rv_tmp rfl) (rv_tmp rfl) (c_pure' rfl)
theorem wOp_13 (hG : G 0 = opsD) (a b : Int) (ha : -8 ≤ wrapI a ∧ wrapI a ≤ 7) (hb : -8 ≤ wrapI b ∧ wrapI b ≤ 7) : Go.Av.Pure Tryd.prog G 60 [.i 13, .i a, .i b] (.tup [.i (opM 13 a b).1, .i (opM 13 a b).2]) := fun B => by
  have h_op := op14_c (G := G) (wrapI a) (wrapI b) ha hb
  refine calls_of_run Tryd.func60 rfl Tryd.ntmps60 rfl (t := [(0, .i _), (1, .i a), (2, .i b)]) rfl fun E hE => ?_
  (repeat' first | refine s_mv rfl ?_ | refine s_as rfl ?_ | refine s_load_epa rfl (by rfl) (by rfl) ?_ | refine s_load_row rfl rfl rfl ?_ | refine s_idx_ep hG rfl (by omega) (by omega) ?_ | refine s_lss rfl rfl ?_ | refine s_geq rfl rfl ?_ | refine s_cp rfl rfl (wWrapI_c _) ?_ | refine s_callv_q rfl (h_op) (by repeat' first | exact clo_sc | exact clo_slOf _ | exact clo_sl (encs_clo _) | exact encs_clo _ | refine clo_fn ?_ ?_ | refine clo_ep ?_ | refine clo_tup ?_ | refine clo_agg ?_ | exact ac_nil | refine ac_cons ?_ ?_ | refine clo_sl ?_) ?_ | refine s_pf rfl rfl ?_ | refine s_fld_ptr rfl rfl ?_ | refine s_store rfl rfl rfl rfl (by rfl) (by rfl) (by rfl) ?_ | refine s_alloc (fun _ _ => ?_) | refine o_nil ?_ | refine o_op rfl ?_ | refine o_op0 ?_ | refine o_gy rfl rfl rfl rfl ?_ | refine o_gn rfl rfl rfl rfl ?_ | refine r_seq ?_ | refine r_region ?_ | refine r_skip ?_ | refine r_cond_f rfl ?_ | refine r_ret ?_)
  rw [show opM 13 a b = (wrapI (doM 13 (wrapI a) (wrapI b)), 0) from if_neg fun h => absurd h.1 (by decide)]
  exact e_2 (Tryd.results60) (rv_tmp rfl) (rv_tmp rfl) (c_pure' rfl)
theorem wOp_c (hG : G 0 = opsD) (op a b : Int) (hop : 0 ≤ op ∧ op < 14) : Go.Av.Pure Tryd.prog G 60 [.i op, .i a, .i b] (.tup [.i (opM op a b).1, .i (opM op a b).2]) := by
  have ha := wrapI_bd a
  have hb := wrapI_bd b
  have : op = 0 ∨ op = 1 ∨ op = 2 ∨ op = 3 ∨ op = 4 ∨ op = 5 ∨ op = 6 ∨ op = 7 ∨ op = 8 ∨ op = 9 ∨ op = 10 ∨ op = 11 ∨ op = 12 ∨ op = 13 := by omega
  rcases this with rfl | rfl | rfl | rfl | rfl | rfl | rfl | rfl | rfl | rfl | rfl | rfl | rfl | rfl
  · exact wOp_0 hG a b ha hb
  · exact wOp_1 hG a b ha hb
  · exact wOp_2 hG a b ha hb
  · exact wOp_3 hG a b ha hb
  · exact wOp_4 hG a b ha hb
  · exact wOp_5 hG a b ha hb
  · exact wOp_6 hG a b ha hb
  · exact wOp_7 hG a b ha hb
  · exact wOp_8 hG a b ha hb
  · exact wOp_9 hG a b ha hb
  · exact wOp_10 hG a b ha hb
  · exact wOp_11 hG a b ha hb
  · exact wOp_12 hG a b ha hb
  · exact wOp_13 hG a b ha hb
end Go.Proofs
end
