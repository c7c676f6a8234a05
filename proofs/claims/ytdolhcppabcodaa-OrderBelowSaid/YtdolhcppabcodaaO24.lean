/-
  What functions of the program hand back: contracts over abstract values.
-/
import Derived.Test.YtdolhcppabcodaaAvJ
import Derived.Test.YtdolhcppabcodaaInst
import Derived.Test.YtdolhcppabcodaaO23
namespace Go.Proofs
open Go.Av
set_option linter.unusedSimpArgs false
set_option linter.unusedVariables false
set_option maxRecDepth 10000
set_option maxHeartbeats 4000000
variable {G : Nat → DV}
attribute [local irreducible] OpSem ARun AOps ALex ACalls AEnd AClose RV

theorem sameEdges_c (a b : List (Int × Int)) (ha : a.length ≤ 4611686018427387904) (hb : b.length ≤ 4611686018427387904) : Go.Av.Pure Try.prog G 22 [slOf a, slOf b] (.b (decide (a = b))) := fun B => by
  refine calls_of_run Try.func22 rfl Try.ntmps22 rfl (t := [(0, slOf a), (1, slOf b)]) rfl fun E hE => ?_
  (repeat' first | refine s_mv rfl ?_ | refine s_as rfl ?_ | refine s_neq rfl rfl ?_ | refine s_len_sl rfl ?_ | refine o_nil ?_ | refine o_op rfl ?_ | refine r_seq ?_ | refine r_region ?_)
  refine r_cond_d rfl (fun h => ?_) (fun h => ?_)
  · (repeat' first | refine s_as rfl ?_ | refine o_nil ?_ | refine o_op rfl ?_ | refine r_seq ?_ | refine r_region ?_ | refine r_ret ?_)
    refine e_1 Try.results22 (rv_tmp rfl) (c_pure' ?_)
    rw [decide_eq_false (p := a = b) (fun e => h (by rw [e]))]
  have hl : a.length = b.length := by omega
  (repeat' first | refine s_as rfl ?_ | refine o_nil ?_ | refine o_op rfl ?_ | refine r_seq ?_ | refine r_region ?_ | refine r_block ?_ | refine r_skip ?_)
  refine r_loop (fun k : Nat => ⟨[(0, slOf a), (1, slOf b), (5, .i k)], []⟩) (fun k => k ≤ a.length ∧ a.take k = b.take k) (fun k => a.length - k) 0 ?_ ⟨by omega, by simp⟩ ?_
  · exact ale_drop (by repeat' first | exact mem_nil | refine mem_cons rfl ?_) rfl
  intro k ⟨hk, hall⟩
  (repeat' first | refine s_mv rfl ?_ | refine s_lss rfl rfl ?_ | refine s_len_sl rfl ?_ | refine o_nil ?_ | refine o_op rfl ?_ | refine r_seq ?_ | refine r_region ?_)
  refine r_cond_d rfl (fun h => ?_) (fun h => ?_)
  · have hk' : k < a.length := by omega
    have hk'' : k < b.length := by omega
    (repeat' first | refine o_nil ?_ | refine r_seq ?_ | refine r_block ?_ | (refine g_draw ?_; first | refine r_draw0 (by rfl) (by kernel_rfl) (by kernel_rfl) ?_ | refine r_drawq (by kernel_rfl) (by kernel_rfl) ?_) | refine r_skip ?_ | refine x_op rfl (by (repeat' first | refine s_mv rfl ?_ | refine s_load_epe rfl ?_ | refine s_idx_sln rfl rfl (by first | assumption | omega | (simp; done) | (simp; omega)) ?_ | refine s_neq_agg rfl rfl (by rfl) ?_ | exact ⟨rfl, rfl⟩)) ?_ | refine x_nil ?_)
    refine r_cond rfl (fun h => ?_) (fun h => ?_)
    · (repeat' first | refine s_as rfl ?_ | refine o_nil ?_ | refine o_op rfl ?_ | refine r_seq ?_ | refine r_region ?_ | refine r_ret ?_)
      refine e_1 Try.results22 (rv_tmp rfl) (c_pure' ?_)
      rw [decide_eq_false (p := a = b) (fun e => by subst e; simp at h)]
    · have he : a[k] = b[k] := by
        simp at h
        exact Prod.ext h.1 h.2
      (repeat' first | refine s_mv rfl ?_ | refine s_as rfl ?_ | refine s_add rfl rfl (by omega) ?_ | refine o_nil ?_ | refine o_op rfl ?_ | refine r_region ?_ | refine r_skip ?_)
      refine ⟨k + 1, ⟨hk', ?_⟩, by omega, ?_⟩
      · rw [List.take_succ_eq_append_getElem hk', List.take_succ_eq_append_getElem hk'', hall, he]
      · exact ale_drop (by repeat' first | exact mem_nil | refine mem_cons rfl ?_) rfl
  · (repeat' first | refine s_as rfl ?_ | refine o_nil ?_ | refine o_op rfl ?_ | refine r_seq ?_ | refine r_region ?_ | refine r_exit rfl ?_ | refine r_ret ?_)
    refine e_1 Try.results22 (rv_tmp rfl) (c_pure' ?_)
    rw [List.take_of_length_le (by omega), List.take_of_length_le (by omega)] at hall
    rw [decide_eq_true hall]


end Go.Proofs
