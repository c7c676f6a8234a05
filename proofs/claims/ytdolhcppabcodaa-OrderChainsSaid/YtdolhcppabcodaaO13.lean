/-
  What functions of the program hand back: contracts over abstract values.
-/
import Derived.Test.YtdolhcppabcodaaAvK
import Derived.Test.YtdolhcppabcodaaInst
import Derived.Test.YtdolhcppabcodaaO12
namespace Go.Proofs
open Go.Av
set_option linter.unusedSimpArgs false
set_option linter.unusedVariables false
set_option maxRecDepth 10000
set_option maxHeartbeats 4000000
variable {G : Nat → DV}
attribute [local irreducible] OpSem ARun AOps ALex ACalls AEnd AClose RV

theorem equalS_c (l1 l2 : List Ord.W4) (h1 : l1.length ≤ 1048576) (h2 : l2.length ≤ 1048576) : Go.Av.Pure Try.prog G 50 [slOf l1, slOf l2] (.b (decide (l1 = l2))) := fun B => by
  refine calls_of_run Try.func50 rfl Try.ntmps50 rfl (t := [(0, slOf l1), (1, slOf l2)]) rfl fun E hE => ?_
  (repeat' first | refine s_mv rfl ?_ | refine s_as rfl ?_ | refine s_neq rfl rfl ?_ | refine s_len_sl rfl ?_ | refine o_nil ?_ | refine o_op rfl ?_ | refine r_seq ?_ | refine r_region ?_)
  refine r_cond_d rfl (fun h => ?_) (fun h => ?_)
  · (repeat' first | refine s_as rfl ?_ | refine o_nil ?_ | refine o_op rfl ?_ | refine r_seq ?_ | refine r_region ?_ | refine r_ret ?_)
    refine e_1 Try.results50 (rv_tmp rfl) (c_pure' ?_)
    rw [decide_eq_false (p := l1 = l2) (fun e => h (by rw [e]))]
  have hl : l1.length = l2.length := by omega
  (repeat' first | refine s_mv rfl ?_ | refine s_len_sl rfl ?_ | refine o_nil ?_ | refine o_op rfl ?_ | refine r_seq ?_ | refine r_region ?_ | refine r_block ?_ | refine r_skip ?_)
  refine r_loop (fun k : Nat => ⟨[(0, slOf l1), (1, slOf l2), (12, .i l1.length), (13, .i k)], []⟩) (fun k => k ≤ l1.length ∧ l1.take k = l2.take k) (fun k => l1.length - k) 0 ?_ ⟨by omega, by simp⟩ ?_
  · exact ale_drop (by repeat' first | exact mem_nil | refine mem_cons rfl ?_) rfl
  intro k ⟨hk, hall⟩
  (repeat' first | refine s_lss rfl rfl ?_ | refine o_nil ?_ | refine o_op rfl ?_ | refine r_seq ?_ | refine r_region ?_)
  refine r_cond_d rfl (fun h => ?_) (fun h => ?_)
  · have hk' : k < l1.length := by omega
    have hk'' : k < l2.length := by omega
    (repeat' first | refine s_mv rfl ?_ | refine s_as rfl ?_ | refine o_nil ?_ | refine o_op rfl ?_ | refine r_seq ?_ | refine r_region ?_ | refine r_block ?_ | (refine g_draw ?_; first | refine r_draw0 (by rfl) (by kernel_rfl) (by kernel_rfl) ?_ | refine r_drawq (by kernel_rfl) (by kernel_rfl) ?_) | refine r_skip ?_ | refine x_op rfl (by (repeat' first | refine s_mv rfl ?_ | refine s_load_epe rfl ?_ | refine s_idx_sln rfl rfl (by first | assumption | omega | (simp; done) | (simp; omega)) ?_ | refine s_neq_agg rfl rfl (by rfl) ?_ | exact ⟨rfl, rfl⟩)) ?_ | refine x_nil ?_)
    refine r_cond rfl (fun hb => ?_) (fun hb => ?_)
    · (repeat' first | refine s_as rfl ?_ | refine o_nil ?_ | refine o_op rfl ?_ | refine r_seq ?_ | refine r_region ?_ | refine r_ret ?_)
      refine e_1 Try.results50 (rv_tmp rfl) (c_pure' ?_)
      rw [decide_eq_false (p := l1 = l2) (fun e => by subst e; simp at hb)]
    · have hm : l1[k] = l2[k] := by
        simp at hb
        cases hx : l1[k]; cases hy : l2[k]
        rw [hx, hy] at hb
        simp only [Ord.W4.mk.injEq]; exact Int.ofNat_inj.1 hb
      (repeat' first | refine s_mv rfl ?_ | refine s_add rfl rfl (by omega) ?_ | refine o_nil ?_ | refine o_op rfl ?_ | refine r_region ?_ | refine r_skip ?_)
      refine ⟨k + 1, ⟨hk', ?_⟩, by omega, ?_⟩
      · rw [List.take_succ_eq_append_getElem hk', List.take_succ_eq_append_getElem hk'', hall, hm]
      · exact ale_drop (by repeat' first | exact mem_nil | refine mem_cons rfl ?_) rfl
  · (repeat' first | refine s_as rfl ?_ | refine o_nil ?_ | refine o_op rfl ?_ | refine r_seq ?_ | refine r_region ?_ | refine r_exit rfl ?_ | refine r_ret ?_)
    refine e_1 Try.results50 (rv_tmp rfl) (c_pure' ?_)
    rw [List.take_of_length_le (by omega), List.take_of_length_le (by omega)] at hall
    rw [decide_eq_true hall]

theorem classes1_c (ms : List Nat) (l : List Ord.W4) (i : Nat) (hi : i < (Ord.setsOf ms).length) (hl : l.length ≤ 1048576) : Go.Av.Pure Try.prog G 49 [slOf l, .ep [setsD ms], .ep [.i i]] (.b (decide (l = (Ord.setsOf ms)[i]))) := fun B => by
  have hl1 : ((Ord.setsOf ms)[i]).length = 1 := by rw [Ord.setsOf_at hi]; rfl
  have hk1 := equalS_c (G := G) l ((Ord.setsOf ms)[i]) hl (by omega)
  refine calls_of_run Try.func49 rfl Try.ntmps49 rfl (t := [(0, slOf l), (1, .ep [setsD ms]), (2, .ep [.i i])]) rfl fun E hE => ?_
  (repeat' first | refine s_mv rfl ?_ | refine s_as rfl ?_ | refine s_load_ep rfl ?_ | refine s_idx_sln rfl rfl (by first | assumption | omega | (simp; done) | (simp; omega)) ?_ | refine s_call_p rfl rfl (hk1) (by repeat' first | exact clo_sc | exact clo_slOf _ | exact clo_sl (encs_clo _) | exact encs_clo _ | refine clo_fn ?_ ?_ | refine clo_ep ?_ | refine clo_tup ?_ | refine clo_agg ?_ | exact ac_nil | refine ac_cons ?_ ?_) ?_ | refine o_nil ?_ | refine o_op rfl ?_ | refine r_seq ?_ | refine r_region ?_ | refine r_ret ?_)
  refine e_1 Try.results49 (rv_tmp rfl) (c_pure' ?_)
  rfl

end Go.Proofs
