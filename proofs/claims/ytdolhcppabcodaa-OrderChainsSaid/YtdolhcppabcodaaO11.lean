/-
  What functions of the program hand back: contracts over abstract values.
-/
import Derived.Test.YtdolhcppabcodaaAvK
import Derived.Test.YtdolhcppabcodaaInst
import Derived.Test.YtdolhcppabcodaaO10
namespace Go.Proofs
open Go.Av
set_option linter.unusedSimpArgs false
set_option linter.unusedVariables false
set_option maxRecDepth 10000
set_option maxHeartbeats 4000000
variable {G : Nat → DV}
attribute [local irreducible] OpSem ARun AOps ALex ACalls AEnd AClose RV

theorem indexI_c (l : List Int) (v : Int) (hl : l.length ≤ 4611686018427387904) : Go.Av.Pure Try.prog G 52 [slOf l, .i v] (.i (Ord.findI (fun x => decide (v = x)) l)) := fun B => by
  refine calls_of_run Try.func52 rfl Try.ntmps52 rfl (t := [(0, slOf l), (1, .i v)]) rfl fun E hE => ?_
  (repeat' first | refine s_mv rfl ?_ | refine s_as rfl ?_ | refine s_len_sl rfl ?_ | refine o_nil ?_ | refine o_op rfl ?_ | refine r_seq ?_ | refine r_region ?_ | refine r_block ?_)
  refine r_loop (fun k : Nat => ⟨[(0, slOf l), (1, .i v), (7, .i l.length), (8, .i k)], []⟩) (fun k => k ≤ l.length ∧ ∀ j (h : j < l.length), j < k → decide (v = l[j]) = false) (fun k => l.length - k) 0 ?_ ⟨by omega, fun j h hj => by omega⟩ ?_
  · exact ale_drop (by repeat' first | exact mem_nil | refine mem_cons rfl ?_) rfl
  intro k ⟨hk, hno⟩
  (repeat' first | refine s_lss rfl rfl ?_ | refine o_nil ?_ | refine o_op rfl ?_ | refine r_seq ?_ | refine r_region ?_)
  refine r_cond_d rfl (fun h => ?_) (fun h => ?_)
  · have hk' : k < l.length := by omega
    (repeat' first | refine s_mv rfl ?_ | refine s_as rfl ?_ | refine s_load_ep rfl ?_ | refine s_idx_sln rfl rfl (by first | assumption | omega | (simp; done) | (simp; omega)) ?_ | refine s_eql rfl rfl ?_ | refine o_nil ?_ | refine o_op rfl ?_ | refine r_seq ?_ | refine r_region ?_ | refine r_block ?_ | refine r_skip ?_)
    refine r_cond_d rfl (fun hb => ?_) (fun hb => ?_)
    · (repeat' first | refine s_mv rfl ?_ | refine s_as rfl ?_ | refine o_nil ?_ | refine o_op rfl ?_ | refine r_seq ?_ | refine r_region ?_ | refine r_ret ?_)
      refine e_1 Try.results52 (rv_tmp rfl) (c_pure' ?_)
      rw [Ord.findI_some hk' (decide_eq_true hb) hno]
    · (repeat' first | refine s_mv rfl ?_ | refine s_add rfl rfl (by omega) ?_ | refine o_nil ?_ | refine o_op rfl ?_ | refine r_region ?_ | refine r_skip ?_)
      refine ⟨k + 1, ⟨hk', fun j hj hjk => ?_⟩, by omega, ?_⟩
      · rcases Nat.lt_or_ge j k with h' | h'
        · exact hno j hj h'
        · have : j = k := by omega
          subst this; exact decide_eq_false hb
      · exact ale_drop (by repeat' first | exact mem_nil | refine mem_cons rfl ?_) rfl
  · have hk' : k = l.length := by omega
    (repeat' first | refine s_as rfl ?_ | refine o_nil ?_ | refine o_op rfl ?_ | refine r_seq ?_ | refine r_region ?_ | refine r_exit rfl ?_ | refine r_ret ?_)
    refine e_1 Try.results52 (rv_tmp rfl) (c_pure' ?_)
    rw [Ord.findI_none fun j hj => hno j hj (by omega)]

theorem containsI_c (l : List Int) (v : Int) (hl : l.length ≤ 4611686018427387904) : Go.Av.Pure Try.prog G 35 [slOf l, .i v] (.b (l.contains v)) := fun B => by
  have hk1 := indexI_c (G := G) l v hl
  refine calls_of_run Try.func35 rfl Try.ntmps35 rfl (t := [(0, slOf l), (1, .i v)]) rfl fun E hE => ?_
  (repeat' first | refine s_mv rfl ?_ | refine s_as rfl ?_ | refine s_geq rfl rfl ?_ | refine s_call_p rfl rfl (hk1) (by repeat' first | exact clo_sc | exact clo_slOf _ | exact clo_sl (encs_clo _) | exact encs_clo _ | refine clo_fn ?_ ?_ | refine clo_ep ?_ | refine clo_tup ?_ | refine clo_agg ?_ | exact ac_nil | refine ac_cons ?_ ?_) ?_ | refine o_nil ?_ | refine o_op rfl ?_ | refine r_seq ?_ | refine r_region ?_ | refine r_ret ?_)
  refine e_1 Try.results35 (rv_tmp rfl) (c_pure' ?_)
  rw [Ord.findI_any]
  exact congrArg DV.b (by rw [Bool.eq_iff_iff, List.any_eq_true, List.contains_iff_mem]; exact ⟨fun ⟨x, h1, h2⟩ => by rw [of_decide_eq_true h2]; exact h1, fun h => ⟨v, h, decide_eq_true rfl⟩⟩)

theorem killed1_c (w : Ord.W4) : Go.Av.Pure Try.prog G 58 [.agg (Enc.enc w)] (.b (decide (w.m ≠ 0))) := fun B => by
  refine calls_of_run Try.func58 rfl Try.ntmps58 rfl (t := [(0, .agg (Enc.enc w))]) rfl fun E hE => ?_
  (repeat' first | refine s_as rfl ?_ | refine s_load_rowa rfl rfl (by rfl) (by rfl) ?_ | refine s_neq_agg rfl rfl (by rfl) ?_ | refine s_build_a rfl rfl ?_ | refine s_box rfl rfl (fun _ _ => ?_) | refine o_nil ?_ | refine o_op rfl ?_ | refine r_seq ?_ | refine r_region ?_ | refine r_ret ?_)
  refine e_1 Try.results58 (rv_tmp rfl) (c_pure' ?_)
  by_cases h : w.m = 0 <;> simp [h]

end Go.Proofs
