/-
  The reference's functions of chapter 36: what each hands back.
-/
import Derived.Test.YtdolhcppabcodaaAvC
import Derived.Test.YtdolhcppabcodaaInst
import Derived.Test.YtdolhcppabcodaaO6
namespace Go.Proofs
open Go.Av
set_option linter.unusedSimpArgs false
set_option linter.unusedVariables false
set_option maxRecDepth 10000
set_option maxHeartbeats 4000000
variable {G : Nat → DV}
attribute [local irreducible] OpSem ARun AOps ALex ACalls AEnd AClose RV

theorem around_c (n most : Int) (hn : Ord.I64 n) (hm : 0 < most) : Pure Try.prog G 26 [.i n, .i most] (.i (Ord.around n most)) := fun B => by
  unfold Ord.I64 at hn
  refine calls_of_run Try.func26 rfl Try.ntmps26 rfl (t := [(0, .i n), (1, .i most)]) rfl fun E hE => ?_
  (repeat' first | refine s_mv rfl ?_ | refine s_as rfl ?_ | refine s_lss rfl rfl ?_ | refine o_nil ?_ | refine o_op rfl ?_ | refine r_seq ?_ | refine r_region ?_)
  refine r_cond_d rfl (fun h => ?_) (fun h => ?_)
  · (repeat' first | refine s_mv rfl ?_ | refine s_as rfl ?_ | refine s_add rfl rfl (by omega) ?_ | refine s_rem rfl rfl (by first | omega | exact nn_shr (by omega)) (by omega) ?_ | refine s_neg rfl (by omega) ?_ | refine o_nil ?_ | refine o_op rfl ?_ | refine r_seq ?_ | refine r_region ?_ | refine r_ret ?_)
    refine e_1 Try.results26 (rv_tmp rfl) (c_pure' ?_)
    rw [Ord.around, if_pos h]
  · (repeat' first | refine s_mv rfl ?_ | refine s_as rfl ?_ | refine s_rem rfl rfl (by first | omega | exact nn_shr (by omega)) (by omega) ?_ | refine o_nil ?_ | refine o_op rfl ?_ | refine r_seq ?_ | refine r_region ?_ | refine r_skip ?_ | refine r_ret ?_)
    refine e_1 Try.results26 (rv_tmp rfl) (c_pure' ?_)
    rw [Ord.around, if_neg h]

theorem at_c (l : List Int) (x : Int) (most : Int) (hl : ∀ x ∈ l, Ord.I64 x) (hm : 0 < most) (hll : l.length ≤ 9223372036854775807) (hi : 0 ≤ x ∧ x ≤ 4611686018427387904) : Pure Try.prog G 28 [slOf l, .i x, .i most] (.i (Ord.at_ l x.toNat most)) := fun B => by
  refine calls_of_run Try.func28 rfl Try.ntmps28 rfl (t := [(0, slOf l), (1, .i x), (2, .i most)]) rfl fun E hE => ?_
  (repeat' first | refine s_mv rfl ?_ | refine s_as rfl ?_ | refine s_lss rfl rfl ?_ | refine s_geq rfl rfl ?_ | refine s_len_sl rfl ?_ | refine s_pf rfl rfl ?_ | refine o_nil ?_ | refine o_op rfl ?_ | refine o_gy rfl rfl rfl rfl ?_ | refine o_sp_f rfl rfl (by omega) ?_ | refine r_seq ?_ | refine r_region ?_)
  refine r_cond_d rfl (fun h => ?_) (fun h => ?_)
  · (repeat' first | refine s_as rfl ?_ | refine o_nil ?_ | refine o_op rfl ?_ | refine r_seq ?_ | refine r_region ?_ | refine r_ret ?_)
    refine e_1 Try.results28 (rv_tmp rfl) (c_pure' ?_)
    rw [Ord.at_, if_neg (by omega)]
  · have hil : x.toNat < l.length := by omega
    have hx := hl _ (List.getElem_mem hil)
    (repeat' first | refine s_mv rfl ?_ | refine s_as rfl ?_ | refine s_load_ep rfl ?_ | refine s_idx_sl rfl rfl (by omega) (by first | assumption | omega | (simp; done) | (simp; omega)) ?_ | refine s_call_p rfl rfl (around_c _ _ (by assumption) (by assumption)) (by repeat' first | exact clo_sc | exact clo_slOf _ | exact clo_sl (encs_clo _) | exact encs_clo _ | refine clo_fn ?_ ?_ | refine clo_ep ?_ | refine clo_tup ?_ | refine clo_agg ?_ | exact ac_nil | refine ac_cons ?_ ?_) ?_ | refine o_nil ?_ | refine o_op rfl ?_ | refine r_seq ?_ | refine r_region ?_ | refine r_skip ?_ | refine r_ret ?_)
    refine e_1 Try.results28 (rv_tmp rfl) (c_pure' ?_)
    rw [Ord.at_, if_pos hil, Ord.getD_lt hil]
end Go.Proofs
