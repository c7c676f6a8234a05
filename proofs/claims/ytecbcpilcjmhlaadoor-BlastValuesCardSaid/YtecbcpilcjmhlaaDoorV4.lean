/-
  What functions of the program hand back: contracts over abstract values.
-/
import Derived.Test.YtecbcpilcjmhlaaDoorAvN
import Derived.Test.YtecbcpilcjmhlaaDoorInst
import Derived.Test.YtecbcpilcjmhlaaDoorV1
namespace Go.Proofs
open Go.Av
set_option linter.unusedSimpArgs false
set_option linter.unusedVariables false
set_option maxRecDepth 10000
set_option maxHeartbeats 4000000
variable {G : Nat → DV}
attribute [local irreducible] OpSem ARun AOps ALex ACalls AEnd AClose RV
open Go.Fo

theorem around_c (n most : Int) (hn : Ord.I64 n) (hm : 0 < most) : Go.Av.Pure Tryd.prog G 9 [.i n, .i most] (.i (Ord.around n most)) := fun B => by
  unfold Ord.I64 at hn
  refine calls_of_run Tryd.func9 rfl Tryd.ntmps9 rfl (t := [(0, .i n), (1, .i most)]) rfl fun E hE => ?_
  (repeat' first | refine s_mv rfl ?_ | refine s_as rfl ?_ | refine s_lss rfl rfl ?_ | refine o_nil ?_ | refine o_op rfl ?_ | refine r_seq ?_ | refine r_region ?_)
  refine r_cond_d rfl (fun h => ?_) (fun h => ?_)
  · (repeat' first | refine s_mv rfl ?_ | refine s_as rfl ?_ | refine s_add rfl rfl (by omega) ?_ | refine s_rem rfl rfl (by first | omega | exact nn_shr (by omega)) (by omega) ?_ | refine s_neg rfl (by omega) ?_ | refine o_nil ?_ | refine o_op rfl ?_ | refine r_seq ?_ | refine r_region ?_ | refine r_ret ?_)
    refine e_1 Tryd.results9 (rv_tmp rfl) (c_pure' ?_)
    rw [Ord.around, if_pos h]
  · (repeat' first | refine s_mv rfl ?_ | refine s_as rfl ?_ | refine s_rem rfl rfl (by first | omega | exact nn_shr (by omega)) (by omega) ?_ | refine o_nil ?_ | refine o_op rfl ?_ | refine r_seq ?_ | refine r_region ?_ | refine r_skip ?_ | refine r_ret ?_)
    refine e_1 Tryd.results9 (rv_tmp rfl) (c_pure' ?_)
    rw [Ord.around, if_neg h]
/-- A literal of the variables 1 to 9. -/
def litM (n : Int) : Int := if 0 ≤ Ord.around n 18 - 9 then Ord.around n 18 - 9 + 1 else Ord.around n 18 - 9
theorem litM_bd (n : Int) : -9 ≤ litM n ∧ litM n ≤ 9 ∧ litM n ≠ 0 := by
  have := Ord.around_bound n (most := 18) (by decide)
  unfold litM
  split <;> omega
theorem literal_c (n : Int) (hn : Ord.I64 n) : Go.Av.Pure Tryd.prog G 21 [.i n] (.i (litM n)) := fun B => by
  have hb := Ord.around_bound n (most := 18) (by decide)
  refine calls_of_run Tryd.func21 rfl Tryd.ntmps21 rfl (t := [(0, .i n)]) rfl fun E hE => ?_
  (repeat' first | refine s_mv rfl ?_ | refine s_as rfl ?_ | refine s_geq rfl rfl ?_ | refine s_sub rfl rfl (by omega) ?_ | refine s_call_p rfl rfl (around_c _ _ (by assumption) (by omega)) (by repeat' first | exact clo_sc | exact clo_slOf _ | exact clo_sl (encs_clo _) | exact encs_clo _ | refine clo_fn ?_ ?_ | refine clo_ep ?_ | refine clo_tup ?_ | refine clo_agg ?_ | exact ac_nil | refine ac_cons ?_ ?_ | refine clo_sl ?_) ?_ | refine o_nil ?_ | refine o_op rfl ?_ | refine r_seq ?_ | refine r_region ?_)
  refine r_cond_d rfl (fun h => ?_) (fun h => ?_)
  · (repeat' first | refine s_mv rfl ?_ | refine s_as rfl ?_ | refine s_add rfl rfl (by omega) ?_ | refine o_nil ?_ | refine o_op rfl ?_ | refine r_seq ?_ | refine r_region ?_ | refine r_ret ?_)
    refine e_1 Tryd.results21 (rv_tmp rfl) (c_pure' ?_)
    rw [litM, if_pos h]
  · (repeat' first | refine s_mv rfl ?_ | refine s_as rfl ?_ | refine o_nil ?_ | refine o_op rfl ?_ | refine r_seq ?_ | refine r_region ?_ | refine r_skip ?_ | refine r_ret ?_)
    refine e_1 Tryd.results21 (rv_tmp rfl) (c_pure' ?_)
    rw [litM, if_neg h]

end Go.Proofs
