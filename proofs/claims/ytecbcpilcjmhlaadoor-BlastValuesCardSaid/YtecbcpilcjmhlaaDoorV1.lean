/-
  What functions of the program hand back: contracts over abstract values.
-/
import Derived.Test.YtecbcpilcjmhlaaDoorAvN
import Derived.Test.YtecbcpilcjmhlaaDoorInst
import Derived.Test.YtecbcpilcjmhlaaDoorV0
import Derived.Test.YtecbcpilcjmhlaaDoorB1
namespace Go.Proofs
open Go.Av
set_option linter.unusedSimpArgs false
set_option linter.unusedVariables false
set_option maxRecDepth 10000
set_option maxHeartbeats 4000000
variable {G : Nat → DV}
attribute [local irreducible] OpSem ARun AOps ALex ACalls AEnd AClose RV
open Go.Fo
instance : TyZ Tryd.prog 86 (List.replicate 4001 (.bool false)) := ⟨by kernel_rfl, by kernel_rfl⟩

theorem holds_c (S : List Int) (x : Int) (h : -2000 ≤ x ∧ x ≤ 2000) : Go.Av.Pure Tryd.prog G 48 [.i x, .ep (encs (tab S))] (.b (decide (x ∈ S))) := fun B => by
  refine calls_of_run Tryd.func48 rfl Tryd.ntmps48 rfl (t := [(0, .i x), (1, .ep (encs (tab S)))]) rfl fun E hE => ?_
  (repeat' first | refine s_mv rfl ?_ | refine s_as rfl ?_ | refine s_load_ep rfl ?_ | refine s_idx_tab_ep rfl rfl (by omega) ?_ | refine s_add rfl rfl (by omega) ?_ | refine o_nil ?_ | refine o_op rfl ?_ | refine r_seq ?_ | refine r_region ?_ | refine r_ret ?_)
  refine e_1 Tryd.results48 (rv_tmp rfl) (c_pure' ?_)
  rfl
theorem left_c (S : List Int) (x : Int) (h : -2000 ≤ x ∧ x ≤ 2000) : Go.Av.Pure Tryd.prog G 49 [.i x, .ep [.fn (.func 48) [] [.ep (encs (tab S))]]] (.b (open' S x)) := fun B => by
  have hfv := holds_c (G := G) S (-x) (by omega)
  refine calls_of_run Tryd.func49 rfl Tryd.ntmps49 rfl (t := [(0, .i x), (1, .ep [.fn (.func 48) [] [.ep (encs (tab S))]])]) rfl fun E hE => ?_
  (repeat' first | refine s_mv rfl ?_ | refine s_as rfl ?_ | refine s_load_ep rfl ?_ | refine s_callv_q rfl (hfv) (by repeat' first | exact clo_sc | exact clo_slOf _ | exact clo_sl (encs_clo _) | exact encs_clo _ | refine clo_fn ?_ ?_ | refine clo_ep ?_ | refine clo_tup ?_ | refine clo_agg ?_ | exact ac_nil | refine ac_cons ?_ ?_ | refine clo_sl ?_) ?_ | refine s_not_d rfl ?_ | refine s_neg rfl (by omega) ?_ | refine o_nil ?_ | refine o_op rfl ?_ | refine r_seq ?_ | refine r_region ?_ | refine r_ret ?_)
  refine e_1 Tryd.results49 (rv_tmp rfl) (c_pure' ?_)
  first | rfl | (unfold open'; simp)
theorem other_c (S c : List Int) (i : Nat) (hi : i < c.length) (x : Int) (h : -2000 ≤ x ∧ x ≤ 2000) : Go.Av.Pure Tryd.prog G 51 [.i x, .ep [slOf c], .ep [.i i], .ep [.fn (.func 49) [] [.ep [.fn (.func 48) [] [.ep (encs (tab S))]]]]] (.b (decide (x ≠ c[i]) && open' S x)) := fun B => by
  have hfv := left_c (G := G) S x h
  refine calls_of_run Tryd.func51 rfl Tryd.ntmps51 rfl (t := [(0, .i x), (1, .ep [slOf c]), (2, .ep [.i i]), (3, .ep [.fn (.func 49) [] [.ep [.fn (.func 48) [] [.ep (encs (tab S))]]]])]) rfl fun E hE => ?_
  (repeat' first | refine s_mv rfl ?_ | refine s_as rfl ?_ | refine s_load_ep rfl ?_ | refine s_idx_sln rfl rfl (by first | assumption | omega | (simp; done) | (simp; omega)) ?_ | refine s_neq rfl rfl ?_ | refine s_callv_q rfl (hfv) (by repeat' first | exact clo_sc | exact clo_slOf _ | exact clo_sl (encs_clo _) | exact encs_clo _ | refine clo_fn ?_ ?_ | refine clo_ep ?_ | refine clo_tup ?_ | refine clo_agg ?_ | exact ac_nil | refine ac_cons ?_ ?_ | refine clo_sl ?_) ?_ | refine s_pt rfl rfl ?_ | refine s_pf rfl rfl ?_ | refine o_nil ?_ | refine o_op rfl ?_ | refine o_gy rfl rfl rfl rfl ?_ | refine o_gn rfl rfl rfl rfl ?_ | refine o_sp_d rfl rfl (fun _ => ?_) (fun _ => ?_) | refine r_seq ?_ | refine r_region ?_ | refine r_ret ?_)
  · rename_i hne
    refine e_1 Tryd.results51 (rv_tmp rfl) (c_pure' ?_)
    rw [decide_eq_true hne, Bool.true_and]
  · rename_i hne
    refine e_1 Tryd.results51 (rv_tmp rfl) (c_pure' ?_)
    rw [decide_eq_false hne, Bool.false_and]
theorem holds_t {S : List Int} {x : Int} (h : x ∈ S) (hz : -2000 ≤ x ∧ x ≤ 2000) : Go.Av.Pure Tryd.prog G 48 [.i x, .ep (encs (tab S))] (.b true) := by
  have := holds_c (G := G) S x hz
  rwa [decide_eq_true h] at this
theorem holds_f {S : List Int} {x : Int} (h : x ∉ S) (hz : -2000 ≤ x ∧ x ≤ 2000) : Go.Av.Pure Tryd.prog G 48 [.i x, .ep (encs (tab S))] (.b false) := by
  have := holds_c (G := G) S x hz
  rwa [decide_eq_false h] at this
/-- What Follow hands back. -/
def retM : Option (List Int) → DV
  | none => .tup [.nil, .b false]
  | some o => .tup [slOf o, .b true]
def finM : Option (List Int) → DV
  | none => .tup [.nil, .b false]
  | some S => retM (outM S 2000)
theorem finM_eq (cls : List (List Int)) (l : List Int) : retM (followM cls l) = finM (fixM cls (meas cls (startM l) + 1) (startM l)) := by
  unfold followM
  cases fixM cls (meas cls (startM l) + 1) (startM l) <;> rfl

end Go.Proofs
