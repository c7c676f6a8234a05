/-
  What functions of the program hand back: contracts over abstract values.
-/
import Derived.Test.YtdolhcppabcodaaAvK
import Derived.Test.YtdolhcppabcodaaInst
import Derived.Test.YtdolhcppabcodaaO19
namespace Go.Proofs
open Go.Av
set_option linter.unusedSimpArgs false
set_option linter.unusedVariables false
set_option maxRecDepth 10000
set_option maxHeartbeats 4000000
variable {G : Nat → DV}
attribute [local irreducible] OpSem ARun AOps ALex ACalls AEnd AClose RV

theorem firsts_s (rows : List (List Int)) (hr : Ord.Small rows) : Go.Av.Pure Try.prog G 36 [setsD (Ord.masks rows)] (slOf (Ord.pFirsts rows)) := by
  have hl := Ord.masks_len rows
  have hn := hr.n
  exact (ofirsts_c (G := G) (Ord.masks rows) (by omega)).read

theorem oRoots_c (rows : List (List Int)) (hr : Ord.Small rows) : Go.Av.Pure Try.prog G 20 [matD rows] (slOf (Ord.pRoots rows)) := fun B => by
  have hn := hr.n
  have hfl := Ord.pFirsts_len rows
  have hk1 := of_s (G := G) rows hr
  have hk2 := firsts_s (G := G) rows hr
  have hk3 := cloneI_c (G := G) (Ord.pFirsts rows) (by omega)
  refine calls_of_run Try.func20 rfl Try.ntmps20 rfl (t := [(0, matD rows)]) rfl fun E hE => ?_
  (repeat' first | refine s_as rfl ?_ | refine s_load_row rfl rfl rfl ?_ | refine s_load_rowa rfl rfl (by rfl) (by rfl) ?_ | refine s_call_p rfl rfl (hk1) (by repeat' first | exact clo_sc | exact clo_slOf _ | exact clo_sl (encs_clo _) | exact encs_clo _ | refine clo_fn ?_ ?_ | refine clo_ep ?_ | refine clo_tup ?_ | refine clo_agg ?_ | exact ac_nil | refine ac_cons ?_ ?_) ?_ | refine s_call_p rfl rfl (hk2) (by repeat' first | exact clo_sc | exact clo_slOf _ | exact clo_sl (encs_clo _) | exact encs_clo _ | refine clo_fn ?_ ?_ | refine clo_ep ?_ | refine clo_tup ?_ | refine clo_agg ?_ | exact ac_nil | refine ac_cons ?_ ?_) ?_ | refine s_call_o rfl rfl (hk3) (by first | exact encs_clo _) (fun _ _ => ?_) | refine s_store rfl rfl rfl rfl (by rfl) (by rfl) (by rfl) ?_ | refine s_makeFunc rfl rfl ?_ | refine s_alloc (fun _ _ => ?_) | refine s_box rfl rfl (fun _ _ => ?_) | refine o_nil ?_ | (refine g_mkf ?_; first | refine o_mk0 rfl rfl (by rfl) ?_ | refine o_mk1 rfl rfl (by rfl) ?_ | refine o_mk2 rfl rfl (by rfl) ?_ | refine o_mk3 rfl rfl (by rfl) ?_) | refine o_op rfl ?_ | refine o_op0 ?_ | refine r_seq ?_ | refine r_region ?_)
  rename_i g1 hg1
  have hk4 := deleteFuncI_c (G := G) (Ord.pFirsts rows) 39 [] [.ep [slOf (Ord.pFirsts rows)], .ep [setsD (Ord.masks rows)]] (fun a => (Ord.pFirsts rows).any fun b => Ord.pUnder rows b a) (by omega) (fun x hx => oRoots1_c rows hr x (Ord.pFirsts_mem hx).1 (Ord.pFirsts_mem hx).2) g1
  (repeat' first | refine s_as rfl ?_ | refine s_call_m rfl rfl (hk4) rfl (by repeat' first | exact .nil | refine .cons .ref ?_ | refine .cons (.clo (by repeat' first | exact clo_sc | exact clo_slOf _ | exact clo_sl (encs_clo _) | exact encs_clo _ | refine clo_fn ?_ ?_ | refine clo_ep ?_ | refine clo_tup ?_ | refine clo_agg ?_ | exact ac_nil | refine ac_cons ?_ ?_)) ?_) (by first | exact .ref | exact .clo (by repeat' first | exact clo_sc | exact clo_slOf _ | exact clo_sl (encs_clo _) | exact encs_clo _ | refine clo_fn ?_ ?_ | refine clo_ep ?_ | refine clo_tup ?_ | refine clo_agg ?_ | exact ac_nil | refine ac_cons ?_ ?_)) (encs_clo _) (encs_clo _) (by rfl) ?_ | refine o_nil ?_ | refine o_op rfl ?_ | refine r_ret ?_)
  refine e_1 (Try.results20) (rv_tmp rfl) (c_pub rfl (encs_len _).symm (c_pure' rfl))

theorem oEdges1_c (rows : List (List Int)) (hr : Ord.Small rows) (a b : Int) (ha : 0 ≤ a) (ha' : a < rows.length) (hb : 0 ≤ b) (hb' : b < rows.length) : Go.Av.Pure Try.prog G 42 [.i a, .i b, .ep [setsD (Ord.masks rows)]] (.b (Ord.pUnder rows a b)) := fun B => by
  have hk1 := below_s (G := G) rows hr a b ha ha' hb hb'
  refine calls_of_run Try.func42 rfl Try.ntmps42 rfl (t := [(0, .i a), (1, .i b), (2, .ep [setsD (Ord.masks rows)])]) rfl fun E hE => ?_
  (repeat' first | refine s_mv rfl ?_ | refine s_as rfl ?_ | refine s_load_ep rfl ?_ | refine s_neq rfl rfl ?_ | refine s_call_p rfl rfl (hk1) (by repeat' first | exact clo_sc | exact clo_slOf _ | exact clo_sl (encs_clo _) | exact encs_clo _ | refine clo_fn ?_ ?_ | refine clo_ep ?_ | refine clo_tup ?_ | refine clo_agg ?_ | exact ac_nil | refine ac_cons ?_ ?_) ?_ | refine s_pt rfl rfl ?_ | refine s_pf rfl rfl ?_ | refine o_nil ?_ | refine o_op rfl ?_ | refine o_gy rfl rfl rfl rfl ?_ | refine o_gn rfl rfl rfl rfl ?_ | refine o_sp_d rfl rfl (fun _ => ?_) (fun _ => ?_) | refine r_seq ?_ | refine r_region ?_ | refine r_ret ?_)
  all_goals
    refine e_1 (Try.results42) (rv_tmp rfl) (c_pure' ?_)
    rw [Ord.pUnder]
  · rename_i h; rw [decide_eq_true h]; rfl
  · rename_i h; rw [decide_eq_false h]; rfl

end Go.Proofs
