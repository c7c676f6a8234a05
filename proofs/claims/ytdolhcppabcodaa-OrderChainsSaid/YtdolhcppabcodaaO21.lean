/-
  What functions of the program hand back: contracts over abstract values.
-/
import Derived.Test.YtdolhcppabcodaaAvK
import Derived.Test.YtdolhcppabcodaaInst
import Derived.Test.YtdolhcppabcodaaO20
namespace Go.Proofs
open Go.Av
set_option linter.unusedSimpArgs false
set_option linter.unusedVariables false
set_option maxRecDepth 10000
set_option maxHeartbeats 4000000
variable {G : Nat → DV}
attribute [local irreducible] OpSem ARun AOps ALex ACalls AEnd AClose RV

abbrev underD (rows : List (List Int)) : DV := .fn (.func 42) [] [.ep [setsD (Ord.masks rows)]]
theorem oEdges2_c (rows : List (List Int)) (hr : Ord.Small rows) (a b c : Int) (ha : 0 ≤ a) (ha' : a < rows.length) (hb : 0 ≤ b) (hb' : b < rows.length) (hc : 0 ≤ c) (hc' : c < rows.length) : Go.Av.Pure Try.prog G 43 [.i c, .ep [underD rows], .ep [.i a], .ep [.i b]] (.b (Ord.pUnder rows a c && Ord.pUnder rows c b)) := fun B => by
  have hf1 := oEdges1_c (G := G) rows hr a c ha ha' hc hc'
  have hf2 := oEdges1_c (G := G) rows hr c b hc hc' hb hb'
  refine calls_of_run Try.func43 rfl Try.ntmps43 rfl (t := [(0, .i c), (1, .ep [underD rows]), (2, .ep [.i a]), (3, .ep [.i b])]) rfl fun E hE => ?_
  (repeat' first | refine s_mv rfl ?_ | refine s_as rfl ?_ | refine s_load_ep rfl ?_ | refine s_callv_q rfl (hf1) (by repeat' first | exact clo_sc | exact clo_slOf _ | exact clo_sl (encs_clo _) | exact encs_clo _ | refine clo_fn ?_ ?_ | refine clo_ep ?_ | refine clo_tup ?_ | refine clo_agg ?_ | exact ac_nil | refine ac_cons ?_ ?_) ?_ | refine s_callv_q rfl (hf2) (by repeat' first | exact clo_sc | exact clo_slOf _ | exact clo_sl (encs_clo _) | exact encs_clo _ | refine clo_fn ?_ ?_ | refine clo_ep ?_ | refine clo_tup ?_ | refine clo_agg ?_ | exact ac_nil | refine ac_cons ?_ ?_) ?_ | refine s_pt rfl rfl ?_ | refine s_pf rfl rfl ?_ | refine o_nil ?_ | refine o_op rfl ?_ | refine o_gy rfl rfl rfl rfl ?_ | refine o_gn rfl rfl rfl rfl ?_ | refine o_sp rfl rfl (fun _ => ?_) (fun _ => ?_) | refine r_seq ?_ | refine r_region ?_ | refine r_ret ?_)
  all_goals
    refine e_1 (Try.results43) (rv_tmp rfl) (c_pure' ?_)
  · rename_i h; rw [h]; rfl
  · rename_i h; rw [h]; rfl

end Go.Proofs
