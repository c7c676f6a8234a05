/-
  What functions of the program hand back: contracts over abstract values.
-/
import Derived.Test.YtdolhcppabcodaaAvK
import Derived.Test.YtdolhcppabcodaaInst
import Derived.Test.YtdolhcppabcodaaO24
import Derived.Test.YtdolhcppabcodaaL0
import Derived.Test.YtdolhcppabcodaaAvR
namespace Go.Proofs
open Go.Av
set_option linter.unusedSimpArgs false
set_option linter.unusedVariables false
set_option maxRecDepth 10000
set_option maxHeartbeats 4000000
variable {G : Nat → DV}
attribute [local irreducible] OpSem ARun AOps ALex ACalls AEnd AClose RV

theorem small_lives : Ord.Small [[0, 1], [], [1], [1, 0], [2]] where
  n := by decide
  f := by decide
  r := by decide
  a := Nat.le_trans (Ord.allOf_len _) (by decide)

theorem lives_c : Go.Av.Pure Try.prog G 16 [] (.b true) := fun B => by
  have hr := small_lives
  have hg1 := given_c (G := G) [[0, 1], [], [1], [1, 0], [2]] (by decide)
  have hg1 : Go.Av.Pure Try.prog G 10 [.sl 1 [slOf [(0 : Int), 1], .nil, slOf [(1 : Int)], slOf [(1 : Int), 0], slOf [(2 : Int)]]] (matD [[0, 1], [], [1], [1, 0], [2]]) := hg1.sub rfl (sub_cons (.sl _ _ _ rfl (sub_cons (.refl _) (sub_cons (.nil _) (sub_cons (.refl _) (sub_cons (.refl _) (sub_cons (.refl _) sub_nil)))))) sub_nil)
  have hs1 := oScore_c (G := G) [[0, 1], [], [1], [1, 0], [2]] [0] hr (by decide)
  have hs2 := oScore_c (G := G) [[0, 1], [], [1], [1, 0], [2]] [1] hr (by decide)
  have hc1 := oClasses_c (G := G) _ hr
  have hr1 := oRoots_c (G := G) _ hr
  have he1 := oEdges_c (G := G) _ hr
  rw [Ord.pScore_eq] at hs1 hs2
  rw [Ord.pRoots_eq] at hs1 hs2 hr1
  rw [Ord.pEdges_eq] at he1
  rw [Ord.mClasses_eq] at hc1
  have e1 : Ord.score [[0, 1], [], [1], [1, 0], [2]] [0] = 0 := by decide +kernel
  have e2 : Ord.score [[0, 1], [], [1], [1, 0], [2]] [1] = 1 := by decide +kernel
  have e3 : Ord.roots [[0, 1], [], [1], [1, 0], [2]] = [2, 4] := by decide +kernel
  have e4 : Ord.edges [[0, 1], [], [1], [1, 0], [2]] = [(2, 0)] := by decide +kernel
  have e5 : Ord.classes [[0, 1], [], [1], [1, 0], [2]] = [0, -1, 2, 0, 4] := by decide +kernel
  rw [e1, e3] at hs1
  rw [e2, e3] at hs2
  rw [e3] at hr1
  rw [e4] at he1
  rw [e5] at hc1
  have hi1 := sameInts_c (G := G) [0, -1, 2, 0, 4] [0, -1, 2, 0, 4] (by decide) (by decide)
  have hi2 := sameInts_c (G := G) [2, 4] [2, 4] (by decide) (by decide)
  have hi3 := sameEdges_c (G := G) [(2, 0)] [(2, 0)] (by decide) (by decide)
  rw [decide_eq_true rfl] at hi1 hi2 hi3
  have hb1 := oBelow_c (G := G) _ hr 2 3
  have hb2 := oBelow_c (G := G) _ hr 3 2
  have hb3 := oBelow_c (G := G) _ hr 1 0
  rw [Ord.pBelow_eq] at hb1 hb2 hb3
  have f1 : Ord.below [[0, 1], [], [1], [1, 0], [2]] 2 3 = true := by decide +kernel
  have f2 : Ord.below [[0, 1], [], [1], [1, 0], [2]] 3 2 = false := by decide +kernel
  have f3 : Ord.below [[0, 1], [], [1], [1, 0], [2]] 1 0 = false := by decide +kernel
  rw [f1] at hb1
  rw [f2] at hb2
  rw [f3] at hb3
  refine calls_of_run Try.func16 rfl Try.ntmps16 rfl (t := []) rfl fun E hE => ?_
  (repeat' first | refine s_mv rfl ?_ | refine s_as rfl ?_ | refine s_load_rowa rfl rfl (by rfl) (by rfl) ?_ | refine s_eql rfl rfl ?_ | refine s_call_p rfl rfl (hb1) (by repeat' first | exact clo_sc | exact clo_slOf _ | exact clo_sl (encs_clo _) | exact encs_clo _ | refine clo_fn ?_ ?_ | refine clo_ep ?_ | refine clo_tup ?_ | refine clo_agg ?_ | exact ac_nil | refine ac_cons ?_ ?_) ?_ | refine s_call_p rfl rfl (hb2) (by repeat' first | exact clo_sc | exact clo_slOf _ | exact clo_sl (encs_clo _) | exact encs_clo _ | refine clo_fn ?_ ?_ | refine clo_ep ?_ | refine clo_tup ?_ | refine clo_agg ?_ | exact ac_nil | refine ac_cons ?_ ?_) ?_ | refine s_call_p rfl rfl (hs1) (by repeat' first | exact clo_sc | exact clo_slOf _ | exact clo_sl (encs_clo _) | exact encs_clo _ | refine clo_fn ?_ ?_ | refine clo_ep ?_ | refine clo_tup ?_ | refine clo_agg ?_ | exact ac_nil | refine ac_cons ?_ ?_) ?_ | refine s_call_p rfl rfl (hs2) (by repeat' first | exact clo_sc | exact clo_slOf _ | exact clo_sl (encs_clo _) | exact encs_clo _ | refine clo_fn ?_ ?_ | refine clo_ep ?_ | refine clo_tup ?_ | refine clo_agg ?_ | exact ac_nil | refine ac_cons ?_ ?_) ?_ | refine s_call_p rfl rfl (hr1) (by repeat' first | exact clo_sc | exact clo_slOf _ | exact clo_sl (encs_clo _) | exact encs_clo _ | refine clo_fn ?_ ?_ | refine clo_ep ?_ | refine clo_tup ?_ | refine clo_agg ?_ | exact ac_nil | refine ac_cons ?_ ?_) ?_ | refine s_call_p rfl rfl (he1) (by repeat' first | exact clo_sc | exact clo_slOf _ | exact clo_sl (encs_clo _) | exact encs_clo _ | refine clo_fn ?_ ?_ | refine clo_ep ?_ | refine clo_tup ?_ | refine clo_agg ?_ | exact ac_nil | refine ac_cons ?_ ?_) ?_ | refine s_call_p rfl rfl (hg1) (by repeat' first | exact clo_sc | exact clo_slOf _ | exact clo_sl (encs_clo _) | exact encs_clo _ | refine clo_fn ?_ ?_ | refine clo_ep ?_ | refine clo_tup ?_ | refine clo_agg ?_ | exact ac_nil | refine ac_cons ?_ ?_) ?_ | refine s_call_p rfl rfl (hc1) (by repeat' first | exact clo_sc | exact clo_slOf _ | exact clo_sl (encs_clo _) | exact encs_clo _ | refine clo_fn ?_ ?_ | refine clo_ep ?_ | refine clo_tup ?_ | refine clo_agg ?_ | exact ac_nil | refine ac_cons ?_ ?_) ?_ | refine s_call_p rfl rfl (hi1) (by repeat' first | exact clo_sc | exact clo_slOf _ | exact clo_sl (encs_clo _) | exact encs_clo _ | refine clo_fn ?_ ?_ | refine clo_ep ?_ | refine clo_tup ?_ | refine clo_agg ?_ | exact ac_nil | refine ac_cons ?_ ?_) ?_ | refine s_call_p rfl rfl (hi2) (by repeat' first | exact clo_sc | exact clo_slOf _ | exact clo_sl (encs_clo _) | exact encs_clo _ | refine clo_fn ?_ ?_ | refine clo_ep ?_ | refine clo_tup ?_ | refine clo_agg ?_ | exact ac_nil | refine ac_cons ?_ ?_) ?_ | refine s_call_p rfl rfl (hi3) (by repeat' first | exact clo_sc | exact clo_slOf _ | exact clo_sl (encs_clo _) | exact encs_clo _ | refine clo_fn ?_ ?_ | refine clo_ep ?_ | refine clo_tup ?_ | refine clo_agg ?_ | exact ac_nil | refine ac_cons ?_ ?_) ?_ | refine s_call_p rfl rfl (hb3) (by repeat' first | exact clo_sc | exact clo_slOf _ | exact clo_sl (encs_clo _) | exact encs_clo _ | refine clo_fn ?_ ?_ | refine clo_ep ?_ | refine clo_tup ?_ | refine clo_agg ?_ | exact ac_nil | refine ac_cons ?_ ?_) ?_ | refine s_pt rfl rfl ?_ | refine s_not rfl ?_ | refine s_extract rfl rfl rfl ?_ | refine s_store rfl rfl rfl rfl (by rfl) (by rfl) (by rfl) ?_ | refine s_build_a rfl rfl ?_ | refine s_bslice rfl rfl (by decide) rfl ?_ | refine s_alloc (fun _ _ => ?_) | refine o_nil ?_ | refine o_op rfl ?_ | refine o_op0 ?_ | refine o_gy rfl rfl rfl rfl ?_ | refine r_seq ?_ | refine r_region ?_ | refine r_ret ?_)
  refine e_1 Try.results16 (rv_tmp rfl) (c_pure' ?_)
  rfl

end Go.Proofs
