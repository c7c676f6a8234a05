/-
  What functions of the program hand back: contracts over abstract values.
-/
import Derived.Test.YtdolhcppabcodaaAvK
import Derived.Test.YtdolhcppabcodaaInst
import Derived.Test.YtdolhcppabcodaaO18
namespace Go.Proofs
open Go.Av
set_option linter.unusedSimpArgs false
set_option linter.unusedVariables false
set_option maxRecDepth 10000
set_option maxHeartbeats 4000000
variable {G : Nat → DV}
attribute [local irreducible] OpSem ARun AOps ALex ACalls AEnd AClose RV

theorem below2_c (ms : List Nat) (a b : Int) (ha : 0 ≤ a) (ha' : a < ms.length) (hb : 0 ≤ b) (hb' : b < ms.length) (hm : ∀ m ∈ ms, m < 2 ^ 64) (hms : ms.length ≤ 1048576) : Go.Av.Pure Try.prog G 30 [setsD ms, .i a, .i b] (.b (Ord.mBelow ms a.toNat b.toNat)) := by
  have := below1_c (G := G) ms a.toNat b.toNat (by omega) (by omega) hm hms
  rwa [Int.toNat_of_nonneg ha, Int.toNat_of_nonneg hb] at this

theorem of_s (rows : List (List Int)) (hr : Ord.Small rows) : Go.Av.Pure Try.prog G 29 [matD rows] (setsD (Ord.masks rows)) :=
  of_c rows (by have := hr.n; omega) hr.f (fun r h => by have := hr.r r h; omega) hr.a

theorem below_s (rows : List (List Int)) (hr : Ord.Small rows) (a b : Int) (ha : 0 ≤ a) (ha' : a < rows.length) (hb : 0 ≤ b) (hb' : b < rows.length) : Go.Av.Pure Try.prog G 30 [setsD (Ord.masks rows), .i a, .i b] (.b (Ord.mBelow (Ord.masks rows) a.toNat b.toNat)) := by
  have hl := Ord.masks_len rows
  have hn := hr.n
  exact below2_c _ a b ha (by omega) hb (by omega) (Ord.masks_lt hr.a) (by omega)

theorem oBelow_c (rows : List (List Int)) (hr : Ord.Small rows) (a b : Int) : Go.Av.Pure Try.prog G 11 [matD rows, .i a, .i b] (.b (Ord.pBelow rows a b)) := fun B => by
  have hkl : (rows.map Ord.KRow.mk).length = rows.length := by simp
  have hk1 := of_s (G := G) rows hr
  have hbel := below_s (G := G) rows hr a b
  have hn := hr.n
  refine calls_of_run Try.func11 rfl Try.ntmps11 rfl (t := [(0, matD rows), (1, .i a), (2, .i b)]) rfl fun E hE => ?_
  (repeat' first | refine s_mv rfl ?_ | refine s_as rfl ?_ | refine s_load_row rfl rfl rfl ?_ | refine s_load_rowa rfl rfl (by rfl) (by rfl) ?_ | refine s_lss rfl rfl ?_ | refine s_geq rfl rfl ?_ | refine s_len_sl rfl ?_ | refine s_call_p rfl rfl (hk1) (by repeat' first | exact clo_sc | exact clo_slOf _ | exact clo_sl (encs_clo _) | exact encs_clo _ | refine clo_fn ?_ ?_ | refine clo_ep ?_ | refine clo_tup ?_ | refine clo_agg ?_ | exact ac_nil | refine ac_cons ?_ ?_) ?_ | refine s_call_p rfl rfl (hbel (by omega) (by omega) (by omega) (by omega)) (by repeat' first | exact clo_sc | exact clo_slOf _ | exact clo_sl (encs_clo _) | exact encs_clo _ | refine clo_fn ?_ ?_ | refine clo_ep ?_ | refine clo_tup ?_ | refine clo_agg ?_ | exact ac_nil | refine ac_cons ?_ ?_) ?_ | refine s_pt rfl rfl ?_ | refine s_pf rfl rfl ?_ | refine s_fld_ptr rfl rfl ?_ | refine s_box rfl rfl (fun _ _ => ?_) | refine o_nil ?_ | refine o_op rfl ?_ | refine o_gy rfl rfl rfl rfl ?_ | refine o_gn rfl rfl rfl rfl ?_ | refine o_sp_d rfl rfl (fun _ => ?_) (fun _ => ?_) | refine r_seq ?_ | refine r_region ?_ | refine r_ret ?_)
  all_goals
    refine e_1 (Try.results11) (rv_tmp rfl) (c_pure' ?_)
    rw [Ord.pBelow]
    first
    | rw [decide_eq_true (p := 0 ≤ a ∧ _) (by omega), Bool.true_and]
    | rw [decide_eq_false (p := 0 ≤ a ∧ _) (by omega), Bool.false_and]

theorem oClasses_c (rows : List (List Int)) (hr : Ord.Small rows) : Go.Av.Pure Try.prog G 14 [matD rows] (slOf (Ord.mClasses (Ord.masks rows))) := fun B => by
  have hk1 := of_s (G := G) rows hr
  have hl := Ord.masks_len rows
  have hn := hr.n
  have hk2 := (oclasses_c (G := G) (Ord.masks rows) (by omega)).read
  refine calls_of_run Try.func14 rfl Try.ntmps14 rfl (t := [(0, matD rows)]) rfl fun E hE => ?_
  (repeat' first | refine s_as rfl ?_ | refine s_load_rowa rfl rfl (by rfl) (by rfl) ?_ | refine s_call_p rfl rfl (hk1) (by repeat' first | exact clo_sc | exact clo_slOf _ | exact clo_sl (encs_clo _) | exact encs_clo _ | refine clo_fn ?_ ?_ | refine clo_ep ?_ | refine clo_tup ?_ | refine clo_agg ?_ | exact ac_nil | refine ac_cons ?_ ?_) ?_ | refine s_call_p rfl rfl (hk2) (by repeat' first | exact clo_sc | exact clo_slOf _ | exact clo_sl (encs_clo _) | exact encs_clo _ | refine clo_fn ?_ ?_ | refine clo_ep ?_ | refine clo_tup ?_ | refine clo_agg ?_ | exact ac_nil | refine ac_cons ?_ ?_) ?_ | refine s_box rfl rfl (fun _ _ => ?_) | refine o_nil ?_ | refine o_op rfl ?_ | refine r_seq ?_ | refine r_region ?_ | refine r_ret ?_)
  refine e_1 Try.results14 (rv_tmp rfl) (c_pure' ?_)
  rfl

theorem oRoots11_c (rows : List (List Int)) (hr : Ord.Small rows) (a b : Int) (ha : 0 ≤ a) (ha' : a < rows.length) (hb : 0 ≤ b) (hb' : b < rows.length) : Go.Av.Pure Try.prog G 40 [.i b, .ep [.i a], .ep [setsD (Ord.masks rows)]] (.b (Ord.pUnder rows b a)) := fun B => by
  have hk1 := below_s (G := G) rows hr b a hb hb' ha ha'
  refine calls_of_run Try.func40 rfl Try.ntmps40 rfl (t := [(0, .i b), (1, .ep [.i a]), (2, .ep [setsD (Ord.masks rows)])]) rfl fun E hE => ?_
  (repeat' first | refine s_mv rfl ?_ | refine s_as rfl ?_ | refine s_load_ep rfl ?_ | refine s_neq rfl rfl ?_ | refine s_call_p rfl rfl (hk1) (by repeat' first | exact clo_sc | exact clo_slOf _ | exact clo_sl (encs_clo _) | exact encs_clo _ | refine clo_fn ?_ ?_ | refine clo_ep ?_ | refine clo_tup ?_ | refine clo_agg ?_ | exact ac_nil | refine ac_cons ?_ ?_) ?_ | refine s_pt rfl rfl ?_ | refine s_pf rfl rfl ?_ | refine o_nil ?_ | refine o_op rfl ?_ | refine o_gy rfl rfl rfl rfl ?_ | refine o_gn rfl rfl rfl rfl ?_ | refine o_sp_d rfl rfl (fun _ => ?_) (fun _ => ?_) | refine r_seq ?_ | refine r_region ?_ | refine r_ret ?_)
  all_goals
    refine e_1 (Try.results40) (rv_tmp rfl) (c_pure' ?_)
    rw [Ord.pUnder]
  · rename_i h; rw [decide_eq_true (Ne.symm h)]; rfl
  · rename_i h; rw [decide_eq_false (fun e => h (Ne.symm e))]; rfl

theorem oRoots1_c (rows : List (List Int)) (hr : Ord.Small rows) (a : Int) (ha : 0 ≤ a) (ha' : a < rows.length) : Go.Av.Pure Try.prog G 39 [.i a, .ep [slOf (Ord.pFirsts rows)], .ep [setsD (Ord.masks rows)]] (.b ((Ord.pFirsts rows).any fun b => Ord.pUnder rows b a)) := fun B => by
  have hn := hr.n
  have hfl := Ord.pFirsts_len rows
  have hk1 := containsFuncI_c (G := G) (Ord.pFirsts rows) 40 [] [.ep [.i a], .ep [setsD (Ord.masks rows)]] (fun b => Ord.pUnder rows b a) (by omega) (fun b hb => oRoots11_c rows hr a b ha ha' (Ord.pFirsts_mem hb).1 (Ord.pFirsts_mem hb).2)
  refine calls_of_run Try.func39 rfl Try.ntmps39 rfl (t := [(0, .i a), (1, .ep [slOf (Ord.pFirsts rows)]), (2, .ep [setsD (Ord.masks rows)])]) rfl fun E hE => ?_
  (repeat' first | refine s_as rfl ?_ | refine s_load_ep rfl ?_ | refine s_call_p rfl rfl (hk1) (by repeat' first | exact clo_sc | exact clo_slOf _ | exact clo_sl (encs_clo _) | exact encs_clo _ | refine clo_fn ?_ ?_ | refine clo_ep ?_ | refine clo_tup ?_ | refine clo_agg ?_ | exact ac_nil | refine ac_cons ?_ ?_) ?_ | refine s_makeFunc rfl rfl ?_ | refine s_box rfl rfl (fun _ _ => ?_) | refine o_nil ?_ | (refine g_mkf ?_; first | refine o_mk0 rfl rfl (by rfl) ?_ | refine o_mk1 rfl rfl (by rfl) ?_ | refine o_mk2 rfl rfl (by rfl) ?_ | refine o_mk3 rfl rfl (by rfl) ?_) | refine o_op rfl ?_ | refine r_seq ?_ | refine r_region ?_ | refine r_ret ?_)
  refine e_1 Try.results39 (rv_tmp rfl) (c_pure' ?_)
  rfl

end Go.Proofs
