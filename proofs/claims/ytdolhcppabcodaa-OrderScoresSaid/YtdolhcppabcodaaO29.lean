/-
  What functions of the program hand back: contracts over abstract values.
-/
import Derived.Test.YtdolhcppabcodaaAvK
import Derived.Test.YtdolhcppabcodaaInst
import Derived.Test.YtdolhcppabcodaaO27
namespace Go.Proofs
open Go.Av
set_option linter.unusedSimpArgs false
set_option linter.unusedVariables false
set_option maxRecDepth 10000
set_option maxHeartbeats 4000000
variable {G : Nat → DV}
attribute [local irreducible] OpSem ARun AOps ALex ACalls AEnd AClose RV Ord.rowsOf Ord.roots Ord.score

theorem orderScores_c (l tests more : List Int) (hl : ∀ x ∈ l, Ord.I64 x) (hll : l.length ≤ 9223372036854775807) (htl : tests.length ≤ 9223372036854775807) (hml : more.length ≤ 9223372036854775807) : Go.Av.Pure Try.prog G 7 [slOf l, slOf tests, slOf more] (.b true) := fun B => by
  have hr := Ord.small_rows l
  have hn := hr.n
  have hgi := given_c (G := G) (Ord.rowsOf l) (by omega)
  have ht9 : (tests.take 9).length ≤ 9 := by rw [List.length_take]; omega
  have hm9 : (more.take 9).length ≤ 9 := by rw [List.length_take]; omega
  have h1 := oScore_c (G := G) _ (tests.take 9) hr (by omega)
  have h2 := oScore_c (G := G) _ (tests.take 9 ++ more.take 9) hr (by rw [List.length_append]; omega)
  have h3 := oScore_c (G := G) _ [0, 1, 2, 3, 4] hr (by decide)
  have h4 := oScore_c (G := G) _ [] hr (by decide)
  rw [Ord.pScore_eq, Ord.pRoots_eq] at h1 h2 h3 h4
  have hall : Ord.score (Ord.rowsOf l) [0, 1, 2, 3, 4] = (Ord.roots (Ord.rowsOf l)).length := Ord.score_all fun r hr x hx => by
    have := (Ord.rowsOf_mem hr).2 x hx
    simp; omega
  rw [hall] at h3
  rw [Ord.score_nil] at h4
  have h4 : Go.Av.Pure Try.prog G 18 [matD (Ord.rowsOf l), .nil] _ := h4.sub rfl (sub_cons (.refl _) (sub_cons (.nil _) sub_nil))
  have hmono := Ord.score_mono (Ord.rowsOf l) (tests.take 9) (more.take 9)
  refine calls_of_run Try.func7 rfl Try.ntmps7 rfl (t := [(0, slOf l), (1, slOf tests), (2, slOf more)]) rfl fun E hE => ?_
  (repeat' first | refine s_mv rfl ?_ | refine s_as rfl ?_ | refine s_load_epa rfl (by rfl) (by rfl) ?_ | refine s_load_rowa rfl rfl (by rfl) (by rfl) ?_ | refine s_leq rfl rfl ?_ | refine s_eql rfl rfl ?_ | refine s_pub (i := 37) rfl rfl (by first | rfl | exact (encs_len _).symm) rfl ?_ | refine s_call_p rfl rfl ((rows_c l hl (by omega)).read) (by repeat' first | exact clo_sc | exact clo_slOf _ | exact clo_sl (encs_clo _) | exact encs_clo _ | refine clo_fn ?_ ?_ | refine clo_ep ?_ | refine clo_tup ?_ | refine clo_agg ?_ | exact ac_nil | refine ac_cons ?_ ?_) ?_ | refine s_call_p rfl rfl (hgi) (by repeat' first | exact clo_sc | exact clo_slOf _ | exact clo_sl (encs_clo _) | exact encs_clo _ | refine clo_fn ?_ ?_ | refine clo_ep ?_ | refine clo_tup ?_ | refine clo_agg ?_ | exact ac_nil | refine ac_cons ?_ ?_) ?_ | refine s_call_p rfl rfl ((take_c tests 9 (by omega) (by omega)).read) (by repeat' first | exact clo_sc | exact clo_slOf _ | exact clo_sl (encs_clo _) | exact encs_clo _ | refine clo_fn ?_ ?_ | refine clo_ep ?_ | refine clo_tup ?_ | refine clo_agg ?_ | exact ac_nil | refine ac_cons ?_ ?_) ?_ | refine s_call_p rfl rfl (h1) (by repeat' first | exact clo_sc | exact clo_slOf _ | exact clo_sl (encs_clo _) | exact encs_clo _ | refine clo_fn ?_ ?_ | refine clo_ep ?_ | refine clo_tup ?_ | refine clo_agg ?_ | exact ac_nil | refine ac_cons ?_ ?_) ?_ | refine s_call_p rfl rfl (h2) (by repeat' first | exact clo_sc | exact clo_slOf _ | exact clo_sl (encs_clo _) | exact encs_clo _ | refine clo_fn ?_ ?_ | refine clo_ep ?_ | refine clo_tup ?_ | refine clo_agg ?_ | exact ac_nil | refine ac_cons ?_ ?_) ?_ | refine s_call_p rfl rfl (h3) (by repeat' first | exact clo_sc | exact clo_slOf _ | exact clo_sl (encs_clo _) | exact encs_clo _ | refine clo_fn ?_ ?_ | refine clo_ep ?_ | refine clo_tup ?_ | refine clo_agg ?_ | exact ac_nil | refine ac_cons ?_ ?_) ?_ | refine s_call_p rfl rfl (h4) (by repeat' first | exact clo_sc | exact clo_slOf _ | exact clo_sl (encs_clo _) | exact encs_clo _ | refine clo_fn ?_ ?_ | refine clo_ep ?_ | refine clo_tup ?_ | refine clo_agg ?_ | exact ac_nil | refine ac_cons ?_ ?_) ?_ | refine s_call_p rfl rfl (lives_c) (by repeat' first | exact clo_sc | exact clo_slOf _ | exact clo_sl (encs_clo _) | exact encs_clo _ | refine clo_fn ?_ ?_ | refine clo_ep ?_ | refine clo_tup ?_ | refine clo_agg ?_ | exact ac_nil | refine ac_cons ?_ ?_) ?_ | refine s_app_r rfl rfl rfl rfl rfl rfl rfl (by first | omega | (simp; omega)) (by first | omega | (simp; omega)) (fun _ => rfl) (fun _ _ => ?_) | refine s_app_z rfl rfl rfl rfl rfl (by first | omega | (simp; omega)) (by first | omega | (simp; omega)) (fun _ => rfl) (fun _ _ => ?_) | refine s_pt rfl rfl ?_ | refine s_extract rfl rfl rfl ?_ | refine s_store rfl rfl rfl rfl (by rfl) (by rfl) (by rfl) ?_ | refine s_bslice_none rfl (fun _ _ => ?_) | refine s_bslice rfl rfl (by decide) rfl ?_ | refine s_alloc (fun _ _ => ?_) | refine o_nil ?_ | refine o_op rfl ?_ | refine o_op0 ?_ | refine o_gy rfl rfl rfl rfl ?_ | refine o_sp_t rfl rfl (by omega) ?_ | refine r_seq ?_ | refine r_region ?_ | (refine g_draw ?_; first | (refine r_pubptr 8 rfl rfl (by rfl) ?_; refine r_drawo [(0, true), (2, true), (4, true), (1, false), (3, false), (5, true), (6, false), (7, false), (8, false), (9, true), (10, true), (11, true), (12, true)] (by rfl) (by rfl) (by kernel_rfl) (by kernel_rfl) ?_) | refine r_draw0 (by rfl) (by kernel_rfl) (by kernel_rfl) ?_ | refine r_drawq (by kernel_rfl) (by kernel_rfl) ?_) | refine r_ret ?_ | refine m_nil ?_ | refine m_st rfl (fun _ => (by (repeat' first | refine s_mv rfl ?_ | refine s_as rfl ?_ | refine s_load_epa rfl (by rfl) (by rfl) ?_ | refine s_call_p rfl rfl ((take_c more 9 (by omega) (by omega)).read) (by repeat' first | exact clo_sc | exact clo_slOf _ | exact clo_sl (encs_clo _) | exact encs_clo _ | refine clo_fn ?_ ?_ | refine clo_ep ?_ | refine clo_tup ?_ | refine clo_agg ?_ | exact ac_nil | refine ac_cons ?_ ?_) ?_ | refine s_extract rfl rfl rfl ?_ | exact ⟨rfl, rfl⟩))) ?_ | refine m_ef rfl ?_)
  refine e_1 Try.results7 (rv_tmp rfl) (c_pure' ?_)
  rfl

end Go.Proofs
