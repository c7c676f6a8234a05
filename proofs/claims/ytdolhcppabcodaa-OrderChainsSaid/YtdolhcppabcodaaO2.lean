/-
  The reference's functions of chapter 36: what each hands back.
-/
import Derived.Test.YtdolhcppabcodaaAvC
import Derived.Test.YtdolhcppabcodaaInst
import Derived.Test.YtdolhcppabcodaaO1
namespace Go.Proofs
open Go.Av
set_option linter.unusedSimpArgs false
set_option linter.unusedVariables false
set_option maxRecDepth 10000
set_option maxHeartbeats 4000000
variable {G : Nat → DV}
attribute [local irreducible] OpSem ARun AOps ALex ACalls AEnd AClose RV

theorem below_c (rows : List (List Int)) (a b : Int) (h1 : rows.length ≤ 4611686018427387904) (h2 : ∀ r ∈ rows, r.length ≤ 4611686018427387904) : Pure Try.prog G 12 [slOf rows, .i a, .i b] (.b (Ord.below rows a b)) := fun B => by
  refine calls_of_run Try.func12 rfl Try.ntmps12 rfl (t := [(0, slOf rows), (1, .i a), (2, .i b)]) rfl fun E hE => ?_
  (repeat' first | refine s_mv rfl ?_ | refine s_as rfl ?_ | refine s_load_ep rfl ?_ | refine s_idx_sl rfl rfl (by omega) (by first | assumption | omega | (simp; done) | (simp; omega)) ?_ | refine s_lss rfl rfl ?_ | refine s_geq rfl rfl ?_ | refine s_eql rfl rfl ?_ | refine s_len_sl rfl ?_ | refine s_pt rfl rfl ?_ | refine s_pf rfl rfl ?_ | refine o_nil ?_ | refine o_op rfl ?_ | refine o_gy rfl rfl rfl rfl ?_ | refine o_gn rfl rfl rfl rfl ?_ | refine o_sp_d rfl rfl (fun _ => ?_) (fun _ => ?_) | refine r_seq ?_ | refine r_region ?_ | refine r_cond_t rfl ?_ | refine r_ret ?_)
  iterate 4
    · refine e_1 Try.results12 (rv_tmp rfl) (c_pure' ?_)
      rw [Ord.below, decide_eq_false (by omega), Bool.false_and]
  have ha : a.toNat < rows.length := by omega
  have hb : b.toNat < rows.length := by omega
  have hla := h2 _ (List.getElem_mem ha)
  have hlb := h2 _ (List.getElem_mem hb)
  have hE : Ord.below rows a b = (!(rows[a.toNat]).isEmpty && (rows[a.toNat]).all fun t => (rows[b.toNat]).contains t) := by
    rw [Ord.below, decide_eq_true (by omega), Bool.true_and, Ord.belowN, List.getD_eq_getElem?_getD, List.getElem?_eq_getElem ha, List.getD_eq_getElem?_getD, List.getElem?_eq_getElem hb]; rfl
  rw [hE]
  refine r_cond_d rfl (fun h => ?_) (fun h => ?_)
  · (repeat' first | refine s_as rfl ?_ | refine o_nil ?_ | refine o_op rfl ?_ | refine r_seq ?_ | refine r_region ?_ | refine r_ret ?_)
    refine e_1 Try.results12 (rv_tmp rfl) (c_pure' ?_)
    rw [List.isEmpty_iff_length_eq_zero.2 (by omega)]; rfl
  rw [show (rows[a.toNat]).isEmpty = false from by cases hq : rows[a.toNat] with | nil => rw [hq] at h; exact absurd rfl h | cons => rfl]
  (repeat' first | refine s_as rfl ?_ | refine o_nil ?_ | refine o_op rfl ?_ | refine r_seq ?_ | refine r_region ?_ | refine r_block ?_ | refine r_skip ?_)
  refine r_loop (fun k : Nat => ⟨[(0, slOf rows), (1, .i a), (2, .i b), (7, .i k)], []⟩) (fun k => k ≤ (rows[a.toNat]).length ∧ ((rows[a.toNat]).take k).all (fun t => (rows[b.toNat]).contains t) = true) (fun k => (rows[a.toNat]).length - k) 0 ?_ ⟨by omega, by simp⟩ ?_
  · exact ale_drop (by repeat' first | exact mem_nil | refine mem_cons rfl ?_) rfl
  intro k ⟨hk, hall⟩
  (repeat' first | refine s_mv rfl ?_ | refine s_load_ep rfl ?_ | refine s_idx_sl rfl rfl (by omega) (by first | assumption | omega | (simp; done) | (simp; omega)) ?_ | refine s_lss rfl rfl ?_ | refine s_len_sl rfl ?_ | refine o_nil ?_ | refine o_op rfl ?_ | refine r_seq ?_ | refine r_region ?_)
  refine r_cond_d rfl (fun h => ?_) (fun h => ?_)
  · have hk' : k < (rows[a.toNat]).length := by omega
    have ht : (rows[a.toNat]).take (k + 1) = (rows[a.toNat]).take k ++ [(rows[a.toNat])[k]] := by rw [List.take_succ_eq_append_getElem hk']
    (repeat' first | refine o_nil ?_ | refine r_seq ?_ | refine r_block ?_ | (refine g_draw ?_; first | refine r_draw0 (by rfl) (by kernel_rfl) (by kernel_rfl) ?_ | refine r_drawq (by kernel_rfl) (by kernel_rfl) ?_) | refine r_skip ?_ | refine x_op rfl (by (repeat' first | refine s_mv rfl ?_ | refine s_load_ep rfl ?_ | refine s_idx_sln rfl rfl (by first | assumption | omega | (simp; done) | (simp; omega)) ?_ | refine s_idx_sl rfl rfl (by omega) (by first | assumption | omega | (simp; done) | (simp; omega)) ?_ | refine s_call_p rfl rfl (has_c _ _ (by omega)) (by repeat' first | exact clo_sc | exact clo_slOf _ | exact clo_sl (encs_clo _) | exact encs_clo _ | refine clo_fn ?_ ?_ | refine clo_ep ?_ | refine clo_tup ?_ | refine clo_agg ?_ | exact ac_nil | refine ac_cons ?_ ?_) ?_ | refine s_not rfl ?_ | exact ⟨rfl, rfl⟩)) ?_ | refine x_nil ?_)
    refine r_cond rfl (fun h => ?_) (fun h => ?_)
    · (repeat' first | refine s_as rfl ?_ | refine o_nil ?_ | refine o_op rfl ?_ | refine r_seq ?_ | refine r_region ?_ | refine r_ret ?_)
      refine e_1 Try.results12 (rv_tmp rfl) (c_pure' ?_)
      have : ((rows[a.toNat]).all fun t => (rows[b.toNat]).contains t) = false := by
        cases hq : ((rows[a.toNat]).all fun t => (rows[b.toNat]).contains t) with
        | false => rfl
        | true => rw [List.all_eq_true] at hq; rw [hq _ (List.getElem_mem hk')] at h; cases h
      rw [this]; rfl
    · (repeat' first | refine s_mv rfl ?_ | refine s_as rfl ?_ | refine s_add rfl rfl (by omega) ?_ | refine o_nil ?_ | refine o_op rfl ?_ | refine r_region ?_ | refine r_skip ?_)
      refine ⟨k + 1, ⟨hk', ?_⟩, by omega, ?_⟩
      · rw [ht, List.all_append, hall]
        simpa using h
      · exact ale_drop (by repeat' first | exact mem_nil | refine mem_cons rfl ?_) rfl
  · (repeat' first | refine s_as rfl ?_ | refine o_nil ?_ | refine o_op rfl ?_ | refine r_seq ?_ | refine r_region ?_ | refine r_exit rfl ?_ | refine r_ret ?_)
    refine e_1 Try.results12 (rv_tmp rfl) (c_pure' ?_)
    rw [List.take_of_length_le (by omega)] at hall
    rw [hall]; rfl
end Go.Proofs
