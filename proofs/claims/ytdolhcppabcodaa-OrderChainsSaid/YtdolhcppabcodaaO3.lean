/-
  The reference's functions of chapter 36: what each hands back.
-/
import Derived.Test.YtdolhcppabcodaaAvC
import Derived.Test.YtdolhcppabcodaaInst
import Derived.Test.YtdolhcppabcodaaO2
namespace Go.Proofs
open Go.Av
set_option linter.unusedSimpArgs false
set_option linter.unusedVariables false
set_option maxRecDepth 10000
set_option maxHeartbeats 4000000
variable {G : Nat → DV}
attribute [local irreducible] OpSem ARun AOps ALex ACalls AEnd AClose RV

theorem sameInts_c (a b : List Int) (ha : a.length ≤ 4611686018427387904) (hb : b.length ≤ 4611686018427387904) : Pure Try.prog G 13 [slOf a, slOf b] (.b (decide (a = b))) := fun B => by
  refine calls_of_run Try.func13 rfl Try.ntmps13 rfl (t := [(0, slOf a), (1, slOf b)]) rfl fun E hE => ?_
  (repeat' first | refine s_mv rfl ?_ | refine s_as rfl ?_ | refine s_neq rfl rfl ?_ | refine s_len_sl rfl ?_ | refine o_nil ?_ | refine o_op rfl ?_ | refine r_seq ?_ | refine r_region ?_)
  refine r_cond_d rfl (fun h => ?_) (fun h => ?_)
  · (repeat' first | refine s_as rfl ?_ | refine o_nil ?_ | refine o_op rfl ?_ | refine r_seq ?_ | refine r_region ?_ | refine r_ret ?_)
    refine e_1 Try.results13 (rv_tmp rfl) (c_pure' ?_)
    rw [decide_eq_false (p := a = b) (fun e => h (by rw [e]))]
  have hl : a.length = b.length := by omega
  (repeat' first | refine s_as rfl ?_ | refine o_nil ?_ | refine o_op rfl ?_ | refine r_seq ?_ | refine r_region ?_ | refine r_block ?_ | refine r_skip ?_)
  refine r_loop (fun k : Nat => ⟨[(0, slOf a), (1, slOf b), (5, .i k)], []⟩) (fun k => k ≤ a.length ∧ a.take k = b.take k) (fun k => a.length - k) 0 ?_ ⟨by omega, by simp⟩ ?_
  · exact ale_drop (by repeat' first | exact mem_nil | refine mem_cons rfl ?_) rfl
  intro k ⟨hk, hall⟩
  (repeat' first | refine s_mv rfl ?_ | refine s_lss rfl rfl ?_ | refine s_len_sl rfl ?_ | refine o_nil ?_ | refine o_op rfl ?_ | refine r_seq ?_ | refine r_region ?_)
  refine r_cond_d rfl (fun h => ?_) (fun h => ?_)
  · have hk' : k < a.length := by omega
    have hk'' : k < b.length := by omega
    (repeat' first | refine o_nil ?_ | refine r_seq ?_ | refine r_block ?_ | (refine g_draw ?_; first | refine r_draw0 (by rfl) (by kernel_rfl) (by kernel_rfl) ?_ | refine r_drawq (by kernel_rfl) (by kernel_rfl) ?_) | refine r_skip ?_ | refine x_op rfl (by (repeat' first | refine s_mv rfl ?_ | refine s_load_ep rfl ?_ | refine s_idx_sln rfl rfl (by first | assumption | omega | (simp; done) | (simp; omega)) ?_ | refine s_neq rfl rfl ?_ | exact ⟨rfl, rfl⟩)) ?_ | refine x_nil ?_)
    refine r_cond_d rfl (fun h => ?_) (fun h => ?_)
    · (repeat' first | refine s_as rfl ?_ | refine o_nil ?_ | refine o_op rfl ?_ | refine r_seq ?_ | refine r_region ?_ | refine r_ret ?_)
      refine e_1 Try.results13 (rv_tmp rfl) (c_pure' ?_)
      rw [decide_eq_false (p := a = b) (fun e => h (by subst e; rfl))]
    · (repeat' first | refine s_mv rfl ?_ | refine s_as rfl ?_ | refine s_add rfl rfl (by omega) ?_ | refine o_nil ?_ | refine o_op rfl ?_ | refine r_region ?_ | refine r_skip ?_)
      refine ⟨k + 1, ⟨hk', ?_⟩, by omega, ?_⟩
      · rw [List.take_succ_eq_append_getElem hk', List.take_succ_eq_append_getElem hk'', hall, Decidable.not_not.1 h]
      · exact ale_drop (by repeat' first | exact mem_nil | refine mem_cons rfl ?_) rfl
  · (repeat' first | refine s_as rfl ?_ | refine o_nil ?_ | refine o_op rfl ?_ | refine r_seq ?_ | refine r_region ?_ | refine r_exit rfl ?_ | refine r_ret ?_)
    refine e_1 Try.results13 (rv_tmp rfl) (c_pure' ?_)
    rw [List.take_of_length_le (by omega), List.take_of_length_le (by omega)] at hall
    rw [decide_eq_true hall]

theorem classes_c (rows : List (List Int)) (h1 : rows.length ≤ 1048576) (hrow : ∀ r ∈ rows, r.length ≤ 4611686018427387904) : Own Try.prog G 15 [slOf rows] (Ord.classes rows).length (Enc.es Int) (encs (Ord.classes rows)) := fun B => by
  refine calls_of_run Try.func15 rfl Try.ntmps15 rfl (t := [(0, slOf rows)]) rfl fun E hE => ?_
  (repeat' first | refine s_as rfl ?_ | refine o_nil ?_ | refine o_op rfl ?_ | refine r_seq ?_ | refine r_region ?_ | refine r_block ?_)
  refine r_own 3 1 rfl fun g0 hg0 => ?_
  refine r_loop (fun ig : Nat × Nat => ⟨[(0, slOf rows), (3, .ref 0 ig.2 0 ((List.range ig.1).map (Ord.classOf rows)).length 1), (4, .i ig.1)], [.row ig.2 (encs ((List.range ig.1).map (Ord.classOf rows)))]⟩) (fun ig => ig.1 ≤ rows.length ∧ E.N < ig.2) (fun ig => rows.length - ig.1) (0, g0) ?_ ⟨by omega, hg0⟩ ?_
  · exact ale_drop (by repeat' first | exact mem_nil | refine mem_cons rfl ?_) rfl
  intro ⟨i, g⟩ ⟨hk, hg⟩
  (repeat' first | refine s_mv rfl ?_ | refine s_lss rfl rfl ?_ | refine s_len_sl rfl ?_ | refine o_nil ?_ | refine o_op rfl ?_ | refine r_seq ?_ | refine r_region ?_)
  dsimp only at hk hg
  refine r_cond_d rfl (fun h => ?_) (fun h => ?_)
  · have hi : i < rows.length := by omega
    (repeat' first | refine s_mv rfl ?_ | refine s_as rfl ?_ | refine o_nil ?_ | refine o_op rfl ?_ | refine r_seq ?_ | refine r_region ?_ | refine r_block ?_ | refine r_skip ?_)
    refine r_loop (fun j : Nat => ⟨[(0, slOf rows), (3, .ref 0 g 0 ((List.range i).map (Ord.classOf rows)).length 1), (4, .i i), (5, .i (Ord.classTo rows i j)), (6, .i (i - j))], [.row g (encs ((List.range i).map (Ord.classOf rows)))]⟩) (fun j => j ≤ i + 1) (fun j => i + 1 - j) 0 ?_ (by omega) ?_
    · exact ale_drop (by repeat' first | exact mem_nil | refine mem_cons rfl ?_) rfl
    intro j hj
    (repeat' first | refine s_mv rfl ?_ | refine s_geq rfl rfl ?_ | refine o_nil ?_ | refine o_op rfl ?_ | refine r_seq ?_ | refine r_region ?_)
    refine r_cond_d rfl (fun h => ?_) (fun h => ?_)
    · have ht : (i : Int) - j = (i - j : Nat) := by omega
      have e1 : Ord.below rows i (i - j) = Ord.belowN rows i (i - j) := by rw [Ord.below, decide_eq_true (by omega), Bool.true_and, ht]; rfl
      have e2 : Ord.below rows (i - j) i = Ord.belowN rows (i - j) i := by rw [Ord.below, decide_eq_true (by omega), Bool.true_and, ht]; rfl
      (repeat' first | refine s_mv rfl ?_ | refine s_as rfl ?_ | refine s_sub rfl rfl (by omega) ?_ | refine s_call_p rfl rfl (below_c _ _ _ (by omega) hrow) (by repeat' first | exact clo_sc | exact clo_slOf _ | exact clo_sl (encs_clo _) | exact encs_clo _ | refine clo_fn ?_ ?_ | refine clo_ep ?_ | refine clo_tup ?_ | refine clo_agg ?_ | exact ac_nil | refine ac_cons ?_ ?_) ?_ | refine s_pt rfl rfl ?_ | refine s_pf rfl rfl ?_ | refine o_nil ?_ | refine o_op rfl ?_ | refine o_gy rfl rfl rfl rfl ?_ | refine o_gn rfl rfl rfl rfl ?_ | refine o_sp rfl rfl (fun _ => ?_) (fun _ => ?_) | refine r_seq ?_ | refine r_region ?_ | refine r_block ?_ | refine r_skip ?_ | refine r_cond_f rfl ?_)
      rename_i hb1
      · refine r_cond rfl (fun hb2 => ?_) (fun hb2 => ?_)
        · (repeat' first | refine s_mv rfl ?_ | refine s_as rfl ?_ | refine s_sub rfl rfl (by omega) ?_ | refine o_nil ?_ | refine o_op rfl ?_ | refine r_region ?_)
          refine ⟨j + 1, by omega, by omega, ?_⟩
          rw [show Ord.classTo rows i (j + 1) = i - j from by rw [Ord.classTo, ← e1, ← e2, hb1, hb2, ht]; rfl, show (i : Int) - (j + 1 : Nat) = i - j - 1 from by omega]
          exact ale_drop (by repeat' first | exact mem_nil | refine mem_cons rfl ?_) rfl
        · (repeat' first | refine s_mv rfl ?_ | refine s_as rfl ?_ | refine s_sub rfl rfl (by omega) ?_ | refine o_nil ?_ | refine o_op rfl ?_ | refine r_region ?_ | refine r_skip ?_)
          refine ⟨j + 1, by omega, by omega, ?_⟩
          rw [show Ord.classTo rows i (j + 1) = Ord.classTo rows i j from by rw [Ord.classTo, ← e1, ← e2, hb1, hb2]; rfl, show (i : Int) - (j + 1 : Nat) = i - j - 1 from by omega]
          exact ale_drop (by repeat' first | exact mem_nil | refine mem_cons rfl ?_) rfl
      · rename_i hb1
        refine ⟨j + 1, by omega, by omega, ?_⟩
        rw [show Ord.classTo rows i (j + 1) = Ord.classTo rows i j from by rw [Ord.classTo, ← e1, hb1]; rfl, show (i : Int) - (j + 1 : Nat) = i - j - 1 from by omega]
        exact ale_drop (by repeat' first | exact mem_nil | refine mem_cons rfl ?_) rfl
    · have hj' : j = i + 1 := by omega
      subst hj'
      (repeat' first | refine s_mv rfl ?_ | refine s_as rfl ?_ | refine s_add rfl rfl (by omega) ?_ | refine s_app1 rfl rfl rfl rfl rfl rfl rfl (by first | omega | (simp; omega)) (by first | omega | (simp; omega)) (fun _ => rfl) (fun _ _ => ?_) | refine s_bslice rfl rfl (by decide) rfl ?_ | refine o_nil ?_ | refine o_op rfl ?_ | refine r_region ?_ | refine r_exit rfl ?_)
      refine ⟨(i + 1, _), ⟨hi, by assumption⟩, by dsimp only; omega, ?_⟩

      rw [List.range_succ, List.map_append]

      exact ale_drop (by repeat' first | exact mem_nil | refine mem_cons rfl ?_) rfl
  · have hi : i = rows.length := by dsimp only at h; omega
    subst hi
    (repeat' first | refine s_mv rfl ?_ | refine s_as rfl ?_ | refine o_nil ?_ | refine o_op rfl ?_ | refine r_seq ?_ | refine r_region ?_ | refine r_exit rfl ?_ | refine r_ret ?_)
    exact e_1 Try.results15 (rv_tmp rfl) (c_ownedB hE rfl rfl rfl rfl)
end Go.Proofs
