/-
  The reference's functions of chapter 36: what each hands back.
-/
import Derived.Test.YtdolhcppabcodaaAvC
import Derived.Test.YtdolhcppabcodaaInst
import Derived.Test.YtdolhcppabcodaaO3
namespace Go.Proofs
open Go.Av
set_option linter.unusedSimpArgs false
set_option linter.unusedVariables false
set_option maxRecDepth 10000
set_option maxHeartbeats 4000000
variable {G : Nat → DV}
attribute [local irreducible] OpSem ARun AOps ALex ACalls AEnd AClose RV

theorem firsts_c (rows : List (List Int)) (h1 : rows.length ≤ 1048576) (hrow : ∀ r ∈ rows, r.length ≤ 4611686018427387904) : Own Try.prog G 41 [slOf rows] (Ord.firsts rows).length (Enc.es Int) (encs (Ord.firsts rows)) := fun B => by
  have hcl := Ord.classes_len rows
  refine calls_of_run Try.func41 rfl Try.ntmps41 rfl (t := [(0, slOf rows)]) rfl fun E hE => ?_
  (repeat' first | refine s_mv rfl ?_ | refine s_as rfl ?_ | refine s_call_p rfl rfl ((classes_c _ (by omega) hrow).read) (by repeat' first | exact clo_sc | exact clo_slOf _ | exact clo_sl (encs_clo _) | exact encs_clo _ | refine clo_fn ?_ ?_ | refine clo_ep ?_ | refine clo_tup ?_ | refine clo_agg ?_ | exact ac_nil | refine ac_cons ?_ ?_) ?_ | refine o_nil ?_ | refine o_op rfl ?_ | refine r_seq ?_ | refine r_region ?_ | refine r_block ?_)
  refine r_own 3 1 rfl fun g0 hg0 => ?_
  refine r_loop (fun ig : Nat × Nat => ⟨[(3, .ref 0 ig.2 0 (Ord.firstsTo (Ord.classes rows) ig.1).length 1), (4, slOf (Ord.classes rows)), (5, .i ig.1)], [.row ig.2 (encs (Ord.firstsTo (Ord.classes rows) ig.1))]⟩) (fun ig => ig.1 ≤ rows.length ∧ E.N < ig.2) (fun ig => rows.length - ig.1) (0, g0) ?_ ⟨by omega, hg0⟩ ?_
  · exact ale_drop (by repeat' first | exact mem_nil | refine mem_cons rfl ?_) rfl
  intro ⟨i, g⟩ ⟨hk, hg⟩
  have hlen := Ord.firstsTo_len (Ord.classes rows) i
  dsimp only at hk hg
  (repeat' first | refine s_mv rfl ?_ | refine s_lss rfl rfl ?_ | refine s_len_sl rfl ?_ | refine o_nil ?_ | refine o_op rfl ?_ | refine r_seq ?_ | refine r_region ?_)
  refine r_cond_d rfl (fun h => ?_) (fun h => ?_)
  · have hi : i < (Ord.classes rows).length := by dsimp only at h; omega
    (repeat' first | refine s_mv rfl ?_ | refine s_load_ep rfl ?_ | refine s_idx_sln rfl rfl (by first | assumption | omega | (simp; done) | (simp; omega)) ?_ | refine s_eql rfl rfl ?_ | refine o_nil ?_ | refine o_op rfl ?_ | refine r_seq ?_ | refine r_region ?_ | refine r_block ?_ | refine r_skip ?_)
    refine r_cond_d rfl (fun h => ?_) (fun h => ?_)
    · (repeat' first | refine s_mv rfl ?_ | refine s_as rfl ?_ | refine s_add rfl rfl (by omega) ?_ | refine s_app1 rfl rfl rfl rfl rfl rfl rfl (by first | omega | (simp; omega)) (by first | omega | (simp; omega)) (fun _ => rfl) (fun _ _ => ?_) | refine s_bslice rfl rfl (by decide) rfl ?_ | refine o_nil ?_ | refine o_op rfl ?_ | refine r_region ?_)
      refine ⟨(i + 1, _), ⟨by omega, by assumption⟩, by dsimp only; omega, ?_⟩
      rw [Ord.firstsTo_succ, if_pos (by rw [Ord.getD_lt hi]; exact h)]
      exact ale_drop (by repeat' first | exact mem_nil | refine mem_cons rfl ?_) rfl
    · (repeat' first | refine s_mv rfl ?_ | refine s_as rfl ?_ | refine s_add rfl rfl (by omega) ?_ | refine o_nil ?_ | refine o_op rfl ?_ | refine r_region ?_ | refine r_skip ?_)
      refine ⟨(i + 1, g), ⟨by omega, by assumption⟩, by dsimp only; omega, ?_⟩
      rw [Ord.firstsTo_succ, if_neg (by rw [Ord.getD_lt hi]; exact h)]
      exact ale_drop (by repeat' first | exact mem_nil | refine mem_cons rfl ?_) rfl
  · have hi : i = (Ord.classes rows).length := by dsimp only at h; omega
    subst hi
    (repeat' first | refine s_mv rfl ?_ | refine s_as rfl ?_ | refine o_nil ?_ | refine o_op rfl ?_ | refine r_seq ?_ | refine r_region ?_ | refine r_exit rfl ?_ | refine r_ret ?_)
    exact e_1 Try.results41 (rv_tmp rfl) (c_ownedB hE rfl rfl rfl rfl)

theorem kills_c (row tests : List Int) (h1 : row.length ≤ 4611686018427387904) (h2 : tests.length ≤ 4611686018427387904) : Pure Try.prog G 27 [slOf row, slOf tests] (.b (Ord.kills row tests)) := fun B => by
  refine calls_of_run Try.func27 rfl Try.ntmps27 rfl (t := [(0, slOf row), (1, slOf tests)]) rfl fun E hE => ?_
  (repeat' first | refine s_as rfl ?_ | refine o_nil ?_ | refine o_op rfl ?_ | refine r_seq ?_ | refine r_region ?_ | refine r_block ?_)
  refine r_loop (fun k : Nat => ⟨[(0, slOf row), (1, slOf tests), (5, .i k)], []⟩) (fun k => k ≤ tests.length ∧ (tests.take k).any (fun t => row.contains t) = false) (fun k => tests.length - k) 0 ?_ ⟨by omega, by simp⟩ ?_
  · exact ale_drop (by repeat' first | exact mem_nil | refine mem_cons rfl ?_) rfl
  intro k ⟨hk, hno⟩
  (repeat' first | refine s_mv rfl ?_ | refine s_lss rfl rfl ?_ | refine s_len_sl rfl ?_ | refine o_nil ?_ | refine o_op rfl ?_ | refine r_seq ?_ | refine r_region ?_)
  refine r_cond_d rfl (fun h => ?_) (fun h => ?_)
  · have hk' : k < tests.length := by omega
    have ht : tests.take (k + 1) = tests.take k ++ [tests[k]] := by rw [List.take_succ_eq_append_getElem hk']
    (repeat' first | refine s_mv rfl ?_ | refine s_load_ep rfl ?_ | refine s_idx_sln rfl rfl (by first | assumption | omega | (simp; done) | (simp; omega)) ?_ | refine s_call_p rfl rfl (has_c _ _ (by omega)) (by repeat' first | exact clo_sc | exact clo_slOf _ | exact clo_sl (encs_clo _) | exact encs_clo _ | refine clo_fn ?_ ?_ | refine clo_ep ?_ | refine clo_tup ?_ | refine clo_agg ?_ | exact ac_nil | refine ac_cons ?_ ?_) ?_ | refine o_nil ?_ | refine o_op rfl ?_ | refine r_seq ?_ | refine r_region ?_ | refine r_block ?_ | refine r_skip ?_)
    refine r_cond rfl (fun h => ?_) (fun h => ?_)
    · (repeat' first | refine s_as rfl ?_ | refine o_nil ?_ | refine o_op rfl ?_ | refine r_seq ?_ | refine r_region ?_ | refine r_ret ?_)
      refine e_1 Try.results27 (rv_tmp rfl) (c_pure' ?_)
      have : Ord.kills row tests = true := List.any_eq_true.2 ⟨_, List.getElem_mem hk', h⟩
      rw [this]
    · (repeat' first | refine s_mv rfl ?_ | refine s_as rfl ?_ | refine s_add rfl rfl (by omega) ?_ | refine o_nil ?_ | refine o_op rfl ?_ | refine r_region ?_ | refine r_skip ?_)
      refine ⟨k + 1, ⟨hk', ?_⟩, by omega, ?_⟩
      · rw [ht, List.any_append, hno]
        simpa using h
      · exact ale_drop (by repeat' first | exact mem_nil | refine mem_cons rfl ?_) rfl
  · (repeat' first | refine s_as rfl ?_ | refine o_nil ?_ | refine o_op rfl ?_ | refine r_seq ?_ | refine r_region ?_ | refine r_exit rfl ?_ | refine r_ret ?_)
    refine e_1 Try.results27 (rv_tmp rfl) (c_pure' ?_)
    rw [List.take_of_length_le (by omega)] at hno
    rw [Ord.kills, hno]
end Go.Proofs
