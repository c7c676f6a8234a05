/-
  The reference's functions of chapter 36: what each hands back.
-/
import Derived.Test.YtdolhcppabcodaaAvC
import Derived.Test.YtdolhcppabcodaaInst
import Derived.Test.YtdolhcppabcodaaO5
namespace Go.Proofs
open Go.Av
set_option linter.unusedSimpArgs false
set_option linter.unusedVariables false
set_option maxRecDepth 10000
set_option maxHeartbeats 4000000
variable {G : Nat → DV}
attribute [local irreducible] OpSem ARun AOps ALex ACalls AEnd AClose RV

theorem score_c (rows : List (List Int)) (tests : List Int) (h1 : rows.length ≤ 1048576) (hrow : ∀ r ∈ rows, r.length ≤ 4611686018427387904) (h2 : tests.length ≤ 4611686018427387904) :
    Pure Try.prog G 19 [slOf rows, slOf tests] (.tup [.i (Ord.score rows tests), .i (Ord.roots rows).length]) := fun B => by
  have hf := Ord.roots_len rows
  refine calls_of_run Try.func19 rfl Try.ntmps19 rfl (t := [(0, slOf rows), (1, slOf tests)]) rfl fun E hE => ?_
  (repeat' first | refine s_mv rfl ?_ | refine s_as rfl ?_ | refine s_call_p rfl rfl ((roots_c _ (by omega) hrow).read) (by repeat' first | exact clo_sc | exact clo_slOf _ | exact clo_sl (encs_clo _) | exact encs_clo _ | refine clo_fn ?_ ?_ | refine clo_ep ?_ | refine clo_tup ?_ | refine clo_agg ?_ | exact ac_nil | refine ac_cons ?_ ?_) ?_ | refine o_nil ?_ | refine o_op rfl ?_ | refine r_seq ?_ | refine r_region ?_ | refine r_block ?_)
  refine r_loop (fun k : Nat => ⟨[(0, slOf rows), (1, slOf tests), (6, slOf (Ord.roots rows)), (7, .i (Ord.scoreTo rows tests (Ord.roots rows) k)), (8, .i k)], []⟩) (fun k => k ≤ (Ord.roots rows).length) (fun k => (Ord.roots rows).length - k) 0 ?_ (by omega) ?_
  · exact ale_drop (by repeat' first | exact mem_nil | refine mem_cons rfl ?_) rfl
  intro k hk
  have hle := Ord.scoreTo_le rows tests (Ord.roots rows) k
  (repeat' first | refine s_mv rfl ?_ | refine s_lss rfl rfl ?_ | refine s_len_sl rfl ?_ | refine o_nil ?_ | refine o_op rfl ?_ | refine r_seq ?_ | refine r_region ?_)
  refine r_cond_d rfl (fun h => ?_) (fun h => ?_)
  · have hi : k < (Ord.roots rows).length := by omega
    have hm := Ord.roots_mem (List.getElem_mem hi)
    have hr : (Ord.roots rows)[k].toNat < rows.length := by omega
    have hrl := hrow _ (List.getElem_mem hr)
    have es := Ord.scoreTo_succ (rows := rows) (tests := tests) hi
    rw [Ord.getD_lt hr] at es
    (repeat' first | refine s_mv rfl ?_ | refine s_load_ep rfl ?_ | refine s_idx_sln rfl rfl (by first | assumption | omega | (simp; done) | (simp; omega)) ?_ | refine s_idx_sl rfl rfl (by omega) (by first | assumption | omega | (simp; done) | (simp; omega)) ?_ | refine s_call_p rfl rfl (kills_c _ _ (by omega) (by omega)) (by repeat' first | exact clo_sc | exact clo_slOf _ | exact clo_sl (encs_clo _) | exact encs_clo _ | refine clo_fn ?_ ?_ | refine clo_ep ?_ | refine clo_tup ?_ | refine clo_agg ?_ | exact ac_nil | refine ac_cons ?_ ?_) ?_ | refine o_nil ?_ | refine o_op rfl ?_ | refine r_seq ?_ | refine r_region ?_ | refine r_block ?_ | refine r_skip ?_)
    refine r_cond rfl (fun h => ?_) (fun h => ?_)
    · (repeat' first | refine s_mv rfl ?_ | refine s_as rfl ?_ | refine s_add rfl rfl (by omega) ?_ | refine o_nil ?_ | refine o_op rfl ?_ | refine r_region ?_)
      refine ⟨k + 1, by omega, by omega, ?_⟩
      rw [es, if_pos h]
      exact ale_drop (by repeat' first | exact mem_nil | refine mem_cons rfl ?_) rfl
    · (repeat' first | refine s_mv rfl ?_ | refine s_as rfl ?_ | refine s_add rfl rfl (by omega) ?_ | refine o_nil ?_ | refine o_op rfl ?_ | refine r_region ?_ | refine r_skip ?_)
      refine ⟨k + 1, by omega, by omega, ?_⟩
      rw [es, if_neg (by rw [h]; exact Bool.noConfusion)]
      exact ale_drop (by repeat' first | exact mem_nil | refine mem_cons rfl ?_) rfl
  · have hi : k = (Ord.roots rows).length := by omega
    subst hi
    (repeat' first | refine s_mv rfl ?_ | refine s_as rfl ?_ | refine s_len_sl rfl ?_ | refine o_nil ?_ | refine o_op rfl ?_ | refine r_seq ?_ | refine r_region ?_ | refine r_exit rfl ?_ | refine r_ret ?_)
    exact e_2 (Try.results19) (rv_tmp rfl) (rv_tmp rfl) (c_pure' rfl)
end Go.Proofs
