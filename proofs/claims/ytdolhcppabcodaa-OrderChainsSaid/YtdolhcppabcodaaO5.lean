/-
  The reference's functions of chapter 36: what each hands back.
-/
import Derived.Test.YtdolhcppabcodaaAvC
import Derived.Test.YtdolhcppabcodaaInst
import Derived.Test.YtdolhcppabcodaaO4
namespace Go.Proofs
open Go.Av
set_option linter.unusedSimpArgs false
set_option linter.unusedVariables false
set_option maxRecDepth 10000
set_option maxHeartbeats 4000000
variable {G : Nat → DV}
attribute [local irreducible] OpSem ARun AOps ALex ACalls AEnd AClose RV

theorem roots_c (rows : List (List Int)) (h1 : rows.length ≤ 1048576) (hrow : ∀ r ∈ rows, r.length ≤ 4611686018427387904) : Own Try.prog G 21 [slOf rows] (Ord.roots rows).length (Enc.es Int) (encs (Ord.roots rows)) := fun B => by
  have hf := Ord.firsts_len rows
  refine calls_of_run Try.func21 rfl Try.ntmps21 rfl (t := [(0, slOf rows)]) rfl fun E hE => ?_
  (repeat' first | refine s_mv rfl ?_ | refine s_as rfl ?_ | refine s_call_p rfl rfl ((firsts_c _ (by omega) hrow).read) (by repeat' first | exact clo_sc | exact clo_slOf _ | exact clo_sl (encs_clo _) | exact encs_clo _ | refine clo_fn ?_ ?_ | refine clo_ep ?_ | refine clo_tup ?_ | refine clo_agg ?_ | exact ac_nil | refine ac_cons ?_ ?_) ?_ | refine o_nil ?_ | refine o_op rfl ?_ | refine r_seq ?_ | refine r_region ?_ | refine r_block ?_)
  refine r_own 4 1 rfl fun g0 hg0 => ?_
  refine r_loop (fun ig : Nat × Nat => ⟨[(0, slOf rows), (3, slOf (Ord.firsts rows)), (4, .ref 0 ig.2 0 (Ord.rootsTo rows (Ord.firsts rows) ig.1).length 1), (5, .i ig.1)], [.row ig.2 (encs (Ord.rootsTo rows (Ord.firsts rows) ig.1))]⟩) (fun ig => ig.1 ≤ (Ord.firsts rows).length ∧ E.N < ig.2) (fun ig => (Ord.firsts rows).length - ig.1) (0, g0) ?_ ⟨by omega, hg0⟩ ?_
  · exact ale_drop (by repeat' first | exact mem_nil | refine mem_cons rfl ?_) rfl
  intro ⟨i, g⟩ ⟨hk, hg⟩
  have hlen := Ord.rootsTo_len rows (Ord.firsts rows) i
  dsimp only at hk hg
  (repeat' first | refine s_mv rfl ?_ | refine s_lss rfl rfl ?_ | refine s_len_sl rfl ?_ | refine o_nil ?_ | refine o_op rfl ?_ | refine r_seq ?_ | refine r_region ?_)
  refine r_cond_d rfl (fun h => ?_) (fun h => ?_)
  · have hi : i < (Ord.firsts rows).length := by dsimp only at h; omega
    (repeat' first | refine s_as rfl ?_ | refine o_nil ?_ | refine o_op rfl ?_ | refine r_seq ?_ | refine r_region ?_ | refine r_block ?_ | refine r_skip ?_)
    refine r_loop (fun k : Nat => ⟨[(0, slOf rows), (3, slOf (Ord.firsts rows)), (4, .ref 0 g 0 (Ord.rootsTo rows (Ord.firsts rows) i).length 1), (5, .i i), (6, .b (Ord.rootTo rows (Ord.firsts rows) i k)), (7, .i k)], [.row g (encs (Ord.rootsTo rows (Ord.firsts rows) i))]⟩) (fun k => k ≤ (Ord.firsts rows).length) (fun k => (Ord.firsts rows).length - k) 0 ?_ (by omega) ?_
    · exact ale_drop (by repeat' first | exact mem_nil | refine mem_cons rfl ?_) rfl
    intro k hk'
    (repeat' first | refine s_mv rfl ?_ | refine s_lss rfl rfl ?_ | refine s_len_sl rfl ?_ | refine o_nil ?_ | refine o_op rfl ?_ | refine r_seq ?_ | refine r_region ?_)
    refine r_cond_d rfl (fun h => ?_) (fun h => ?_)
    · have hkl : k < (Ord.firsts rows).length := by omega
      have ek := Ord.getD_lt hkl 0
      have ei := Ord.getD_lt hi 0
      have es := Ord.rootTo_succ rows (Ord.firsts rows) i k
      rw [ek, ei] at es
      (repeat' first | refine s_mv rfl ?_ | refine s_as rfl ?_ | refine s_add rfl rfl (by omega) ?_ | refine o_nil ?_ | refine o_op rfl ?_ | refine r_seq ?_ | refine r_region ?_ | refine r_block ?_ | (refine g_draw ?_; first | refine r_draw0 (by rfl) (by kernel_rfl) (by kernel_rfl) ?_ | refine r_drawq (by kernel_rfl) (by kernel_rfl) ?_) | refine r_skip ?_ | refine x_op rfl (by (repeat' first | refine s_mv rfl ?_ | refine s_as rfl ?_ | refine s_load_ep rfl ?_ | refine s_idx_sln rfl rfl (by first | assumption | omega | (simp; done) | (simp; omega)) ?_ | refine s_eql rfl rfl ?_ | refine s_call_p rfl rfl (below_c _ _ _ (by omega) hrow) (by repeat' first | exact clo_sc | exact clo_slOf _ | exact clo_sl (encs_clo _) | exact encs_clo _ | refine clo_fn ?_ ?_ | refine clo_ep ?_ | refine clo_tup ?_ | refine clo_agg ?_ | exact ac_nil | refine ac_cons ?_ ?_) ?_ | refine s_pt rfl rfl ?_ | refine s_pf rfl rfl ?_ | refine s_not rfl ?_ | exact ⟨rfl, rfl⟩)) ?_ | refine x_gy rfl rfl rfl rfl (by (repeat' first | refine s_mv rfl ?_ | refine s_as rfl ?_ | refine s_load_ep rfl ?_ | refine s_idx_sln rfl rfl (by first | assumption | omega | (simp; done) | (simp; omega)) ?_ | refine s_eql rfl rfl ?_ | refine s_call_p rfl rfl (below_c _ _ _ (by omega) hrow) (by repeat' first | exact clo_sc | exact clo_slOf _ | exact clo_sl (encs_clo _) | exact encs_clo _ | refine clo_fn ?_ ?_ | refine clo_ep ?_ | refine clo_tup ?_ | refine clo_agg ?_ | exact ac_nil | refine ac_cons ?_ ?_) ?_ | refine s_pt rfl rfl ?_ | refine s_pf rfl rfl ?_ | refine s_not rfl ?_ | exact ⟨rfl, rfl⟩)) ?_ | refine x_nil ?_ | refine x_gn rfl rfl rfl rfl ?_ | refine x_gu rfl rfl rfl rfl rfl ?_ | refine x_sp_d rfl rfl (fun _ => ?_) (fun _ => ?_) | refine x_sp rfl rfl (fun _ => ?_) (fun _ => ?_))
      all_goals refine ⟨k + 1, by omega, by omega, ?_⟩
      all_goals rw [es]
      · rename_i hb hd
        rw [hb, decide_eq_true (p := i = k) (by omega)]
        exact ale_drop (by repeat' first | exact mem_nil | refine mem_cons rfl ?_) rfl
      · rename_i hb hd
        rw [hb, decide_eq_false (p := i = k) (by omega), Bool.true_and, Bool.false_or]
        exact ale_drop (by repeat' first | exact mem_nil | refine mem_cons rfl ?_) rfl
      · rename_i hb
        rw [hb]
        exact ale_drop (by repeat' first | exact mem_nil | refine mem_cons rfl ?_) rfl
    · have hkl : k = (Ord.firsts rows).length := by omega
      subst hkl
      (repeat' first | refine s_mv rfl ?_ | refine o_nil ?_ | refine o_op rfl ?_ | refine r_seq ?_ | refine r_region ?_ | refine r_exit rfl ?_)
      refine r_cond rfl (fun h => ?_) (fun h => ?_)
      · (repeat' first | refine s_mv rfl ?_ | refine s_as rfl ?_ | refine s_load_ep rfl ?_ | refine s_idx_sln rfl rfl (by first | assumption | omega | (simp; done) | (simp; omega)) ?_ | refine s_add rfl rfl (by omega) ?_ | refine s_app1 rfl rfl rfl rfl rfl rfl rfl (by first | omega | (simp; omega)) (by first | omega | (simp; omega)) (fun _ => rfl) (fun _ _ => ?_) | refine s_bslice rfl rfl (by decide) rfl ?_ | refine o_nil ?_ | refine o_op rfl ?_ | refine r_region ?_)
        refine ⟨(i + 1, _), ⟨by dsimp only; omega, by assumption⟩, by dsimp only; omega, ?_⟩
        rw [Ord.rootsTo_succ, if_pos h, Ord.getD_lt hi]
        exact ale_drop (by repeat' first | exact mem_nil | refine mem_cons rfl ?_) rfl
      · (repeat' first | refine s_mv rfl ?_ | refine s_as rfl ?_ | refine s_add rfl rfl (by omega) ?_ | refine o_nil ?_ | refine o_op rfl ?_ | refine r_region ?_ | refine r_skip ?_)
        refine ⟨(i + 1, g), ⟨by dsimp only; omega, by assumption⟩, by dsimp only; omega, ?_⟩
        rw [Ord.rootsTo_succ, if_neg (by rw [h]; exact Bool.noConfusion)]
        exact ale_drop (by repeat' first | exact mem_nil | refine mem_cons rfl ?_) rfl
  · have hi : i = (Ord.firsts rows).length := by dsimp only at h; omega
    subst hi
    (repeat' first | refine s_mv rfl ?_ | refine s_as rfl ?_ | refine o_nil ?_ | refine o_op rfl ?_ | refine r_seq ?_ | refine r_region ?_ | refine r_exit rfl ?_ | refine r_ret ?_)
    exact e_1 Try.results21 (rv_tmp rfl) (c_ownedB hE rfl rfl rfl rfl)
end Go.Proofs
