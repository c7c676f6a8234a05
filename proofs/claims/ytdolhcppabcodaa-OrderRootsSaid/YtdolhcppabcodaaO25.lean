/-
  What functions of the program hand back: contracts over abstract values.
-/
import Derived.Test.YtdolhcppabcodaaAvK
import Derived.Test.YtdolhcppabcodaaInst
import Derived.Test.YtdolhcppabcodaaO9
namespace Go.Proofs
open Go.Av
set_option linter.unusedSimpArgs false
set_option linter.unusedVariables false
set_option maxRecDepth 10000
set_option maxHeartbeats 4000000
variable {G : Nat → DV}
attribute [local irreducible] OpSem ARun AOps ALex ACalls AEnd AClose RV

theorem edges_c (rows : List (List Int)) (h1 : rows.length ≤ 1024) (hrow : ∀ r ∈ rows, r.length ≤ 4611686018427387904) : Own Try.prog G 24 [slOf rows] (Ord.edges rows).length (Enc.es (Int × Int)) (encs (Ord.edges rows)) := fun B => by
  have hf := Ord.firsts_len rows
  have hfc := (firsts_c (G := G) rows (by omega) hrow).read
  have hE0 : Ord.edges rows = Ord.rPairs rows (Ord.firsts rows) (Ord.firsts rows).length := rfl
  rw [hE0]
  clear hE0
  generalize Ord.firsts rows = L at hf hfc ⊢
  refine calls_of_run Try.func24 rfl Try.ntmps24 rfl (t := [(0, slOf rows)]) rfl fun E hE => ?_
  (repeat' first | refine s_mv rfl ?_ | refine s_as rfl ?_ | refine s_call_p rfl rfl (hfc) (by repeat' first | exact clo_sc | exact clo_slOf _ | exact clo_sl (encs_clo _) | exact encs_clo _ | refine clo_fn ?_ ?_ | refine clo_ep ?_ | refine clo_tup ?_ | refine clo_agg ?_ | exact ac_nil | refine ac_cons ?_ ?_) ?_ | refine o_nil ?_ | refine o_op rfl ?_ | refine r_seq ?_ | refine r_region ?_ | refine r_block ?_)
  refine r_own 4 2 rfl fun g0 hg0 => ?_
  refine r_loopg (fun (i : Nat) g => ⟨[(0, slOf rows), (3, slOf L), (4, .ref 0 g 0 (Ord.rPairs rows L i).length 2), (5, .i i)], [.row g (encs (Ord.rPairs rows L i))]⟩) (fun i => i ≤ L.length) (fun i => L.length - i) 0 g0 hg0 ?_ (by omega) ?_
  · exact ale_drop (by repeat' first | exact mem_nil | refine mem_cons rfl ?_) rfl
  intro i g hi hg
  have hpl := Ord.rPairs_len rows L i
  have hpl' := Nat.le_trans hpl (Nat.mul_le_mul (show i ≤ 1024 by omega) (show L.length ≤ 1024 by omega))
  clear hpl
  (repeat' first | refine s_mv rfl ?_ | refine s_lss rfl rfl ?_ | refine s_len_sl rfl ?_ | refine o_nil ?_ | refine o_op rfl ?_ | refine r_seq ?_ | refine r_region ?_)
  refine r_cond_d rfl (fun h => ?_) (fun h => ?_)
  · have hi' : i < L.length := by omega
    have ei := Ord.getD_lt hi' 0
    have es := Ord.rPairs_succ rows L i
    (repeat' first | refine s_as rfl ?_ | refine o_nil ?_ | refine o_op rfl ?_ | refine r_seq ?_ | refine r_region ?_ | refine r_block ?_ | refine r_skip ?_)
    refine r_loopg (fun (k : Nat) g => ⟨[(0, slOf rows), (3, slOf L), (4, .ref 0 g 0 (Ord.rPairs rows L i ++ Ord.rRow rows L i k).length 2), (5, .i i), (6, .i k)], [.row g (encs (Ord.rPairs rows L i ++ Ord.rRow rows L i k))]⟩) (fun k => k ≤ L.length) (fun k => L.length - k) 0 g hg ?_ (by omega) ?_
    · rw [show Ord.rRow rows L i 0 = [] from rfl, List.append_nil]
      exact ale_drop (by repeat' first | exact mem_nil | refine mem_cons rfl ?_) rfl
    intro k g' hk hg'
    have hpk := Ord.rRow_len rows L i k
    have hpl2 : (Ord.rPairs rows L i ++ Ord.rRow rows L i k).length ≤ 2097152 := by rw [List.length_append]; omega
    generalize hP : Ord.rPairs rows L i ++ Ord.rRow rows L i k = P at hg' hpl2 ⊢
    (repeat' first | refine s_mv rfl ?_ | refine s_lss rfl rfl ?_ | refine s_len_sl rfl ?_ | refine o_nil ?_ | refine o_op rfl ?_ | refine r_seq ?_ | refine r_region ?_)
    refine r_cond_d rfl (fun h => ?_) (fun h => ?_)
    · have hk' : k < L.length := by omega
      have ek := Ord.getD_lt hk' 0
      have ekk := Ord.rRow_succ rows L i k
      rw [ei, ek] at ekk
      (repeat' first | refine s_as rfl ?_ | refine o_nil ?_ | refine o_op rfl ?_ | refine r_seq ?_ | refine r_region ?_ | refine r_block ?_ | (refine g_draw ?_; first | refine r_draw0 (by rfl) (by kernel_rfl) (by kernel_rfl) ?_ | refine r_drawq (by kernel_rfl) (by kernel_rfl) ?_) | refine r_skip ?_ | refine x_op rfl (by (repeat' first | refine s_mv rfl ?_ | refine s_as rfl ?_ | refine s_load_ep rfl ?_ | refine s_idx_sln rfl rfl (by first | assumption | omega | (simp; done) | (simp; omega)) ?_ | refine s_neq rfl rfl ?_ | refine s_call_p rfl rfl (below_c _ _ _ (by omega) hrow) (by repeat' first | exact clo_sc | exact clo_slOf _ | exact clo_sl (encs_clo _) | exact encs_clo _ | refine clo_fn ?_ ?_ | refine clo_ep ?_ | refine clo_tup ?_ | refine clo_agg ?_ | exact ac_nil | refine ac_cons ?_ ?_) ?_ | refine s_pt rfl rfl ?_ | refine s_pf rfl rfl ?_ | exact ⟨rfl, rfl⟩)) ?_ | refine x_gy rfl rfl rfl rfl (by (repeat' first | refine s_mv rfl ?_ | refine s_as rfl ?_ | refine s_load_ep rfl ?_ | refine s_idx_sln rfl rfl (by first | assumption | omega | (simp; done) | (simp; omega)) ?_ | refine s_neq rfl rfl ?_ | refine s_call_p rfl rfl (below_c _ _ _ (by omega) hrow) (by repeat' first | exact clo_sc | exact clo_slOf _ | exact clo_sl (encs_clo _) | exact encs_clo _ | refine clo_fn ?_ ?_ | refine clo_ep ?_ | refine clo_tup ?_ | refine clo_agg ?_ | exact ac_nil | refine ac_cons ?_ ?_) ?_ | refine s_pt rfl rfl ?_ | refine s_pf rfl rfl ?_ | exact ⟨rfl, rfl⟩)) ?_ | refine x_nil ?_ | refine x_gn rfl rfl rfl rfl ?_ | refine x_sp_d rfl rfl (fun _ => ?_) (fun _ => ?_))
      all_goals
        refine r_loop (fun (j : Nat) => ⟨[(0, slOf rows), (3, slOf L), (4, .ref 0 g' 0 P.length 2), (5, .i i), (6, .i k), (7, .b (Ord.dirTo rows L i k j)), (8, .i j)], [.row g' (encs P)]⟩) (fun j => j ≤ L.length) (fun j => L.length - j) 0 ?_ (by omega) ?_
        rotate_left
        · intro j hj
          (repeat' first | refine s_mv rfl ?_ | refine s_lss rfl rfl ?_ | refine s_len_sl rfl ?_ | refine o_nil ?_ | refine o_op rfl ?_ | refine r_seq ?_ | refine r_region ?_)
          refine r_cond_d rfl (fun h => ?_) (fun h => ?_)
          · have hj' : j < L.length := by omega
            have ej := Ord.getD_lt hj' 0
            have q1 : Ord.below rows L[i] L[j] = false → Ord.dirTo rows L i k (j + 1) = Ord.dirTo rows L i k j := fun h => Ord.dirTo_no (Ord.viaB_3 (by rw [ei, ej]; exact h))
            have q2 : Ord.below rows L[j] L[k] = false → Ord.dirTo rows L i k (j + 1) = Ord.dirTo rows L i k j := fun h => Ord.dirTo_no (Ord.viaB_4 (by rw [ek, ej]; exact h))
            have q3 : j ≠ i → j ≠ k → Ord.below rows L[i] L[j] = true → Ord.below rows L[j] L[k] = true → Ord.dirTo rows L i k (j + 1) = false := fun h1 h2 h3 h4 => Ord.dirTo_yes (Ord.viaB_5 h1 h2 (by rw [ei, ej]; exact h3) (by rw [ek, ej]; exact h4))
            (repeat' first | refine s_mv rfl ?_ | refine s_as rfl ?_ | refine s_add rfl rfl (by omega) ?_ | refine o_nil ?_ | refine o_op rfl ?_ | refine r_seq ?_ | refine r_region ?_ | refine r_block ?_ | (refine g_draw ?_; first | refine r_draw0 (by rfl) (by kernel_rfl) (by kernel_rfl) ?_ | refine r_drawq (by kernel_rfl) (by kernel_rfl) ?_) | refine r_skip ?_ | refine r_cond_f rfl ?_ | refine x_op rfl (by (repeat' first | refine s_mv rfl ?_ | refine s_load_ep rfl ?_ | refine s_idx_sln rfl rfl (by first | assumption | omega | (simp; done) | (simp; omega)) ?_ | refine s_neq rfl rfl ?_ | refine s_call_p rfl rfl (below_c _ _ _ (by omega) hrow) (by repeat' first | exact clo_sc | exact clo_slOf _ | exact clo_sl (encs_clo _) | exact encs_clo _ | refine clo_fn ?_ ?_ | refine clo_ep ?_ | refine clo_tup ?_ | refine clo_agg ?_ | exact ac_nil | refine ac_cons ?_ ?_) ?_ | refine s_pt rfl rfl ?_ | refine s_pf rfl rfl ?_ | exact ⟨rfl, rfl⟩)) ?_ | refine x_gy rfl rfl rfl rfl (by (repeat' first | refine s_mv rfl ?_ | refine s_load_ep rfl ?_ | refine s_idx_sln rfl rfl (by first | assumption | omega | (simp; done) | (simp; omega)) ?_ | refine s_neq rfl rfl ?_ | refine s_call_p rfl rfl (below_c _ _ _ (by omega) hrow) (by repeat' first | exact clo_sc | exact clo_slOf _ | exact clo_sl (encs_clo _) | exact encs_clo _ | refine clo_fn ?_ ?_ | refine clo_ep ?_ | refine clo_tup ?_ | refine clo_agg ?_ | exact ac_nil | refine ac_cons ?_ ?_) ?_ | refine s_pt rfl rfl ?_ | refine s_pf rfl rfl ?_ | exact ⟨rfl, rfl⟩)) ?_ | refine x_nil ?_ | refine x_gn rfl rfl rfl rfl ?_ | refine x_sp_t rfl rfl (by omega) ?_ | refine x_sp_d rfl rfl (fun _ => ?_) (fun _ => ?_) | refine x_sp rfl rfl (fun _ => ?_) (fun _ => ?_))
            all_goals try refine r_cond rfl (fun hb => ?_) (fun hb => ?_)
            all_goals (repeat' first | refine s_mv rfl ?_ | refine s_as rfl ?_ | refine s_add rfl rfl (by omega) ?_ | refine o_nil ?_ | refine o_op rfl ?_ | refine r_region ?_ | refine r_skip ?_)
            all_goals refine ⟨j + 1, by omega, by omega, ?_⟩
            · rw [q3 (by omega) (by omega) (by assumption) (by assumption)]
              exact ale_drop (by repeat' first | exact mem_nil | refine mem_cons rfl ?_) rfl
            · rw [q2 (by assumption)]
              exact ale_drop (by repeat' first | exact mem_nil | refine mem_cons rfl ?_) rfl
            · rw [q1 (by assumption)]
              exact ale_drop (by repeat' first | exact mem_nil | refine mem_cons rfl ?_) rfl
            · rw [Ord.dirTo_no (Ord.viaB_2 (by omega))]
              exact ale_drop (by repeat' first | exact mem_nil | refine mem_cons rfl ?_) rfl
            all_goals
              rw [Ord.dirTo_no (Ord.viaB_1 (by omega))]
              exact ale_drop (by repeat' first | exact mem_nil | refine mem_cons rfl ?_) rfl
          · have hj' : j = L.length := by omega
            subst hj'
            (repeat' first | refine s_mv rfl ?_ | refine o_nil ?_ | refine o_op rfl ?_ | refine r_seq ?_ | refine r_region ?_ | refine r_exit rfl ?_)
            refine r_cond rfl (fun hb => ?_) (fun hb => ?_)
            · (repeat' first | refine s_mv rfl ?_ | refine s_as rfl ?_ | refine s_add rfl rfl (by omega) ?_ | refine s_app1 (z := Prod.mk _ _) rfl rfl rfl rfl rfl rfl rfl (by first | omega | (simp; omega)) (by first | omega | (simp; omega)) (fun _ => rfl) (fun _ _ => ?_) | refine o_nil ?_ | refine o_op rfl ?_ | refine r_region ?_ | (refine g_draw ?_; first | refine r_draw0 (by rfl) (by kernel_rfl) (by kernel_rfl) ?_ | refine r_drawq (by kernel_rfl) (by kernel_rfl) ?_) | refine x_op rfl (by (repeat' first | refine s_mv rfl ?_ | refine s_load_ep rfl ?_ | refine s_idx_sln rfl rfl (by first | assumption | omega | (simp; done) | (simp; omega)) ?_ | refine s_build_a rfl rfl ?_ | refine s_bslice rfl rfl (by decide) rfl ?_ | exact ⟨rfl, rfl⟩)) ?_ | refine x_nil ?_)
              refine ⟨k + 1, _, by omega, by assumption, by omega, ?_⟩
              rw [ekk, if_pos hb, ← List.append_assoc, hP]
              exact ale_drop (by repeat' first | exact mem_nil | refine mem_cons rfl ?_) rfl
            · (repeat' first | refine s_mv rfl ?_ | refine s_as rfl ?_ | refine s_add rfl rfl (by omega) ?_ | refine o_nil ?_ | refine o_op rfl ?_ | refine r_region ?_ | refine r_skip ?_)
              refine ⟨k + 1, g', by omega, hg', by omega, ?_⟩
              rw [ekk, if_neg (by rw [hb]; exact Bool.noConfusion), hP]
              exact ale_drop (by repeat' first | exact mem_nil | refine mem_cons rfl ?_) rfl
        · have e0 : Ord.dirTo rows L i k 0 = (decide (i ≠ k) && Ord.below rows L[i] L[k]) := by rw [Ord.dirTo, ei, ek]; simp
          rw [e0]
          first
          | rw [decide_eq_true (p := i ≠ k) (by omega), Bool.true_and]
            exact ale_drop (by repeat' first | exact mem_nil | refine mem_cons rfl ?_) rfl
          | rw [decide_eq_false (p := i ≠ k) (by omega), Bool.false_and]
            exact ale_drop (by repeat' first | exact mem_nil | refine mem_cons rfl ?_) rfl
    · have hk' : k = L.length := by omega
      subst hk'
      (repeat' first | refine s_mv rfl ?_ | refine s_as rfl ?_ | refine s_add rfl rfl (by omega) ?_ | refine o_nil ?_ | refine o_op rfl ?_ | refine r_region ?_ | refine r_exit rfl ?_)
      refine ⟨i + 1, g', by omega, hg', by omega, ?_⟩
      rw [es, hP]
      exact ale_drop (by repeat' first | exact mem_nil | refine mem_cons rfl ?_) rfl
  · have hi' : i = L.length := by omega
    subst hi'
    (repeat' first | refine s_mv rfl ?_ | refine s_as rfl ?_ | refine o_nil ?_ | refine o_op rfl ?_ | refine r_seq ?_ | refine r_region ?_ | refine r_exit rfl ?_ | refine r_ret ?_)
    exact e_1 Try.results24 (rv_tmp rfl) (c_ownedB hE rfl rfl rfl rfl)

end Go.Proofs
