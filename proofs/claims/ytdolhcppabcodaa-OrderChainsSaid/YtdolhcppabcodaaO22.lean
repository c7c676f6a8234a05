/-
  What functions of the program hand back: contracts over abstract values.
-/
import Derived.Test.YtdolhcppabcodaaAvK
import Derived.Test.YtdolhcppabcodaaInst
import Derived.Test.YtdolhcppabcodaaO21
namespace Go.Proofs
open Go.Av
set_option linter.unusedSimpArgs false
set_option linter.unusedVariables false
set_option maxRecDepth 10000
set_option maxHeartbeats 4000000
variable {G : Nat → DV}
attribute [local irreducible] OpSem ARun AOps ALex ACalls AEnd AClose RV

theorem oEdges_c (rows : List (List Int)) (hr : Ord.Small rows) : Go.Av.Pure Try.prog G 23 [matD rows] (slOf (Ord.pEdges rows)) := fun B => by
  have hn := hr.n
  have hfl := Ord.pFirsts_len rows
  have hk1 := of_s (G := G) rows hr
  have hk2 := firsts_s (G := G) rows hr
  refine calls_of_run Try.func23 rfl Try.ntmps23 rfl (t := [(0, matD rows)]) rfl fun E hE => ?_
  (repeat' first | refine s_mv rfl ?_ | refine s_as rfl ?_ | refine s_load_row rfl rfl rfl ?_ | refine s_load_rowa rfl rfl (by rfl) (by rfl) ?_ | refine s_len_sl rfl ?_ | refine s_call_p rfl rfl (hk1) (by repeat' first | exact clo_sc | exact clo_slOf _ | exact clo_sl (encs_clo _) | exact encs_clo _ | refine clo_fn ?_ ?_ | refine clo_ep ?_ | refine clo_tup ?_ | refine clo_agg ?_ | exact ac_nil | refine ac_cons ?_ ?_) ?_ | refine s_call_p rfl rfl (hk2) (by repeat' first | exact clo_sc | exact clo_slOf _ | exact clo_sl (encs_clo _) | exact encs_clo _ | refine clo_fn ?_ ?_ | refine clo_ep ?_ | refine clo_tup ?_ | refine clo_agg ?_ | exact ac_nil | refine ac_cons ?_ ?_) ?_ | refine s_store rfl rfl rfl rfl (by rfl) (by rfl) (by rfl) ?_ | refine s_makeFunc rfl rfl ?_ | refine s_alloc (fun _ _ => ?_) | refine s_box rfl rfl (fun _ _ => ?_) | refine o_nil ?_ | (refine g_mkf ?_; first | refine o_mk0 rfl rfl (by rfl) ?_ | refine o_mk1 rfl rfl (by rfl) ?_ | refine o_mk2 rfl rfl (by rfl) ?_ | refine o_mk3 rfl rfl (by rfl) ?_) | refine o_op rfl ?_ | refine o_op0 ?_ | refine r_seq ?_ | refine r_region ?_ | refine r_block ?_)
  refine r_pubptr 5 rfl rfl rfl ?_
  refine r_own 6 2 rfl fun g0 hg0 => ?_
  rename_i gm _ _ _ _ _
  refine r_loopg (fun (i : Nat) g => ⟨[(4, slOf (Ord.pFirsts rows)), (5, .ep [underD rows]), (16, slOf (Ord.pFirsts rows)), (17, .i (Ord.pFirsts rows).length), (18, .i i), (6, .ref 3 g 0 (Ord.pairs (Ord.pDirect rows) (Ord.pFirsts rows) i).length 2)], [.row gm [slOf (rows.map Ord.KRow.mk)], .gone, .gone, .row g (encs (Ord.pairs (Ord.pDirect rows) (Ord.pFirsts rows) i))]⟩) (fun i => i ≤ (Ord.pFirsts rows).length) (fun i => (Ord.pFirsts rows).length - i) 0 g0 hg0 ?_ (by omega) ?_
  · exact ale_drop (by repeat' first | exact mem_nil | refine mem_cons rfl ?_) rfl
  intro i g hi hg
  have hpl := Ord.pairs_len (Ord.pDirect rows) (Ord.pFirsts rows) i
  have hpl' := Nat.le_trans hpl (Nat.mul_le_mul (show i ≤ 1024 by omega) (show (Ord.pFirsts rows).length ≤ 1024 by omega))
  clear hpl
  (repeat' first | refine s_lss rfl rfl ?_ | refine o_nil ?_ | refine o_op rfl ?_ | refine r_seq ?_ | refine r_region ?_)
  refine r_cond_d rfl (fun h => ?_) (fun h => ?_)
  · have hi' : i < (Ord.pFirsts rows).length := by omega
    have ha := Ord.pFirsts_mem (List.getElem_mem hi')
    have es := Ord.pairs_succ (p := Ord.pDirect rows) hi'
    (repeat' first | refine s_mv rfl ?_ | refine s_load_ep rfl ?_ | refine s_idx_sln rfl rfl (by first | assumption | omega | (simp; done) | (simp; omega)) ?_ | refine s_len_sl rfl ?_ | refine s_store rfl rfl rfl rfl (by rfl) (by rfl) (by rfl) ?_ | refine s_alloc (fun _ _ => ?_) | refine o_nil ?_ | refine o_op rfl ?_ | refine o_op0 ?_ | refine r_seq ?_ | refine r_region ?_ | refine r_block ?_ | refine r_skip ?_)
    refine r_pubptr 8 rfl rfl rfl ?_
    refine r_loopg (fun (k : Nat) g => ⟨[(4, slOf (Ord.pFirsts rows)), (5, .ep [underD rows]), (16, slOf (Ord.pFirsts rows)), (17, .i (Ord.pFirsts rows).length), (18, .i i), (8, .ep [.i (Ord.pFirsts rows)[i]]), (22, slOf (Ord.pFirsts rows)), (23, .i (Ord.pFirsts rows).length), (24, .i k), (6, .ref 3 g 0 (Ord.pairs (Ord.pDirect rows) (Ord.pFirsts rows) i ++ Ord.pairsTo (Ord.pDirect rows) (Ord.pFirsts rows)[i] (Ord.pFirsts rows) k).length 2)], [.row gm [slOf (rows.map Ord.KRow.mk)], .gone, .gone, .row g (encs (Ord.pairs (Ord.pDirect rows) (Ord.pFirsts rows) i ++ Ord.pairsTo (Ord.pDirect rows) (Ord.pFirsts rows)[i] (Ord.pFirsts rows) k))]⟩) (fun k => k ≤ (Ord.pFirsts rows).length) (fun k => (Ord.pFirsts rows).length - k) 0 g hg ?_ (by omega) ?_
    · rw [show Ord.pairsTo (Ord.pDirect rows) (Ord.pFirsts rows)[i] (Ord.pFirsts rows) 0 = [] from rfl, List.append_nil]
      exact ale_drop (by repeat' first | exact mem_nil | refine mem_cons rfl ?_) rfl
    intro k g' hk hg'
    have hpk := Ord.pairsTo_len (Ord.pDirect rows) (Ord.pFirsts rows)[i] (Ord.pFirsts rows) k
    (repeat' first | refine s_lss rfl rfl ?_ | refine o_nil ?_ | refine o_op rfl ?_ | refine r_seq ?_ | refine r_region ?_)
    refine r_cond_d rfl (fun h => ?_) (fun h => ?_)
    · have hk' : k < (Ord.pFirsts rows).length := by omega
      have hb := Ord.pFirsts_mem (List.getElem_mem hk')
      have ek := Ord.pairsTo_succ (p := Ord.pDirect rows) (a := (Ord.pFirsts rows)[i]) hk'
      have hf1 := oEdges1_c (G := G) rows hr (Ord.pFirsts rows)[i] (Ord.pFirsts rows)[k] ha.1 ha.2 hb.1 hb.2
      have hk3 := containsFuncI_c (G := G) (Ord.pFirsts rows) 43 [] [.ep [underD rows], .ep [.i (Ord.pFirsts rows)[i]], .ep [.i (Ord.pFirsts rows)[k]]] (fun c => Ord.pUnder rows (Ord.pFirsts rows)[i] c && Ord.pUnder rows c (Ord.pFirsts rows)[k]) (by omega) (fun c hc => oEdges2_c rows hr _ _ c ha.1 ha.2 hb.1 hb.2 (Ord.pFirsts_mem hc).1 (Ord.pFirsts_mem hc).2)
      have hd : Ord.pDirect rows (Ord.pFirsts rows)[i] (Ord.pFirsts rows)[k] = (Ord.pUnder rows (Ord.pFirsts rows)[i] (Ord.pFirsts rows)[k] && !((Ord.pFirsts rows).any fun c => Ord.pUnder rows (Ord.pFirsts rows)[i] c && Ord.pUnder rows c (Ord.pFirsts rows)[k])) := rfl
      rw [hd] at ek
      (repeat' first | refine s_mv rfl ?_ | refine s_load_ep rfl ?_ | refine s_load_row rfl rfl rfl ?_ | refine s_idx_sln rfl rfl (by first | assumption | omega | (simp; done) | (simp; omega)) ?_ | refine s_add rfl rfl (by omega) ?_ | refine s_callv_q rfl (hf1) (by repeat' first | exact clo_sc | exact clo_slOf _ | exact clo_sl (encs_clo _) | exact encs_clo _ | refine clo_fn ?_ ?_ | refine clo_ep ?_ | refine clo_tup ?_ | refine clo_agg ?_ | exact ac_nil | refine ac_cons ?_ ?_) ?_ | refine s_call_p rfl rfl (hk3) (by repeat' first | exact clo_sc | exact clo_slOf _ | exact clo_sl (encs_clo _) | exact encs_clo _ | refine clo_fn ?_ ?_ | refine clo_ep ?_ | refine clo_tup ?_ | refine clo_agg ?_ | exact ac_nil | refine ac_cons ?_ ?_) ?_ | refine s_pt rfl rfl ?_ | refine s_pf rfl rfl ?_ | refine s_not rfl ?_ | refine s_store rfl rfl rfl rfl (by rfl) (by rfl) (by rfl) ?_ | refine s_makeFunc rfl rfl ?_ | refine s_alloc (fun _ _ => ?_) | refine o_nil ?_ | (refine g_mkf ?_; first | refine o_mk0 rfl rfl (by rfl) ?_ | refine o_mk1 rfl rfl (by rfl) ?_ | refine o_mk2 rfl rfl (by rfl) ?_ | refine o_mk3 rfl rfl (by rfl) ?_) | refine o_op rfl ?_ | refine o_op0 ?_ | refine o_gy rfl rfl rfl rfl ?_ | refine o_gn rfl rfl rfl rfl ?_ | refine o_sp rfl rfl (fun _ => ?_) (fun _ => ?_) | refine r_seq ?_ | refine r_region ?_ | refine r_block ?_ | refine r_skip ?_ | refine r_cond_f rfl ?_)
      · rename_i hu
        rw [hu, Bool.true_and] at ek
        refine r_cond rfl (fun hb => ?_) (fun hb => ?_)
        · (repeat' first | refine s_mv rfl ?_ | refine s_as rfl ?_ | refine s_load_ep rfl ?_ | refine s_add rfl rfl (by omega) ?_ | refine s_app1 (z := Prod.mk _ _) rfl rfl rfl rfl rfl rfl rfl (by first | omega | (simp; omega)) (by first | omega | (simp; omega)) (fun _ => rfl) (fun _ _ => ?_) | refine s_build_a rfl rfl ?_ | refine s_bslice rfl rfl (by decide) rfl ?_ | refine o_nil ?_ | refine o_op rfl ?_ | refine r_region ?_)
          refine ⟨k + 1, _, by omega, by assumption, by omega, ?_⟩
          rw [ek, if_pos hb, ← List.append_assoc]
          exact ale_drop (by repeat' first | exact mem_nil | refine mem_cons rfl ?_) rfl
        · (repeat' first | refine s_mv rfl ?_ | refine s_add rfl rfl (by omega) ?_ | refine o_nil ?_ | refine o_op rfl ?_ | refine r_region ?_ | refine r_skip ?_)
          refine ⟨k + 1, g', by omega, hg', by omega, ?_⟩
          rw [ek, if_neg (by rw [hb]; exact Bool.noConfusion)]
          exact ale_drop (by repeat' first | exact mem_nil | refine mem_cons rfl ?_) rfl
      · rename_i hu
        rw [hu, Bool.false_and, if_neg Bool.noConfusion] at ek
        refine ⟨k + 1, g', by omega, hg', by omega, ?_⟩
        rw [ek]
        exact ale_drop (by repeat' first | exact mem_nil | refine mem_cons rfl ?_) rfl
    · have hk' : k = (Ord.pFirsts rows).length := by omega
      subst hk'
      (repeat' first | refine s_mv rfl ?_ | refine s_add rfl rfl (by omega) ?_ | refine o_nil ?_ | refine o_op rfl ?_ | refine r_region ?_ | refine r_exit rfl ?_)
      refine ⟨i + 1, g', by omega, hg', by omega, ?_⟩
      rw [es]
      exact ale_drop (by repeat' first | exact mem_nil | refine mem_cons rfl ?_) rfl
  · have hi' : i = (Ord.pFirsts rows).length := by omega
    subst hi'
    (repeat' first | refine s_mv rfl ?_ | refine s_as rfl ?_ | refine o_nil ?_ | refine o_op rfl ?_ | refine r_seq ?_ | refine r_region ?_ | refine r_exit rfl ?_ | refine r_ret ?_)
    refine e_1 (Try.results23) (rv_tmp rfl) (c_pub rfl (encs_len _).symm (c_pure' rfl))

end Go.Proofs
