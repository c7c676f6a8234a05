/-
  What functions of the program hand back: contracts over abstract values.
-/
import Derived.Test.YtdolhcppabcodaaAvK
import Derived.Test.YtdolhcppabcodaaInst
import Derived.Test.YtdolhcppabcodaaO22
namespace Go.Proofs
open Go.Av
set_option linter.unusedSimpArgs false
set_option linter.unusedVariables false
set_option maxRecDepth 10000
set_option maxHeartbeats 4000000
variable {G : Nat → DV}
attribute [local irreducible] OpSem ARun AOps ALex ACalls AEnd AClose RV

theorem oScore1_c (tests : List Int) (t : Int) (hl : tests.length ≤ 1048576) : Go.Av.Pure Try.prog G 34 [.i t, .ep [slOf tests]] (.b (tests.contains t)) := fun B => by
  have hk1 := containsI_c (G := G) tests t (by omega)
  refine calls_of_run Try.func34 rfl Try.ntmps34 rfl (t := [(0, .i t), (1, .ep [slOf tests])]) rfl fun E hE => ?_
  (repeat' first | refine s_mv rfl ?_ | refine s_as rfl ?_ | refine s_load_ep rfl ?_ | refine s_call_p rfl rfl (hk1) (by repeat' first | exact clo_sc | exact clo_slOf _ | exact clo_sl (encs_clo _) | exact encs_clo _ | refine clo_fn ?_ ?_ | refine clo_ep ?_ | refine clo_tup ?_ | refine clo_agg ?_ | exact ac_nil | refine ac_cons ?_ ?_) ?_ | refine o_nil ?_ | refine o_op rfl ?_ | refine r_seq ?_ | refine r_region ?_ | refine r_ret ?_)
  refine e_1 Try.results34 (rv_tmp rfl) (c_pure' ?_)
  rfl

theorem oScore_c (rows : List (List Int)) (tests : List Int) (hr : Ord.Small rows) (ht : tests.length ≤ 1048576) : Go.Av.Pure Try.prog G 18 [matD rows, slOf tests] (.tup [.i (Ord.pScoreTo rows tests (Ord.pRoots rows).length), .i (Ord.pRoots rows).length]) := fun B => by
  have hn := hr.n
  have hkl : (rows.map Ord.KRow.mk).length = rows.length := by simp
  have hk1 := oRoots_c (G := G) rows hr
  have hrl := Ord.pRoots_len rows
  refine calls_of_run Try.func18 rfl Try.ntmps18 rfl (t := [(0, matD rows), (1, slOf tests)]) rfl fun E hE => ?_
  (repeat' first | refine s_mv rfl ?_ | refine s_as rfl ?_ | refine s_load_rowa rfl rfl (by rfl) (by rfl) ?_ | refine s_len_sl rfl ?_ | refine s_call_p rfl rfl (hk1) (by repeat' first | exact clo_sc | exact clo_slOf _ | exact clo_sl (encs_clo _) | exact encs_clo _ | refine clo_fn ?_ ?_ | refine clo_ep ?_ | refine clo_tup ?_ | refine clo_agg ?_ | exact ac_nil | refine ac_cons ?_ ?_) ?_ | refine s_box rfl rfl (fun _ _ => ?_) | refine o_nil ?_ | refine o_op rfl ?_ | refine r_seq ?_ | refine r_region ?_ | refine r_block ?_)
  rename_i gm _ gt _
  refine r_pubptr 3 rfl rfl rfl ?_
  refine r_loop (fun (k : Nat) => ⟨[(2, .ptr 0 gm 0), (3, .ep [slOf tests]), (6, slOf (Ord.pRoots rows)), (7, .i (Ord.pScoreTo rows tests k)), (12, slOf (Ord.pRoots rows)), (13, .i (Ord.pRoots rows).length), (14, .i k)], [.row gm [slOf (rows.map Ord.KRow.mk)]]⟩) (fun k => k ≤ (Ord.pRoots rows).length) (fun k => (Ord.pRoots rows).length - k) 0 ?_ (by omega) ?_
  · exact ale_drop (by repeat' first | exact mem_nil | refine mem_cons rfl ?_) rfl
  intro k hk
  have hsl := Ord.pScoreTo_le rows tests k
  (repeat' first | refine s_lss rfl rfl ?_ | refine o_nil ?_ | refine o_op rfl ?_ | refine r_seq ?_ | refine r_region ?_)
  refine r_cond_d rfl (fun h => ?_) (fun h => ?_)
  · have hk' : k < (Ord.pRoots rows).length := by omega
    have hm := Ord.pRoots_mem (List.getElem_mem hk')
    have hrr : ((Ord.pRoots rows)[k]).toNat < rows.length := by omega
    have h3 := hr.r _ (List.getElem_mem hrr)
    have es := Ord.pScoreTo_succ (rows := rows) (tests := tests) hk'
    rw [Ord.getD_lt hrr] at es
    have hk2 := containsFuncI_c (G := G) rows[((Ord.pRoots rows)[k]).toNat] 34 [] [.ep [slOf tests]] (fun t => tests.contains t) (by omega) (fun t _ => oScore1_c tests t ht)
    have hk2 : Go.Av.Pure Try.prog G 33 [slOf ((rows.map Ord.KRow.mk)[((Ord.pRoots rows)[k]).toNat]'(by omega)).kills, .fn (.func 34) [] [.ep [slOf tests]]] (.b (rows[((Ord.pRoots rows)[k]).toNat].any fun t => tests.contains t)) := by rw [List.getElem_map]; exact hk2
    (repeat' first | refine s_mv rfl ?_ | refine s_as rfl ?_ | refine s_load_ep rfl ?_ | refine s_load_row rfl rfl rfl ?_ | refine s_idx_sln rfl rfl (by first | assumption | omega | (simp; done) | (simp; omega)) ?_ | refine s_idx_sl rfl rfl (by omega) (by first | assumption | omega | (simp; done) | (simp; omega)) ?_ | refine s_call_p rfl rfl (hk2) (by repeat' first | exact clo_sc | exact clo_slOf _ | exact clo_sl (encs_clo _) | exact encs_clo _ | refine clo_fn ?_ ?_ | refine clo_ep ?_ | refine clo_tup ?_ | refine clo_agg ?_ | exact ac_nil | refine ac_cons ?_ ?_) ?_ | refine s_fld_ptr rfl rfl ?_ | refine s_fld_ep rfl rfl ?_ | refine s_makeFunc rfl rfl ?_ | refine o_nil ?_ | refine o_op rfl ?_ | refine r_seq ?_ | refine r_region ?_ | refine r_block ?_ | refine r_skip ?_)
    refine r_cond rfl (fun hb => ?_) (fun hb => ?_)
    · (repeat' first | refine s_mv rfl ?_ | refine s_as rfl ?_ | refine s_add rfl rfl (by omega) ?_ | refine o_nil ?_ | refine o_op rfl ?_ | refine r_region ?_)
      refine ⟨k + 1, by omega, by omega, ?_⟩
      rw [es, if_pos hb]
      exact ale_drop (by repeat' first | exact mem_nil | refine mem_cons rfl ?_) rfl
    · (repeat' first | refine s_mv rfl ?_ | refine s_add rfl rfl (by omega) ?_ | refine o_nil ?_ | refine o_op rfl ?_ | refine r_region ?_ | refine r_skip ?_)
      refine ⟨k + 1, by omega, by omega, ?_⟩
      rw [es, if_neg (by rw [hb]; exact Bool.noConfusion)]
      exact ale_drop (by repeat' first | exact mem_nil | refine mem_cons rfl ?_) rfl
  · have hk' : k = (Ord.pRoots rows).length := by omega
    subst hk'
    (repeat' first | refine s_mv rfl ?_ | refine s_as rfl ?_ | refine s_len_sl rfl ?_ | refine o_nil ?_ | refine o_op rfl ?_ | refine r_seq ?_ | refine r_region ?_ | refine r_exit rfl ?_ | refine r_ret ?_)
    exact e_2 (Try.results18) (rv_tmp rfl) (rv_tmp rfl) (c_pure' rfl)

end Go.Proofs
