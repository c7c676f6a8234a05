/-
  What functions of the program hand back: contracts over abstract values.
-/
import Derived.Test.YtdolhcppabcodaaAvK
import Derived.Test.YtdolhcppabcodaaInst
import Derived.Test.YtdolhcppabcodaaO13
namespace Go.Proofs
open Go.Av
set_option linter.unusedSimpArgs false
set_option linter.unusedVariables false
set_option maxRecDepth 10000
set_option maxHeartbeats 4000000
variable {G : Nat → DV}
attribute [local irreducible] OpSem ARun AOps ALex ACalls AEnd AClose RV

theorem oclasses_c (ms : List Nat) (hms : ms.length ≤ 1048576) : Own Try.prog G 32 [setsD ms] (Ord.mClasses ms).length (Enc.es Int) (encs (Ord.mClasses ms)) := fun B => by
  have hl := Ord.setsOf_len ms
  have hlc : ∀ l ∈ Ord.setsOf ms, l.length ≤ 1048576 := fun l hl => by
    obtain ⟨j, hj, rfl⟩ := List.getElem_of_mem hl
    rw [Ord.setsOf_at hj]; simp
  refine calls_of_run Try.func32 rfl Try.ntmps32 rfl (t := [(0, setsD ms)]) rfl fun E hE => ?_
  (repeat' first | refine s_mv rfl ?_ | refine s_as rfl ?_ | refine s_load_row rfl rfl rfl ?_ | refine s_len_sl rfl ?_ | refine s_box rfl rfl (fun _ _ => ?_) | refine o_nil ?_ | refine o_op rfl ?_ | refine r_seq ?_ | refine r_region ?_ | refine r_block ?_)
  refine r_pubptr 1 rfl rfl rfl ?_
  refine r_own 3 1 rfl fun g0 hg0 => ?_
  refine r_loopg (fun (i : Nat) g => ⟨[(0, setsD ms), (1, .ep [setsD ms]), (3, .ref 1 g 0 ((List.range i).map (Ord.mClassOf ms)).length 1), (7, .i (Ord.setsOf ms).length), (8, .i i)], [.gone, .row g (encs ((List.range i).map (Ord.mClassOf ms)))]⟩) (fun i => i ≤ ms.length) (fun i => ms.length - i) 0 g0 hg0 ?_ (by omega) ?_
  · exact ale_drop (by repeat' first | exact mem_nil | refine mem_cons rfl ?_) rfl
  intro i g hi hg
  (repeat' first | refine s_lss rfl rfl ?_ | refine o_nil ?_ | refine o_op rfl ?_ | refine r_seq ?_ | refine r_region ?_)
  refine r_cond_d rfl (fun h => ?_) (fun h => ?_)
  · have hi' : i < ms.length := by omega
    have hi2 : i < (Ord.setsOf ms).length := by omega
    have hk1 := killed_c (G := G) ms i hi'
    have hs : (List.range (i + 1)).map (Ord.mClassOf ms) = (List.range i).map (Ord.mClassOf ms) ++ [Ord.mClassOf ms i] := by rw [List.range_succ, List.map_append]; rfl
    (repeat' first | refine s_mv rfl ?_ | refine s_as rfl ?_ | refine s_load_ep rfl ?_ | refine s_load_row rfl rfl rfl ?_ | refine s_call_p rfl rfl (hk1) (by repeat' first | exact clo_sc | exact clo_slOf _ | exact clo_sl (encs_clo _) | exact encs_clo _ | refine clo_fn ?_ ?_ | refine clo_ep ?_ | refine clo_tup ?_ | refine clo_agg ?_ | exact ac_nil | refine ac_cons ?_ ?_) ?_ | refine s_store rfl rfl rfl rfl (by rfl) (by rfl) (by rfl) ?_ | refine s_alloc (fun _ _ => ?_) | refine o_nil ?_ | refine o_op rfl ?_ | refine o_op0 ?_ | refine r_seq ?_ | refine r_region ?_ | refine r_block ?_ | refine r_skip ?_)
    refine r_cond rfl (fun hb => ?_) (fun hb => ?_)
    · refine r_pubptr 4 rfl rfl rfl ?_
      have hk2 := indexFuncL_c (G := G) (Ord.setsOf ms) 49 [] [.ep [setsD ms], .ep [.i i]] (fun l => decide (l = (Ord.setsOf ms)[i])) (by omega) (fun l hl => classes1_c ms l i hi2 (hlc l hl))
      rw [Ord.mClassOf_sets hi' hb hi2] at hk2
      (repeat' first | refine s_mv rfl ?_ | refine s_as rfl ?_ | refine s_load_ep rfl ?_ | refine s_add rfl rfl (by omega) ?_ | refine s_app1 rfl rfl rfl rfl rfl rfl rfl (by first | omega | (simp; omega)) (by first | omega | (simp; omega)) (fun _ => rfl) (fun _ _ => ?_) | refine s_call_p rfl rfl (hk2) (by repeat' first | exact clo_sc | exact clo_slOf _ | exact clo_sl (encs_clo _) | exact encs_clo _ | refine clo_fn ?_ ?_ | refine clo_ep ?_ | refine clo_tup ?_ | refine clo_agg ?_ | exact ac_nil | refine ac_cons ?_ ?_) ?_ | refine s_bslice rfl rfl (by decide) rfl ?_ | refine s_makeFunc rfl rfl ?_ | refine o_nil ?_ | refine o_op rfl ?_ | refine r_region ?_)
      refine ⟨i + 1, _, by omega, by assumption, by omega, ?_⟩
      rw [hs]
      exact ale_drop (by repeat' first | exact mem_nil | refine mem_cons rfl ?_) rfl
    · have : Ord.mClassOf ms i = -1 := by rw [Ord.mClassOf, hb]; rfl
      (repeat' first | refine s_mv rfl ?_ | refine s_as rfl ?_ | refine s_add rfl rfl (by omega) ?_ | refine s_app1 rfl rfl rfl rfl rfl rfl rfl (by first | omega | (simp; omega)) (by first | omega | (simp; omega)) (fun _ => rfl) (fun _ _ => ?_) | refine s_bslice rfl rfl (by decide) rfl ?_ | refine o_nil ?_ | refine o_op rfl ?_ | refine r_region ?_ | refine r_skip ?_)
      refine ⟨i + 1, _, by omega, by assumption, by omega, ?_⟩
      rw [hs, this]
      exact ale_drop (by repeat' first | exact mem_nil | refine mem_cons rfl ?_) rfl
  · have hi' : i = ms.length := by omega
    subst hi'
    (repeat' first | refine s_mv rfl ?_ | refine s_as rfl ?_ | refine o_nil ?_ | refine o_op rfl ?_ | refine r_seq ?_ | refine r_region ?_ | refine r_exit rfl ?_ | refine r_ret ?_)
    exact e_1 Try.results32 (rv_tmp rfl) (c_ownedB hE rfl rfl rfl rfl)

theorem ofirsts_c (ms : List Nat) (hms : ms.length ≤ 1048576) : Own Try.prog G 36 [setsD ms] (Ord.firstsOf (Ord.mClasses ms)).length (Enc.es Int) (encs (Ord.firstsOf (Ord.mClasses ms))) := fun B => by
  have hl : (Ord.mClasses ms).length = ms.length := by simp [Ord.mClasses]
  have hk1 := (oclasses_c (G := G) ms hms).read
  refine calls_of_run Try.func36 rfl Try.ntmps36 rfl (t := [(0, setsD ms)]) rfl fun E hE => ?_
  (repeat' first | refine s_mv rfl ?_ | refine s_as rfl ?_ | refine s_len_sl rfl ?_ | refine s_call_p rfl rfl (hk1) (by repeat' first | exact clo_sc | exact clo_slOf _ | exact clo_sl (encs_clo _) | exact encs_clo _ | refine clo_fn ?_ ?_ | refine clo_ep ?_ | refine clo_tup ?_ | refine clo_agg ?_ | exact ac_nil | refine ac_cons ?_ ?_) ?_ | refine o_nil ?_ | refine o_op rfl ?_ | refine r_seq ?_ | refine r_region ?_ | refine r_block ?_)
  refine r_own 3 1 rfl fun g0 hg0 => ?_
  refine r_loopg (fun (i : Nat) g => ⟨[(0, setsD ms), (7, slOf (Ord.mClasses ms)), (8, .i (Ord.mClasses ms).length), (9, .i i), (3, .ref 0 g 0 (Ord.firstsTo (Ord.mClasses ms) i).length 1)], [.row g (encs (Ord.firstsTo (Ord.mClasses ms) i))]⟩) (fun i => i ≤ ms.length) (fun i => ms.length - i) 0 g0 hg0 ?_ (by omega) ?_
  · exact ale_drop (by repeat' first | exact mem_nil | refine mem_cons rfl ?_) rfl
  intro i g hi hg
  have hfl := Ord.firstsTo_len (Ord.mClasses ms) i
  have es := Ord.firstsTo_succ (Ord.mClasses ms) i
  (repeat' first | refine s_lss rfl rfl ?_ | refine o_nil ?_ | refine o_op rfl ?_ | refine r_seq ?_ | refine r_region ?_)
  refine r_cond_d rfl (fun h => ?_) (fun h => ?_)
  · have hi' : i < (Ord.mClasses ms).length := by omega
    rw [Ord.getD_lt hi'] at es
    (repeat' first | refine s_mv rfl ?_ | refine s_as rfl ?_ | refine s_load_ep rfl ?_ | refine s_idx_sln rfl rfl (by first | assumption | omega | (simp; done) | (simp; omega)) ?_ | refine s_eql rfl rfl ?_ | refine o_nil ?_ | refine o_op rfl ?_ | refine r_seq ?_ | refine r_region ?_ | refine r_block ?_ | refine r_skip ?_)
    refine r_cond_d rfl (fun hb => ?_) (fun hb => ?_)
    · (repeat' first | refine s_mv rfl ?_ | refine s_as rfl ?_ | refine s_add rfl rfl (by omega) ?_ | refine s_app1 rfl rfl rfl rfl rfl rfl rfl (by first | omega | (simp; omega)) (by first | omega | (simp; omega)) (fun _ => rfl) (fun _ _ => ?_) | refine s_bslice rfl rfl (by decide) rfl ?_ | refine o_nil ?_ | refine o_op rfl ?_ | refine r_region ?_)
      refine ⟨i + 1, _, by omega, by assumption, by omega, ?_⟩
      rw [es, if_pos hb]
      exact ale_drop (by repeat' first | exact mem_nil | refine mem_cons rfl ?_) rfl
    · (repeat' first | refine s_mv rfl ?_ | refine s_add rfl rfl (by omega) ?_ | refine o_nil ?_ | refine o_op rfl ?_ | refine r_region ?_ | refine r_skip ?_)
      refine ⟨i + 1, _, by omega, by assumption, by omega, ?_⟩
      rw [es, if_neg hb]
      exact ale_drop (by repeat' first | exact mem_nil | refine mem_cons rfl ?_) rfl
  · have hi' : i = (Ord.mClasses ms).length := by omega
    subst hi'
    (repeat' first | refine s_mv rfl ?_ | refine s_as rfl ?_ | refine o_nil ?_ | refine o_op rfl ?_ | refine r_seq ?_ | refine r_region ?_ | refine r_exit rfl ?_ | refine r_ret ?_)
    exact e_1 Try.results36 (rv_tmp rfl) (c_ownedB hE rfl rfl rfl rfl)

end Go.Proofs
