/-
  What functions of the program hand back: contracts over abstract values.
-/
import Derived.Test.YtdolhcppabcodaaAvK
import Derived.Test.YtdolhcppabcodaaInst
import Derived.Test.YtdolhcppabcodaaO11
namespace Go.Proofs
open Go.Av
set_option linter.unusedSimpArgs false
set_option linter.unusedVariables false
set_option maxRecDepth 10000
set_option maxHeartbeats 4000000
variable {G : Nat → DV}
attribute [local irreducible] OpSem ARun AOps ALex ACalls AEnd AClose RV
abbrev setsD (ms : List Nat) : DV := slOf (Ord.setsOf ms)

theorem killed_c (ms : List Nat) (a : Nat) (ha : a < ms.length) : Go.Av.Pure Try.prog G 47 [setsD ms, .i a] (.b (Ord.mKilled ms a)) := fun B => by
  have hl := Ord.setsOf_len ms
  have ha' : a < (Ord.setsOf ms).length := by omega
  refine calls_of_run Try.func47 rfl Try.ntmps47 rfl (t := [(0, setsD ms), (1, .i a)]) rfl fun E hE => ?_
  (repeat' first | refine s_mv rfl ?_ | refine s_as rfl ?_ | refine s_load_ep rfl ?_ | refine s_idx_sln rfl rfl (by first | assumption | omega | (simp; done) | (simp; omega)) ?_ | refine o_nil ?_ | refine o_op rfl ?_ | refine r_seq ?_ | refine r_region ?_)
  rw [Ord.setsOf_at ha']
  have hk1 := containsFuncW_c (G := G) [⟨ms[a]⟩] 58 [] [] (fun w => decide (w.m ≠ 0)) (by simp) (fun x _ => killed1_c x)
  (repeat' first | refine s_as rfl ?_ | refine s_call_p rfl rfl (hk1) (by repeat' first | exact clo_sc | exact clo_slOf _ | exact clo_sl (encs_clo _) | exact encs_clo _ | refine clo_fn ?_ ?_ | refine clo_ep ?_ | refine clo_tup ?_ | refine clo_agg ?_ | exact ac_nil | refine ac_cons ?_ ?_) ?_ | refine o_nil ?_ | refine o_op rfl ?_ | refine r_ret ?_)
  refine e_1 Try.results47 (rv_tmp rfl) (c_pure' ?_)
  simp [Ord.mKilled, Ord.mAt, ha]

theorem below1_c (ms : List Nat) (a b : Nat) (ha : a < ms.length) (hb : b < ms.length) (hm : ∀ m ∈ ms, m < 2 ^ 64) (hms : ms.length ≤ 1048576) : Go.Av.Pure Try.prog G 30 [setsD ms, .i a, .i b] (.b (Ord.mBelow ms a b)) := fun B => by
  have hl := Ord.setsOf_len ms
  have ha' : a < (Ord.setsOf ms).length := by omega
  have hb' : b < (Ord.setsOf ms).length := by omega
  have hk1 := killed_c (G := G) ms a ha
  have e1 := Ord.setsOf_at ha'
  have e2 := Ord.setsOf_at hb'
  have l1 : ((Ord.setsOf ms)[a]).length = 1 := by rw [e1]; rfl
  have l2 : ((Ord.setsOf ms)[b]).length = 1 := by rw [e2]; rfl
  have f1 : ((Ord.setsOf ms)[a])[0].m = ms[a] := by simp [e1]
  have f2 : ((Ord.setsOf ms)[b])[0].m = ms[b] := by simp [e2]
  refine calls_of_run Try.func30 rfl Try.ntmps30 rfl (t := [(0, setsD ms), (1, .i a), (2, .i b)]) rfl fun E hE => ?_
  (repeat' first | refine s_mv rfl ?_ | refine s_as rfl ?_ | refine s_call_p rfl rfl (hk1) (by repeat' first | exact clo_sc | exact clo_slOf _ | exact clo_sl (encs_clo _) | exact encs_clo _ | refine clo_fn ?_ ?_ | refine clo_ep ?_ | refine clo_tup ?_ | refine clo_agg ?_ | exact ac_nil | refine ac_cons ?_ ?_) ?_ | refine s_not_d rfl ?_ | refine o_nil ?_ | refine o_op rfl ?_ | refine r_seq ?_ | refine r_region ?_)
  refine r_cond_d rfl (fun h => ?_) (fun h => ?_)
  · have hz : Ord.mAt ms a = 0 := Decidable.not_not.1 h
    (repeat' first | refine s_as rfl ?_ | refine o_nil ?_ | refine o_op rfl ?_ | refine r_seq ?_ | refine r_region ?_ | refine r_ret ?_)
    refine e_1 Try.results30 (rv_tmp rfl) (c_pure' ?_)
    simp [Ord.mBelow, Ord.mKilled, hz]
  have hnz : Ord.mAt ms a ≠ 0 := fun e => h (not_not_intro e)
  (repeat' first | refine s_mv rfl ?_ | refine s_load_ep rfl ?_ | refine s_idx_sln rfl rfl (by first | assumption | omega | (simp; done) | (simp; omega)) ?_ | refine s_len_sl rfl ?_ | refine o_nil ?_ | refine o_op rfl ?_ | refine r_seq ?_ | refine r_region ?_ | refine r_block ?_ | refine r_skip ?_)
  rw [e1]
  refine r_loop (fun k : Nat => ⟨[(0, setsD ms), (1, .i a), (2, .i b), (17, slOf [Ord.W4.mk ms[a]]), (18, .i 1), (19, .i k)], []⟩) (fun k => k ≤ 1 ∧ (k = 1 → ms[a] &&& ms[b] = ms[a])) (fun k => 1 - k) 0 ?_ ⟨by omega, fun h => by omega⟩ ?_
  · exact ale_drop (by repeat' first | exact mem_nil | refine mem_cons rfl ?_) rfl
  intro k ⟨hk, hkk⟩
  (repeat' first | refine s_lss rfl rfl ?_ | refine o_nil ?_ | refine o_op rfl ?_ | refine r_seq ?_ | refine r_region ?_)
  refine r_cond_d rfl (fun h => ?_) (fun h => ?_)
  · have hk0 : k = 0 := by omega
    subst hk0
    (repeat' first | refine s_mv rfl ?_ | refine s_as rfl ?_ | refine s_load_epe rfl ?_ | refine s_idx_sln rfl rfl (by first | assumption | omega | (simp; done) | (simp; omega)) ?_ | refine s_store rfl rfl rfl rfl (by rfl) (by rfl) (by rfl) ?_ | refine s_alloc (fun _ _ => ?_) | refine o_nil ?_ | refine o_op rfl ?_ | refine o_op0 ?_ | refine r_seq ?_ | refine r_region ?_ | refine r_block ?_ | refine r_skip ?_)
    rename_i gx hgx
    refine r_loop (fun k : Nat => ⟨[(0, setsD ms), (1, .i a), (2, .i b), (17, slOf [Ord.W4.mk ms[a]]), (18, .i 1), (19, .i (0 : Nat)), (7, .i (0 : Nat)), (8, .ptr 0 gx 0), (24, .i k)], [.row gx [.sc (.int .u64 (if 0 < k then bitsOf .and .u64 ms[a] ms[b] else ms[a])), .sc (.int .u64 (if 1 < k then bitsOf .and .u64 0 0 else 0)), .sc (.int .u64 (if 2 < k then bitsOf .and .u64 0 0 else 0)), .sc (.int .u64 (if 3 < k then bitsOf .and .u64 0 0 else 0))]]⟩) (fun k => k ≤ 4) (fun k => 4 - k) 0 ?_ (by omega) ?_
    · exact ale_drop (by repeat' first | exact mem_nil | refine mem_cons rfl ?_) rfl
    intro k hk
    (repeat' first | refine s_lss rfl rfl ?_ | refine o_nil ?_ | refine o_op rfl ?_ | refine r_seq ?_ | refine r_region ?_)
    refine r_cond_d rfl (fun h => ?_) (fun h => ?_)
    · obtain rfl | rfl | rfl | rfl : k = 0 ∨ k = 1 ∨ k = 2 ∨ k = 3 := by omega
      · (repeat' first | refine s_mv rfl ?_ | refine s_as rfl ?_ | refine s_add rfl rfl (by omega) ?_ | refine s_store rfl rfl rfl rfl (by rfl) (by rfl) (by rfl) ?_ | refine o_nil ?_ | refine o_op rfl ?_ | refine o_op0 ?_ | refine r_seq ?_ | refine r_region ?_ | refine r_block ?_ | (refine g_draw ?_; first | refine r_draw0 (by rfl) (by kernel_rfl) (by kernel_rfl) ?_ | refine r_drawq (by kernel_rfl) (by kernel_rfl) ?_) | refine r_skip ?_ | refine x_op rfl (by (repeat' first | refine s_mv rfl ?_ | refine s_load_ep rfl ?_ | refine s_load_row rfl rfl rfl ?_ | refine s_idx_sln rfl rfl (by first | assumption | omega | (simp; done) | (simp; omega)) ?_ | refine s_idx_arr rfl rfl rfl (by omega) (by omega) ?_ | refine s_idx_ep rfl rfl (by omega) (by omega) ?_ | refine s_and rfl rfl ?_ | exact ⟨rfl, rfl⟩)) ?_ | refine x_nil ?_)
        refine ⟨1, by omega, by omega, ?_⟩
        rw [f2]
        exact ale_drop (by repeat' first | exact mem_nil | refine mem_cons rfl ?_) rfl
      · (repeat' first | refine s_mv rfl ?_ | refine s_as rfl ?_ | refine s_add rfl rfl (by omega) ?_ | refine s_store rfl rfl rfl rfl (by rfl) (by rfl) (by rfl) ?_ | refine o_nil ?_ | refine o_op rfl ?_ | refine o_op0 ?_ | refine r_seq ?_ | refine r_region ?_ | refine r_block ?_ | (refine g_draw ?_; first | refine r_draw0 (by rfl) (by kernel_rfl) (by kernel_rfl) ?_ | refine r_drawq (by kernel_rfl) (by kernel_rfl) ?_) | refine r_skip ?_ | refine x_op rfl (by (repeat' first | refine s_mv rfl ?_ | refine s_load_ep rfl ?_ | refine s_load_row rfl rfl rfl ?_ | refine s_idx_sln rfl rfl (by first | assumption | omega | (simp; done) | (simp; omega)) ?_ | refine s_idx_arr rfl rfl rfl (by omega) (by omega) ?_ | refine s_idx_ep rfl rfl (by omega) (by omega) ?_ | refine s_and rfl rfl ?_ | exact ⟨rfl, rfl⟩)) ?_ | refine x_nil ?_)
        refine ⟨2, by omega, by omega, ?_⟩
        exact ale_drop (by repeat' first | exact mem_nil | refine mem_cons rfl ?_) rfl
      · (repeat' first | refine s_mv rfl ?_ | refine s_as rfl ?_ | refine s_add rfl rfl (by omega) ?_ | refine s_store rfl rfl rfl rfl (by rfl) (by rfl) (by rfl) ?_ | refine o_nil ?_ | refine o_op rfl ?_ | refine o_op0 ?_ | refine r_seq ?_ | refine r_region ?_ | refine r_block ?_ | (refine g_draw ?_; first | refine r_draw0 (by rfl) (by kernel_rfl) (by kernel_rfl) ?_ | refine r_drawq (by kernel_rfl) (by kernel_rfl) ?_) | refine r_skip ?_ | refine x_op rfl (by (repeat' first | refine s_mv rfl ?_ | refine s_load_ep rfl ?_ | refine s_load_row rfl rfl rfl ?_ | refine s_idx_sln rfl rfl (by first | assumption | omega | (simp; done) | (simp; omega)) ?_ | refine s_idx_arr rfl rfl rfl (by omega) (by omega) ?_ | refine s_idx_ep rfl rfl (by omega) (by omega) ?_ | refine s_and rfl rfl ?_ | exact ⟨rfl, rfl⟩)) ?_ | refine x_nil ?_)
        refine ⟨3, by omega, by omega, ?_⟩
        exact ale_drop (by repeat' first | exact mem_nil | refine mem_cons rfl ?_) rfl
      · (repeat' first | refine s_mv rfl ?_ | refine s_as rfl ?_ | refine s_add rfl rfl (by omega) ?_ | refine s_store rfl rfl rfl rfl (by rfl) (by rfl) (by rfl) ?_ | refine o_nil ?_ | refine o_op rfl ?_ | refine o_op0 ?_ | refine r_seq ?_ | refine r_region ?_ | refine r_block ?_ | (refine g_draw ?_; first | refine r_draw0 (by rfl) (by kernel_rfl) (by kernel_rfl) ?_ | refine r_drawq (by kernel_rfl) (by kernel_rfl) ?_) | refine r_skip ?_ | refine x_op rfl (by (repeat' first | refine s_mv rfl ?_ | refine s_load_ep rfl ?_ | refine s_load_row rfl rfl rfl ?_ | refine s_idx_sln rfl rfl (by first | assumption | omega | (simp; done) | (simp; omega)) ?_ | refine s_idx_arr rfl rfl rfl (by omega) (by omega) ?_ | refine s_idx_ep rfl rfl (by omega) (by omega) ?_ | refine s_and rfl rfl ?_ | exact ⟨rfl, rfl⟩)) ?_ | refine x_nil ?_)
        refine ⟨4, by omega, by omega, ?_⟩
        exact ale_drop (by repeat' first | exact mem_nil | refine mem_cons rfl ?_) rfl
    · have hk4 : k = 4 := by omega
      subst hk4
      (repeat' first | refine o_nil ?_ | refine r_seq ?_ | (refine g_draw ?_; first | refine r_draw0 (by rfl) (by kernel_rfl) (by kernel_rfl) ?_ | refine r_drawq (by kernel_rfl) (by kernel_rfl) ?_) | refine r_exit rfl ?_ | refine x_op rfl (by (repeat' first | refine s_mv rfl ?_ | refine s_load_ep rfl ?_ | refine s_load_epe rfl ?_ | refine s_load_rowa rfl rfl (by rfl) (by rfl) ?_ | refine s_idx_sln rfl rfl (by first | assumption | omega | (simp; done) | (simp; omega)) ?_ | refine s_neq_agg rfl rfl (by rfl) ?_ | exact ⟨rfl, rfl⟩)) ?_ | refine x_nil ?_)
      rw [f1]
      have hand := bits_and_u64 ms[a] ms[b] (hm _ (List.getElem_mem _)) (hm _ (List.getElem_mem _))
      have hz : bitsOf .and .u64 0 0 = 0 := by decide
      have ht : ((!(decide ((if 0 < 4 then bitsOf .and .u64 (ms[a] : Int) ms[b] else (ms[a] : Int)) = ms[a]) && (decide ((if 1 < 4 then bitsOf .and .u64 0 0 else 0) = 0) && (decide ((if 2 < 4 then bitsOf .and .u64 0 0 else 0) = 0) && (decide ((if 3 < 4 then bitsOf .and .u64 0 0 else 0) = 0) && true))))) : Bool) = decide (¬ (ms[a] &&& ms[b] = ms[a])) := by
        rw [hand, hz]
        simp
        congr 1
        exact Int.ofNat_inj
      refine r_cond rfl (fun hb => ?_) (fun hb => ?_)
      · rw [ht] at hb
        (repeat' first | refine s_as rfl ?_ | refine o_nil ?_ | refine o_op rfl ?_ | refine r_seq ?_ | refine r_region ?_ | refine r_ret ?_)
        refine e_1 Try.results30 (rv_tmp rfl) (c_pure' ?_)
        simp only [Ord.mBelow, Ord.mKilled, Ord.mAt, List.getD_eq_getElem?_getD, ha, hb', getElem?_pos, Option.getD_some] at *
        rw [decide_eq_false (p := ms[a] &&& _ = ms[a]) (by rw [List.getElem?_eq_getElem (by assumption)]; exact of_decide_eq_true hb)]
        rw [Bool.and_false]
      · rw [ht] at hb
        (repeat' first | refine s_mv rfl ?_ | refine s_add rfl rfl (by omega) ?_ | refine o_nil ?_ | refine o_op rfl ?_ | refine r_region ?_ | refine r_skip ?_)
        refine ⟨1, ⟨by omega, fun _ => Decidable.not_not.1 (of_decide_eq_false hb)⟩, by omega, ?_⟩
        exact ale_drop (by repeat' first | exact mem_nil | refine mem_cons rfl ?_) rfl
  · have hk1' : k = 1 := by omega
    (repeat' first | refine s_as rfl ?_ | refine o_nil ?_ | refine o_op rfl ?_ | refine r_seq ?_ | refine r_region ?_ | refine r_exit rfl ?_ | refine r_ret ?_)
    refine e_1 Try.results30 (rv_tmp rfl) (c_pure' ?_)
    have := hkk hk1'
    simp [Ord.mBelow, Ord.mKilled, Ord.mAt, ha, hb] at this hnz ⊢
    exact ⟨hnz, this⟩

end Go.Proofs
