/-
  What functions of the program hand back: contracts over abstract values.
-/
import Derived.Test.YtdolhcppabcodaaAvK
import Derived.Test.YtdolhcppabcodaaInst
import Derived.Test.YtdolhcppabcodaaO8
namespace Go.Proofs
open Go.Av
set_option linter.unusedSimpArgs false
set_option linter.unusedVariables false
set_option maxRecDepth 10000
set_option maxHeartbeats 4000000
variable {G : Nat → DV}
attribute [local irreducible] OpSem ARun AOps ALex ACalls AEnd AClose RV

theorem take_c (l : List Int) (n : Nat) (hl : l.length ≤ 9223372036854775807) (hn : n ≤ 1048576) : Own Try.prog G 17 [slOf l, .i n] (l.take n).length (Enc.es Int) (encs (l.take n)) := fun B => by
  refine calls_of_run Try.func17 rfl Try.ntmps17 rfl (t := [(0, slOf l), (1, .i n)]) rfl fun E hE => ?_
  (repeat' first | refine s_mv rfl ?_ | refine s_as rfl ?_ | refine s_len_sl rfl ?_ | refine s_min rfl rfl ?_ | refine s_app_n rfl rfl rfl rfl (by first | omega | (simp; omega)) (by first | omega | (simp; omega)) (fun _ _ => ?_) | refine s_slice_h rfl rfl (by omega) (by omega) ?_ | refine o_nil ?_ | refine o_op rfl ?_ | refine r_seq ?_ | refine r_region ?_ | refine r_ret ?_)
  have hmin : (min (l.length : Int) (n : Int)).toNat = min l.length n := by omega
  have ht : l.take (min (l.length : Int) (n : Int)).toNat = l.take n := by rw [hmin, Nat.min_comm]; exact List.take_eq_take_min.symm
  rw [ht]
  exact e_1 Try.results17 (rv_tmp rfl) (c_ownedB hE rfl rfl rfl rfl)

theorem few_c (l : List (List Int)) (hl : l.length ≤ 9223372036854775807) (hrow : ∀ r ∈ l, r.length ≤ 9223372036854775807) : Own Try.prog G 9 [slOf l] (Ord.few l).length (Enc.es (List Int)) (encs (Ord.few l)) := fun B => by
  refine calls_of_run Try.func9 rfl Try.ntmps9 rfl (t := [(0, slOf l)]) rfl fun E hE => ?_
  (repeat' first | refine s_as rfl ?_ | refine o_nil ?_ | refine o_op rfl ?_ | refine r_seq ?_ | refine r_region ?_ | refine r_block ?_)
  refine r_own 3 1 rfl fun g0 hg0 => ?_
  refine r_loopg (fun (i : Nat) g => ⟨[(0, slOf l), (3, .ref 0 g 0 (Ord.fewTo l i).length 1), (4, .i i)], [.row g (encs (Ord.fewTo l i))]⟩) (fun i => i ≤ min l.length 8) (fun i => 8 - i) 0 g0 hg0 ?_ (by omega) ?_
  · exact ale_drop (by repeat' first | exact mem_nil | refine mem_cons rfl ?_) rfl
  intro i g hi hg
  have hlen : (Ord.fewTo l i).length ≤ i := Ord.fewTo_len l i
  have fin : i = min l.length 8 → ∀ t : Fr, Go.Av.look t 2 = .ref 0 g 0 (Ord.fewTo l i).length 1 → AEnd Try.prog Try.f9 G E 30 (fun d' σ' => ∃ g, B < g ∧ d' = DV.ref 0 g 0 (Ord.few l).length (Enc.es (List Int)) ∧ σ' = [ABlk.row g (encs (Ord.few l))]) ⟨t, [.row g (encs (Ord.fewTo l i))]⟩ := fun hi t ht => by
    have he : Ord.few l = Ord.fewTo l i := by rw [hi, Ord.few, Ord.fewTo, Ord.fewTo, Nat.min_comm, ← List.take_eq_take_min]
    rw [he]
    exact e_1 (Try.results9) (rv_tmp (by rw [ht]; rfl)) (c_ownedB hE rfl rfl rfl rfl)
  (repeat' first | refine s_mv rfl ?_ | refine s_as rfl ?_ | refine s_lss rfl rfl ?_ | refine s_len_sl rfl ?_ | refine s_pt rfl rfl ?_ | refine s_pf rfl rfl ?_ | refine o_nil ?_ | refine o_op rfl ?_ | refine o_gy rfl rfl rfl rfl ?_ | refine o_gn rfl rfl rfl rfl ?_ | refine o_sp_d rfl rfl (fun _ => ?_) (fun _ => ?_) | refine r_seq ?_ | refine r_region ?_ | refine r_cond_f rfl ?_ | refine r_exit rfl ?_ | refine r_ret ?_)
  rename_i hl2
  · refine r_cond_d rfl (fun h => ?_) (fun h => ?_)
    · have hi' : i < l.length := by omega
      have hm : (min (l[i].length : Int) 8).toNat = min l[i].length 8 := by omega
      have ht : l[i].take (min (l[i].length : Int) 8).toNat = l[i].take 8 := by rw [hm, Nat.min_comm]; exact List.take_eq_take_min.symm
      have hri := hrow _ (List.getElem_mem hi')
      have es := Ord.fewTo_succ hi'
      (repeat' first | refine s_mv rfl ?_ | refine s_as rfl ?_ | refine s_add rfl rfl (by omega) ?_ | refine s_app1 rfl rfl rfl rfl rfl rfl rfl (by first | omega | (simp; omega)) (by first | omega | (simp; omega)) (fun _ => rfl) (fun _ _ => ?_) | refine o_nil ?_ | refine o_op rfl ?_ | refine r_seq ?_ | refine r_region ?_ | refine r_block ?_ | (refine g_draw ?_; first | refine r_draw0 (by rfl) (by kernel_rfl) (by kernel_rfl) ?_ | refine r_drawq (by kernel_rfl) (by kernel_rfl) ?_) | refine r_skip ?_ | refine x_op rfl (by (repeat' first | refine s_mv rfl ?_ | refine s_load_ep rfl ?_ | refine s_idx_sln rfl rfl (by first | assumption | omega | (simp; done) | (simp; omega)) ?_ | refine s_len_sl rfl ?_ | refine s_min rfl rfl ?_ | refine s_bslice rfl rfl (by decide) rfl ?_ | refine s_slice_h rfl rfl (by omega) (by omega) ?_ | exact ⟨rfl, rfl⟩)) ?_ | refine x_nil ?_)
      refine ⟨i + 1, _, by omega, by assumption, by omega, ?_⟩
      rw [es, ← ht]
      exact ale_drop (by repeat' first | exact mem_nil | refine mem_cons rfl ?_) rfl
    · (repeat' first | refine s_mv rfl ?_ | refine s_as rfl ?_ | refine o_nil ?_ | refine o_op rfl ?_ | refine r_seq ?_ | refine r_region ?_ | refine r_exit rfl ?_ | refine r_ret ?_)
      exact fin (by omega) _ rfl
  · exact fin (by omega) _ rfl

/-- A row of a matrix, named by its tests alone. -/
theorem given_c (l : List (List Int)) (hl : l.length ≤ 1073741824) : Go.Av.Pure Try.prog G 10 [slOf l] (.agg [slOf (l.map Ord.KRow.mk)]) := fun B => by
  refine calls_of_run Try.func10 rfl Try.ntmps10 rfl (t := [(0, slOf l)]) rfl fun E hE => ?_
  (repeat' first | refine s_as rfl ?_ | refine s_alloc (fun _ _ => ?_) | refine o_nil ?_ | refine o_op rfl ?_ | refine r_seq ?_ | refine r_region ?_ | refine r_block ?_)
  rename_i ga hga gb hgb
  refine r_ownin 1 0 20 rfl rfl (fun _ => rfl) fun g0 hg0 => ?_
  refine r_loopg (fun (i : Nat) g => ⟨[(0, slOf l), (2, .ptr 0 ga 0), (3, .ptr 1 gb 0), (4, .i i)], [.row ga [.nil], .row gb [.ref 2 g 0 ((l.take i).map Ord.KRow.mk).length 20], .row g (encs ((l.take i).map Ord.KRow.mk))]⟩) (fun i => i ≤ l.length) (fun i => l.length - i) 0 g0 hg0 ?_ (by omega) ?_
  · exact ale_drop (by repeat' first | exact mem_nil | refine mem_cons rfl ?_) rfl
  intro i g hi hg
  (repeat' first | refine s_mv rfl ?_ | refine s_lss rfl rfl ?_ | refine s_len_sl rfl ?_ | refine o_nil ?_ | refine o_op rfl ?_ | refine r_seq ?_ | refine r_region ?_)
  refine r_cond_d rfl (fun h => ?_) (fun h => ?_)
  · have hi' : i < l.length := by omega
    (repeat' first | refine s_mv rfl ?_ | refine s_as rfl ?_ | refine s_add rfl rfl (by omega) ?_ | refine s_app1 rfl rfl rfl rfl rfl rfl rfl (by first | omega | (simp; omega)) (by first | omega | (simp; omega)) (fun _ => rfl) (fun _ _ => ?_) | refine s_fld_ptr rfl rfl ?_ | refine s_store rfl rfl rfl rfl (by rfl) (by rfl) (by rfl) ?_ | refine o_nil ?_ | refine o_op rfl ?_ | refine o_op0 ?_ | refine r_seq ?_ | refine r_region ?_ | refine r_block ?_ | (refine g_draw ?_; first | refine r_draw0 (by rfl) (by kernel_rfl) (by kernel_rfl) ?_ | refine r_drawq (by kernel_rfl) (by kernel_rfl) ?_) | refine r_skip ?_ | refine x_op rfl (by (repeat' first | refine s_mv rfl ?_ | refine s_load_ep rfl ?_ | refine s_load_row rfl rfl rfl ?_ | refine s_idx_sln rfl rfl (by first | assumption | omega | (simp; done) | (simp; omega)) ?_ | refine s_fld_ptr rfl rfl ?_ | refine s_build_s rfl rfl ?_ | refine s_bslice rfl rfl (by decide) rfl ?_ | exact ⟨rfl, rfl⟩)) ?_ | refine x_nil ?_)
    refine ⟨i + 1, _, by omega, by assumption, by omega, ?_⟩
    rw [show (l.take (i + 1)).map Ord.KRow.mk = (l.take i).map Ord.KRow.mk ++ [⟨l[i]⟩] from by rw [List.take_succ_eq_append_getElem hi', List.map_append]; rfl]
    exact ale_drop (by repeat' first | exact mem_nil | refine mem_cons rfl ?_) rfl
  · have hi' : i = l.length := by omega
    subst hi'
    rw [List.take_length]
    refine r_pubin 1 0 rfl rfl rfl (encs_len _).symm rfl rfl ?_
    (repeat' first | refine s_load_rowa rfl rfl (by rfl) (by rfl) ?_ | refine s_store rfl rfl rfl rfl (by rfl) (by rfl) (by rfl) ?_ | refine o_nil ?_ | refine o_op rfl ?_ | refine o_op0 ?_ | refine r_seq ?_ | refine r_region ?_ | refine r_exit rfl ?_ | refine r_ret ?_)
    exact e_1 (Try.results10) (rv_cella rfl rfl (by rfl) (by rfl)) (c_pure' rfl)

end Go.Proofs
