/-
  Part 9 of the proof: Ct9b Ct10.
-/
import Derived.Test.YtecbcpilcjmhlaaDoorZ1
import Derived.Test.YtecbcpilcjmhlaaDoorZ5
set_option linter.unusedSimpArgs false
set_option linter.unusedVariables false
set_option maxRecDepth 10000
set_option maxHeartbeats 4000000
section
namespace Go.Proofs
open Go.Av
variable {G : Nat → DV}
attribute [local irreducible] OpSem ARun AOps ALex ACalls AEnd AClose RV
open Go.Bl
theorem ctypes_9b (hG : G 0 = opsD) (n : Int) (ks : List Nd) (hc12 : ¬ (0 ≤ n ∧ n < 12)) (ih : ∀ x ∈ ks, Fit x → ∀ M : List (Int × Int), TM Tryd.prog G 64 (fun g => [.mp 0 g, .agg (Enc.enc x)]) M (.i (ctyM x M).1) (ctyM x M).2) (hfit : Fit (.mk 9 n 0 ks)) (M : List (Int × Int)) :
    TM Tryd.prog G 64 (fun g => [.mp 0 g, .agg (Enc.enc (Nd.mk 9 n 0 ks))]) M (.i (ctyM (.mk 9 n 0 ks) M).1) (ctyM (.mk 9 n 0 ks) M).2 := by
  intro g B b1
  have hks := hfit.len
  rw [enc_nd]
  refine calls_of_run Tryd.func64 rfl Tryd.ntmps64 rfl (t := [(0, .mp 0 g), (1, .agg [.i 9, .i n, .i 0, slOf ks])]) rfl fun E hE => ?_
  have hM : ctyM (.mk 9 n 0 ks) M = (match ctyL ks M with | (none, M') => (-1, M') | (some l, M') => finM 9 n 0 l M') := by (rw [ctyM, if_neg (fun h => h.1 rfl)]; try rfl)
  have hz : zerosD [Value.int .i64 0] (ks.length : Int).toNat = encs (kidsTo ks M 0) := by
    show _ = encs (List.replicate ks.length (0 : Int))
    rw [show (ks.length : Int).toNat = ks.length from rfl]
    exact zerosD_rep _
  (repeat' first | refine s_mv rfl ?_ | refine s_as rfl ?_ | refine s_load_row rfl rfl rfl ?_ | refine s_neq rfl rfl ?_ | refine s_len_sl rfl ?_ | refine s_pf rfl rfl ?_ | refine s_fld_ptr rfl rfl ?_ | refine s_make rfl rfl rfl (by omega) (by omega) (by omega) (by omega) (fun _ _ => ?_) | refine s_box rfl rfl (fun _ _ => ?_) | refine o_nil ?_ | refine o_op rfl ?_ | refine o_gn rfl rfl rfl rfl ?_ | refine r_seq ?_ | (refine r_keep [0, 1, 2, 3, 4, 5, 6, 7, 8, 9, 23, 24, 25] rfl ?_; refine r_region ?_) | refine r_block ?_ | refine r_skip ?_ | refine r_cond_f rfl ?_)
  all_goals
    rename_i gt hgt gk hgk
    refine r_loop (fun (i : Nat) => ⟨[(0, .mp 0 g), (3, .ptr 1 gt 0), (5, .ref 2 gk 0 ks.length (Enc.es Int)), (23, slOf ks), (24, .i ks.length), (25, .i i)], [.mapb g (imap (mapI (ctyL (ks.take i) M).2)), .row gt [.i 9, .i n, .i 0, slOf ks], .row gk (encs (kidsTo ks M i))]⟩) (fun i => i ≤ ks.length ∧ (ctyL (ks.take i) M).1.isSome = true) (fun i => ks.length - i) 0 ?_ ⟨by omega, rfl⟩ ?_
    · rw [← hz]
      exact al rfl
    intro i ⟨hi, hok⟩
    have hkl := kidsTo_len hi hok
    (repeat' first | refine s_lss rfl rfl ?_ | refine o_nil ?_ | refine o_op rfl ?_ | refine r_seq ?_ | (refine r_keep [0, 1, 2, 3, 4, 5, 6, 7, 8, 9, 23, 24, 25] rfl ?_; refine r_region ?_))
    refine r_cond_d rfl (fun h => ?_) (fun h => ?_)
    · have hil : i < ks.length := by omega
      have htm := ih _ (List.getElem_mem hil) (hfit.kids _ (List.getElem_mem hil)) (ctyL (ks.take i) M).2
      obtain ⟨hst1, hst2⟩ := ctyL_step hil hok
      have hik : i < (kidsTo ks M i).length := by omega
      have hik2 : i < ((kidsTo ks M i).set i (ctyM ks[i] (ctyL (ks.take i) M).2).1).length := by rw [List.length_set]; omega
      have hget : ((kidsTo ks M i).set i (ctyM ks[i] (ctyL (ks.take i) M).2).1)[i] = (ctyM ks[i] (ctyL (ks.take i) M).2).1 := List.getElem_set_self ..
      clear ih hfit hz
      (repeat' first | refine s_mv rfl ?_ | refine s_as rfl ?_ | refine s_load_whole rfl rfl (by first | exact Enc.len _ | rfl) ?_ | refine s_load_epe rfl ?_ | refine s_load_e1 rfl rfl rfl (by first | assumption | omega) rfl ?_ | refine s_idx_sln rfl rfl (by first | assumption | omega | (simp; done) | (simp; omega)) ?_ | refine s_idx_ref1 rfl rfl rfl (by omega) ?_ | refine s_lss rfl rfl ?_ | refine s_call_tm (k := 0) (htm) rfl rfl rfl (by repeat' first | exact .nil | refine .cons ?_ ?_ | exact .s (.mp rfl) | exact .s (.ptr rfl) | exact .s (.ref rfl) | exact .fn (by repeat' first | exact .nil | refine .cons ?_ ?_ | exact .ptr rfl | exact .mp rfl | exact .clo clo_sc) (by repeat' first | exact .nil | refine .cons ?_ ?_ | exact .ptr rfl | exact .mp rfl | exact .clo clo_sc) | exact .s (.clo (by (repeat' first | exact Enc.clo _ | exact clo_sc | exact clo_slOf _ | exact clo_sl (encs_clo _) | exact encs_clo _ | refine clo_fn ?_ ?_ | refine clo_ep ?_ | refine clo_tup ?_ | refine clo_agg ?_ | exact ac_nil | refine ac_cons ?_ ?_ | refine clo_sl ?_); done))) (by repeat' first | exact clo_sc | exact clo_slOf _ | exact clo_sl (encs_clo _) | exact encs_clo _ | refine clo_fn ?_ ?_ | refine clo_ep ?_ | refine clo_tup ?_ | refine clo_agg ?_ | exact ac_nil | refine ac_cons ?_ ?_ | refine clo_sl ?_) (by rfl) ?_ | refine s_store_whole rfl rfl rfl (by first | exact Enc.len _ | rfl) (by first | exact Enc.len _ | rfl) (by rfl) ?_ | refine s_store_e1 rfl rfl rfl rfl rfl (by first | assumption | omega) rfl ?_ | refine s_alloc (fun _ _ => ?_) | refine o_nil ?_ | refine o_op rfl ?_ | refine o_op0 ?_ | refine r_seq ?_ | (refine r_keep [0, 1, 2, 3, 4, 5, 6, 7, 8, 9, 23, 24, 25] rfl ?_; refine r_region ?_) | refine r_block ?_ | refine r_skip ?_)
      refine r_cond_d rfl (fun hn => ?_) (fun hn => ?_)
      · rw [hget] at hn
        rw [hM, hst1 hn]
        (repeat' first | refine s_as rfl ?_ | refine o_nil ?_ | refine o_op rfl ?_ | refine r_seq ?_ | (refine r_keep [0, 1, 2, 3, 4, 5, 6, 7, 8, 9, 23, 24, 25] rfl ?_; refine r_region ?_) | refine r_ret ?_)
        exact e_1 (Tryd.results64) (rv_tmp rfl) (c_drop (σ := [_]) (r := [_, _, _]) ⟨rfl, rfl⟩)
      · rw [hget] at hn
        obtain ⟨k1, k2, k3⟩ := hst2 hn
        (repeat' first | refine s_mv rfl ?_ | refine s_add rfl rfl (by omega) ?_ | refine o_nil ?_ | refine o_op rfl ?_ | (refine r_keep [0, 1, 2, 3, 4, 5, 6, 7, 8, 9, 23, 24, 25] rfl ?_; refine r_region ?_) | refine r_skip ?_)
        refine ⟨i + 1, ⟨by omega, k1⟩, by omega, ?_⟩
        rw [k2, k3]
        exact al rfl
    · have hil : i = ks.length := by omega
      subst hil
      refine r_exit rfl ?_
      refine r_pub 5 rfl rfl (by rw [encs_len, hkl]) rfl ?_
      rw [List.take_length] at hok ⊢
      obtain ⟨l, M', hl⟩ : ∃ l M', ctyL ks M = (some l, M') := by
        rcases he : ctyL ks M with ⟨_ | l, M'⟩
        · rw [he] at hok; cases hok
        · exact ⟨l, M', rfl⟩
      have hkt : kidsTo ks M ks.length = l := by unfold kidsTo; rw [List.take_length, hl]; simp
      have hll := ctyL_len _ _ _ _ hl
      rw [hl] at hM
      rw [hM, hl, hkt]
      have hM2 : (match (some l, M') with | (none, M') => (-1, M') | (some l, M') => finM 9 n 0 l M' : Int × List (Int × Int)) = finM 9 n 0 l M' := rfl
      rw [hM2]
      have hq0 := equalI_c (G := G) l [0, 0] (by omega) (by decide)
      have hq1 := equalI_c (G := G) l [1, 1] (by omega) (by decide)
      have hq2 := equalI_c (G := G) l [1] (by omega) (by decide)
      clear hM hM2 hkt hkl hok hz ih hl hfit
      have hnil : l.length = 0 → l = [] := List.length_eq_zero_iff.1
      have hnil' : l = [] → l.length = 0 := List.length_eq_zero_iff.2
      clear hq0 hq2
      by_cases h12 : n = 12 ∨ n = 13
      · by_cases hc4 : l = [1, 1]
        · rw [decide_eq_true hc4] at hq1
          rcases h12 with h12 | h12
          all_goals
            rw [show finM 9 n 0 l M' = (1, M') by unfold finM; rw [if_neg (by decide), if_neg (by decide), if_neg (by decide), if_pos rfl, if_neg (fun h => hc12 ⟨h.1, h.2.1⟩), if_pos ⟨by omega, hc4⟩]]
            (repeat' first | refine s_mv rfl ?_ | refine s_as rfl ?_ | refine s_load_row rfl rfl rfl ?_ | refine s_lss rfl rfl ?_ | refine s_geq rfl rfl ?_ | refine s_eql rfl rfl ?_ | refine s_cp rfl rfl (hq1) ?_ | refine s_pt rfl rfl ?_ | refine s_pf rfl rfl ?_ | refine s_fld_ptr rfl rfl ?_ | refine s_bslice rfl rfl (by decide) rfl ?_ | refine o_nil ?_ | refine o_op rfl ?_ | refine o_gy rfl rfl rfl rfl ?_ | refine o_gn rfl rfl rfl rfl ?_ | refine o_gu rfl rfl rfl rfl rfl ?_ | refine o_sp_t rfl rfl (by omega) ?_ | refine o_sp_f rfl rfl (by omega) ?_ | refine r_seq ?_ | (refine r_keep [0, 1, 2, 3, 4, 5, 6, 7, 8, 9, 23, 24, 25] rfl ?_; refine r_region ?_) | refine r_block ?_ | refine r_cond_t rfl ?_ | refine r_cond_f rfl ?_ | refine r_ret ?_)
            all_goals exact e_1 (Tryd.results64) (rv_tmp rfl) (c_drop (σ := [_]) (r := [_, _]) ⟨rfl, rfl⟩)
        · rw [decide_eq_false hc4] at hq1
          rcases h12 with h12 | h12
          all_goals
            rw [show finM 9 n 0 l M' = (-1, M') by unfold finM; rw [if_neg (by decide), if_neg (by decide), if_neg (by decide), if_pos rfl, if_neg (fun h => hc12 ⟨h.1, h.2.1⟩), if_neg (fun h => hc4 h.2)]]
            (repeat' first | refine s_mv rfl ?_ | refine s_as rfl ?_ | refine s_load_row rfl rfl rfl ?_ | refine s_lss rfl rfl ?_ | refine s_geq rfl rfl ?_ | refine s_eql rfl rfl ?_ | refine s_cp rfl rfl (hq1) ?_ | refine s_pt rfl rfl ?_ | refine s_pf rfl rfl ?_ | refine s_fld_ptr rfl rfl ?_ | refine s_bslice rfl rfl (by decide) rfl ?_ | refine x_gn rfl rfl rfl rfl ?_ | refine o_nil ?_ | refine o_op rfl ?_ | refine o_gy rfl rfl rfl rfl ?_ | refine o_gn rfl rfl rfl rfl ?_ | refine o_gu rfl rfl rfl rfl rfl ?_ | refine o_sp_t rfl rfl (by omega) ?_ | refine o_sp_f rfl rfl (by omega) ?_ | refine r_seq ?_ | (refine r_keep [0, 1, 2, 3, 4, 5, 6, 7, 8, 9, 23, 24, 25] rfl ?_; refine r_region ?_) | refine r_block ?_ | (refine g_draw ?_; refine r_keep [0, 1, 2, 3, 4, 5, 6, 7, 8, 9, 23, 24, 25] rfl ?_; first | refine r_draw0b (by rfl) (by kernel_rfl) (by kernel_rfl) rfl ?_ | refine r_drawq (by kernel_rfl) (by kernel_rfl) ?_) | refine r_skip ?_ | refine r_cond_f rfl ?_ | refine r_ret ?_ | refine x_op rfl (by (repeat' first | refine s_mv rfl ?_ | refine s_as rfl ?_ | refine s_load_row rfl rfl rfl ?_ | refine s_eql rfl rfl ?_ | refine s_pf rfl rfl ?_ | refine s_fld_ptr rfl rfl ?_ | exact ⟨rfl, rfl⟩)) ?_ | refine x_nilb ?_)
            all_goals exact e_1 (Tryd.results64) (rv_tmp rfl) (c_drop (σ := [_]) (r := [_, _]) ⟨rfl, rfl⟩)
      · by_cases h0 : 0 ≤ n
        all_goals
          rw [show finM 9 n 0 l M' = (-1, M') by unfold finM; rw [if_neg (by decide), if_neg (by decide), if_neg (by decide), if_pos rfl, if_neg (fun h => hc12 ⟨h.1, h.2.1⟩), if_neg (fun h => h12 h.1)]]
          (repeat' first | refine s_mv rfl ?_ | refine s_as rfl ?_ | refine s_load_row rfl rfl rfl ?_ | refine s_lss rfl rfl ?_ | refine s_geq rfl rfl ?_ | refine s_eql rfl rfl ?_ | refine s_pt rfl rfl ?_ | refine s_pf rfl rfl ?_ | refine s_fld_ptr rfl rfl ?_ | refine x_gn rfl rfl rfl rfl ?_ | refine o_nil ?_ | refine o_op rfl ?_ | refine o_gy rfl rfl rfl rfl ?_ | refine o_gn rfl rfl rfl rfl ?_ | refine o_gu rfl rfl rfl rfl rfl ?_ | refine o_sp_t rfl rfl (by omega) ?_ | refine o_sp_f rfl rfl (by omega) ?_ | refine r_seq ?_ | (refine r_keep [0, 1, 2, 3, 4, 5, 6, 7, 8, 9, 23, 24, 25] rfl ?_; refine r_region ?_) | refine r_block ?_ | (refine g_draw ?_; refine r_keep [0, 1, 2, 3, 4, 5, 6, 7, 8, 9, 23, 24, 25] rfl ?_; first | refine r_draw0b (by rfl) (by kernel_rfl) (by kernel_rfl) rfl ?_ | refine r_drawq (by kernel_rfl) (by kernel_rfl) ?_) | refine r_skip ?_ | refine r_cond_f rfl ?_ | refine r_ret ?_ | refine x_op rfl (by (repeat' first | refine s_mv rfl ?_ | refine s_as rfl ?_ | refine s_load_row rfl rfl rfl ?_ | refine s_eql rfl rfl ?_ | refine s_pf rfl rfl ?_ | refine s_fld_ptr rfl rfl ?_ | exact ⟨rfl, rfl⟩)) ?_ | refine x_nilb ?_)
          all_goals exact e_1 (Tryd.results64) (rv_tmp rfl) (c_drop (σ := [_]) (r := [_, _]) ⟨rfl, rfl⟩)
end Go.Proofs
end
section
namespace Go.Proofs
open Go.Av
variable {G : Nat → DV}
attribute [local irreducible] OpSem ARun AOps ALex ACalls AEnd AClose RV
open Go.Bl
theorem ctypes_10 (hG : G 0 = opsD) (n : Int) (ks : List Nd)  (ih : ∀ x ∈ ks, Fit x → ∀ M : List (Int × Int), TM Tryd.prog G 64 (fun g => [.mp 0 g, .agg (Enc.enc x)]) M (.i (ctyM x M).1) (ctyM x M).2) (hfit : Fit (.mk 10 n 0 ks)) (M : List (Int × Int)) :
    TM Tryd.prog G 64 (fun g => [.mp 0 g, .agg (Enc.enc (Nd.mk 10 n 0 ks))]) M (.i (ctyM (.mk 10 n 0 ks) M).1) (ctyM (.mk 10 n 0 ks) M).2 := by
  intro g B b1
  have hks := hfit.len
  rw [enc_nd]
  refine calls_of_run Tryd.func64 rfl Tryd.ntmps64 rfl (t := [(0, .mp 0 g), (1, .agg [.i 10, .i n, .i 0, slOf ks])]) rfl fun E hE => ?_
  have hM : ctyM (.mk 10 n 0 ks) M = (match ctyL ks M with | (none, M') => (-1, M') | (some l, M') => finM 10 n 0 l M') := by (rw [ctyM, if_neg (fun h => h.1 rfl)]; try rfl)
  have hz : zerosD [Value.int .i64 0] (ks.length : Int).toNat = encs (kidsTo ks M 0) := by
    show _ = encs (List.replicate ks.length (0 : Int))
    rw [show (ks.length : Int).toNat = ks.length from rfl]
    exact zerosD_rep _
  (repeat' first | refine s_mv rfl ?_ | refine s_as rfl ?_ | refine s_load_row rfl rfl rfl ?_ | refine s_neq rfl rfl ?_ | refine s_len_sl rfl ?_ | refine s_pf rfl rfl ?_ | refine s_fld_ptr rfl rfl ?_ | refine s_make rfl rfl rfl (by omega) (by omega) (by omega) (by omega) (fun _ _ => ?_) | refine s_box rfl rfl (fun _ _ => ?_) | refine o_nil ?_ | refine o_op rfl ?_ | refine o_gn rfl rfl rfl rfl ?_ | refine r_seq ?_ | (refine r_keep [0, 1, 2, 3, 4, 5, 6, 7, 8, 9, 23, 24, 25] rfl ?_; refine r_region ?_) | refine r_block ?_ | refine r_skip ?_ | refine r_cond_f rfl ?_)
  all_goals
    rename_i gt hgt gk hgk
    refine r_loop (fun (i : Nat) => ⟨[(0, .mp 0 g), (3, .ptr 1 gt 0), (5, .ref 2 gk 0 ks.length (Enc.es Int)), (23, slOf ks), (24, .i ks.length), (25, .i i)], [.mapb g (imap (mapI (ctyL (ks.take i) M).2)), .row gt [.i 10, .i n, .i 0, slOf ks], .row gk (encs (kidsTo ks M i))]⟩) (fun i => i ≤ ks.length ∧ (ctyL (ks.take i) M).1.isSome = true) (fun i => ks.length - i) 0 ?_ ⟨by omega, rfl⟩ ?_
    · rw [← hz]
      exact al rfl
    intro i ⟨hi, hok⟩
    have hkl := kidsTo_len hi hok
    (repeat' first | refine s_lss rfl rfl ?_ | refine o_nil ?_ | refine o_op rfl ?_ | refine r_seq ?_ | (refine r_keep [0, 1, 2, 3, 4, 5, 6, 7, 8, 9, 23, 24, 25] rfl ?_; refine r_region ?_))
    refine r_cond_d rfl (fun h => ?_) (fun h => ?_)
    · have hil : i < ks.length := by omega
      have htm := ih _ (List.getElem_mem hil) (hfit.kids _ (List.getElem_mem hil)) (ctyL (ks.take i) M).2
      obtain ⟨hst1, hst2⟩ := ctyL_step hil hok
      have hik : i < (kidsTo ks M i).length := by omega
      have hik2 : i < ((kidsTo ks M i).set i (ctyM ks[i] (ctyL (ks.take i) M).2).1).length := by rw [List.length_set]; omega
      have hget : ((kidsTo ks M i).set i (ctyM ks[i] (ctyL (ks.take i) M).2).1)[i] = (ctyM ks[i] (ctyL (ks.take i) M).2).1 := List.getElem_set_self ..
      clear ih hfit hz
      (repeat' first | refine s_mv rfl ?_ | refine s_as rfl ?_ | refine s_load_whole rfl rfl (by first | exact Enc.len _ | rfl) ?_ | refine s_load_epe rfl ?_ | refine s_load_e1 rfl rfl rfl (by first | assumption | omega) rfl ?_ | refine s_idx_sln rfl rfl (by first | assumption | omega | (simp; done) | (simp; omega)) ?_ | refine s_idx_ref1 rfl rfl rfl (by omega) ?_ | refine s_lss rfl rfl ?_ | refine s_call_tm (k := 0) (htm) rfl rfl rfl (by repeat' first | exact .nil | refine .cons ?_ ?_ | exact .s (.mp rfl) | exact .s (.ptr rfl) | exact .s (.ref rfl) | exact .fn (by repeat' first | exact .nil | refine .cons ?_ ?_ | exact .ptr rfl | exact .mp rfl | exact .clo clo_sc) (by repeat' first | exact .nil | refine .cons ?_ ?_ | exact .ptr rfl | exact .mp rfl | exact .clo clo_sc) | exact .s (.clo (by (repeat' first | exact Enc.clo _ | exact clo_sc | exact clo_slOf _ | exact clo_sl (encs_clo _) | exact encs_clo _ | refine clo_fn ?_ ?_ | refine clo_ep ?_ | refine clo_tup ?_ | refine clo_agg ?_ | exact ac_nil | refine ac_cons ?_ ?_ | refine clo_sl ?_); done))) (by repeat' first | exact clo_sc | exact clo_slOf _ | exact clo_sl (encs_clo _) | exact encs_clo _ | refine clo_fn ?_ ?_ | refine clo_ep ?_ | refine clo_tup ?_ | refine clo_agg ?_ | exact ac_nil | refine ac_cons ?_ ?_ | refine clo_sl ?_) (by rfl) ?_ | refine s_store_whole rfl rfl rfl (by first | exact Enc.len _ | rfl) (by first | exact Enc.len _ | rfl) (by rfl) ?_ | refine s_store_e1 rfl rfl rfl rfl rfl (by first | assumption | omega) rfl ?_ | refine s_alloc (fun _ _ => ?_) | refine o_nil ?_ | refine o_op rfl ?_ | refine o_op0 ?_ | refine r_seq ?_ | (refine r_keep [0, 1, 2, 3, 4, 5, 6, 7, 8, 9, 23, 24, 25] rfl ?_; refine r_region ?_) | refine r_block ?_ | refine r_skip ?_)
      refine r_cond_d rfl (fun hn => ?_) (fun hn => ?_)
      · rw [hget] at hn
        rw [hM, hst1 hn]
        (repeat' first | refine s_as rfl ?_ | refine o_nil ?_ | refine o_op rfl ?_ | refine r_seq ?_ | (refine r_keep [0, 1, 2, 3, 4, 5, 6, 7, 8, 9, 23, 24, 25] rfl ?_; refine r_region ?_) | refine r_ret ?_)
        exact e_1 (Tryd.results64) (rv_tmp rfl) (c_drop (σ := [_]) (r := [_, _, _]) ⟨rfl, rfl⟩)
      · rw [hget] at hn
        obtain ⟨k1, k2, k3⟩ := hst2 hn
        (repeat' first | refine s_mv rfl ?_ | refine s_add rfl rfl (by omega) ?_ | refine o_nil ?_ | refine o_op rfl ?_ | (refine r_keep [0, 1, 2, 3, 4, 5, 6, 7, 8, 9, 23, 24, 25] rfl ?_; refine r_region ?_) | refine r_skip ?_)
        refine ⟨i + 1, ⟨by omega, k1⟩, by omega, ?_⟩
        rw [k2, k3]
        exact al rfl
    · have hil : i = ks.length := by omega
      subst hil
      refine r_exit rfl ?_
      refine r_pub 5 rfl rfl (by rw [encs_len, hkl]) rfl ?_
      rw [List.take_length] at hok ⊢
      obtain ⟨l, M', hl⟩ : ∃ l M', ctyL ks M = (some l, M') := by
        rcases he : ctyL ks M with ⟨_ | l, M'⟩
        · rw [he] at hok; cases hok
        · exact ⟨l, M', rfl⟩
      have hkt : kidsTo ks M ks.length = l := by unfold kidsTo; rw [List.take_length, hl]; simp
      have hll := ctyL_len _ _ _ _ hl
      rw [hl] at hM
      rw [hM, hl, hkt]
      have hM2 : (match (some l, M') with | (none, M') => (-1, M') | (some l, M') => finM 10 n 0 l M' : Int × List (Int × Int)) = finM 10 n 0 l M' := rfl
      rw [hM2]
      have hq0 := equalI_c (G := G) l [0, 0] (by omega) (by decide)
      have hq1 := equalI_c (G := G) l [1, 1] (by omega) (by decide)
      have hq2 := equalI_c (G := G) l [1] (by omega) (by decide)
      clear hM hM2 hkt hkl hok hz ih hl hfit
      have hnil : l.length = 0 → l = [] := List.length_eq_zero_iff.1
      have hnil' : l = [] → l.length = 0 := List.length_eq_zero_iff.2
      clear hq0 hq1
      by_cases hc1 : n = 0
      · by_cases hc2 : l = [1]
        · rw [decide_eq_true hc2] at hq2
          rw [show finM 10 n 0 l M' = (1, M') by unfold finM; rw [if_neg (by decide), if_neg (by decide), if_neg (by decide), if_neg (by decide), if_pos rfl, if_pos ⟨hc1, hc2⟩]]
          (repeat' first | refine s_mv rfl ?_ | refine s_as rfl ?_ | refine s_load_row rfl rfl rfl ?_ | refine s_eql rfl rfl ?_ | refine s_cp rfl rfl (hq2) ?_ | refine s_pt rfl rfl ?_ | refine s_pf rfl rfl ?_ | refine s_fld_ptr rfl rfl ?_ | refine s_bslice rfl rfl (by decide) rfl ?_ | refine o_nil ?_ | refine o_op rfl ?_ | refine o_gy rfl rfl rfl rfl ?_ | refine o_gn rfl rfl rfl rfl ?_ | refine o_gu rfl rfl rfl rfl rfl ?_ | refine o_sp_t rfl rfl (by omega) ?_ | refine r_seq ?_ | (refine r_keep [0, 1, 2, 3, 4, 5, 6, 7, 8, 9, 23, 24, 25] rfl ?_; refine r_region ?_) | refine r_block ?_ | refine r_cond_t rfl ?_ | refine r_cond_f rfl ?_ | refine r_ret ?_)
          all_goals exact e_1 (Tryd.results64) (rv_tmp rfl) (c_drop (σ := [_]) (r := [_, _]) ⟨rfl, rfl⟩)
        · rw [decide_eq_false hc2] at hq2
          rw [show finM 10 n 0 l M' = (-1, M') by unfold finM; rw [if_neg (by decide), if_neg (by decide), if_neg (by decide), if_neg (by decide), if_pos rfl, if_neg (fun h => hc2 h.2)]]
          (repeat' first | refine s_mv rfl ?_ | refine s_as rfl ?_ | refine s_load_row rfl rfl rfl ?_ | refine s_eql rfl rfl ?_ | refine s_cp rfl rfl (hq2) ?_ | refine s_pt rfl rfl ?_ | refine s_pf rfl rfl ?_ | refine s_fld_ptr rfl rfl ?_ | refine s_bslice rfl rfl (by decide) rfl ?_ | refine x_gn rfl rfl rfl rfl ?_ | refine o_nil ?_ | refine o_op rfl ?_ | refine o_gy rfl rfl rfl rfl ?_ | refine o_gn rfl rfl rfl rfl ?_ | refine o_gu rfl rfl rfl rfl rfl ?_ | refine o_sp_t rfl rfl (by omega) ?_ | refine r_seq ?_ | (refine r_keep [0, 1, 2, 3, 4, 5, 6, 7, 8, 9, 23, 24, 25] rfl ?_; refine r_region ?_) | refine r_block ?_ | (refine g_draw ?_; refine r_keep [0, 1, 2, 3, 4, 5, 6, 7, 8, 9, 23, 24, 25] rfl ?_; first | refine r_draw0b (by rfl) (by kernel_rfl) (by kernel_rfl) rfl ?_ | refine r_drawq (by kernel_rfl) (by kernel_rfl) ?_) | refine r_skip ?_ | refine r_cond_f rfl ?_ | refine r_ret ?_ | refine x_op rfl (by (repeat' first | refine s_mv rfl ?_ | refine s_as rfl ?_ | refine s_load_row rfl rfl rfl ?_ | refine s_eql rfl rfl ?_ | refine s_pf rfl rfl ?_ | refine s_fld_ptr rfl rfl ?_ | exact ⟨rfl, rfl⟩)) ?_ | refine x_nilb ?_)
          all_goals exact e_1 (Tryd.results64) (rv_tmp rfl) (c_drop (σ := [_]) (r := [_, _]) ⟨rfl, rfl⟩)
      · rw [show finM 10 n 0 l M' = (-1, M') by unfold finM; rw [if_neg (by decide), if_neg (by decide), if_neg (by decide), if_neg (by decide), if_pos rfl, if_neg (fun h => hc1 h.1)]]
        (repeat' first | refine s_mv rfl ?_ | refine s_as rfl ?_ | refine s_load_row rfl rfl rfl ?_ | refine s_eql rfl rfl ?_ | refine s_pt rfl rfl ?_ | refine s_pf rfl rfl ?_ | refine s_fld_ptr rfl rfl ?_ | refine x_gn rfl rfl rfl rfl ?_ | refine o_nil ?_ | refine o_op rfl ?_ | refine o_gy rfl rfl rfl rfl ?_ | refine o_gn rfl rfl rfl rfl ?_ | refine o_gu rfl rfl rfl rfl rfl ?_ | refine o_sp_f rfl rfl (by omega) ?_ | refine r_seq ?_ | (refine r_keep [0, 1, 2, 3, 4, 5, 6, 7, 8, 9, 23, 24, 25] rfl ?_; refine r_region ?_) | refine r_block ?_ | (refine g_draw ?_; refine r_keep [0, 1, 2, 3, 4, 5, 6, 7, 8, 9, 23, 24, 25] rfl ?_; first | refine r_draw0b (by rfl) (by kernel_rfl) (by kernel_rfl) rfl ?_ | refine r_drawq (by kernel_rfl) (by kernel_rfl) ?_) | refine r_skip ?_ | refine r_cond_f rfl ?_ | refine r_ret ?_ | refine x_op rfl (by (repeat' first | refine s_mv rfl ?_ | refine s_as rfl ?_ | refine s_load_row rfl rfl rfl ?_ | refine s_eql rfl rfl ?_ | refine s_pf rfl rfl ?_ | refine s_fld_ptr rfl rfl ?_ | exact ⟨rfl, rfl⟩)) ?_ | refine x_nilb ?_)
        all_goals exact e_1 (Tryd.results64) (rv_tmp rfl) (c_drop (σ := [_]) (r := [_, _]) ⟨rfl, rfl⟩)
end Go.Proofs
end
