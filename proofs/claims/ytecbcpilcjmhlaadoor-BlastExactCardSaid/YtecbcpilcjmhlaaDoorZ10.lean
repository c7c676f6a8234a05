/-
  Part 10 of the proof: Ct29 Ctx Ctb CtJ CtV M3 E5 E6.
-/
import Derived.Test.YtecbcpilcjmhlaaDoorZ1
import Derived.Test.YtecbcpilcjmhlaaDoorZ4
import Derived.Test.YtecbcpilcjmhlaaDoorZ5
import Derived.Test.YtecbcpilcjmhlaaDoorZ6
import Derived.Test.YtecbcpilcjmhlaaDoorZ7
import Derived.Test.YtecbcpilcjmhlaaDoorZ8
import Derived.Test.YtecbcpilcjmhlaaDoorZ9
set_option linter.unusedSimpArgs false
set_option linter.unusedVariables false
set_option maxRecDepth 10000
set_option maxHeartbeats 4000000
section
namespace Go.Proofs
open Go.Av
variable {G : Nat → DV}
attribute [local irreducible] OpSem ARun AOps ALex ACalls AEnd AClose RV
open Go.Bl
theorem ctypes_29 (hG : G 0 = opsD) (n : Int) (ks : List Nd)  (ih : ∀ x ∈ ks, Fit x → ∀ M : List (Int × Int), TM Tryd.prog G 64 (fun g => [.mp 0 g, .agg (Enc.enc x)]) M (.i (ctyM x M).1) (ctyM x M).2) (hfit : Fit (.mk 29 n 0 ks)) (M : List (Int × Int)) :
    TM Tryd.prog G 64 (fun g => [.mp 0 g, .agg (Enc.enc (Nd.mk 29 n 0 ks))]) M (.i (ctyM (.mk 29 n 0 ks) M).1) (ctyM (.mk 29 n 0 ks) M).2 := by
  intro g B b1
  have hks := hfit.len
  rw [enc_nd]
  refine calls_of_run Tryd.func64 rfl Tryd.ntmps64 rfl (t := [(0, .mp 0 g), (1, .agg [.i 29, .i n, .i 0, slOf ks])]) rfl fun E hE => ?_
  have hM : ctyM (.mk 29 n 0 ks) M = (match ctyL ks M with | (none, M') => (-1, M') | (some l, M') => finM 29 n 0 l M') := by (rw [ctyM, if_neg (fun h => h.1 rfl)]; try rfl)
  have hz : zerosD [Value.int .i64 0] (ks.length : Int).toNat = encs (kidsTo ks M 0) := by
    show _ = encs (List.replicate ks.length (0 : Int))
    rw [show (ks.length : Int).toNat = ks.length from rfl]
    exact zerosD_rep _
  (repeat' first | refine s_mv rfl ?_ | refine s_as rfl ?_ | refine s_load_row rfl rfl rfl ?_ | refine s_neq rfl rfl ?_ | refine s_len_sl rfl ?_ | refine s_pf rfl rfl ?_ | refine s_fld_ptr rfl rfl ?_ | refine s_make rfl rfl rfl (by omega) (by omega) (by omega) (by omega) (fun _ _ => ?_) | refine s_box rfl rfl (fun _ _ => ?_) | refine o_nil ?_ | refine o_op rfl ?_ | refine o_gn rfl rfl rfl rfl ?_ | refine r_seq ?_ | (refine r_keep [0, 1, 2, 3, 4, 5, 6, 7, 8, 9, 23, 24, 25] rfl ?_; refine r_region ?_) | refine r_block ?_ | refine r_skip ?_ | refine r_cond_f rfl ?_)
  all_goals
    rename_i gt hgt gk hgk
    refine r_loop (fun (i : Nat) => ⟨[(0, .mp 0 g), (3, .ptr 1 gt 0), (5, .ref 2 gk 0 ks.length (Enc.es Int)), (23, slOf ks), (24, .i ks.length), (25, .i i)], [.mapb g (imap (mapI (ctyL (ks.take i) M).2)), .row gt [.i 29, .i n, .i 0, slOf ks], .row gk (encs (kidsTo ks M i))]⟩) (fun i => i ≤ ks.length ∧ (ctyL (ks.take i) M).1.isSome = true) (fun i => ks.length - i) 0 ?_ ⟨by omega, rfl⟩ ?_
    · rw [← hz]
      exact al rfl
    intro i ⟨hi, hok⟩
    have hkl := kidsTo_len hi hok
    (repeat' first | refine s_lss rfl rfl ?_ | refine o_nil ?_ | refine o_op rfl ?_ | refine r_seq ?_ | (refine r_keep [0, 1, 2, 3, 4, 5, 6, 7, 8, 9, 23, 24, 25] rfl ?_; refine r_region ?_))
    refine r_cond_d rfl (fun h => ?_) (fun h => ?_)
    · have hil : i < ks.length := by omega
      have htm := ih _ (List.getElem_mem hil) (hfit.kids _ (List.getElem_mem hil)) (ctyL (ks.take i) M).2
      obtain ⟨hst1, hst2⟩ := ctyL_step hil hok
      have hik : i < (kidsTo ks M i).length := by omega
      have hik2 : i < ((kidsTo ks M i).set i (ctyM ks[i] (ctyL (ks.take i) M).2).1).length := by rw [List.length_set]; omega
      have hget : ((kidsTo ks M i).set i (ctyM ks[i] (ctyL (ks.take i) M).2).1)[i] = (ctyM ks[i] (ctyL (ks.take i) M).2).1 := List.getElem_set_self ..
      clear ih hfit hz
      (repeat' first | refine s_mv rfl ?_ | refine s_as rfl ?_ | refine s_load_whole rfl rfl (by first | exact Enc.len _ | rfl) ?_ | refine s_load_epe rfl ?_ | refine s_load_e1 rfl rfl rfl (by first | assumption | omega) rfl ?_ | refine s_idx_sln rfl rfl (by first | assumption | omega | (simp; done) | (simp; omega)) ?_ | refine s_idx_ref1 rfl rfl rfl (by omega) ?_ | refine s_lss rfl rfl ?_ | refine s_call_tm (k := 0) (htm) rfl rfl rfl (by repeat' first | exact .nil | refine .cons ?_ ?_ | exact .s (.mp rfl) | exact .s (.ptr rfl) | exact .s (.ref rfl) | exact .fn (by repeat' first | exact .nil | refine .cons ?_ ?_ | exact .ptr rfl | exact .mp rfl | exact .clo clo_sc) (by repeat' first | exact .nil | refine .cons ?_ ?_ | exact .ptr rfl | exact .mp rfl | exact .clo clo_sc) | exact .s (.clo (by (repeat' first | exact Enc.clo _ | exact clo_sc | exact clo_slOf _ | exact clo_sl (encs_clo _) | exact encs_clo _ | refine clo_fn ?_ ?_ | refine clo_ep ?_ | refine clo_tup ?_ | refine clo_agg ?_ | exact ac_nil | refine ac_cons ?_ ?_ | refine clo_sl ?_); done))) (by repeat' first | exact clo_sc | exact clo_slOf _ | exact clo_sl (encs_clo _) | exact encs_clo _ | refine clo_fn ?_ ?_ | refine clo_ep ?_ | refine clo_tup ?_ | refine clo_agg ?_ | exact ac_nil | refine ac_cons ?_ ?_ | refine clo_sl ?_) (by rfl) ?_ | refine s_store_whole rfl rfl rfl (by first | exact Enc.len _ | rfl) (by first | exact Enc.len _ | rfl) (by rfl) ?_ | refine s_store_e1 rfl rfl rfl rfl rfl (by first | assumption | omega) rfl ?_ | refine s_alloc (fun _ _ => ?_) | refine o_nil ?_ | refine o_op rfl ?_ | refine o_op0 ?_ | refine r_seq ?_ | (refine r_keep [0, 1, 2, 3, 4, 5, 6, 7, 8, 9, 23, 24, 25] rfl ?_; refine r_region ?_) | refine r_block ?_ | refine r_skip ?_)
      refine r_cond_d rfl (fun hn => ?_) (fun hn => ?_)
      · rw [hget] at hn
        rw [hM, hst1 hn]
        (repeat' first | refine s_as rfl ?_ | refine o_nil ?_ | refine o_op rfl ?_ | refine r_seq ?_ | (refine r_keep [0, 1, 2, 3, 4, 5, 6, 7, 8, 9, 23, 24, 25] rfl ?_; refine r_region ?_) | refine r_ret ?_)
        exact e_1 (Tryd.results64) (rv_tmp rfl) (c_drop (σ := [_]) (r := [_, _, _]) ⟨rfl, rfl⟩)
      · rw [hget] at hn
        obtain ⟨k1, k2, k3⟩ := hst2 hn
        (repeat' first | refine s_mv rfl ?_ | refine s_add rfl rfl (by omega) ?_ | refine o_nil ?_ | refine o_op rfl ?_ | (refine r_keep [0, 1, 2, 3, 4, 5, 6, 7, 8, 9, 23, 24, 25] rfl ?_; refine r_region ?_) | refine r_skip ?_)
        refine ⟨i + 1, ⟨by omega, k1⟩, by omega, ?_⟩
        rw [k2, k3]
        exact al rfl
    · have hil : i = ks.length := by omega
      subst hil
      refine r_exit rfl ?_
      refine r_pub 5 rfl rfl (by rw [encs_len, hkl]) rfl ?_
      rw [List.take_length] at hok ⊢
      obtain ⟨l, M', hl⟩ : ∃ l M', ctyL ks M = (some l, M') := by
        rcases he : ctyL ks M with ⟨_ | l, M'⟩
        · rw [he] at hok; cases hok
        · exact ⟨l, M', rfl⟩
      have hkt : kidsTo ks M ks.length = l := by unfold kidsTo; rw [List.take_length, hl]; simp
      have hll := ctyL_len _ _ _ _ hl
      rw [hl] at hM
      rw [hM, hl, hkt]
      have hM2 : (match (some l, M') with | (none, M') => (-1, M') | (some l, M') => finM 29 n 0 l M' : Int × List (Int × Int)) = finM 29 n 0 l M' := rfl
      rw [hM2]
      have hq0 := equalI_c (G := G) l [0, 0] (by omega) (by decide)
      have hq1 := equalI_c (G := G) l [1, 1] (by omega) (by decide)
      have hq2 := equalI_c (G := G) l [1] (by omega) (by decide)
      clear hM hM2 hkt hkl hok hz ih hl hfit
      have hnil : l.length = 0 → l = [] := List.length_eq_zero_iff.1
      have hnil' : l = [] → l.length = 0 := List.length_eq_zero_iff.2
      clear hq0 hq1 hq2
      by_cases hc1 : n = 0
      · by_cases hc2 : l.length = 3
        · have h0 : 0 < l.length := by omega
          have h1 : 1 < l.length := by omega
          have h2 : 2 < l.length := by omega
          have g0 : l.getD 0 0 = l[0] := Ord.getD_lt h0 _
          have g1 : l.getD 1 0 = l[1] := Ord.getD_lt h1 _
          have g2 : l.getD 2 0 = l[2] := Ord.getD_lt h2 _
          by_cases ha : l[0] = 1
          · by_cases hb : l[1] = l[2]
            · rw [show finM 29 n 0 l M' = (l[1], M') by unfold finM; rw [if_neg (by decide), if_neg (by decide), if_neg (by decide), if_neg (by decide), if_neg (by decide), if_pos rfl, if_pos ⟨hc1, hc2, by rw [g0]; exact ha, by rw [g1, g2]; exact hb⟩, g1]]
              (repeat' first | refine s_mv rfl ?_ | refine s_as rfl ?_ | refine s_load_ep rfl ?_ | refine s_load_row rfl rfl rfl ?_ | refine s_idx_sln rfl rfl (by first | assumption | omega | (simp; done) | (simp; omega)) ?_ | refine s_eql rfl rfl ?_ | refine s_pf rfl rfl ?_ | refine s_fld_ptr rfl rfl ?_ | refine o_nil ?_ | refine o_op rfl ?_ | refine o_gn rfl rfl rfl rfl ?_ | refine o_gu rfl rfl rfl rfl rfl ?_ | refine r_seq ?_ | (refine r_keep [0, 1, 2, 3, 4, 5, 6, 7, 8, 9, 23, 24, 25] rfl ?_; refine r_region ?_) | refine r_block ?_ | (refine g_draw ?_; refine r_keep [0, 1, 2, 3, 4, 5, 6, 7, 8, 9, 23, 24, 25] rfl ?_; first | refine r_draw0b (by rfl) (by kernel_rfl) (by kernel_rfl) rfl ?_ | refine r_drawq (by kernel_rfl) (by kernel_rfl) ?_) | refine r_cond_f rfl ?_ | refine r_cond_dt rfl (by omega) ?_ | refine r_ret ?_ | refine x_op rfl (by (repeat' first | refine s_mv rfl ?_ | refine s_as rfl ?_ | refine s_load_ep rfl ?_ | refine s_load_row rfl rfl rfl ?_ | refine s_idx_sln rfl rfl (by first | assumption | omega | (simp; done) | (simp; omega)) ?_ | refine s_eql rfl rfl ?_ | refine s_len_sl rfl ?_ | refine s_pt rfl rfl ?_ | refine s_fld_ptr rfl rfl ?_ | exact ⟨rfl, rfl⟩)) ?_ | refine x_gy rfl rfl rfl rfl (by (repeat' first | refine s_mv rfl ?_ | refine s_as rfl ?_ | refine s_load_ep rfl ?_ | refine s_load_row rfl rfl rfl ?_ | refine s_idx_sln rfl rfl (by first | assumption | omega | (simp; done) | (simp; omega)) ?_ | refine s_eql rfl rfl ?_ | refine s_len_sl rfl ?_ | refine s_pt rfl rfl ?_ | refine s_fld_ptr rfl rfl ?_ | exact ⟨rfl, rfl⟩)) ?_ | refine x_sp_t rfl rfl (by omega) ?_ | refine x_nilb ?_)
              all_goals exact e_1 (Tryd.results64) (rv_tmp rfl) (c_drop (σ := [_]) (r := [_, _]) ⟨rfl, rfl⟩)
            · rw [show finM 29 n 0 l M' = (-1, M') by unfold finM; rw [if_neg (by decide), if_neg (by decide), if_neg (by decide), if_neg (by decide), if_neg (by decide), if_pos rfl, if_neg (fun h => hb (by rw [← g1, ← g2]; exact h.2.2.2))]]
              (repeat' first | refine s_mv rfl ?_ | refine s_as rfl ?_ | refine s_load_row rfl rfl rfl ?_ | refine s_eql rfl rfl ?_ | refine s_pf rfl rfl ?_ | refine s_fld_ptr rfl rfl ?_ | refine o_nil ?_ | refine o_op rfl ?_ | refine o_gn rfl rfl rfl rfl ?_ | refine o_gu rfl rfl rfl rfl rfl ?_ | refine r_seq ?_ | (refine r_keep [0, 1, 2, 3, 4, 5, 6, 7, 8, 9, 23, 24, 25] rfl ?_; refine r_region ?_) | refine r_block ?_ | (refine g_draw ?_; refine r_keep [0, 1, 2, 3, 4, 5, 6, 7, 8, 9, 23, 24, 25] rfl ?_; first | refine r_draw0b (by rfl) (by kernel_rfl) (by kernel_rfl) rfl ?_ | refine r_drawq (by kernel_rfl) (by kernel_rfl) ?_) | refine r_skip ?_ | refine r_cond_f rfl ?_ | refine r_cond_df rfl (by omega) ?_ | refine r_ret ?_ | refine x_op rfl (by (repeat' first | refine s_mv rfl ?_ | refine s_as rfl ?_ | refine s_load_ep rfl ?_ | refine s_load_row rfl rfl rfl ?_ | refine s_idx_sln rfl rfl (by first | assumption | omega | (simp; done) | (simp; omega)) ?_ | refine s_eql rfl rfl ?_ | refine s_len_sl rfl ?_ | refine s_pt rfl rfl ?_ | refine s_fld_ptr rfl rfl ?_ | exact ⟨rfl, rfl⟩)) ?_ | refine x_gy rfl rfl rfl rfl (by (repeat' first | refine s_mv rfl ?_ | refine s_as rfl ?_ | refine s_load_ep rfl ?_ | refine s_load_row rfl rfl rfl ?_ | refine s_idx_sln rfl rfl (by first | assumption | omega | (simp; done) | (simp; omega)) ?_ | refine s_eql rfl rfl ?_ | refine s_len_sl rfl ?_ | refine s_pt rfl rfl ?_ | refine s_fld_ptr rfl rfl ?_ | exact ⟨rfl, rfl⟩)) ?_ | refine x_sp_t rfl rfl (by omega) ?_ | refine x_nilb ?_)
              all_goals exact e_1 (Tryd.results64) (rv_tmp rfl) (c_drop (σ := [_]) (r := [_, _]) ⟨rfl, rfl⟩)
          · rw [show finM 29 n 0 l M' = (-1, M') by unfold finM; rw [if_neg (by decide), if_neg (by decide), if_neg (by decide), if_neg (by decide), if_neg (by decide), if_pos rfl, if_neg (fun h => ha (by rw [← g0]; exact h.2.2.1))]]
            (repeat' first | refine s_mv rfl ?_ | refine s_as rfl ?_ | refine s_load_row rfl rfl rfl ?_ | refine s_eql rfl rfl ?_ | refine s_pf rfl rfl ?_ | refine s_fld_ptr rfl rfl ?_ | refine x_gn rfl rfl rfl rfl ?_ | refine o_nil ?_ | refine o_op rfl ?_ | refine o_gn rfl rfl rfl rfl ?_ | refine o_gu rfl rfl rfl rfl rfl ?_ | refine r_seq ?_ | (refine r_keep [0, 1, 2, 3, 4, 5, 6, 7, 8, 9, 23, 24, 25] rfl ?_; refine r_region ?_) | refine r_block ?_ | (refine g_draw ?_; refine r_keep [0, 1, 2, 3, 4, 5, 6, 7, 8, 9, 23, 24, 25] rfl ?_; first | refine r_draw0b (by rfl) (by kernel_rfl) (by kernel_rfl) rfl ?_ | refine r_drawq (by kernel_rfl) (by kernel_rfl) ?_) | refine r_skip ?_ | refine r_cond_f rfl ?_ | refine r_ret ?_ | refine x_op rfl (by (repeat' first | refine s_mv rfl ?_ | refine s_as rfl ?_ | refine s_load_ep rfl ?_ | refine s_load_row rfl rfl rfl ?_ | refine s_idx_sln rfl rfl (by first | assumption | omega | (simp; done) | (simp; omega)) ?_ | refine s_eql rfl rfl ?_ | refine s_len_sl rfl ?_ | refine s_pt rfl rfl ?_ | refine s_pf rfl rfl ?_ | refine s_fld_ptr rfl rfl ?_ | exact ⟨rfl, rfl⟩)) ?_ | refine x_gy rfl rfl rfl rfl (by (repeat' first | refine s_mv rfl ?_ | refine s_as rfl ?_ | refine s_load_ep rfl ?_ | refine s_load_row rfl rfl rfl ?_ | refine s_idx_sln rfl rfl (by first | assumption | omega | (simp; done) | (simp; omega)) ?_ | refine s_eql rfl rfl ?_ | refine s_len_sl rfl ?_ | refine s_pt rfl rfl ?_ | refine s_pf rfl rfl ?_ | refine s_fld_ptr rfl rfl ?_ | exact ⟨rfl, rfl⟩)) ?_ | refine x_sp_t rfl rfl (by omega) ?_ | refine x_sp_f rfl rfl (by omega) ?_ | refine x_nilb ?_)
            all_goals exact e_1 (Tryd.results64) (rv_tmp rfl) (c_drop (σ := [_]) (r := [_, _]) ⟨rfl, rfl⟩)
        · rw [show finM 29 n 0 l M' = (-1, M') by unfold finM; rw [if_neg (by decide), if_neg (by decide), if_neg (by decide), if_neg (by decide), if_neg (by decide), if_pos rfl, if_neg (fun h => hc2 h.2.1)]]
          (repeat' first | refine s_mv rfl ?_ | refine s_as rfl ?_ | refine s_load_row rfl rfl rfl ?_ | refine s_eql rfl rfl ?_ | refine s_pf rfl rfl ?_ | refine s_fld_ptr rfl rfl ?_ | refine x_gn rfl rfl rfl rfl ?_ | refine o_nil ?_ | refine o_op rfl ?_ | refine o_gn rfl rfl rfl rfl ?_ | refine o_gu rfl rfl rfl rfl rfl ?_ | refine r_seq ?_ | (refine r_keep [0, 1, 2, 3, 4, 5, 6, 7, 8, 9, 23, 24, 25] rfl ?_; refine r_region ?_) | refine r_block ?_ | (refine g_draw ?_; refine r_keep [0, 1, 2, 3, 4, 5, 6, 7, 8, 9, 23, 24, 25] rfl ?_; first | refine r_draw0b (by rfl) (by kernel_rfl) (by kernel_rfl) rfl ?_ | refine r_drawq (by kernel_rfl) (by kernel_rfl) ?_) | refine r_skip ?_ | refine r_cond_f rfl ?_ | refine r_ret ?_ | refine x_op rfl (by (repeat' first | refine s_mv rfl ?_ | refine s_as rfl ?_ | refine s_load_row rfl rfl rfl ?_ | refine s_eql rfl rfl ?_ | refine s_len_sl rfl ?_ | refine s_pt rfl rfl ?_ | refine s_pf rfl rfl ?_ | refine s_fld_ptr rfl rfl ?_ | exact ⟨rfl, rfl⟩)) ?_ | refine x_gy rfl rfl rfl rfl (by (repeat' first | refine s_mv rfl ?_ | refine s_as rfl ?_ | refine s_load_row rfl rfl rfl ?_ | refine s_eql rfl rfl ?_ | refine s_len_sl rfl ?_ | refine s_pt rfl rfl ?_ | refine s_pf rfl rfl ?_ | refine s_fld_ptr rfl rfl ?_ | exact ⟨rfl, rfl⟩)) ?_ | refine x_sp_t rfl rfl (by omega) ?_ | refine x_sp_f rfl rfl (by omega) ?_ | refine x_nilb ?_)
          all_goals exact e_1 (Tryd.results64) (rv_tmp rfl) (c_drop (σ := [_]) (r := [_, _]) ⟨rfl, rfl⟩)
      · rw [show finM 29 n 0 l M' = (-1, M') by unfold finM; rw [if_neg (by decide), if_neg (by decide), if_neg (by decide), if_neg (by decide), if_neg (by decide), if_pos rfl, if_neg (fun h => hc1 h.1)]]
        (repeat' first | refine s_mv rfl ?_ | refine s_as rfl ?_ | refine s_load_row rfl rfl rfl ?_ | refine s_eql rfl rfl ?_ | refine s_pf rfl rfl ?_ | refine s_fld_ptr rfl rfl ?_ | refine x_gn rfl rfl rfl rfl ?_ | refine o_nil ?_ | refine o_op rfl ?_ | refine o_gn rfl rfl rfl rfl ?_ | refine o_gu rfl rfl rfl rfl rfl ?_ | refine r_seq ?_ | (refine r_keep [0, 1, 2, 3, 4, 5, 6, 7, 8, 9, 23, 24, 25] rfl ?_; refine r_region ?_) | refine r_block ?_ | (refine g_draw ?_; refine r_keep [0, 1, 2, 3, 4, 5, 6, 7, 8, 9, 23, 24, 25] rfl ?_; first | refine r_draw0b (by rfl) (by kernel_rfl) (by kernel_rfl) rfl ?_ | refine r_drawq (by kernel_rfl) (by kernel_rfl) ?_) | refine r_skip ?_ | refine r_cond_f rfl ?_ | refine r_ret ?_ | refine x_op rfl (by (repeat' first | refine s_mv rfl ?_ | refine s_as rfl ?_ | refine s_load_row rfl rfl rfl ?_ | refine s_eql rfl rfl ?_ | refine s_pt rfl rfl ?_ | refine s_pf rfl rfl ?_ | refine s_fld_ptr rfl rfl ?_ | exact ⟨rfl, rfl⟩)) ?_ | refine x_gy rfl rfl rfl rfl (by (repeat' first | refine s_mv rfl ?_ | refine s_as rfl ?_ | refine s_load_row rfl rfl rfl ?_ | refine s_eql rfl rfl ?_ | refine s_pt rfl rfl ?_ | refine s_pf rfl rfl ?_ | refine s_fld_ptr rfl rfl ?_ | exact ⟨rfl, rfl⟩)) ?_ | refine x_sp_f rfl rfl (by omega) ?_ | refine x_nilb ?_)
        all_goals exact e_1 (Tryd.results64) (rv_tmp rfl) (c_drop (σ := [_]) (r := [_, _]) ⟨rfl, rfl⟩)
end Go.Proofs
end
section
namespace Go.Proofs
open Go.Av
variable {G : Nat → DV}
attribute [local irreducible] OpSem ARun AOps ALex ACalls AEnd AClose RV
open Go.Bl
theorem ctypes_x (hG : G 0 = opsD) (k n : Int) (ks : List Nd) (h4 : k ≠ 4) (h5 : k ≠ 5) (h6 : k ≠ 6) (h9 : k ≠ 9) (h10 : k ≠ 10) (h29 : k ≠ 29) (ih : ∀ x ∈ ks, Fit x → ∀ M : List (Int × Int), TM Tryd.prog G 64 (fun g => [.mp 0 g, .agg (Enc.enc x)]) M (.i (ctyM x M).1) (ctyM x M).2) (hfit : Fit (.mk k n 0 ks)) (M : List (Int × Int)) :
    TM Tryd.prog G 64 (fun g => [.mp 0 g, .agg (Enc.enc (Nd.mk k n 0 ks))]) M (.i (ctyM (.mk k n 0 ks) M).1) (ctyM (.mk k n 0 ks) M).2 := by
  intro g B b1
  have hks := hfit.len
  rw [enc_nd]
  refine calls_of_run Tryd.func64 rfl Tryd.ntmps64 rfl (t := [(0, .mp 0 g), (1, .agg [.i k, .i n, .i 0, slOf ks])]) rfl fun E hE => ?_
  have hM : ctyM (.mk k n 0 ks) M = (match ctyL ks M with | (none, M') => (-1, M') | (some l, M') => finM k n 0 l M') := by (rw [ctyM, if_neg (fun h => h.1 rfl)]; try rfl)
  have hz : zerosD [Value.int .i64 0] (ks.length : Int).toNat = encs (kidsTo ks M 0) := by
    show _ = encs (List.replicate ks.length (0 : Int))
    rw [show (ks.length : Int).toNat = ks.length from rfl]
    exact zerosD_rep _
  (repeat' first | refine s_mv rfl ?_ | refine s_as rfl ?_ | refine s_load_row rfl rfl rfl ?_ | refine s_neq rfl rfl ?_ | refine s_len_sl rfl ?_ | refine s_pf rfl rfl ?_ | refine s_fld_ptr rfl rfl ?_ | refine s_make rfl rfl rfl (by omega) (by omega) (by omega) (by omega) (fun _ _ => ?_) | refine s_box rfl rfl (fun _ _ => ?_) | refine o_nil ?_ | refine o_op rfl ?_ | refine o_gn rfl rfl rfl rfl ?_ | refine r_seq ?_ | (refine r_keep [0, 1, 2, 3, 4, 5, 6, 7, 8, 9, 23, 24, 25] rfl ?_; refine r_region ?_) | refine r_block ?_ | refine r_skip ?_ | refine r_cond_f rfl ?_)
  all_goals
    rename_i gt hgt gk hgk
    refine r_loop (fun (i : Nat) => ⟨[(0, .mp 0 g), (3, .ptr 1 gt 0), (5, .ref 2 gk 0 ks.length (Enc.es Int)), (23, slOf ks), (24, .i ks.length), (25, .i i)], [.mapb g (imap (mapI (ctyL (ks.take i) M).2)), .row gt [.i k, .i n, .i 0, slOf ks], .row gk (encs (kidsTo ks M i))]⟩) (fun i => i ≤ ks.length ∧ (ctyL (ks.take i) M).1.isSome = true) (fun i => ks.length - i) 0 ?_ ⟨by omega, rfl⟩ ?_
    · rw [← hz]
      exact al rfl
    intro i ⟨hi, hok⟩
    have hkl := kidsTo_len hi hok
    (repeat' first | refine s_lss rfl rfl ?_ | refine o_nil ?_ | refine o_op rfl ?_ | refine r_seq ?_ | (refine r_keep [0, 1, 2, 3, 4, 5, 6, 7, 8, 9, 23, 24, 25] rfl ?_; refine r_region ?_))
    refine r_cond_d rfl (fun h => ?_) (fun h => ?_)
    · have hil : i < ks.length := by omega
      have htm := ih _ (List.getElem_mem hil) (hfit.kids _ (List.getElem_mem hil)) (ctyL (ks.take i) M).2
      obtain ⟨hst1, hst2⟩ := ctyL_step hil hok
      have hik : i < (kidsTo ks M i).length := by omega
      have hik2 : i < ((kidsTo ks M i).set i (ctyM ks[i] (ctyL (ks.take i) M).2).1).length := by rw [List.length_set]; omega
      have hget : ((kidsTo ks M i).set i (ctyM ks[i] (ctyL (ks.take i) M).2).1)[i] = (ctyM ks[i] (ctyL (ks.take i) M).2).1 := List.getElem_set_self ..
      clear ih hfit hz
      (repeat' first | refine s_mv rfl ?_ | refine s_as rfl ?_ | refine s_load_whole rfl rfl (by first | exact Enc.len _ | rfl) ?_ | refine s_load_epe rfl ?_ | refine s_load_e1 rfl rfl rfl (by first | assumption | omega) rfl ?_ | refine s_idx_sln rfl rfl (by first | assumption | omega | (simp; done) | (simp; omega)) ?_ | refine s_idx_ref1 rfl rfl rfl (by omega) ?_ | refine s_lss rfl rfl ?_ | refine s_call_tm (k := 0) (htm) rfl rfl rfl (by repeat' first | exact .nil | refine .cons ?_ ?_ | exact .s (.mp rfl) | exact .s (.ptr rfl) | exact .s (.ref rfl) | exact .fn (by repeat' first | exact .nil | refine .cons ?_ ?_ | exact .ptr rfl | exact .mp rfl | exact .clo clo_sc) (by repeat' first | exact .nil | refine .cons ?_ ?_ | exact .ptr rfl | exact .mp rfl | exact .clo clo_sc) | exact .s (.clo (by (repeat' first | exact Enc.clo _ | exact clo_sc | exact clo_slOf _ | exact clo_sl (encs_clo _) | exact encs_clo _ | refine clo_fn ?_ ?_ | refine clo_ep ?_ | refine clo_tup ?_ | refine clo_agg ?_ | exact ac_nil | refine ac_cons ?_ ?_ | refine clo_sl ?_); done))) (by repeat' first | exact clo_sc | exact clo_slOf _ | exact clo_sl (encs_clo _) | exact encs_clo _ | refine clo_fn ?_ ?_ | refine clo_ep ?_ | refine clo_tup ?_ | refine clo_agg ?_ | exact ac_nil | refine ac_cons ?_ ?_ | refine clo_sl ?_) (by rfl) ?_ | refine s_store_whole rfl rfl rfl (by first | exact Enc.len _ | rfl) (by first | exact Enc.len _ | rfl) (by rfl) ?_ | refine s_store_e1 rfl rfl rfl rfl rfl (by first | assumption | omega) rfl ?_ | refine s_alloc (fun _ _ => ?_) | refine o_nil ?_ | refine o_op rfl ?_ | refine o_op0 ?_ | refine r_seq ?_ | (refine r_keep [0, 1, 2, 3, 4, 5, 6, 7, 8, 9, 23, 24, 25] rfl ?_; refine r_region ?_) | refine r_block ?_ | refine r_skip ?_)
      refine r_cond_d rfl (fun hn => ?_) (fun hn => ?_)
      · rw [hget] at hn
        rw [hM, hst1 hn]
        (repeat' first | refine s_as rfl ?_ | refine o_nil ?_ | refine o_op rfl ?_ | refine r_seq ?_ | (refine r_keep [0, 1, 2, 3, 4, 5, 6, 7, 8, 9, 23, 24, 25] rfl ?_; refine r_region ?_) | refine r_ret ?_)
        exact e_1 (Tryd.results64) (rv_tmp rfl) (c_drop (σ := [_]) (r := [_, _, _]) ⟨rfl, rfl⟩)
      · rw [hget] at hn
        obtain ⟨k1, k2, k3⟩ := hst2 hn
        (repeat' first | refine s_mv rfl ?_ | refine s_add rfl rfl (by omega) ?_ | refine o_nil ?_ | refine o_op rfl ?_ | (refine r_keep [0, 1, 2, 3, 4, 5, 6, 7, 8, 9, 23, 24, 25] rfl ?_; refine r_region ?_) | refine r_skip ?_)
        refine ⟨i + 1, ⟨by omega, k1⟩, by omega, ?_⟩
        rw [k2, k3]
        exact al rfl
    · have hil : i = ks.length := by omega
      subst hil
      refine r_exit rfl ?_
      refine r_pub 5 rfl rfl (by rw [encs_len, hkl]) rfl ?_
      rw [List.take_length] at hok ⊢
      obtain ⟨l, M', hl⟩ : ∃ l M', ctyL ks M = (some l, M') := by
        rcases he : ctyL ks M with ⟨_ | l, M'⟩
        · rw [he] at hok; cases hok
        · exact ⟨l, M', rfl⟩
      have hkt : kidsTo ks M ks.length = l := by unfold kidsTo; rw [List.take_length, hl]; simp
      have hll := ctyL_len _ _ _ _ hl
      rw [hl] at hM
      rw [hM, hl, hkt]
      have hM2 : (match (some l, M') with | (none, M') => (-1, M') | (some l, M') => finM k n 0 l M' : Int × List (Int × Int)) = finM k n 0 l M' := rfl
      rw [hM2]
      have hq0 := equalI_c (G := G) l [0, 0] (by omega) (by decide)
      have hq1 := equalI_c (G := G) l [1, 1] (by omega) (by decide)
      have hq2 := equalI_c (G := G) l [1] (by omega) (by decide)
      clear hM hM2 hkt hkl hok hz ih hl hfit
      have hnil : l.length = 0 → l = [] := List.length_eq_zero_iff.1
      have hnil' : l = [] → l.length = 0 := List.length_eq_zero_iff.2
      clear hq0 hq1 hq2
      rw [show finM k n 0 l M' = (-1, M') by unfold finM; rw [if_neg h4, if_neg h5, if_neg h6, if_neg h9, if_neg h10, if_neg h29]]
      (repeat' first | refine s_mv rfl ?_ | refine s_as rfl ?_ | refine s_load_row rfl rfl rfl ?_ | refine s_eql rfl rfl ?_ | refine s_pf rfl rfl ?_ | refine s_fld_ptr rfl rfl ?_ | refine x_gn rfl rfl rfl rfl ?_ | refine o_nil ?_ | refine o_op rfl ?_ | refine o_gn rfl rfl rfl rfl ?_ | refine o_gu rfl rfl rfl rfl rfl ?_ | refine o_sp_f rfl rfl (by omega) ?_ | refine r_seq ?_ | (refine r_keep [0, 1, 2, 3, 4, 5, 6, 7, 8, 9, 23, 24, 25] rfl ?_; refine r_region ?_) | refine r_block ?_ | (refine g_draw ?_; refine r_keep [0, 1, 2, 3, 4, 5, 6, 7, 8, 9, 23, 24, 25] rfl ?_; first | refine r_draw0b (by rfl) (by kernel_rfl) (by kernel_rfl) rfl ?_ | refine r_drawq (by kernel_rfl) (by kernel_rfl) ?_) | refine r_skip ?_ | refine r_cond_f rfl ?_ | refine r_ret ?_ | refine x_op rfl (by (repeat' first | refine s_mv rfl ?_ | refine s_as rfl ?_ | refine s_load_row rfl rfl rfl ?_ | refine s_eql rfl rfl ?_ | refine s_pf rfl rfl ?_ | refine s_fld_ptr rfl rfl ?_ | exact ⟨rfl, rfl⟩)) ?_ | refine x_sp_f rfl rfl (by omega) ?_ | refine x_nilb ?_)
      all_goals exact e_1 (Tryd.results64) (rv_tmp rfl) (c_drop (σ := [_]) (r := [_, _]) ⟨rfl, rfl⟩)
end Go.Proofs
end
section
namespace Go.Proofs
open Go.Av
variable {G : Nat → DV}
attribute [local irreducible] OpSem ARun AOps ALex ACalls AEnd AClose RV
open Go.Bl
theorem ctypes_b (k n m : Int) (ks : List Nd) (hm0 : m ≠ 0) (hk6 : k ≠ 6) (M : List (Int × Int)) :
    TM Tryd.prog G 64 (fun g => [.mp 0 g, .agg (Enc.enc (Nd.mk k n m ks))]) M (.i (ctyM (.mk k n m ks) M).1) (ctyM (.mk k n m ks) M).2 := by
  intro g B b1
  rw [enc_nd]
  refine calls_of_run Tryd.func64 rfl Tryd.ntmps64 rfl (t := [(0, .mp 0 g), (1, .agg [.i k, .i n, .i m, slOf ks])]) rfl fun E hE => ?_
  rw [show ctyM (.mk k n m ks) M = (-1, M) by rw [ctyM, if_pos ⟨hm0, hk6⟩]]
  (repeat' first | refine s_mv rfl ?_ | refine s_as rfl ?_ | refine s_load_row rfl rfl rfl ?_ | refine s_neq rfl rfl ?_ | refine s_pt rfl rfl ?_ | refine s_fld_ptr rfl rfl ?_ | refine s_box rfl rfl (fun _ _ => ?_) | refine o_nil ?_ | refine o_op rfl ?_ | refine o_gy rfl rfl rfl rfl ?_ | refine o_sp_t rfl rfl (by omega) ?_ | refine r_seq ?_ | (refine r_keep [0, 1, 2, 3, 4, 5, 6, 7, 8, 9, 23, 24, 25] rfl ?_; refine r_region ?_) | refine r_cond_dt rfl (by omega) ?_ | refine r_ret ?_)
  exact e_1 (Tryd.results64) (rv_tmp rfl) (c_drop (σ := [_]) (r := [_]) ⟨rfl, rfl⟩)
end Go.Proofs
end
section
namespace Go.Proofs
open Go.Av
variable {G : Nat → DV}
attribute [local irreducible] OpSem ARun AOps ALex ACalls AEnd AClose RV
open Go.Bl
theorem ctypes_c (hG : G 0 = opsD) (t : Nd) : Fit t → ∀ M : List (Int × Int), TM Tryd.prog G 64 (fun g => [.mp 0 g, .agg (Enc.enc t)]) M (.i (ctyM t M).1) (ctyM t M).2 := by
  induction t using Nd.ind with
  | h k n m ks ih =>
  intro hfit M
  by_cases h6 : k = 6
  · subst h6
    by_cases hm : m = 0
    · exact ctypes_6a hG n m ks hm ih hfit M
    by_cases hm1 : m = 1
    · exact ctypes_6b hG n m ks hm1 ih hfit M
    · exact ctypes_6c hG n m ks hm hm1 ih hfit M
  by_cases hm : m = 0
  · subst hm
    by_cases h4 : k = 4
    · subst h4; exact ctypes_4 hG n ks ih hfit M
    by_cases h5 : k = 5
    · subst h5; exact ctypes_5 hG n ks ih hfit M
    by_cases h9 : k = 9
    · subst h9
      by_cases hc : 0 ≤ n ∧ n < 12
      · exact ctypes_9a hG n ks hc.1 hc.2 ih hfit M
      · exact ctypes_9b hG n ks hc ih hfit M
    by_cases h10 : k = 10
    · subst h10; exact ctypes_10 hG n ks ih hfit M
    by_cases h29 : k = 29
    · subst h29; exact ctypes_29 hG n ks ih hfit M
    exact ctypes_x hG k n ks h4 h5 h6 h9 h10 h29 ih hfit M
  · exact ctypes_b k n m ks hm h6 M
end Go.Proofs
end
section
namespace Go.Proofs
open Go.Av
variable {G : Nat → DV}
attribute [local irreducible] OpSem ARun AOps ALex ACalls AEnd AClose RV
open Go.Bl
theorem s_max_v {P : Program} {B : Nat} {f : Operand → DV} {σ : List ABlk} {K : DV → List ABlk → Prop} {dst : Option Tmp} {type : TypeId} {pos : String} {after : Array Edge} {gd : Option (Nat × Bool)} {ts : Array TypeId} {x y : Operand} {k1 : IntKind} {a b : Int} (hx : f x = .sc (.int k1 a)) (hy : f y = .sc (.int k1 b)) (k : K (.sc (.int k1 (max a b))) σ) : OpSem P G B ⟨dst, .call ⟨.builtin .max, #[x, y], ts⟩, type, pos, after, gd⟩ f σ K :=
  s_max hx hy (by rwa [show (if a < b then b else a) = max a b by rw [Int.max_def]; split <;> split <;> omega])
theorem valid_of (t : Nd) (htm : TM Tryd.prog G 64 (fun g => [.mp 0 g, .agg (Enc.enc t)]) [] (.i (ctyM t []).1) (ctyM t []).2) :
    Go.Av.Pure Tryd.prog G 36 [.agg (Enc.enc t)] (.tup [.i (max (ctyM t []).1 0), .b (decide (0 ≤ (ctyM t []).1))]) := fun B => by
  refine calls_of_run Tryd.func36 rfl Tryd.ntmps36 rfl (t := [(0, .agg (Enc.enc t))]) rfl fun E hE => ?_
  (repeat' first | refine s_mv rfl ?_ | refine s_as rfl ?_ | refine s_load_whole rfl rfl (by first | exact Enc.len _ | rfl) ?_ | refine s_geq rfl rfl ?_ | refine s_max_v rfl rfl ?_ | refine s_call_tm (k := 1) (htm) rfl rfl rfl (by repeat' first | exact .nil | refine .cons ?_ ?_ | exact .s (.mp rfl) | exact .s (.ptr rfl) | exact .s (.ref rfl) | exact .fn (by repeat' first | exact .nil | refine .cons ?_ ?_ | exact .ptr rfl | exact .mp rfl | exact .clo clo_sc) (by repeat' first | exact .nil | refine .cons ?_ ?_ | exact .ptr rfl | exact .mp rfl | exact .clo clo_sc) | exact .s (.clo (by (repeat' first | exact Enc.clo _ | exact clo_sc | exact clo_slOf _ | exact clo_sl (encs_clo _) | exact encs_clo _ | refine clo_fn ?_ ?_ | refine clo_ep ?_ | refine clo_tup ?_ | refine clo_agg ?_ | exact ac_nil | refine ac_cons ?_ ?_ | refine clo_sl ?_); done))) (by repeat' first | exact clo_sc | exact clo_slOf _ | exact clo_sl (encs_clo _) | exact encs_clo _ | refine clo_fn ?_ ?_ | refine clo_ep ?_ | refine clo_tup ?_ | refine clo_agg ?_ | exact ac_nil | refine ac_cons ?_ ?_ | refine clo_sl ?_) (by rfl) ?_ | refine s_mkmap_i (fun _ _ => ?_) | refine s_box rfl rfl (fun _ _ => ?_) | refine o_nil ?_ | refine o_op rfl ?_ | refine r_seq ?_ | refine r_region ?_ | refine r_ret ?_)
  exact e_2 (Tryd.results36) (rv_tmp rfl) (rv_tmp rfl) (c_drop (σ := []) (r := [_, _]) ⟨rfl, rfl⟩)
end Go.Proofs
end
section
namespace Go.Av
open Go.Bl
section
variable {P : Program} {G : Nat → DV}
def BS (P : Program) (G : Nat → DV) (f : FuncId) (args : List DV) (A : List (Int × Int)) (v : Int) (cl : List (List Int)) (S : Seen) (res : DV) (s' : St) (S' : Seen) : Prop :=
  ∀ (g0 g1 g2 g3 : Nat) (c2 c3 c4 : DV), c2.clo = true → c3.clo = true → c4.clo = true → ∀ B, g0 ≤ B → g1 ≤ B → g2 ≤ B → g3 ≤ B →
    ACalls P G B f (.ptr 0 g0 0 :: args) [.row g0 [.sc (.int .i64 v), .ref 1 g1 0 cl.length 1, c2, c3, c4, .mp 2 g2, .mp 3 g3], .row g1 (encs cl), .mapb g2 (imap (mapI A)), .mapb g3 (seenD S)]
      (fun d' τ' => d' = res ∧ ∃ g1', (g1' = g1 ∨ B < g1') ∧ τ' = [.row g0 [.sc (.int .i64 s'.vars), .ref 1 g1' 0 s'.cl.length 1, c2, c3, c4, .mp 2 g2, .mp 3 g3], .row g1' (encs s'.cl), .mapb g2 (imap (mapI A)), .mapb g3 (seenD S')])
variable {B : Nat} {f : Operand → DV} {σ : List ABlk} {K : DV → List ABlk → Prop} {dst : Option Tmp} {type : TypeId} {pos : String} {after : Array Edge} {gd : Option (Nat × Bool)}
theorem s_call_bs {args : Array Operand} {ts : Array TypeId} {fid : FuncId} {ds : List DV} {A : List (Int × Int)} {v : Int} {cl : List (List Int)} {S S' : Seen} {res : DV} {s' : St} {g0 g1 g2 g3 : Nat} {c2 c3 c4 : DV} {rest : List ABlk} [FnOk P fid]
    (hx : f (.func fid) = .fn (.func fid) [] []) (hds : reL (args.toList.map f) = some (.ptr 0 g0 0 :: ds)) (h : BS P G fid ds A v cl S res s' S')
    (hσ : σ = .row g0 [.sc (.int .i64 v), .ref 1 g1 0 cl.length 1, c2, c3, c4, .mp 2 g2, .mp 3 g3] :: .row g1 (encs cl) :: .mapb g2 (imap (mapI A)) :: .mapb g3 (seenD S) :: rest)
    (h2 : c2.clo = true) (h3 : c3.clo = true) (h4 : c4.clo = true) (hdc : ∀ d ∈ ds, d.clo = true) (hres : res.clo = true)
    (k : ∀ g1', (g1' = g1 ∨ B < g1') → K res (.row g0 [.sc (.int .i64 s'.vars), .ref 1 g1' 0 s'.cl.length 1, c2, c3, c4, .mp 2 g2, .mp 3 g3] :: .row g1' (encs s'.cl) :: .mapb g2 (imap (mapI A)) :: .mapb g3 (seenD S') :: rest)) :
    OpSem P G B ⟨dst, .call ⟨.value (.func fid), args, ts⟩, type, pos, after, gd⟩ f σ K := by
  subst hσ
  have hrow : ∀ {n : Nat} {v : Int} {g1 l : Nat}, RenB (qf [0, 1, 2, 3] n) (.row g0 [.sc (.int .i64 v), .ref 1 g1 0 l 1, c2, c3, c4, .mp 2 g2, .mp 3 g3]) (.row g0 [.sc (.int .i64 v), .ref 1 g1 0 l 1, c2, c3, c4, .mp 2 g2, .mp 3 g3]) := fun {n v g1 l} =>
    .row (.cons (.clo (by simp [DV.clo])) (.cons (.ref rfl) (.cons (.clo h2) (.cons (.clo h3) (.cons (.clo h4) (.cons (.mp rfl) (.cons (.mp rfl) .nil)))))))
  have hbs : ∀ {n : Nat} {v : Int} {cl : List (List Int)} {g1 : Nat} {S : Seen}, RenBs (qf [0, 1, 2, 3] n) [.row g0 [.sc (.int .i64 v), .ref 1 g1 0 cl.length 1, c2, c3, c4, .mp 2 g2, .mp 3 g3], .row g1 (encs cl), .mapb g2 (imap (mapI A)), .mapb g3 (seenD S)] [.row g0 [.sc (.int .i64 v), .ref 1 g1 0 cl.length 1, c2, c3, c4, .mp 2 g2, .mp 3 g3], .row g1 (encs cl), .mapb g2 (imap (mapI A)), .mapb g3 (seenD S)] := fun {n v cl g1 S} =>
    .cons hrow (.cons (.rowc (encs_clo cl)) (.cons (.map mapI_clo) (.cons (.map seenD_clo) .nil)))
  refine s_call_sub (R := fun B d' τ' => d' = res ∧ ∃ g1', (g1' = g1 ∨ B < g1') ∧ τ' = [.row g0 [.sc (.int .i64 s'.vars), .ref 1 g1' 0 s'.cl.length 1, c2, c3, c4, .mp 2 g2, .mp 3 g3], .row g1' (encs s'.cl), .mapb g2 (imap (mapI A)), .mapb g3 (seenD S')]) [0, 1, 2, 3] hx hds (.cons (.s (.ptr rfl)) (renl_clo hdc)) (by decide) rfl hbs (fun B' hB hg => h g0 g1 g2 g3 c2 c3 c4 h2 h3 h4 B' (hg 0 _ _ rfl rfl) (hg 1 _ _ rfl rfl) (hg 2 _ _ rfl rfl) (hg 3 _ _ rfl rfl)) ?_
  rintro B' d' τ' hB ⟨rfl, g1', hg, rfl⟩
  exact ⟨d', _, _, .s (.clo hres), hbs, rfl, k g1' (by omega)⟩
theorem s_lookup_s1 {t kt et : TypeId} {agg a1 : Bool} {size s1 : Nat} {m ix : Operand} {k g : Nat} {S : Seen} {x : List UInt8} {v : List Int} [ht : TyI P t (.map kt et) agg size] [hkt : TyI P kt .string a1 s1] (hm : f m = .mp k g) (hσk : σ[k]? = some (.mapb g (seenD S))) (hx : f ix = .sc (.string ⟨x.toArray⟩)) (hz : (P.info? et).bind (·.zero) = some (.agg #[.int .i64 0, .int .i64 0, .int .i64 0, .int .i64 0])) (hget : getS S x = some v)
    (kk : K (.tup [.agg (encs v), .b true]) σ) : OpSem P G B ⟨dst, .lookup t m ix true, type, pos, after, gd⟩ f σ K := s_lookup_sok hm hσk hx hz (by rw [hget]; exact kk)
theorem s_lookup_s0 {t kt et : TypeId} {agg a1 : Bool} {size s1 : Nat} {m ix : Operand} {k g : Nat} {S : Seen} {x : List UInt8} [ht : TyI P t (.map kt et) agg size] [hkt : TyI P kt .string a1 s1] (hm : f m = .mp k g) (hσk : σ[k]? = some (.mapb g (seenD S))) (hx : f ix = .sc (.string ⟨x.toArray⟩)) (hz : (P.info? et).bind (·.zero) = some (.agg #[.int .i64 0, .int .i64 0, .int .i64 0, .int .i64 0])) (hget : getS S x = none)
    (kk : K (.tup [.agg (encs ([0, 0, 0, 0] : List Int)), .b false]) σ) : OpSem P G B ⟨dst, .lookup t m ix true, type, pos, after, gd⟩ f σ K := s_lookup_sok hm hσk hx hz (by rw [hget]; exact kk)
theorem s_index_e {t e n : Nat} {d : TypeDesc} {g1 : Bool} {z1 : Nat} {x y : Operand} {l : List Int} {kd : IntKind} {i : Nat} [ht : TyI P t (.array n e) g1 z1] [he : TyI P e d false 1]
    (hx : f x = .agg (encs l)) (hy : f y = .sc (.int kd (i : Nat))) (h1 : i < n) (hl : i < l.length) (k : K (.i (l.getD i 0)) σ) : OpSem P G B ⟨dst, .index t x y, type, pos, after, gd⟩ f σ K :=
  s_index_a hx hy h1 (e' := .i (l.getD i 0)) (by
    rw [Nat.mul_one]
    refine encs_at1 (α := Int) rfl hl ?_
    rw [List.getD_eq_getElem?_getD, List.getElem?_eq_getElem hl]; rfl) k
end
end Go.Av
namespace Go.Proofs
open Go.Av Go.Bl
def varTo (a : Int) : Nat → List Int
  | 0 => [0, 0, 0, 0]
  | i + 1 => (varTo a i).set i (a + i)
theorem varTo_len (a : Int) : ∀ i, (varTo a i).length = 4
  | 0 => rfl
  | i + 1 => by rw [varTo, List.length_set, varTo_len a i]
def varM (a m : Int) : List Int := if m = 1 then varTo a 1 else varTo a 4
mutual
def bitsM (A : List (Int × Int)) (t : Nd) (s : St) (S : Seen) : List Int × St × Seen :=
  match getS S (keyS t) with
  | some x => (x, s, S)
  | none => if full s = true then ([0, 0, 0, 0], s, S) else ((madeM A t s S).1, (madeM A t s S).2.1, putS (madeM A t s S).2.2 (keyS t) (madeM A t s S).1)
termination_by (SizeOf.sizeOf t, 1)
def madeM (A : List (Int × Int)) (t : Nd) (s : St) (S : Seen) : List Int × St × Seen :=
  match t with
  | .mk k n m [] => if k = 4 then (number n, s, S) else if k = 5 then ([1 * (2 * n - 1), 0, 0, 0], s, S) else (varM ((getI A n).getD 0) m, s, S)
  | .mk k n m [a] => ([-((bitsM A a s S).1.getD 0 0), 0, 0, 0], (bitsM A a s S).2.1, (bitsM A a s S).2.2)
  | .mk k n m [a, b] =>
    ((opNM n (bitsM A b (bitsM A a s S).2.1 (bitsM A a s S).2.2).2.1 (bitsM A a s S).1 (bitsM A b (bitsM A a s S).2.1 (bitsM A a s S).2.2).1).1,
     (opNM n (bitsM A b (bitsM A a s S).2.1 (bitsM A a s S).2.2).2.1 (bitsM A a s S).1 (bitsM A b (bitsM A a s S).2.1 (bitsM A a s S).2.2).1).2,
     (bitsM A b (bitsM A a s S).2.1 (bitsM A a s S).2.2).2.2)
  | .mk k n m [c, a, b] =>
    let r := bitsM A c s S
    let q := bitsM A a r.2.1 r.2.2
    let u := bitsM A b q.2.1 q.2.2
    if (ctyM (.mk k n m [c, a, b]) []).1 = 1 then ([(muxM u.2.1 (r.1.getD 0 0) (q.1.getD 0 0) (u.1.getD 0 0)).1, 0, 0, 0], (muxM u.2.1 (r.1.getD 0 0) (q.1.getD 0 0) (u.1.getD 0 0)).2, u.2.2)
    else ((eachTo (muxG (r.1.getD 0 0)) u.2.1 q.1 u.1 4).1, (eachTo (muxG (r.1.getD 0 0)) u.2.1 q.1 u.1 4).2, u.2.2)
  | .mk k n m _ => ([0, 0, 0, 0], s, S)
termination_by (SizeOf.sizeOf t, 0)
decreasing_by all_goals (simp_wf; try omega)
end
theorem madeM_0 (A : List (Int × Int)) (k n m : Int) (s : St) (S : Seen) : madeM A (.mk k n m []) s S = if k = 4 then (number n, s, S) else if k = 5 then ([1 * (2 * n - 1), 0, 0, 0], s, S) else (varM ((getI A n).getD 0) m, s, S) := by rw [madeM]
theorem madeM_1 (A : List (Int × Int)) (k n m : Int) (a : Nd) (s : St) (S : Seen) : madeM A (.mk k n m [a]) s S = ([-((bitsM A a s S).1.getD 0 0), 0, 0, 0], (bitsM A a s S).2.1, (bitsM A a s S).2.2) := by rw [madeM]
theorem madeM_2 (A : List (Int × Int)) (k n m : Int) (a b : Nd) (s : St) (S : Seen) : madeM A (.mk k n m [a, b]) s S =
    ((opNM n (bitsM A b (bitsM A a s S).2.1 (bitsM A a s S).2.2).2.1 (bitsM A a s S).1 (bitsM A b (bitsM A a s S).2.1 (bitsM A a s S).2.2).1).1,
     (opNM n (bitsM A b (bitsM A a s S).2.1 (bitsM A a s S).2.2).2.1 (bitsM A a s S).1 (bitsM A b (bitsM A a s S).2.1 (bitsM A a s S).2.2).1).2,
     (bitsM A b (bitsM A a s S).2.1 (bitsM A a s S).2.2).2.2) := by rw [madeM]
def condM (ty : Int) (s : St) (c : Int) (x y : List Int) : List Int × St :=
  if ty = 1 then ([(muxM s c (x.getD 0 0) (y.getD 0 0)).1, 0, 0, 0], (muxM s c (x.getD 0 0) (y.getD 0 0)).2) else eachTo (muxG c) s x y 4
theorem madeM_3 (A : List (Int × Int)) (k n m : Int) (c a b : Nd) (s : St) (S : Seen) : madeM A (.mk k n m [c, a, b]) s S =
    ((condM (ctyM (.mk k n m [c, a, b]) []).1 (bitsM A b (bitsM A a (bitsM A c s S).2.1 (bitsM A c s S).2.2).2.1 (bitsM A a (bitsM A c s S).2.1 (bitsM A c s S).2.2).2.2).2.1 ((bitsM A c s S).1.getD 0 0) (bitsM A a (bitsM A c s S).2.1 (bitsM A c s S).2.2).1 (bitsM A b (bitsM A a (bitsM A c s S).2.1 (bitsM A c s S).2.2).2.1 (bitsM A a (bitsM A c s S).2.1 (bitsM A c s S).2.2).2.2).1).1,
     (condM (ctyM (.mk k n m [c, a, b]) []).1 (bitsM A b (bitsM A a (bitsM A c s S).2.1 (bitsM A c s S).2.2).2.1 (bitsM A a (bitsM A c s S).2.1 (bitsM A c s S).2.2).2.2).2.1 ((bitsM A c s S).1.getD 0 0) (bitsM A a (bitsM A c s S).2.1 (bitsM A c s S).2.2).1 (bitsM A b (bitsM A a (bitsM A c s S).2.1 (bitsM A c s S).2.2).2.1 (bitsM A a (bitsM A c s S).2.1 (bitsM A c s S).2.2).2.2).1).2,
     (bitsM A b (bitsM A a (bitsM A c s S).2.1 (bitsM A c s S).2.2).2.1 (bitsM A a (bitsM A c s S).2.1 (bitsM A c s S).2.2).2.2).2.2) := by
  rw [madeM]
  unfold condM
  by_cases h : (ctyM (.mk k n m [c, a, b]) []).1 = 1
  · rw [if_pos h, if_pos h]
  · rw [if_neg h, if_neg h]
theorem bitsM_some {A : List (Int × Int)} {t : Nd} {s : St} {S : Seen} {x : List Int} (h : getS S (keyS t) = some x) : bitsM A t s S = (x, s, S) := by rw [bitsM, h]
theorem bitsM_full {A : List (Int × Int)} {t : Nd} {s : St} {S : Seen} (h : getS S (keyS t) = none) (hf : full s = true) : bitsM A t s S = ([0, 0, 0, 0], s, S) := by rw [bitsM, h]; exact if_pos hf
theorem bitsM_new {A : List (Int × Int)} {t : Nd} {s : St} {S : Seen} (h : getS S (keyS t) = none) (hf : full s = false) : bitsM A t s S = ((madeM A t s S).1, (madeM A t s S).2.1, putS (madeM A t s S).2.2 (keyS t) (madeM A t s S).1) := by
  rw [bitsM, h]; exact if_neg (by rw [hf]; decide)
end Go.Proofs
end
section
namespace Go.Proofs
open Go.Av
variable {G : Nat → DV}
attribute [local irreducible] OpSem ARun AOps ALex ACalls AEnd AClose RV
open Go.Bl
theorem bits_of (hG : G 1 = pow10T) (A : List (Int × Int)) (t : Nd) (ht : Tin t) (hk : (keyS t).length ≤ 1048576) (s : St) (S : Seen) (hs : Ok s) (hS : ∀ p ∈ S, p.2.length = 4)
    (hmade : getS S (keyS t) = none → full s = false → (madeM A t s S).1.length = 4 ∧ BS Tryd.prog G 71 [.agg (Enc.enc t)] A s.vars s.cl S (.agg (encs (madeM A t s S).1)) (madeM A t s S).2.1 (madeM A t s S).2.2) :
    BS Tryd.prog G 41 [.agg (Enc.enc t)] A s.vars s.cl S (.agg (encs (bitsM A t s S).1)) (bitsM A t s S).2.1 (bitsM A t s S).2.2 := fun g0 g1 g2 g3 c2 c3 c4 h2 h3 h4 B b0 b1 b2 b3 => by
  have hkey := keyS_c (G := G) hG t ht hk
  have hwn : (Enc.enc t : List DV).length = 4 := Enc.len t
  have hsn := seenD_clo (S := S)
  have hm := mapI_clo (M := A)
  have hfc := full_c (G := G) s hs
  have hM1 := fun x => bitsM_some (A := A) (t := t) (s := s) (S := S) (x := x)
  have hM2 := bitsM_full (A := A) (t := t) (s := s) (S := S)
  have hM3 := bitsM_new (A := A) (t := t) (s := s) (S := S)
  generalize keyS t = key at *
  cases hget : getS S key with
  | some x =>
    have hxl : x.length = 4 := by
      unfold getS at hget
      cases hi : idxS S key with
      | none => rw [hi] at hget; cases hget
      | some j =>
        rw [hi] at hget
        have hj : j < S.length := (List.findIdx?_eq_some_iff_getElem.1 hi).1
        rw [Option.map_some, List.getD_eq_getElem?_getD, List.getElem?_eq_getElem hj] at hget
        have := hS _ (List.getElem_mem hj)
        have e : S[j].2 = x := Option.some.inj hget
        rw [← e]; exact this
    have hwx : (encs x).length = 4 := by rw [encs_len, hxl]; rfl
    rw [hM1 x hget]
    clear hmade hS hM1 hM2 hM3
    refine calls_of_run Tryd.func41 rfl Tryd.ntmps41 rfl (t := [(0, .ptr 0 g0 0), (1, .agg (Enc.enc t))]) rfl fun E hE => ?_
    (repeat' first | refine s_mv rfl ?_ | refine s_as rfl ?_ | refine s_load_whole rfl rfl (by first | assumption | rfl) ?_ | refine s_load_row rfl rfl rfl ?_ | refine s_cp rfl rfl (hkey) ?_ | refine s_pt rfl rfl ?_ | refine s_store_whole rfl rfl rfl (by first | assumption | rfl) (by first | assumption | rfl) rfl ?_ | refine s_lookup_s1 rfl rfl rfl (by kernel_rfl) hget ?_ | refine s_fld_ptr rfl rfl ?_ | refine s_extract rfl rfl rfl ?_ | refine s_nilck_ptr rfl rfl ?_ | refine s_alloc (fun _ _ => ?_) | refine s_box rfl rfl (fun _ _ => ?_) | refine o_nil ?_ | refine o_op rfl ?_ | refine o_op0 ?_ | refine o_gn rfl rfl rfl rfl ?_ | refine r_seq ?_ | refine r_region ?_ | refine r_cond_t rfl ?_ | refine r_ret ?_)
    exact e_1 (Tryd.results41) (rv_cella (size := 4) rfl rfl (partD_whole hwx) hwx) (c_drop (σ := [_, _, _, _]) (r := [_, _, _]) ⟨rfl, g1, by omega, rfl⟩)
  | none =>
    cases hf : full s with
    | true =>
      rw [hM2 hget hf]
      rw [hf] at hfc
      have hw0 : (encs ([0, 0, 0, 0] : List Int)).length = 4 := rfl
      clear hmade hS hM1 hM2 hM3
      refine calls_of_run Tryd.func41 rfl Tryd.ntmps41 rfl (t := [(0, .ptr 0 g0 0), (1, .agg (Enc.enc t))]) rfl fun E hE => ?_
      (repeat' first | refine s_mv rfl ?_ | refine s_as rfl ?_ | refine s_load_whole rfl rfl (by first | assumption | rfl) ?_ | refine s_load_row rfl rfl rfl ?_ | refine s_cbm rfl rfl (hfc) rfl (fun _ _ => ?_) | refine s_cp rfl rfl (hkey) ?_ | refine s_pf rfl rfl ?_ | refine s_store_whole rfl rfl rfl (by first | assumption | rfl) (by first | assumption | rfl) rfl ?_ | refine s_lookup_s0 rfl rfl rfl (by kernel_rfl) hget ?_ | refine s_fld_ptr rfl rfl ?_ | refine s_extract rfl rfl rfl ?_ | refine s_nilck_ptr rfl rfl ?_ | refine s_alloc (fun _ _ => ?_) | refine s_box rfl rfl (fun _ _ => ?_) | refine o_nil ?_ | refine o_op rfl ?_ | refine o_op0 ?_ | refine o_gy rfl rfl rfl rfl ?_ | refine r_seq ?_ | refine r_region ?_ | refine r_cond_t rfl ?_ | refine r_ret ?_)
      exact e_1 (Tryd.results41) (rv_cella (size := 4) rfl rfl (partD_whole hw0) hw0) (c_drop (σ := [_, _, _, _]) (r := [_, _, _]) ⟨rfl, _, by omega, rfl⟩)
    | false =>
      obtain ⟨hml, hmd⟩ := hmade hget hf
      rw [hM3 hget hf]
      rw [hf] at hfc
      have hw0 : (encs ([0, 0, 0, 0] : List Int)).length = 4 := rfl
      generalize madeM A t s S = r at *
      have hwr : (encs r.1).length = 4 := by rw [encs_len, hml]; rfl
      clear hmade hS hM1 hM2 hM3
      refine calls_of_run Tryd.func41 rfl Tryd.ntmps41 rfl (t := [(0, .ptr 0 g0 0), (1, .agg (Enc.enc t))]) rfl fun E hE => ?_
      (repeat' first | refine s_mv rfl ?_ | refine s_as rfl ?_ | refine s_load_whole rfl rfl (by first | assumption | rfl) ?_ | refine s_load_row rfl rfl rfl ?_ | refine s_call_bs rfl rfl hmd rfl (by assumption) (by assumption) (by assumption) (by repeat' first | exact ac_nil | refine ac_cons ?_ ?_ | exact clo_sc | exact clo_agg (Enc.clo _) | exact clo_agg (encs_clo _)) (clo_agg (encs_clo _)) (fun _ _ => ?_) | refine s_cbm rfl rfl (hfc) rfl (fun _ _ => ?_) | refine s_cp rfl rfl (hkey) ?_ | refine s_pf rfl rfl ?_ | refine s_store_whole rfl rfl rfl (by first | assumption | rfl) (by first | assumption | rfl) rfl ?_ | refine s_lookup_s0 rfl rfl rfl (by kernel_rfl) hget ?_ | refine s_mapupd_s rfl rfl rfl rfl (by rfl) ?_ | refine s_fld_ptr rfl rfl ?_ | refine s_extract rfl rfl rfl ?_ | refine s_nilck_ptr rfl rfl ?_ | refine s_alloc (fun _ _ => ?_) | refine s_box rfl rfl (fun _ _ => ?_) | refine o_nil ?_ | refine o_op rfl ?_ | refine o_op0 ?_ | refine o_gy rfl rfl rfl rfl ?_ | refine r_seq ?_ | refine r_region ?_ | (refine g_draw ?_; first | refine r_draw0 (by rfl) (by kernel_rfl) (by kernel_rfl) ?_ | refine r_drawq (by kernel_rfl) (by kernel_rfl) ?_) | refine r_skip ?_ | refine r_cond_f rfl ?_ | refine r_ret ?_ | refine x_op rfl (by (repeat' first | refine s_mv rfl ?_ | refine s_load_whole rfl rfl (by first | assumption | rfl) ?_ | refine s_load_row rfl rfl rfl ?_ | refine s_fld_ptr rfl rfl ?_ | refine s_nilck_ptr rfl rfl ?_ | exact ⟨rfl, rfl⟩)) ?_ | refine x_nil ?_)
      exact e_1 (Tryd.results41) (rv_cella (size := 4) rfl rfl (partD_whole hwr) hwr) (c_drop (σ := [_, _, _, _]) (r := [_, _, _, _]) ⟨rfl, _, by omega, rfl⟩)
end Go.Proofs
end
section
namespace Go.Proofs
open Go.Av
variable {G : Nat → DV}
attribute [local irreducible] OpSem ARun AOps ALex ACalls AEnd AClose RV
open Go.Bl
theorem made_num (A : List (Int × Int)) (n m : Int) (s : St) (S : Seen) : BS Tryd.prog G 71 [.agg (Enc.enc (Nd.mk 4 n m []))] A s.vars s.cl S (.agg (encs (number n))) s S := fun g0 g1 g2 g3 c2 c3 c4 h2 h3 h4 B b0 b1 b2 b3 => by
  have hw : (encs (number n)).length = 4 := by rw [encs_len, show (number n).length = 4 from numberTo_len n 4]; rfl
  rw [enc_nd]
  refine calls_of_run Tryd.func71 rfl Tryd.ntmps71 rfl (t := [(0, .ptr 0 g0 0), (1, .agg [.i 4, .i n, .i m, slOf []])]) rfl fun E hE => ?_
  (repeat' first | refine s_as rfl ?_ | refine s_load_row rfl rfl rfl ?_ | refine s_eql rfl rfl ?_ | refine s_cp rfl rfl (number_c _) ?_ | refine s_store_whole rfl rfl rfl (by first | assumption | rfl) (by first | assumption | rfl) rfl ?_ | refine s_fld_ptr rfl rfl ?_ | refine s_alloc (fun _ _ => ?_) | refine s_box rfl rfl (fun _ _ => ?_) | refine o_nil ?_ | refine o_op rfl ?_ | refine o_op0 ?_ | refine r_seq ?_ | refine r_region ?_ | refine r_block ?_ | refine r_cond_t rfl ?_ | refine r_ret ?_)
  exact e_1 (Tryd.results71) (rv_cella (size := 4) rfl rfl (partD_whole hw) hw) (c_drop (σ := [_, _, _, _]) (r := [_, _, _]) ⟨rfl, g1, by omega, rfl⟩)
theorem made_tru (A : List (Int × Int)) (n m : Int) (hn : n = 0 ∨ n = 1) (s : St) (S : Seen) : BS Tryd.prog G 71 [.agg (Enc.enc (Nd.mk 5 n m []))] A s.vars s.cl S (.agg (encs [1 * (2 * n - 1), 0, 0, 0])) s S := fun g0 g1 g2 g3 c2 c3 c4 h2 h3 h4 B b0 b1 b2 b3 => by
  rw [enc_nd]
  refine calls_of_run Tryd.func71 rfl Tryd.ntmps71 rfl (t := [(0, .ptr 0 g0 0), (1, .agg [.i 5, .i n, .i m, slOf []])]) rfl fun E hE => ?_
  (repeat' first | refine s_as rfl ?_ | refine s_load_row rfl rfl rfl ?_ | refine s_eql rfl rfl ?_ | refine s_sub rfl rfl (by omega) ?_ | refine s_mul rfl rfl (by omega) ?_ | refine s_store_whole rfl rfl rfl (by first | assumption | rfl) (by first | assumption | rfl) rfl ?_ | refine s_fld_ptr rfl rfl ?_ | refine s_build_a rfl rfl ?_ | refine s_alloc (fun _ _ => ?_) | refine s_box rfl rfl (fun _ _ => ?_) | refine o_nil ?_ | refine o_op rfl ?_ | refine o_op0 ?_ | refine r_seq ?_ | refine r_region ?_ | refine r_block ?_ | refine r_cond_t rfl ?_ | refine r_cond_f rfl ?_ | refine r_ret ?_)
  exact e_1 (Tryd.results71) (rv_cella (size := 4) rfl rfl rfl rfl) (c_drop (σ := [_, _, _, _]) (r := [_, _, _]) ⟨rfl, g1, by omega, rfl⟩)
theorem made_var (A : List (Int × Int)) (n m : Int) (ha : 0 ≤ (getI A n).getD 0 ∧ (getI A n).getD 0 ≤ 1099511627776) (s : St) (S : Seen) : BS Tryd.prog G 71 [.agg (Enc.enc (Nd.mk 6 n m []))] A s.vars s.cl S (.agg (encs (varM ((getI A n).getD 0) m))) s S := fun g0 g1 g2 g3 c2 c3 c4 h2 h3 h4 B b0 b1 b2 b3 => by
  rw [enc_nd]
  refine calls_of_run Tryd.func71 rfl Tryd.ntmps71 rfl (t := [(0, .ptr 0 g0 0), (1, .agg [.i 6, .i n, .i m, slOf []])]) rfl fun E hE => ?_
  (repeat' first | refine s_mv rfl ?_ | refine s_as rfl ?_ | refine s_load_row rfl rfl rfl ?_ | refine s_eql rfl rfl ?_ | refine s_fld_ptr rfl rfl ?_ | refine s_alloc (fun _ _ => ?_) | refine s_box rfl rfl (fun _ _ => ?_) | refine o_nil ?_ | refine o_op rfl ?_ | refine r_seq ?_ | refine r_region ?_ | refine r_block ?_ | refine r_cond_t rfl ?_ | refine r_cond_f rfl ?_)
  rename_i gt2 hgt2 gt3 hgt3 gt4 hgt4 gt5 hgt5
  refine r_loop (fun (i : Nat) => ⟨[(2, .ptr 4 gt2 0), (3, .ptr 5 gt3 0), (4, .ptr 6 gt4 0), (5, .ptr 7 gt5 0), (29, .i i)], [.row g0 [.sc (.int .i64 s.vars), .ref 1 g1 0 s.cl.length 1, c2, c3, c4, .mp 2 g2, .mp 3 g3], .row g1 (encs s.cl), .mapb g2 (imap (mapI A)), .mapb g3 (seenD S), .row gt2 [.ptr 0 g0 0], .row gt3 [.i 6, .i n, .i m, slOf ([] : List Nd)], .row gt4 [.i 0, .i 0, .i 0, .i 0], .row gt5 (encs (varTo ((getI A n).getD 0) i))]⟩) (fun i => i ≤ 4 ∧ (i = 0 ∨ m ≠ 1)) (fun i => 4 - i) 0 ?_ ⟨by omega, .inl rfl⟩ ?_
  · exact al rfl
  intro i ⟨hi, him⟩
  have hl := varTo_len ((getI A n).getD 0) i
  have hs1 : varTo ((getI A n).getD 0) (i + 1) = (varTo ((getI A n).getD 0) i).set i ((getI A n).getD 0 + i) := rfl
  (repeat' first | refine s_lss rfl rfl ?_ | refine o_nil ?_ | refine o_op rfl ?_ | refine r_seq ?_ | refine r_region ?_)
  refine r_cond_d rfl (fun h => ?_) (fun h => ?_)
  · have hil : i < (varTo ((getI A n).getD 0) i).length := by omega
    (repeat' first | refine s_mv rfl ?_ | refine s_as rfl ?_ | refine s_load_row rfl rfl rfl ?_ | refine s_eql rfl rfl ?_ | refine s_store_e1 rfl rfl rfl rfl rfl (by first | assumption | omega) rfl ?_ | refine s_fld_ptr rfl rfl ?_ | refine o_nil ?_ | refine o_op rfl ?_ | refine o_op0 ?_ | refine r_seq ?_ | refine r_region ?_ | refine r_block ?_ | (refine g_draw ?_; first | refine r_draw0 (by rfl) (by kernel_rfl) (by kernel_rfl) ?_ | refine r_drawq (by kernel_rfl) (by kernel_rfl) ?_) | refine r_skip ?_ | refine x_op rfl (by (repeat' first | refine s_mv rfl ?_ | refine s_load_row rfl rfl rfl ?_ | refine s_idx_arr1 rfl rfl rfl (by omega) ?_ | refine s_add rfl rfl (by omega) ?_ | refine s_lookup_i rfl rfl rfl (by kernel_rfl) ?_ | refine s_fld_ptr rfl rfl ?_ | refine s_nilck_ptr rfl rfl ?_ | exact ⟨rfl, rfl⟩)) ?_ | refine x_nil ?_)
    refine r_cond_d rfl (fun hm => ?_) (fun hm => ?_)
    · have hi0 : i = 0 := by rcases him with h | h
                             · exact h
                             · exact absurd hm h
      subst hi0
      rw [show varM ((getI A n).getD 0) m = varTo ((getI A n).getD 0) 1 from if_pos hm]
      have hw : (encs (varTo ((getI A n).getD 0) 1)).length = 4 := by rw [encs_len, varTo_len]; rfl
      rw [← hs1]
      (repeat' first | refine s_load_whole rfl rfl (by first | assumption | rfl) ?_ | refine s_store_whole rfl rfl rfl (by first | assumption | rfl) (by first | assumption | rfl) rfl ?_ | refine o_nil ?_ | refine o_op rfl ?_ | refine o_op0 ?_ | refine r_seq ?_ | refine r_region ?_ | refine r_exit rfl ?_ | refine r_ret ?_)
      exact e_1 (Tryd.results71) (rv_cella (size := 4) rfl rfl (partD_whole hw) hw) (c_drop (σ := [_, _, _, _]) (r := [_, _, _, _]) ⟨rfl, g1, by omega, rfl⟩)
    · (repeat' first | refine s_mv rfl ?_ | refine s_add rfl rfl (by omega) ?_ | refine o_nil ?_ | refine o_op rfl ?_ | refine r_region ?_ | refine r_skip ?_)
      refine ⟨i + 1, ⟨by omega, .inr hm⟩, by omega, ?_⟩
      rw [hs1]
      exact al rfl
  · have hi4 : i = 4 := by omega
    subst hi4
    have hm1 : m ≠ 1 := by rcases him with h | h
                           · omega
                           · exact h
    rw [show varM ((getI A n).getD 0) m = varTo ((getI A n).getD 0) 4 from if_neg hm1]
    have hw : (encs (varTo ((getI A n).getD 0) 4)).length = 4 := by rw [encs_len, varTo_len]; rfl
    (repeat' first | refine s_load_whole rfl rfl (by first | assumption | rfl) ?_ | refine s_store_whole rfl rfl rfl (by first | assumption | rfl) (by first | assumption | rfl) rfl ?_ | refine o_nil ?_ | refine o_op rfl ?_ | refine o_op0 ?_ | refine r_seq ?_ | refine r_region ?_ | refine r_exit rfl ?_ | refine r_ret ?_)
    exact e_1 (Tryd.results71) (rv_cella (size := 4) rfl rfl (partD_whole hw) hw) (c_drop (σ := [_, _, _, _]) (r := [_, _, _, _]) ⟨rfl, g1, by omega, rfl⟩)
end Go.Proofs
end
