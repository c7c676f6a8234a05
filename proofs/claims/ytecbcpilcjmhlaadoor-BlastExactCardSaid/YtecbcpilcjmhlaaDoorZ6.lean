/-
  Part 6 of the proof: Ct6a.
-/
import Derived.Test.YtecbcpilcjmhlaaDoorZ1
import Derived.Test.YtecbcpilcjmhlaaDoorZ5
set_option linter.unusedSimpArgs false
set_option linter.unusedVariables false
set_option maxRecDepth 10000
set_option maxHeartbeats 4000000
section
namespace Go.Proofs
open Go.Av
variable {G : Nat → DV}
attribute [local irreducible] OpSem ARun AOps ALex ACalls AEnd AClose RV
open Go.Bl
theorem s_lookup_some {P : Program} {B : Nat} {f : Operand → DV} {σ : List ABlk} {K : DV → List ABlk → Prop} {dst : Option Tmp} {type : TypeId} {pos : String} {after : Array Edge} {gd : Option (Nat × Bool)} {t kt et : TypeId} {agg a1 : Bool} {size s1 : Nat} {m ix : Operand} {k g : Nat} {M : List (Int × Int)} {x v : Int} [ht : TyI P t (.map kt et) agg size] [hkt : TyI P kt (.int .i64) a1 s1] (hg : getI M x = some v) (hm : f m = .mp k g) (hσk : σ[k]? = some (.mapb g (imap (mapI M)))) (hx : f ix = .sc (.int .i64 x)) (hz : (P.info? et).bind (·.zero) = some (.int .i64 0))
    (kk : K (.tup [.i v, .b true]) σ) : OpSem P G B ⟨dst, .lookup t m ix true, type, pos, after, gd⟩ f σ K := s_lookup_iok hm hσk hx hz (by rw [hg]; exact kk)
theorem s_lookup_none {P : Program} {B : Nat} {f : Operand → DV} {σ : List ABlk} {K : DV → List ABlk → Prop} {dst : Option Tmp} {type : TypeId} {pos : String} {after : Array Edge} {gd : Option (Nat × Bool)} {t kt et : TypeId} {agg a1 : Bool} {size s1 : Nat} {m ix : Operand} {k g : Nat} {M : List (Int × Int)} {x : Int} [ht : TyI P t (.map kt et) agg size] [hkt : TyI P kt (.int .i64) a1 s1] (hg : getI M x = none) (hm : f m = .mp k g) (hσk : σ[k]? = some (.mapb g (imap (mapI M)))) (hx : f ix = .sc (.int .i64 x)) (hz : (P.info? et).bind (·.zero) = some (.int .i64 0))
    (kk : K (.tup [.i 0, .b false]) σ) : OpSem P G B ⟨dst, .lookup t m ix true, type, pos, after, gd⟩ f σ K := s_lookup_iok hm hσk hx hz (by rw [hg]; exact kk)
theorem ctypes_6a (hG : G 0 = opsD) (n m : Int) (ks : List Nd) (hm : m = 0) (ih : ∀ x ∈ ks, Fit x → ∀ M : List (Int × Int), TM Tryd.prog G 64 (fun g => [.mp 0 g, .agg (Enc.enc x)]) M (.i (ctyM x M).1) (ctyM x M).2) (hfit : Fit (.mk 6 n m ks)) (M : List (Int × Int)) :
    TM Tryd.prog G 64 (fun g => [.mp 0 g, .agg (Enc.enc (Nd.mk 6 n m ks))]) M (.i (ctyM (.mk 6 n m ks) M).1) (ctyM (.mk 6 n m ks) M).2 := by
  intro g B b1
  have hks := hfit.len
  rw [enc_nd]
  refine calls_of_run Tryd.func64 rfl Tryd.ntmps64 rfl (t := [(0, .mp 0 g), (1, .agg [.i 6, .i n, .i m, slOf ks])]) rfl fun E hE => ?_
  have hM : ctyM (.mk 6 n m ks) M = (match ctyL ks M with | (none, M') => (-1, M') | (some l, M') => finM 6 n m l M') := by (rw [ctyM, if_neg (fun h => h.2 rfl)]; try rfl)
  have hz : zerosD [Value.int .i64 0] (ks.length : Int).toNat = encs (kidsTo ks M 0) := by
    show _ = encs (List.replicate ks.length (0 : Int))
    rw [show (ks.length : Int).toNat = ks.length from rfl]
    exact zerosD_rep _
  (repeat' first | refine s_mv rfl ?_ | refine s_as rfl ?_ | refine s_load_row rfl rfl rfl ?_ | refine s_neq rfl rfl ?_ | refine s_len_sl rfl ?_ | refine s_pf rfl rfl ?_ | refine s_fld_ptr rfl rfl ?_ | refine s_make rfl rfl rfl (by omega) (by omega) (by omega) (by omega) (fun _ _ => ?_) | refine s_box rfl rfl (fun _ _ => ?_) | refine o_nil ?_ | refine o_op rfl ?_ | refine o_gn rfl rfl rfl rfl ?_ | refine o_sp_f rfl rfl (by omega) ?_ | refine r_seq ?_ | (refine r_keep [0, 1, 2, 3, 4, 5, 6, 7, 8, 9, 23, 24, 25] rfl ?_; refine r_region ?_) | refine r_block ?_ | refine r_skip ?_ | refine r_cond_f rfl ?_)
  all_goals
    rename_i gt hgt gk hgk
    refine r_loop (fun (i : Nat) => ⟨[(0, .mp 0 g), (3, .ptr 1 gt 0), (5, .ref 2 gk 0 ks.length (Enc.es Int)), (23, slOf ks), (24, .i ks.length), (25, .i i)], [.mapb g (imap (mapI (ctyL (ks.take i) M).2)), .row gt [.i 6, .i n, .i m, slOf ks], .row gk (encs (kidsTo ks M i))]⟩) (fun i => i ≤ ks.length ∧ (ctyL (ks.take i) M).1.isSome = true) (fun i => ks.length - i) 0 ?_ ⟨by omega, rfl⟩ ?_
    · rw [← hz]
      exact al rfl
    intro i ⟨hi, hok⟩
    have hkl := kidsTo_len hi hok
    (repeat' first | refine s_lss rfl rfl ?_ | refine o_nil ?_ | refine o_op rfl ?_ | refine r_seq ?_ | (refine r_keep [0, 1, 2, 3, 4, 5, 6, 7, 8, 9, 23, 24, 25] rfl ?_; refine r_region ?_))
    refine r_cond_d rfl (fun h => ?_) (fun h => ?_)
    · have hil : i < ks.length := by omega
      have htm := ih _ (List.getElem_mem hil) (hfit.kids _ (List.getElem_mem hil)) (ctyL (ks.take i) M).2
      obtain ⟨hst1, hst2⟩ := ctyL_step hil hok
      have hik : i < (kidsTo ks M i).length := by omega
      have hik2 : i < ((kidsTo ks M i).set i (ctyM ks[i] (ctyL (ks.take i) M).2).1).length := by rw [List.length_set]; omega
      have hget : ((kidsTo ks M i).set i (ctyM ks[i] (ctyL (ks.take i) M).2).1)[i] = (ctyM ks[i] (ctyL (ks.take i) M).2).1 := List.getElem_set_self ..
      clear ih hfit hz
      (repeat' first | refine s_mv rfl ?_ | refine s_as rfl ?_ | refine s_load_whole rfl rfl (by first | exact Enc.len _ | rfl) ?_ | refine s_load_epe rfl ?_ | refine s_load_e1 rfl rfl rfl (by first | assumption | omega) rfl ?_ | refine s_idx_sln rfl rfl (by first | assumption | omega | (simp; done) | (simp; omega)) ?_ | refine s_idx_ref1 rfl rfl rfl (by omega) ?_ | refine s_lss rfl rfl ?_ | refine s_call_tm (k := 0) (htm) rfl rfl rfl (by repeat' first | exact .nil | refine .cons ?_ ?_ | exact .s (.mp rfl) | exact .s (.ptr rfl) | exact .s (.ref rfl) | exact .fn (by repeat' first | exact .nil | refine .cons ?_ ?_ | exact .ptr rfl | exact .mp rfl | exact .clo clo_sc) (by repeat' first | exact .nil | refine .cons ?_ ?_ | exact .ptr rfl | exact .mp rfl | exact .clo clo_sc) | exact .s (.clo (by (repeat' first | exact Enc.clo _ | exact clo_sc | exact clo_slOf _ | exact clo_sl (encs_clo _) | exact encs_clo _ | refine clo_fn ?_ ?_ | refine clo_ep ?_ | refine clo_tup ?_ | refine clo_agg ?_ | exact ac_nil | refine ac_cons ?_ ?_ | refine clo_sl ?_); done))) (by repeat' first | exact clo_sc | exact clo_slOf _ | exact clo_sl (encs_clo _) | exact encs_clo _ | refine clo_fn ?_ ?_ | refine clo_ep ?_ | refine clo_tup ?_ | refine clo_agg ?_ | exact ac_nil | refine ac_cons ?_ ?_ | refine clo_sl ?_) (by rfl) ?_ | refine s_store_whole rfl rfl rfl (by first | exact Enc.len _ | rfl) (by first | exact Enc.len _ | rfl) (by rfl) ?_ | refine s_store_e1 rfl rfl rfl rfl rfl (by first | assumption | omega) rfl ?_ | refine s_alloc (fun _ _ => ?_) | refine o_nil ?_ | refine o_op rfl ?_ | refine o_op0 ?_ | refine r_seq ?_ | (refine r_keep [0, 1, 2, 3, 4, 5, 6, 7, 8, 9, 23, 24, 25] rfl ?_; refine r_region ?_) | refine r_block ?_ | refine r_skip ?_)
      refine r_cond_d rfl (fun hn => ?_) (fun hn => ?_)
      · rw [hget] at hn
        rw [hM, hst1 hn]
        (repeat' first | refine s_as rfl ?_ | refine o_nil ?_ | refine o_op rfl ?_ | refine r_seq ?_ | (refine r_keep [0, 1, 2, 3, 4, 5, 6, 7, 8, 9, 23, 24, 25] rfl ?_; refine r_region ?_) | refine r_ret ?_)
        exact e_1 (Tryd.results64) (rv_tmp rfl) (c_drop (σ := [_]) (r := [_, _, _]) ⟨rfl, rfl⟩)
      · rw [hget] at hn
        obtain ⟨k1, k2, k3⟩ := hst2 hn
        (repeat' first | refine s_mv rfl ?_ | refine s_add rfl rfl (by omega) ?_ | refine o_nil ?_ | refine o_op rfl ?_ | (refine r_keep [0, 1, 2, 3, 4, 5, 6, 7, 8, 9, 23, 24, 25] rfl ?_; refine r_region ?_) | refine r_skip ?_)
        refine ⟨i + 1, ⟨by omega, k1⟩, by omega, ?_⟩
        rw [k2, k3]
        exact al rfl
    · have hil : i = ks.length := by omega
      subst hil
      refine r_exit rfl ?_
      refine r_pub 5 rfl rfl (by rw [encs_len, hkl]) rfl ?_
      rw [List.take_length] at hok ⊢
      obtain ⟨l, M', hl⟩ : ∃ l M', ctyL ks M = (some l, M') := by
        rcases he : ctyL ks M with ⟨_ | l, M'⟩
        · rw [he] at hok; cases hok
        · exact ⟨l, M', rfl⟩
      have hkt : kidsTo ks M ks.length = l := by unfold kidsTo; rw [List.take_length, hl]; simp
      have hll := ctyL_len _ _ _ _ hl
      rw [hl] at hM
      rw [hM, hl, hkt]
      have hM2 : (match (some l, M') with | (none, M') => (-1, M') | (some l, M') => finM 6 n m l M' : Int × List (Int × Int)) = finM 6 n m l M' := rfl
      rw [hM2]
      have hq0 := equalI_c (G := G) l [0, 0] (by omega) (by decide)
      have hq1 := equalI_c (G := G) l [1, 1] (by omega) (by decide)
      have hq2 := equalI_c (G := G) l [1] (by omega) (by decide)
      clear hM hM2 hkt hkl hok hz ih hl hfit
      have hnil : l.length = 0 → l = [] := List.length_eq_zero_iff.1
      have hnil' : l = [] → l.length = 0 := List.length_eq_zero_iff.2
      clear hq0 hq1 hq2
      have hmm : m = 0 ∨ m = 1 := .inl hm
      by_cases hc1 : l.length = 0
      · by_cases hc2 : 0 ≤ n
        · by_cases hc3 : n ≤ 63
          · cases hg : getI M' n with
            | none =>
              rw [show finM 6 n m l M' = (m, putI M' n m) by unfold finM; rw [if_neg (by decide), if_neg (by decide), if_pos rfl, if_pos ⟨hnil hc1, hc2, hc3, hmm⟩, hg, if_neg (fun h => Bool.noConfusion h.1)]]
              (repeat' first | refine s_mv rfl ?_ | refine s_as rfl ?_ | refine s_load_row rfl rfl rfl ?_ | refine s_leq rfl rfl ?_ | refine s_geq rfl rfl ?_ | refine s_eql rfl rfl ?_ | refine s_len_sl rfl ?_ | refine s_pt rfl rfl ?_ | refine s_pf rfl rfl ?_ | refine s_lookup_none hg rfl rfl rfl (by kernel_rfl) ?_ | refine s_mapupd_i rfl rfl rfl rfl rfl ?_ | refine s_fld_ptr rfl rfl ?_ | refine s_extract rfl rfl rfl ?_ | refine o_nil ?_ | refine o_op rfl ?_ | refine o_op0 ?_ | refine o_gy rfl rfl rfl rfl ?_ | refine o_gn rfl rfl rfl rfl ?_ | refine o_gu rfl rfl rfl rfl rfl ?_ | refine o_sp_t rfl rfl (by omega) ?_ | refine r_seq ?_ | (refine r_keep [0, 1, 2, 3, 4, 5, 6, 7, 8, 9, 23, 24, 25] rfl ?_; refine r_region ?_) | refine r_block ?_ | refine r_skip ?_ | refine r_cond_t rfl ?_ | refine r_cond_f rfl ?_ | refine r_ret ?_)
              all_goals exact e_1 (Tryd.results64) (rv_tmp rfl) (c_drop (σ := [_]) (r := [_, _]) ⟨rfl, rfl⟩)
            | some v =>
              by_cases hv : v = m
              · rw [show finM 6 n m l M' = (m, putI M' n m) by unfold finM; rw [if_neg (by decide), if_neg (by decide), if_pos rfl, if_pos ⟨hnil hc1, hc2, hc3, hmm⟩, hg, if_neg (fun h => h.2 hv)]]
                (repeat' first | refine s_mv rfl ?_ | refine s_as rfl ?_ | refine s_load_row rfl rfl rfl ?_ | refine s_leq rfl rfl ?_ | refine s_geq rfl rfl ?_ | refine s_eql rfl rfl ?_ | refine s_neq rfl rfl ?_ | refine s_len_sl rfl ?_ | refine s_pt rfl rfl ?_ | refine s_pf rfl rfl ?_ | refine s_lookup_some hg rfl rfl rfl (by kernel_rfl) ?_ | refine s_mapupd_i rfl rfl rfl rfl rfl ?_ | refine s_fld_ptr rfl rfl ?_ | refine s_extract rfl rfl rfl ?_ | refine o_nil ?_ | refine o_op rfl ?_ | refine o_op0 ?_ | refine o_gy rfl rfl rfl rfl ?_ | refine o_gn rfl rfl rfl rfl ?_ | refine o_gu rfl rfl rfl rfl rfl ?_ | refine o_sp_t rfl rfl (by omega) ?_ | refine r_seq ?_ | (refine r_keep [0, 1, 2, 3, 4, 5, 6, 7, 8, 9, 23, 24, 25] rfl ?_; refine r_region ?_) | refine r_block ?_ | refine r_skip ?_ | refine r_cond_t rfl ?_ | refine r_cond_f rfl ?_ | refine r_cond_df rfl (by omega) ?_ | refine r_ret ?_)
                all_goals exact e_1 (Tryd.results64) (rv_tmp rfl) (c_drop (σ := [_]) (r := [_, _]) ⟨rfl, rfl⟩)
              · rw [show finM 6 n m l M' = (-1, M') by unfold finM; rw [if_neg (by decide), if_neg (by decide), if_pos rfl, if_pos ⟨hnil hc1, hc2, hc3, hmm⟩, hg, if_pos ⟨rfl, hv⟩]]
                (repeat' first | refine s_mv rfl ?_ | refine s_as rfl ?_ | refine s_load_row rfl rfl rfl ?_ | refine s_leq rfl rfl ?_ | refine s_geq rfl rfl ?_ | refine s_eql rfl rfl ?_ | refine s_neq rfl rfl ?_ | refine s_len_sl rfl ?_ | refine s_pt rfl rfl ?_ | refine s_pf rfl rfl ?_ | refine s_lookup_some hg rfl rfl rfl (by kernel_rfl) ?_ | refine s_fld_ptr rfl rfl ?_ | refine s_extract rfl rfl rfl ?_ | refine o_nil ?_ | refine o_op rfl ?_ | refine o_gy rfl rfl rfl rfl ?_ | refine o_gn rfl rfl rfl rfl ?_ | refine o_gu rfl rfl rfl rfl rfl ?_ | refine o_sp_t rfl rfl (by omega) ?_ | refine r_seq ?_ | (refine r_keep [0, 1, 2, 3, 4, 5, 6, 7, 8, 9, 23, 24, 25] rfl ?_; refine r_region ?_) | refine r_block ?_ | refine r_cond_t rfl ?_ | refine r_cond_f rfl ?_ | refine r_cond_dt rfl (by omega) ?_ | refine r_ret ?_)
                all_goals exact e_1 (Tryd.results64) (rv_tmp rfl) (c_drop (σ := [_]) (r := [_, _]) ⟨rfl, rfl⟩)
          · rw [show finM 6 n m l M' = (-1, M') by unfold finM; rw [if_neg (by decide), if_neg (by decide), if_pos rfl, if_neg (fun h => hc3 h.2.2.1)]]
            (repeat' first | refine s_mv rfl ?_ | refine s_as rfl ?_ | refine s_load_row rfl rfl rfl ?_ | refine s_leq rfl rfl ?_ | refine s_geq rfl rfl ?_ | refine s_eql rfl rfl ?_ | refine s_len_sl rfl ?_ | refine s_pt rfl rfl ?_ | refine s_pf rfl rfl ?_ | refine s_fld_ptr rfl rfl ?_ | refine x_gn rfl rfl rfl rfl ?_ | refine o_nil ?_ | refine o_op rfl ?_ | refine o_gy rfl rfl rfl rfl ?_ | refine o_gn rfl rfl rfl rfl ?_ | refine o_gu rfl rfl rfl rfl rfl ?_ | refine o_sp_t rfl rfl (by omega) ?_ | refine o_sp_f rfl rfl (by omega) ?_ | refine r_seq ?_ | (refine r_keep [0, 1, 2, 3, 4, 5, 6, 7, 8, 9, 23, 24, 25] rfl ?_; refine r_region ?_) | refine r_block ?_ | (refine g_draw ?_; refine r_keep [0, 1, 2, 3, 4, 5, 6, 7, 8, 9, 23, 24, 25] rfl ?_; first | refine r_draw0b (by rfl) (by kernel_rfl) (by kernel_rfl) rfl ?_ | refine r_drawq (by kernel_rfl) (by kernel_rfl) ?_) | refine r_skip ?_ | refine r_cond_f rfl ?_ | refine r_ret ?_ | refine x_op rfl (by (repeat' first | refine s_mv rfl ?_ | refine s_as rfl ?_ | refine s_load_row rfl rfl rfl ?_ | refine s_eql rfl rfl ?_ | refine s_pf rfl rfl ?_ | refine s_fld_ptr rfl rfl ?_ | exact ⟨rfl, rfl⟩)) ?_ | refine x_nilb ?_)
            all_goals exact e_1 (Tryd.results64) (rv_tmp rfl) (c_drop (σ := [_]) (r := [_, _]) ⟨rfl, rfl⟩)
        · rw [show finM 6 n m l M' = (-1, M') by unfold finM; rw [if_neg (by decide), if_neg (by decide), if_pos rfl, if_neg (fun h => hc2 h.2.1)]]
          (repeat' first | refine s_mv rfl ?_ | refine s_as rfl ?_ | refine s_load_row rfl rfl rfl ?_ | refine s_geq rfl rfl ?_ | refine s_eql rfl rfl ?_ | refine s_len_sl rfl ?_ | refine s_pt rfl rfl ?_ | refine s_pf rfl rfl ?_ | refine s_fld_ptr rfl rfl ?_ | refine x_gn rfl rfl rfl rfl ?_ | refine o_nil ?_ | refine o_op rfl ?_ | refine o_gy rfl rfl rfl rfl ?_ | refine o_gn rfl rfl rfl rfl ?_ | refine o_gu rfl rfl rfl rfl rfl ?_ | refine o_sp_t rfl rfl (by omega) ?_ | refine o_sp_f rfl rfl (by omega) ?_ | refine r_seq ?_ | (refine r_keep [0, 1, 2, 3, 4, 5, 6, 7, 8, 9, 23, 24, 25] rfl ?_; refine r_region ?_) | refine r_block ?_ | (refine g_draw ?_; refine r_keep [0, 1, 2, 3, 4, 5, 6, 7, 8, 9, 23, 24, 25] rfl ?_; first | refine r_draw0b (by rfl) (by kernel_rfl) (by kernel_rfl) rfl ?_ | refine r_drawq (by kernel_rfl) (by kernel_rfl) ?_) | refine r_skip ?_ | refine r_cond_f rfl ?_ | refine r_ret ?_ | refine x_op rfl (by (repeat' first | refine s_mv rfl ?_ | refine s_as rfl ?_ | refine s_load_row rfl rfl rfl ?_ | refine s_eql rfl rfl ?_ | refine s_pf rfl rfl ?_ | refine s_fld_ptr rfl rfl ?_ | exact ⟨rfl, rfl⟩)) ?_ | refine x_nilb ?_)
          all_goals exact e_1 (Tryd.results64) (rv_tmp rfl) (c_drop (σ := [_]) (r := [_, _]) ⟨rfl, rfl⟩)
      · rw [show finM 6 n m l M' = (-1, M') by unfold finM; rw [if_neg (by decide), if_neg (by decide), if_pos rfl, if_neg (fun h => hc1 (hnil' h.1))]]
        (repeat' first | refine s_mv rfl ?_ | refine s_as rfl ?_ | refine s_load_row rfl rfl rfl ?_ | refine s_eql rfl rfl ?_ | refine s_len_sl rfl ?_ | refine s_pt rfl rfl ?_ | refine s_pf rfl rfl ?_ | refine s_fld_ptr rfl rfl ?_ | refine x_gn rfl rfl rfl rfl ?_ | refine o_nil ?_ | refine o_op rfl ?_ | refine o_gy rfl rfl rfl rfl ?_ | refine o_gn rfl rfl rfl rfl ?_ | refine o_gu rfl rfl rfl rfl rfl ?_ | refine o_sp_f rfl rfl (by omega) ?_ | refine r_seq ?_ | (refine r_keep [0, 1, 2, 3, 4, 5, 6, 7, 8, 9, 23, 24, 25] rfl ?_; refine r_region ?_) | refine r_block ?_ | (refine g_draw ?_; refine r_keep [0, 1, 2, 3, 4, 5, 6, 7, 8, 9, 23, 24, 25] rfl ?_; first | refine r_draw0b (by rfl) (by kernel_rfl) (by kernel_rfl) rfl ?_ | refine r_drawq (by kernel_rfl) (by kernel_rfl) ?_) | refine r_skip ?_ | refine r_cond_f rfl ?_ | refine r_ret ?_ | refine x_op rfl (by (repeat' first | refine s_mv rfl ?_ | refine s_as rfl ?_ | refine s_load_row rfl rfl rfl ?_ | refine s_eql rfl rfl ?_ | refine s_pf rfl rfl ?_ | refine s_fld_ptr rfl rfl ?_ | exact ⟨rfl, rfl⟩)) ?_ | refine x_nilb ?_)
        all_goals exact e_1 (Tryd.results64) (rv_tmp rfl) (c_drop (σ := [_]) (r := [_, _]) ⟨rfl, rfl⟩)
end Go.Proofs
end
