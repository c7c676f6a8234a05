/-
  What functions of the program hand back: contracts over abstract values.
-/
import Derived.Test.YtecbcpilcjmhlaaDoorAvN
import Derived.Test.YtecbcpilcjmhlaaDoorInst
import Derived.Test.YtecbcpilcjmhlaaDoorW0
import Derived.Test.YtecbcpilcjmhlaaDoorW1
namespace Go.Proofs
open Go.Av
set_option linter.unusedSimpArgs false
set_option linter.unusedVariables false
set_option maxRecDepth 10000
set_option maxHeartbeats 4000000
variable {G : Nat → DV}
attribute [local irreducible] OpSem ARun AOps ALex ACalls AEnd AClose RV
open Go.Fv

theorem values_nil_c (model : List Bool) : Go.Av.Pure Tryd.prog G 24 [.agg [.i 0, .nil, slOf ([] : List Int), slOf ([] : List Int), slOf ([] : List Int)], slOf model] .nil := fun B => by
  refine calls_of_run Tryd.func24 rfl Tryd.ntmps24 rfl (t := [(0, .agg [.i 0, .nil, slOf ([] : List Int), slOf ([] : List Int), slOf ([] : List Int)]), (1, slOf model)]) rfl fun E hE => ?_
  (repeat' first | refine s_as rfl ?_ | refine s_load_row rfl rfl rfl ?_ | refine s_eql rfl rfl ?_ | refine s_len_sl rfl ?_ | refine s_fld_ptr rfl rfl ?_ | refine s_box rfl rfl (fun _ _ => ?_) | refine o_nil ?_ | refine o_op rfl ?_ | refine r_seq ?_ | refine r_region ?_ | refine r_cond_t rfl ?_ | refine r_ret ?_)
  refine e_1 Tryd.results24 (rv_tmp rfl) (c_pure' ?_)
  rfl
theorem values_c (names types firsts : List Int) (model : List Bool) (hn : names.length ≤ 64) (h0 : 0 < names.length) (ht : types.length = names.length) (hf : firsts.length = names.length) (hb : ∀ x ∈ names, 0 ≤ x ∧ x < 64) (hfb : ∀ x ∈ firsts, 1 ≤ x ∧ x ≤ 30) (hm : model.length ≤ 4611686018427387904) :
    Own Tryd.prog G 24 [.agg [.i 0, .nil, slOf names, slOf types, slOf firsts], slOf model] (Go.Fv.outM names types firsts model names.length).length 1 (encs (Go.Fv.outM names types firsts model names.length)) := fun B => by
  have hm1 : -1 ≤ maxM names := max_le
  have hm2 : maxM names < 64 := max_lt (fun x hx => (hb x hx).2) (by omega)
  refine calls_of_run Tryd.func24 rfl Tryd.ntmps24 rfl (t := [(0, .agg [.i 0, .nil, slOf names, slOf types, slOf firsts]), (1, slOf model)]) rfl fun E hE => ?_
  (repeat' first | refine s_mv rfl ?_ | refine s_as rfl ?_ | refine s_load_row rfl rfl rfl ?_ | refine s_eql rfl rfl ?_ | refine s_add rfl rfl (by omega) ?_ | refine s_len_sl rfl ?_ | refine s_call_p rfl rfl (maxI_c names (by omega) h0 (fun x hx => (hb x hx).1)) (by repeat' first | exact clo_sc | exact clo_slOf _ | exact clo_sl (encs_clo _) | exact encs_clo _ | refine clo_fn ?_ ?_ | refine clo_ep ?_ | refine clo_tup ?_ | refine clo_agg ?_ | exact ac_nil | refine ac_cons ?_ ?_ | refine clo_sl ?_) ?_ | refine s_fld_ptr rfl rfl ?_ | refine s_make rfl rfl rfl (by omega) (by omega) (by omega) (by omega) (fun _ _ => ?_) | refine s_box rfl rfl (fun _ _ => ?_) | refine o_nil ?_ | refine o_op rfl ?_ | refine r_seq ?_ | refine r_region ?_ | refine r_block ?_ | refine r_skip ?_ | refine r_cond_df rfl (by omega) ?_)
  rename_i g0 hg0 g1 hg1
  refine r_pubptr 2 rfl rfl (by rfl) ?_
  have hz : encs (Go.Fv.outM names types firsts model 0) = zerosD [.int .i64 0] (maxM names + 1).toNat := (zeros_eq _).symm
  refine r_loop (fun i : Nat => ⟨[(1, slOf model), (2, .ep [.i 0, .nil, slOf names, slOf types, slOf firsts]), (5, .ref 1 g1 0 (maxM names + 1).toNat 1), (21, slOf names), (22, .i names.length), (23, .i i)], [.gone, .row g1 (encs (Go.Fv.outM names types firsts model i))]⟩) (fun i => i ≤ names.length) (fun i => names.length - i) 0 ?_ (by omega) ?_
  · rw [hz]
    exact ale_drop (by repeat' first | exact mem_nil | refine mem_cons rfl ?_) rfl
  intro i hi
  have hol := outM_len names types firsts model i
  by_cases hc : i < names.length
  · have hit : i < types.length := by omega
    have hif : i < firsts.length := by omega
    have hbi := hb _ (List.getElem_mem hc)
    have hfi := hfb _ (List.getElem_mem hif)
    have hmx : names[i] ≤ maxM names := le_max (List.getElem_mem hc)
    have hwl := wid_le types[i]
    have hsu : Go.Fv.outM names types firsts model (i + 1) = (Go.Fv.outM names types firsts model i).set (names[i]).toNat (valM model types[i] firsts[i]) := by
      rw [Go.Fv.outM, Ord.getD_lt hc, Ord.getD_lt hit, Ord.getD_lt hif]
    clear hb hfb
    (repeat' first | refine s_mv rfl ?_ | refine s_as rfl ?_ | refine s_load_ep rfl ?_ | refine s_idx_sln rfl rfl (by first | assumption | omega | (simp; done) | (simp; omega)) ?_ | refine s_lss rfl rfl ?_ | refine s_call_p rfl rfl (width_c _) (by repeat' first | exact clo_sc | exact clo_slOf _ | exact clo_sl (encs_clo _) | exact encs_clo _ | refine clo_fn ?_ ?_ | refine clo_ep ?_ | refine clo_tup ?_ | refine clo_agg ?_ | exact ac_nil | refine ac_cons ?_ ?_ | refine clo_sl ?_) ?_ | refine s_fld_ep rfl rfl ?_ | refine o_nil ?_ | refine o_op rfl ?_ | refine r_seq ?_ | refine r_region ?_ | refine r_block ?_ | refine r_skip ?_ | refine r_cond_dt rfl (by omega) ?_)
    refine r_loop (fun k : Nat => ⟨[(1, slOf model), (2, .ep [.i 0, .nil, slOf names, slOf types, slOf firsts]), (5, .ref 1 g1 0 (maxM names + 1).toNat 1), (21, slOf names), (22, .i names.length), (23, .i i), (6, .i i), (7, .i names[i]), (8, .i (nM model (firsts[i] - 1).toNat k)), (33, .i (wid types[i])), (34, .i k)], [.gone, .row g1 (encs (Go.Fv.outM names types firsts model i))]⟩) (fun k => k ≤ wid types[i]) (fun k => wid types[i] - k) 0 ?_ (by omega) ?_
    · exact ale_drop (by repeat' first | exact mem_nil | refine mem_cons rfl ?_) rfl
    intro k hk
    have hnl := nM_lt model (firsts[i] - 1).toNat k
    by_cases hkw : k < wid types[i]
    · have hor := or_pow k (by omega) _ hnl
      have e : (firsts[i] - 1 + (k : Int)).toNat = (firsts[i] - 1).toNat + k := by omega
      have hn1 : nM model (firsts[i] - 1).toNat (k + 1) = if bitM model ((firsts[i] - 1).toNat + k) then nM model (firsts[i] - 1).toNat k + 2 ^ k else nM model (firsts[i] - 1).toNat k := rfl
      by_cases hml : firsts[i] - 1 + (k : Int) < model.length
      · have hlt : (firsts[i] - 1 + (k : Int)).toNat < model.length := by omega
        have hbm : bitM model ((firsts[i] - 1).toNat + k) = model[(firsts[i] - 1 + (k : Int)).toNat]'hlt := by
          unfold bitM
          rw [Ord.getD_lt (by omega)]
          simp only [e]
        (repeat' first | refine s_mv rfl ?_ | refine s_as rfl ?_ | refine s_load_ep rfl ?_ | refine s_idx_sln rfl rfl (by first | assumption | omega | (simp; done) | (simp; omega)) ?_ | refine s_idx_sl rfl rfl (by omega) (by first | assumption | omega | (simp; done) | (simp; omega)) ?_ | refine s_lss rfl rfl ?_ | refine s_add rfl rfl (by omega) ?_ | refine s_sub rfl rfl (by omega) ?_ | refine s_len_sl rfl ?_ | refine s_pt rfl rfl ?_ | refine s_fld_ep rfl rfl ?_ | refine o_nil ?_ | refine o_op rfl ?_ | refine o_gy rfl rfl rfl rfl ?_ | refine o_sp_t rfl rfl (by omega) ?_ | refine r_seq ?_ | refine r_region ?_ | refine r_block ?_ | refine r_skip ?_ | refine r_cond_dt rfl (by omega) ?_)
        refine r_cond rfl (fun h => ?_) (fun h => ?_)
        · rw [hbm, h, if_pos rfl] at hn1
          (repeat' first | refine s_mv rfl ?_ | refine s_as rfl ?_ | refine s_add rfl rfl (by omega) ?_ | refine s_or rfl rfl ?_ | refine s_shl rfl rfl (by omega) ?_ | refine o_nil ?_ | refine o_op rfl ?_ | refine r_region ?_)
          refine ⟨k + 1, hkw, by omega, ?_⟩
          rw [hn1, ← hor]
          exact ale_drop (by repeat' first | exact mem_nil | refine mem_cons rfl ?_) rfl
        · rw [hbm, h, if_neg (by decide)] at hn1
          (repeat' first | refine s_mv rfl ?_ | refine s_add rfl rfl (by omega) ?_ | refine o_nil ?_ | refine o_op rfl ?_ | refine r_region ?_ | refine r_skip ?_)
          refine ⟨k + 1, hkw, by omega, ?_⟩
          rw [hn1]
          exact ale_drop (by repeat' first | exact mem_nil | refine mem_cons rfl ?_) rfl
      · have hbm : bitM model ((firsts[i] - 1).toNat + k) = false := by
          unfold bitM
          rw [List.getD_eq_getElem?_getD, List.getElem?_eq_none (by omega)]; rfl
        rw [hbm, if_neg (by decide)] at hn1
        (repeat' first | refine s_mv rfl ?_ | refine s_as rfl ?_ | refine s_load_ep rfl ?_ | refine s_idx_sln rfl rfl (by first | assumption | omega | (simp; done) | (simp; omega)) ?_ | refine s_lss rfl rfl ?_ | refine s_add rfl rfl (by omega) ?_ | refine s_sub rfl rfl (by omega) ?_ | refine s_len_sl rfl ?_ | refine s_pf rfl rfl ?_ | refine s_fld_ep rfl rfl ?_ | refine o_nil ?_ | refine o_op rfl ?_ | refine o_gn rfl rfl rfl rfl ?_ | refine o_sp_f rfl rfl (by omega) ?_ | refine r_seq ?_ | refine r_region ?_ | refine r_block ?_ | refine r_skip ?_ | refine r_cond_f rfl ?_ | refine r_cond_dt rfl (by omega) ?_)
        refine ⟨k + 1, hkw, by omega, ?_⟩
        rw [hn1]
        exact ale_drop (by repeat' first | exact mem_nil | refine mem_cons rfl ?_) rfl
    · by_cases ht1 : types[i] = 1
      · have hkk : k = 1 := by unfold wid at hkw hk; rw [if_pos ht1] at hkw hk; omega
        subst hkk
        rw [valM, if_pos ht1] at hsu
        (repeat' first | refine s_mv rfl ?_ | refine s_load_ep rfl ?_ | refine s_idx_sln rfl rfl (by first | assumption | omega | (simp; done) | (simp; omega)) ?_ | refine s_idx_ref1i rfl rfl rfl (by omega) (by omega) ?_ | refine s_lss rfl rfl ?_ | refine s_neq rfl rfl ?_ | refine s_add rfl rfl (by omega) ?_ | refine s_fld_ep rfl rfl ?_ | refine s_store_e1 rfl rfl rfl rfl rfl (by first | assumption | omega) rfl ?_ | refine o_nil ?_ | refine o_op rfl ?_ | refine o_op0 ?_ | refine r_seq ?_ | refine r_region ?_ | refine r_skip ?_ | refine r_cond_df rfl (by omega) ?_ | refine r_exit rfl ?_)
        refine ⟨i + 1, hc, by omega, ?_⟩
        rw [hsu]
        exact ale_drop (by repeat' first | exact mem_nil | refine mem_cons rfl ?_) rfl
      · have hkk : k = 4 := by unfold wid at hkw hk; rw [if_neg ht1] at hkw hk; omega
        subst hkk
        rw [valM, if_neg ht1] at hsu
        have h16 : nM model (firsts[i] - 1).toNat 4 < 16 := hnl
        have hol2 : ((Go.Fv.outM names types firsts model i).set (names[i]).toNat (nM model (firsts[i] - 1).toNat 4 : Nat)).length = (maxM names + 1).toNat := by rw [List.length_set]; exact hol
        have hss : Go.Fv.outM names types firsts model (i + 1) = ((Go.Fv.outM names types firsts model i).set (names[i]).toNat (nM model (firsts[i] - 1).toNat 4)).set (names[i]).toNat (wrapM (nM model (firsts[i] - 1).toNat 4)) := by rw [hsu, List.set_set]
        (repeat' first | refine s_mv rfl ?_ | refine s_load_ep rfl ?_ | refine s_idx_sln rfl rfl (by first | assumption | omega | (simp; done) | (simp; omega)) ?_ | refine s_idx_ref1i rfl rfl rfl (by omega) (by omega) ?_ | refine s_lss rfl rfl ?_ | refine s_neq rfl rfl ?_ | refine s_add rfl rfl (by omega) ?_ | refine s_call_p rfl rfl (wWrap_c _ (by assumption)) (by repeat' first | exact clo_sc | exact clo_slOf _ | exact clo_sl (encs_clo _) | exact encs_clo _ | refine clo_fn ?_ ?_ | refine clo_ep ?_ | refine clo_tup ?_ | refine clo_agg ?_ | exact ac_nil | refine ac_cons ?_ ?_ | refine clo_sl ?_) ?_ | refine s_fld_ep rfl rfl ?_ | refine s_store_e1 rfl rfl rfl rfl rfl (by first | assumption | omega) rfl ?_ | refine o_nil ?_ | refine o_op rfl ?_ | refine o_op0 ?_ | refine r_seq ?_ | refine r_region ?_ | refine r_cond_dt rfl (by omega) ?_ | refine r_cond_df rfl (by omega) ?_ | refine r_exit rfl ?_)
        refine ⟨i + 1, hc, by omega, ?_⟩
        rw [hss]
        exact ale_drop (by repeat' first | exact mem_nil | refine mem_cons rfl ?_) rfl
  · have : i = names.length := by omega
    subst this
    rw [← hol]
    (repeat' first | refine s_mv rfl ?_ | refine s_as rfl ?_ | refine s_lss rfl rfl ?_ | refine o_nil ?_ | refine o_op rfl ?_ | refine r_seq ?_ | refine r_region ?_ | refine r_cond_df rfl (by omega) ?_ | refine r_exit rfl ?_ | refine r_ret ?_)
    exact e_1 Tryd.results24 (rv_tmp rfl) (c_ownedB hE rfl rfl rfl rfl)

end Go.Proofs
