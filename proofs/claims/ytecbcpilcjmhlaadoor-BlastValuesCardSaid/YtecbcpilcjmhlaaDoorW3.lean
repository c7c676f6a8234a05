/-
  What functions of the program hand back: contracts over abstract values.
-/
import Derived.Test.YtecbcpilcjmhlaaDoorAvN
import Derived.Test.YtecbcpilcjmhlaaDoorInst
import Derived.Test.YtecbcpilcjmhlaaDoorW0
import Derived.Test.YtecbcpilcjmhlaaDoorW1
namespace Go.Proofs
open Go.Av
set_option linter.unusedSimpArgs false
set_option linter.unusedVariables false
set_option maxRecDepth 10000
set_option maxHeartbeats 4000000
variable {G : Nat → DV}
attribute [local irreducible] OpSem ARun AOps ALex ACalls AEnd AClose RV
open Go.Fv
def pw (k : Nat) : Nat := 2 ^ k
theorem pw_succ (k : Nat) : pw (k + 1) = pw k * 2 := Nat.pow_succ ..
theorem pw_le {k : Nat} (h : k ≤ 4) : pw k ≤ 16 := Nat.pow_le_pow_right (by omega) h

theorem rValues_c (names types firsts : List Int) (model : List Bool) (hn : names.length ≤ 64) (ht : types.length = names.length) (hf : firsts.length = names.length) (hb : ∀ x ∈ names, 0 ≤ x ∧ x < 64) (hfb : ∀ x ∈ firsts, 1 ≤ x ∧ x ≤ 30) (hm : model.length ≤ 4611686018427387904) :
    Own Tryd.prog G 25 [slOf names, slOf types, slOf firsts, slOf model] (Go.Fv.outM names types firsts model names.length).length 1 (encs (Go.Fv.outM names types firsts model names.length)) := fun B => by
  have hm1 : -1 ≤ maxM names := max_le
  have hm2 : maxM names < 64 := max_lt (fun x hx => (hb x hx).2) (by omega)
  refine calls_of_run Tryd.func25 rfl Tryd.ntmps25 rfl (t := [(0, slOf names), (1, slOf types), (2, slOf firsts), (3, slOf model)]) rfl fun E hE => ?_
  (repeat' first | refine s_as rfl ?_ | refine o_nil ?_ | refine o_op rfl ?_ | refine r_seq ?_ | refine r_region ?_ | refine r_block ?_)
  refine r_loop (fun i : Nat => ⟨[(0, slOf names), (1, slOf types), (2, slOf firsts), (3, slOf model), (9, .i (maxM (names.take i))), (10, .i i)], []⟩) (fun i => i ≤ names.length) (fun i => names.length - i) 0 ?_ (by omega) ?_
  · exact ale_drop (by repeat' first | exact mem_nil | refine mem_cons rfl ?_) rfl
  intro i hi
  by_cases hc : i < names.length
  · have hs := maxM_succ hc
    (repeat' first | refine s_mv rfl ?_ | refine s_as rfl ?_ | refine s_load_ep rfl ?_ | refine s_idx_sln rfl rfl (by first | assumption | omega | (simp; done) | (simp; omega)) ?_ | refine s_lss rfl rfl ?_ | refine s_add rfl rfl (by omega) ?_ | refine s_max_m rfl rfl ?_ | refine s_len_sl rfl ?_ | refine o_nil ?_ | refine o_op rfl ?_ | refine r_seq ?_ | refine r_region ?_ | refine r_block ?_ | refine r_skip ?_ | refine r_cond_dt rfl (by omega) ?_)
    refine ⟨i + 1, hc, by omega, ?_⟩
    rw [hs]
    exact ale_drop (by repeat' first | exact mem_nil | refine mem_cons rfl ?_) rfl
  have hti : names.take i = names := List.take_of_length_le (by omega)
  rw [hti]
  (repeat' first | refine s_mv rfl ?_ | refine s_as rfl ?_ | refine s_lss rfl rfl ?_ | refine s_add rfl rfl (by omega) ?_ | refine s_len_sl rfl ?_ | refine s_make rfl rfl rfl (by omega) (by omega) (by omega) (by omega) (fun _ _ => ?_) | refine o_nil ?_ | refine o_op rfl ?_ | refine r_seq ?_ | refine r_region ?_ | refine r_block ?_ | refine r_cond_df rfl (by omega) ?_ | refine r_exit rfl ?_)
  clear hti hi hc
  rename_i g1 hg1
  have hz : encs (Go.Fv.outM names types firsts model 0) = zerosD [.int .i64 0] (maxM names + 1).toNat := (zeros_eq _).symm
  refine r_loop (fun i : Nat => ⟨[(0, slOf names), (1, slOf types), (2, slOf firsts), (3, slOf model), (11, .ref 0 g1 0 (maxM names + 1).toNat 1), (12, .i i)], [.row g1 (encs (Go.Fv.outM names types firsts model i))]⟩) (fun i => i ≤ names.length) (fun i => names.length - i) 0 ?_ (by omega) ?_
  · rw [hz]
    exact ale_drop (by repeat' first | exact mem_nil | refine mem_cons rfl ?_) rfl
  intro i hi
  have hol := outM_len names types firsts model i
  by_cases hc : i < names.length
  · have hit : i < types.length := by omega
    have hif : i < firsts.length := by omega
    have hbi := hb _ (List.getElem_mem hc)
    have hfi := hfb _ (List.getElem_mem hif)
    have hmx : names[i] ≤ maxM names := le_max (List.getElem_mem hc)
    have hwl := wid_le types[i]
    have hsu : Go.Fv.outM names types firsts model (i + 1) = (Go.Fv.outM names types firsts model i).set (names[i]).toNat (valM model types[i] firsts[i]) := by
      rw [Go.Fv.outM, Ord.getD_lt hc, Ord.getD_lt hit, Ord.getD_lt hif]
    clear hb hfb
    by_cases ht1 : types[i] = 1
    all_goals
      have hw : wid types[i] = if types[i] = 1 then 1 else 4 := rfl
      first | rw [if_pos ht1] at hw | rw [if_neg ht1] at hw
      (repeat' first | refine s_mv rfl ?_ | refine s_as rfl ?_ | refine s_load_ep rfl ?_ | refine s_idx_sln rfl rfl (by first | assumption | omega | (simp; done) | (simp; omega)) ?_ | refine s_lss rfl rfl ?_ | refine s_eql rfl rfl ?_ | refine s_len_sl rfl ?_ | refine o_nil ?_ | refine o_op rfl ?_ | refine r_seq ?_ | refine r_region ?_ | refine r_block ?_ | refine r_skip ?_ | refine r_cond_dt rfl (by omega) ?_ | refine r_cond_df rfl (by omega) ?_)
      refine r_loop (fun k : Nat => ⟨[(0, slOf names), (1, slOf types), (2, slOf firsts), (3, slOf model), (11, .ref 0 g1 0 (maxM names + 1).toNat 1), (12, .i i), (13, .i (wid types[i])), (14, .i (nM model (firsts[i] - 1).toNat k)), (15, .i (pw k)), (16, .i k)], [.row g1 (encs (Go.Fv.outM names types firsts model i))]⟩) (fun k => k ≤ wid types[i]) (fun k => wid types[i] - k) 0 ?_ (by omega) ?_
      · rw [hw]
        exact ale_drop (by repeat' first | exact mem_nil | refine mem_cons rfl ?_) rfl
      intro k hk
      have hnl := nM_lt model (firsts[i] - 1).toNat k
      have hp := pw_le (k := k) (by omega)
      have hps : ((pw (k + 1) : Nat) : Int) = (pw k : Int) * 2 := by rw [pw_succ]; rfl
      change _ < pw k at hnl
      by_cases hkw : k < wid types[i]
      · have e : (firsts[i] - 1 + (k : Int)).toNat = (firsts[i] - 1).toNat + k := by omega
        have hn1 : ((nM model (firsts[i] - 1).toNat (k + 1) : Nat) : Int) = if bitM model ((firsts[i] - 1).toNat + k) then (nM model (firsts[i] - 1).toNat k : Int) + (pw k : Int) else (nM model (firsts[i] - 1).toNat k : Int) := by
          rw [nM]; split <;> rfl
        by_cases hml : firsts[i] - 1 + (k : Int) < model.length
        · have hlt : (firsts[i] - 1 + (k : Int)).toNat < model.length := by omega
          have hbm : bitM model ((firsts[i] - 1).toNat + k) = model[(firsts[i] - 1 + (k : Int)).toNat]'hlt := by
            unfold bitM
            rw [Ord.getD_lt (by omega)]
            simp only [e]
          (repeat' first | refine s_mv rfl ?_ | refine s_as rfl ?_ | refine s_load_ep rfl ?_ | refine s_idx_sln rfl rfl (by first | assumption | omega | (simp; done) | (simp; omega)) ?_ | refine s_idx_sl rfl rfl (by omega) (by first | assumption | omega | (simp; done) | (simp; omega)) ?_ | refine s_lss rfl rfl ?_ | refine s_add rfl rfl (by omega) ?_ | refine s_sub rfl rfl (by omega) ?_ | refine s_len_sl rfl ?_ | refine o_nil ?_ | refine o_op rfl ?_ | refine r_seq ?_ | refine r_region ?_ | refine r_block ?_ | refine r_skip ?_ | refine r_cond_dt rfl (by omega) ?_)
          refine r_cond rfl (fun h => ?_) (fun h => ?_)
          · rw [hbm, h, if_pos rfl] at hn1
            (repeat' first | refine s_mv rfl ?_ | refine s_as rfl ?_ | refine s_add rfl rfl (by omega) ?_ | refine s_mul rfl rfl (by omega) ?_ | refine o_nil ?_ | refine o_op rfl ?_ | refine r_region ?_)
            refine ⟨k + 1, hkw, by omega, ?_⟩
            rw [hn1, hps]
            exact ale_drop (by repeat' first | exact mem_nil | refine mem_cons rfl ?_) rfl
          · rw [hbm, h, if_neg (by decide)] at hn1
            (repeat' first | refine s_mv rfl ?_ | refine s_as rfl ?_ | refine s_add rfl rfl (by omega) ?_ | refine s_mul rfl rfl (by omega) ?_ | refine o_nil ?_ | refine o_op rfl ?_ | refine r_region ?_ | refine r_skip ?_)
            refine ⟨k + 1, hkw, by omega, ?_⟩
            rw [hn1, hps]
            exact ale_drop (by repeat' first | exact mem_nil | refine mem_cons rfl ?_) rfl
        · have hbm : bitM model ((firsts[i] - 1).toNat + k) = false := by
            unfold bitM
            rw [List.getD_eq_getElem?_getD, List.getElem?_eq_none (by omega)]; rfl
          rw [hbm, if_neg (by decide)] at hn1
          (repeat' first | refine s_mv rfl ?_ | refine s_as rfl ?_ | refine s_load_ep rfl ?_ | refine s_idx_sln rfl rfl (by first | assumption | omega | (simp; done) | (simp; omega)) ?_ | refine s_lss rfl rfl ?_ | refine s_add rfl rfl (by omega) ?_ | refine s_sub rfl rfl (by omega) ?_ | refine s_mul rfl rfl (by omega) ?_ | refine s_len_sl rfl ?_ | refine o_nil ?_ | refine o_op rfl ?_ | refine r_seq ?_ | refine r_region ?_ | refine r_block ?_ | refine r_skip ?_ | refine r_cond_dt rfl (by omega) ?_ | refine r_cond_df rfl (by omega) ?_)
          refine ⟨k + 1, hkw, by omega, ?_⟩
          rw [hn1, hps]
          exact ale_drop (by repeat' first | exact mem_nil | refine mem_cons rfl ?_) rfl
      · first
          | (have hkk : k = 1 := by omega
             subst hkk
             rw [valM, if_pos ht1] at hsu
             (repeat' first | refine s_mv rfl ?_ | refine s_as rfl ?_ | refine s_load_ep rfl ?_ | refine s_idx_sln rfl rfl (by first | assumption | omega | (simp; done) | (simp; omega)) ?_ | refine s_idx_ref1i rfl rfl rfl (by omega) (by omega) ?_ | refine s_lss rfl rfl ?_ | refine s_neq rfl rfl ?_ | refine s_add rfl rfl (by omega) ?_ | refine s_store_e1 rfl rfl rfl rfl rfl (by first | assumption | omega) rfl ?_ | refine o_nil ?_ | refine o_op rfl ?_ | refine o_op0 ?_ | refine r_seq ?_ | refine r_region ?_ | refine r_skip ?_ | refine r_cond_df rfl (by omega) ?_ | refine r_exit rfl ?_)
             refine ⟨i + 1, hc, by omega, ?_⟩
             rw [hsu]
             exact ale_drop (by repeat' first | exact mem_nil | refine mem_cons rfl ?_) rfl)
          | (have hkk : k = 4 := by omega
             subst hkk
             rw [valM, if_neg ht1] at hsu
             have h16 : nM model (firsts[i] - 1).toNat 4 < 16 := hnl
             have hol2 : ((Go.Fv.outM names types firsts model i).set (names[i]).toNat (nM model (firsts[i] - 1).toNat 4 : Nat)).length = (maxM names + 1).toNat := by rw [List.length_set]; exact hol
             have hss : Go.Fv.outM names types firsts model (i + 1) = ((Go.Fv.outM names types firsts model i).set (names[i]).toNat (nM model (firsts[i] - 1).toNat 4 : Nat)).set (names[i]).toNat (wrapM (nM model (firsts[i] - 1).toNat 4)) := by rw [hsu, List.set_set]
             (repeat' first | refine s_mv rfl ?_ | refine s_as rfl ?_ | refine s_load_ep rfl ?_ | refine s_idx_sln rfl rfl (by first | assumption | omega | (simp; done) | (simp; omega)) ?_ | refine s_idx_ref1i rfl rfl rfl (by omega) (by omega) ?_ | refine s_lss rfl rfl ?_ | refine s_neq rfl rfl ?_ | refine s_add rfl rfl (by omega) ?_ | refine s_store_e1 rfl rfl rfl rfl rfl (by first | assumption | omega) rfl ?_ | refine o_nil ?_ | refine o_op rfl ?_ | refine o_op0 ?_ | refine r_seq ?_ | refine r_region ?_ | (refine g_draw ?_; first | refine r_draw0 (by rfl) (by kernel_rfl) (by kernel_rfl) ?_ | refine r_drawq (by kernel_rfl) (by kernel_rfl) ?_) | refine r_cond_dt rfl (by omega) ?_ | refine r_cond_df rfl (by omega) ?_ | refine r_exit rfl ?_ | refine x_op rfl (by (repeat' first | refine s_mv rfl ?_ | refine s_load_ep rfl ?_ | refine s_idx_sln rfl rfl (by first | assumption | omega | (simp; done) | (simp; omega)) ?_ | refine s_idx_ref1i rfl rfl rfl (by omega) (by omega) ?_ | refine s_call_p rfl rfl (r04Wrap_c _ (by assumption)) (by repeat' first | exact clo_sc | exact clo_slOf _ | exact clo_sl (encs_clo _) | exact encs_clo _ | refine clo_fn ?_ ?_ | refine clo_ep ?_ | refine clo_tup ?_ | refine clo_agg ?_ | exact ac_nil | refine ac_cons ?_ ?_ | refine clo_sl ?_) ?_ | exact ⟨rfl, rfl⟩)) ?_ | refine x_nil ?_)
             refine ⟨i + 1, hc, by omega, ?_⟩
             rw [hss]
             exact ale_drop (by repeat' first | exact mem_nil | refine mem_cons rfl ?_) rfl)
  · have : i = names.length := by omega
    subst this
    rw [← hol]
    (repeat' first | refine s_mv rfl ?_ | refine s_as rfl ?_ | refine s_lss rfl rfl ?_ | refine s_len_sl rfl ?_ | refine o_nil ?_ | refine o_op rfl ?_ | refine r_seq ?_ | refine r_region ?_ | refine r_cond_df rfl (by omega) ?_ | refine r_exit rfl ?_ | refine r_ret ?_)
    exact e_1 Tryd.results25 (rv_tmp rfl) (c_ownedB hE rfl rfl rfl rfl)

end Go.Proofs
