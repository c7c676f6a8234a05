/-
  The reference's functions of chapter 36: what each hands back.
-/
import Derived.Test.YtdolhcppabcodaaAvC
import Derived.Test.YtdolhcppabcodaaInst
import Derived.Test.YtdolhcppabcodaaO7
namespace Go.Proofs
open Go.Av
set_option linter.unusedSimpArgs false
set_option linter.unusedVariables false
set_option maxRecDepth 10000
set_option maxHeartbeats 4000000
variable {G : Nat → DV}
attribute [local irreducible] OpSem ARun AOps ALex ACalls AEnd AClose RV

theorem rows_c (l : List Int) (hl : ∀ x ∈ l, Ord.I64 x) (hll : l.length ≤ 9223372036854775807) : Own Try.prog G 8 [slOf l] (Ord.rowsOf l).length (Enc.es (List Int)) (encs (Ord.rowsOf l)) := fun B => by
  refine calls_of_run Try.func8 rfl Try.ntmps8 rfl (t := [(0, slOf l)]) rfl fun E hE => ?_
  (repeat' first | refine s_as rfl ?_ | refine o_nil ?_ | refine o_op rfl ?_ | refine r_seq ?_ | refine r_region ?_ | refine r_block ?_)
  refine r_own 3 1 rfl fun g0 hg0 => ?_
  refine r_loopg (fun (i : Nat) g => ⟨[(0, slOf l), (3, .ref 0 g 0 (Ord.rowsTo l i).length 1), (4, .i i)], [.row g (encs (Ord.rowsTo l i))]⟩) (fun i => i ≤ Ord.rowsCount l) (fun i => Ord.rowsCount l - i) 0 g0 hg0 ?_ (by omega) ?_
  · exact ale_drop (by repeat' first | exact mem_nil | refine mem_cons rfl ?_) rfl
  intro i g hk hg
  have hc : Ord.rowsCount l = min ((l.length + 1) / 2) 14 := rfl
  have hlen : (Ord.rowsTo l i).length = i := by simp [Ord.rowsTo]
  have hb := Ord.rowBits_bound l i
  have fin : i = Ord.rowsCount l → ∀ t : Fr, Go.Av.look t 2 = .ref 0 g 0 (Ord.rowsTo l i).length 1 → AEnd Try.prog Try.f8 G E 75 (fun d' σ' => ∃ g, B < g ∧ d' = DV.ref 0 g 0 (Ord.rowsOf l).length (Enc.es (List Int)) ∧ σ' = [ABlk.row g (encs (Ord.rowsOf l))]) ⟨t, [.row g (encs (Ord.rowsTo l i))]⟩ := fun hi t ht => by
    subst hi
    exact e_1 (Try.results8) (rv_tmp (by rw [ht]; rfl)) (c_ownedB hE rfl rfl rfl rfl)
  (repeat' first | refine s_mv rfl ?_ | refine s_as rfl ?_ | refine s_lss rfl rfl ?_ | refine s_mul rfl rfl (by omega) ?_ | refine s_len_sl rfl ?_ | refine s_pt rfl rfl ?_ | refine s_pf rfl rfl ?_ | refine o_nil ?_ | refine o_op rfl ?_ | refine o_gy rfl rfl rfl rfl ?_ | refine o_gn rfl rfl rfl rfl ?_ | refine o_sp_d rfl rfl (fun _ => ?_) (fun _ => ?_) | refine r_seq ?_ | refine r_region ?_ | refine r_cond_f rfl ?_ | refine r_exit rfl ?_ | refine r_ret ?_)
  rename_i h2
  · refine r_cond_d rfl (fun h => ?_) (fun h => ?_)
    · have hi : i < 14 := by omega
      (repeat' first | refine s_mv rfl ?_ | refine s_as rfl ?_ | refine s_add rfl rfl (by omega) ?_ | refine s_mul rfl rfl (by omega) ?_ | refine s_and rfl rfl ?_ | refine s_call_p rfl rfl (at_c _ _ _ hl (by omega) (by omega) (by omega)) (by repeat' first | exact clo_sc | exact clo_slOf _ | exact clo_sl (encs_clo _) | exact encs_clo _ | refine clo_fn ?_ ?_ | refine clo_ep ?_ | refine clo_tup ?_ | refine clo_agg ?_ | exact ac_nil | refine ac_cons ?_ ?_) ?_ | refine o_nil ?_ | refine o_op rfl ?_ | refine r_seq ?_ | refine r_region ?_ | refine r_block ?_ | refine r_skip ?_)
      refine r_own 5 1 rfl fun g1 hg1 => ?_
      refine r_loopg (fun (k : Nat) g' => ⟨[(0, slOf l), (3, .ref 0 g 0 (Ord.rowsTo l i).length 1), (4, .i i), (5, .ref 1 g' 0 (Ord.rowTo l i k).length 1), (6, .i (Ord.rowBits l i)), (7, .i k)], [.row g (encs (Ord.rowsTo l i)), .row g' (encs (Ord.rowTo l i k))]⟩) (fun k => k ≤ 5) (fun k => 5 - k) 0 g1 hg1 ?_ (by omega) ?_
      · exact ale_drop (by repeat' first | exact mem_nil | refine mem_cons rfl ?_) rfl
      intro k g' hk5 hg'
      have hrl := Ord.rowTo_len l i k
      (repeat' first | refine s_mv rfl ?_ | refine s_lss rfl rfl ?_ | refine o_nil ?_ | refine o_op rfl ?_ | refine r_seq ?_ | refine r_region ?_)
      refine r_cond_d rfl (fun h => ?_) (fun h => ?_)
      · have es := Ord.rowTo_succ l i k
        (repeat' first | refine s_mv rfl ?_ | refine s_as rfl ?_ | refine s_geq rfl rfl ?_ | refine s_add rfl rfl (by omega) ?_ | refine s_mul rfl rfl (by omega) ?_ | refine s_call_p rfl rfl (at_c _ _ _ hl (by omega) (by omega) (by omega)) (by repeat' first | exact clo_sc | exact clo_slOf _ | exact clo_sl (encs_clo _) | exact encs_clo _ | refine clo_fn ?_ ?_ | refine clo_ep ?_ | refine clo_tup ?_ | refine clo_agg ?_ | exact ac_nil | refine ac_cons ?_ ?_) ?_ | refine o_nil ?_ | refine o_op rfl ?_ | refine r_seq ?_ | refine r_region ?_ | refine r_block ?_ | refine r_skip ?_)
        refine r_cond_d rfl (fun h64 => ?_) (fun h64 => ?_)
        · have et : Ord.rowTest l i k = 4 - (k : Int) := if_pos h64
          have hh : Ord.rowHas l i k = (Ord.rowBits l i / 2 ^ min (Ord.rowTest l i k).toNat 64 % 2 = 1) := rfl
          (repeat' first | refine s_mv rfl ?_ | refine s_as rfl ?_ | refine s_eql rfl rfl ?_ | refine s_sub rfl rfl (by omega) ?_ | refine s_rem rfl rfl (by first | omega | exact nn_shr (by omega)) (by omega) ?_ | refine s_shr rfl rfl (by omega) ?_ | refine s_conv_u rfl (by omega) ?_ | refine o_nil ?_ | refine o_op rfl ?_ | refine r_seq ?_ | refine r_region ?_)
          refine r_cond_d rfl (fun hb => ?_) (fun hb => ?_)
          · (repeat' first | refine s_mv rfl ?_ | refine s_as rfl ?_ | refine s_add rfl rfl (by omega) ?_ | refine s_app1 rfl rfl rfl rfl rfl rfl rfl (by first | omega | (simp; omega)) (by first | omega | (simp; omega)) (fun _ => rfl) (fun _ _ => ?_) | refine s_bslice rfl rfl (by decide) rfl ?_ | refine o_nil ?_ | refine o_op rfl ?_ | refine r_region ?_)
            refine ⟨k + 1, _, by omega, by assumption, by omega, ?_⟩
            rw [es, if_pos (by rw [hh, et]; exact hb), et]
            exact ale_drop (by repeat' first | exact mem_nil | refine mem_cons rfl ?_) rfl
          · (repeat' first | refine s_mv rfl ?_ | refine s_as rfl ?_ | refine s_add rfl rfl (by omega) ?_ | refine o_nil ?_ | refine o_op rfl ?_ | refine r_region ?_ | refine r_skip ?_)
            refine ⟨k + 1, _, by omega, by assumption, by omega, ?_⟩
            rw [es, if_neg (by rw [hh, et]; exact hb)]
            exact ale_drop (by repeat' first | exact mem_nil | refine mem_cons rfl ?_) rfl
        · have et : Ord.rowTest l i k = k := if_neg h64
          have hh : Ord.rowHas l i k = (Ord.rowBits l i / 2 ^ min (Ord.rowTest l i k).toNat 64 % 2 = 1) := rfl
          (repeat' first | refine s_mv rfl ?_ | refine s_eql rfl rfl ?_ | refine s_rem rfl rfl (by first | omega | exact nn_shr (by omega)) (by omega) ?_ | refine s_shr rfl rfl (by omega) ?_ | refine s_conv_u rfl (by omega) ?_ | refine o_nil ?_ | refine o_op rfl ?_ | refine r_seq ?_ | refine r_region ?_ | refine r_skip ?_)
          refine r_cond_d rfl (fun hb => ?_) (fun hb => ?_)
          · (repeat' first | refine s_mv rfl ?_ | refine s_as rfl ?_ | refine s_add rfl rfl (by omega) ?_ | refine s_app1 rfl rfl rfl rfl rfl rfl rfl (by first | omega | (simp; omega)) (by first | omega | (simp; omega)) (fun _ => rfl) (fun _ _ => ?_) | refine s_bslice rfl rfl (by decide) rfl ?_ | refine o_nil ?_ | refine o_op rfl ?_ | refine r_region ?_)
            refine ⟨k + 1, _, by omega, by assumption, by omega, ?_⟩
            rw [es, if_pos (by rw [hh, et]; exact hb), et]
            exact ale_drop (by repeat' first | exact mem_nil | refine mem_cons rfl ?_) rfl
          · (repeat' first | refine s_mv rfl ?_ | refine s_as rfl ?_ | refine s_add rfl rfl (by omega) ?_ | refine o_nil ?_ | refine o_op rfl ?_ | refine r_region ?_ | refine r_skip ?_)
            refine ⟨k + 1, _, by omega, by assumption, by omega, ?_⟩
            rw [es, if_neg (by rw [hh, et]; exact hb)]
            exact ale_drop (by repeat' first | exact mem_nil | refine mem_cons rfl ?_) rfl
      · have hk5' : k = 5 := by omega
        subst hk5'
        have es := Ord.rowsTo_succ l i
        (repeat' first | refine s_mv rfl ?_ | refine s_as rfl ?_ | refine s_gtr rfl rfl ?_ | refine s_geq rfl rfl ?_ | refine s_add rfl rfl (by omega) ?_ | refine s_mul rfl rfl (by omega) ?_ | refine s_len_ref rfl rfl ?_ | refine s_app1 rfl rfl rfl rfl rfl rfl rfl (by first | omega | (simp; omega)) (by first | omega | (simp; omega)) (fun _ => rfl) (fun _ _ => ?_) | refine s_call_p rfl rfl (at_c _ _ _ hl (by omega) (by omega) (by omega)) (by repeat' first | exact clo_sc | exact clo_slOf _ | exact clo_sl (encs_clo _) | exact encs_clo _ | refine clo_fn ?_ ?_ | refine clo_ep ?_ | refine clo_tup ?_ | refine clo_agg ?_ | exact ac_nil | refine ac_cons ?_ ?_) ?_ | refine s_pt rfl rfl ?_ | refine s_pf rfl rfl ?_ | refine s_bslice_pub rfl rfl (by first | rfl | exact (encs_len _).symm) rfl ?_ | refine s_bslice rfl rfl (by decide) rfl ?_ | refine o_nil ?_ | refine o_op rfl ?_ | refine o_gy rfl rfl rfl rfl ?_ | refine o_gn rfl rfl rfl rfl ?_ | refine o_sp_d rfl rfl (fun _ => ?_) (fun _ => ?_) | refine r_seq ?_ | refine r_region ?_ | refine r_skip ?_ | refine r_cond_f rfl ?_ | refine r_exit rfl ?_)
        · refine r_cond_d rfl (fun h9 => ?_) (fun h9 => ?_)
          · have er : Ord.rowOf l i = _ := if_pos ⟨by omega, h9⟩
            have h05 : 0 < (Ord.rowTo l i 5).length := by omega
            rw [Ord.getD_lt h05] at er
            (repeat' first | refine s_mv rfl ?_ | refine s_as rfl ?_ | refine s_load_e1 rfl rfl rfl (by first | assumption | omega) rfl ?_ | refine s_idx_ref1 rfl rfl rfl (by omega) ?_ | refine s_add rfl rfl (by omega) ?_ | refine s_app1 rfl rfl rfl rfl rfl rfl rfl (by first | omega | (simp; omega)) (by first | omega | (simp; omega)) (fun _ => rfl) (fun _ _ => ?_) | refine s_bslice_pub rfl rfl (by first | rfl | exact (encs_len _).symm) rfl ?_ | refine s_bslice rfl rfl (by decide) rfl ?_ | refine o_nil ?_ | refine o_op rfl ?_ | refine r_region ?_)
            refine ⟨i + 1, _, by omega, by assumption, by omega, ?_⟩
            rw [es, er]
            exact ale_drop (by repeat' first | exact mem_nil | refine mem_cons rfl ?_) rfl
          · have er : Ord.rowOf l i = _ := if_neg (fun h => h9 h.2)
            (repeat' first | refine s_mv rfl ?_ | refine s_as rfl ?_ | refine s_add rfl rfl (by omega) ?_ | refine s_app1 rfl rfl rfl rfl rfl rfl rfl (by first | omega | (simp; omega)) (by first | omega | (simp; omega)) (fun _ => rfl) (fun _ _ => ?_) | refine s_bslice_pub rfl rfl (by first | rfl | exact (encs_len _).symm) rfl ?_ | refine s_bslice rfl rfl (by decide) rfl ?_ | refine o_nil ?_ | refine o_op rfl ?_ | refine r_region ?_ | refine r_skip ?_)
            refine ⟨i + 1, _, by omega, by assumption, by omega, ?_⟩
            rw [es, er]
            exact ale_drop (by repeat' first | exact mem_nil | refine mem_cons rfl ?_) rfl
        · have er : Ord.rowOf l i = _ := if_neg (fun h => by have := h.1; omega)
          refine ⟨i + 1, _, by omega, by assumption, by omega, ?_⟩
          rw [es, er]
          exact ale_drop (by repeat' first | exact mem_nil | refine mem_cons rfl ?_) rfl
    · (repeat' first | refine s_mv rfl ?_ | refine s_as rfl ?_ | refine o_nil ?_ | refine o_op rfl ?_ | refine r_seq ?_ | refine r_region ?_ | refine r_exit rfl ?_ | refine r_ret ?_)
      exact fin (by omega) _ rfl
  · exact fin (by omega) _ rfl
end Go.Proofs
