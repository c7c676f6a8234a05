/-
  What functions of the program hand back: contracts over abstract values.
-/
import Derived.Test.YtdolhcppabcodaaAvK
import Derived.Test.YtdolhcppabcodaaInst
import Derived.Test.YtdolhcppabcodaaO15
namespace Go.Proofs
open Go.Av
set_option linter.unusedSimpArgs false
set_option linter.unusedVariables false
set_option maxRecDepth 10000
set_option maxHeartbeats 4000000
variable {G : Nat → DV}
attribute [local irreducible] OpSem ARun AOps ALex ACalls AEnd AClose RV

theorem compactI_c (l : List Int) (hl : l.length ≤ 4611686018427387904) (g : Nat) :
    Mut1 Try.prog G 45 g [.ref 0 g 0 l.length 1] (encs l) (fun g' => .ref 0 g' 0 (Ord.dedup l).length 1) (encs (Ord.dedup l)) true := fun B hB => by
  refine calls_of_run Try.func45 rfl Try.ntmps45 rfl (t := [(0, .ref 0 g 0 l.length 1)]) rfl fun E hE => ?_
  (repeat' first | refine s_mv rfl ?_ | refine s_as rfl ?_ | refine s_lss rfl rfl ?_ | refine s_len_ref rfl rfl ?_ | refine o_nil ?_ | refine o_op rfl ?_ | refine r_seq ?_ | refine r_region ?_)
  refine r_cond_d rfl (fun h => ?_) (fun h => ?_)
  · have hd : Ord.dedup l = l := by
      match l, h with
      | [], _ => rfl
      | [x], _ => rfl
      | x :: y :: r, h => simp at h; omega
    (repeat' first | refine s_mv rfl ?_ | refine s_as rfl ?_ | refine o_nil ?_ | refine o_op rfl ?_ | refine r_seq ?_ | refine r_region ?_ | refine r_ret ?_)
    rw [hd]
    exact e_1 (Try.results45) (rv_tmp rfl) (c_same ⟨g, .inl rfl, rfl, rfl⟩)
  (repeat' first | refine s_as rfl ?_ | refine o_nil ?_ | refine o_op rfl ?_ | refine r_seq ?_ | refine r_region ?_ | refine r_block ?_ | refine r_skip ?_)
  refine r_loop (fun k : Nat => ⟨[(0, .ref 0 g 0 l.length 1), (3, .i k)], [.row g (encs l)]⟩) (fun k => 1 ≤ k ∧ k ≤ l.length ∧ Ord.dedup (l.take k) = l.take k) (fun k => l.length - k) 1 ?_ ⟨by omega, by omega, ?_⟩ ?_
  · exact ale_drop (by repeat' first | exact mem_nil | refine mem_cons rfl ?_) rfl
  · match l, h with
    | [], h => simp at h
    | x :: r, h => simp [Ord.dedup]
  intro k ⟨hk1, hk, hd⟩
  (repeat' first | refine s_mv rfl ?_ | refine s_lss rfl rfl ?_ | refine s_len_ref rfl rfl ?_ | refine o_nil ?_ | refine o_op rfl ?_ | refine r_seq ?_ | refine r_region ?_)
  refine r_cond_d rfl (fun h => ?_) (fun h => ?_)
  · have hkl : k < l.length := by omega
    have hkc : ((k : Int) - 1) = (k - 1 : Nat) := by omega
    have hkz : ((k : Int) - 1).toNat = k - 1 := by omega
    (repeat' first | refine o_nil ?_ | refine r_seq ?_ | refine r_block ?_ | (refine g_draw ?_; first | refine r_draw0 (by rfl) (by kernel_rfl) (by kernel_rfl) ?_ | refine r_drawq (by kernel_rfl) (by kernel_rfl) ?_) | refine r_skip ?_ | refine x_op rfl (by (repeat' first | refine s_mv rfl ?_ | refine s_load_e1 rfl rfl rfl (by first | assumption | omega) rfl ?_ | refine s_idx_ref1 rfl rfl rfl (by omega) ?_ | refine s_idx_ref1i rfl rfl rfl (by omega) (by omega) ?_ | refine s_eql rfl rfl ?_ | refine s_sub rfl rfl (by omega) ?_ | exact ⟨rfl, rfl⟩)) ?_ | refine x_nil ?_)
    refine r_cond_d rfl (fun hb => ?_) (fun hb => ?_)
    · have hbb : l[k - 1] = l[k] := by rw [hb]; congr 1; omega
      have hd1 : Ord.dedup (l.take (k + 1)) = l.take k := by
        have := Ord.dedup_take (l := l) (k := k - 1) (by omega)
        rw [if_pos (by rw [hbb]; congr 1; omega), show k - 1 + 2 = k + 1 by omega, show k - 1 + 1 = k by omega, hd] at this
        exact this
      (repeat' first | refine s_mv rfl ?_ | refine s_as rfl ?_ | refine s_slice_rl rfl rfl rfl (by omega) ?_ | refine o_nil ?_ | refine o_op rfl ?_ | refine r_seq ?_ | refine r_region ?_ | refine r_block ?_)
      refine r_loop2 (fun (j : Nat) (r : List Int) => ⟨[(0, .ref 0 g 0 l.length 1), (3, .i (Ord.dedup (l.take (k + j))).length), (4, .ref 0 g (0 + k * 1) (l.length - k) 1), (5, .i j)], [.row g (encs r)]⟩) (fun j r => 1 ≤ j ∧ k + j ≤ l.length ∧ r.length = l.length ∧ (Ord.dedup (l.take (k + j))).length ≤ k + j - 1 ∧ r.take (Ord.dedup (l.take (k + j))).length = Ord.dedup (l.take (k + j)) ∧ r.drop (k + j - 1) = l.drop (k + j - 1)) (fun j _ => l.length - j) 1 l ?_ ⟨by omega, by omega, rfl, by rw [hd1, List.length_take]; omega, by rw [hd1, List.length_take, Nat.min_eq_left (by omega)], rfl⟩ ?_
      · rw [hd1, List.length_take, Nat.min_eq_left (by omega)]
        exact ale_drop (by repeat' first | exact mem_nil | refine mem_cons rfl ?_) rfl
      intro j r ⟨hj1, hj, hr, hlt, htk, hdr⟩
      (repeat' first | refine s_mv rfl ?_ | refine s_lss rfl rfl ?_ | refine s_len_ref rfl rfl ?_ | refine o_nil ?_ | refine o_op rfl ?_ | refine r_seq ?_ | refine r_region ?_)
      refine r_cond_d rfl (fun h => ?_) (fun h => ?_)
      · have hjl : k + j < l.length := by omega
        have hjz : ((j : Int) - 1).toNat = j - 1 := by omega
        have e1 : ∀ h, r[0 + k * 1 + j]'h = l[k + j] := fun h => by
          have := Ord.drop_at hdr (j := k + j) (by omega) (by omega) hjl
          rw [← this]; congr 1; omega
        have e2 : ∀ h, r[0 + k * 1 + ((j : Int) - 1).toNat]'h = l[k + j - 1] := fun h => by
          have := Ord.drop_at hdr (j := k + j - 1) (by omega) (by omega) (by omega)
          rw [← this]; congr 1; omega
        have hdt := Ord.dedup_take (l := l) (k := k + j - 1) (by omega)
        have z1 : k + j - 1 + 2 = k + (j + 1) := by omega
        have z2 : k + j - 1 + 1 = k + j := by omega
        simp only [z1, z2] at hdt
        have hdm := Ord.drop_more hdr (j := k + (j + 1) - 1) (by omega)
        (repeat' first | refine o_nil ?_ | refine r_seq ?_ | refine r_block ?_ | (refine g_draw ?_; first | refine r_draw0 (by rfl) (by kernel_rfl) (by kernel_rfl) ?_ | refine r_drawq (by kernel_rfl) (by kernel_rfl) ?_) | refine r_skip ?_ | refine x_op rfl (by (repeat' first | refine s_mv rfl ?_ | refine s_load_e1 rfl rfl rfl (by first | assumption | omega) rfl ?_ | refine s_idx_refo rfl rfl rfl (by omega) ?_ | refine s_idx_refoi rfl rfl rfl (by omega) (by omega) ?_ | refine s_neq rfl rfl ?_ | refine s_sub rfl rfl (by omega) ?_ | exact ⟨rfl, rfl⟩)) ?_ | refine x_nil ?_)
        refine r_cond_d rfl (fun hne => ?_) (fun hne => ?_)
        · rw [e1, e2] at hne
          rw [if_neg (fun e => hne e.symm)] at hdt
          have hlen : (Ord.dedup (l.take (k + (j + 1)))).length = (Ord.dedup (l.take (k + j))).length + 1 := by rw [hdt, List.length_append]; rfl
          have hfr : (Ord.dedup (l.take (k + j))).length < r.length := by omega
          (repeat' first | refine s_mv rfl ?_ | refine s_as rfl ?_ | refine s_load_e1 rfl rfl rfl (by first | assumption | omega) rfl ?_ | refine s_idx_ref1 rfl rfl rfl (by omega) ?_ | refine s_idx_refo rfl rfl rfl (by omega) ?_ | refine s_add rfl rfl (by omega) ?_ | refine s_store_e1 rfl rfl rfl rfl rfl (by first | assumption | omega) rfl ?_ | refine o_nil ?_ | refine o_op rfl ?_ | refine o_op0 ?_ | refine r_seq ?_ | refine r_region ?_)
          refine ⟨j + 1, r.set (Ord.dedup (l.take (k + j))).length (r[0 + k * 1 + j]'(by omega)), ⟨by omega, by omega, by rw [List.length_set, hr], by omega, ?_, ?_⟩, by omega, ?_⟩
          · rw [hlen, Ord.take_set_succ hfr, htk, hdt, e1]
          · rw [List.drop_set_of_lt (by omega), hdm]
          · rw [hlen]
            exact ale_drop (by repeat' first | exact mem_nil | refine mem_cons rfl ?_) rfl
        · rw [e1, e2] at hne
          rw [if_pos (Decidable.not_not.1 hne).symm] at hdt
          (repeat' first | refine s_mv rfl ?_ | refine s_as rfl ?_ | refine s_add rfl rfl (by omega) ?_ | refine o_nil ?_ | refine o_op rfl ?_ | refine r_region ?_ | refine r_skip ?_)
          refine ⟨j + 1, r, ⟨by omega, by omega, hr, by rw [hdt]; omega, by rw [hdt, htk], hdm⟩, by omega, ?_⟩
          rw [hdt]
          exact ale_drop (by repeat' first | exact mem_nil | refine mem_cons rfl ?_) rfl
      · have hkj : k + j = l.length := by omega
        rw [hkj, List.take_length] at htk hlt ⊢
        (repeat' first | refine s_mv rfl ?_ | refine s_as rfl ?_ | refine s_clear_tail rfl rfl rfl rfl rfl (by omega) (by omega) (by rfl) ?_ | refine s_slice_rh rfl rfl rfl (by omega) ?_ | refine s_slice_rl rfl rfl rfl (by omega) ?_ | refine o_nil ?_ | refine o_op rfl ?_ | refine o_op0 ?_ | refine r_seq ?_ | refine r_region ?_ | refine r_exit rfl ?_ | refine r_ret ?_)
        rw [htk]
        exact e_1 (Try.results45) (rv_tmp rfl) (c_same ⟨g, .inl rfl, rfl, rfl⟩)
    · (repeat' first | refine s_mv rfl ?_ | refine s_as rfl ?_ | refine s_add rfl rfl (by omega) ?_ | refine o_nil ?_ | refine o_op rfl ?_ | refine r_region ?_ | refine r_skip ?_)
      refine ⟨k + 1, ⟨by omega, by omega, ?_⟩, by omega, ?_⟩
      · have := Ord.dedup_take (l := l) (k := k - 1) (by omega)
        have z1 : k - 1 + 2 = k + 1 := by omega
        have z2 : k - 1 + 1 = k := by omega
        simp only [z1, z2] at this
        rw [if_neg (fun e => hb (by rw [← e]; congr 1; omega)), hd, ← List.take_succ_eq_append_getElem] at this
        exact this
      · exact ale_drop (by repeat' first | exact mem_nil | refine mem_cons rfl ?_) rfl
  · have hkl : k = l.length := by omega
    subst hkl
    rw [List.take_length] at hd
    (repeat' first | refine s_mv rfl ?_ | refine s_as rfl ?_ | refine o_nil ?_ | refine o_op rfl ?_ | refine r_seq ?_ | refine r_region ?_ | refine r_exit rfl ?_ | refine r_ret ?_)
    rw [hd]
    exact e_1 (Try.results45) (rv_tmp rfl) (c_same ⟨g, .inl rfl, rfl, rfl⟩)

end Go.Proofs
