/-
  What functions of the program hand back: contracts over abstract values.
-/
import Derived.Test.YtdolhcppabcodaaAvK
import Derived.Test.YtdolhcppabcodaaInst
import Derived.Test.YtdolhcppabcodaaO16
import Derived.Test.YtdolhcppabcodaaSortC
import Derived.Test.YtdolhcppabcodaaLaid
namespace Go.Proofs
open Go.Av
set_option linter.unusedSimpArgs false
set_option linter.unusedVariables false
set_option maxRecDepth 10000
set_option maxHeartbeats 4000000
variable {G : Nat → DV}
attribute [local irreducible] OpSem ARun AOps ALex ACalls AEnd AClose RV

theorem sortI_c (g : Nat) (l : List Int) (hl : l.length < 4611686018427387904) : Mut1 Try.prog G 44 g [.ref 0 g 0 l.length 1] (encs l) (fun _ => .tup []) (encs (l.mergeSort fun x y => decide (x ≤ y))) true :=
  sort_mut Try.lays189 g l hl

theorem isNaNI_c (x : Int) : Go.Av.Pure Try.prog G 56 [.i x] (.b false) := fun B => by
  refine calls_of_run Try.func56 rfl Try.ntmps56 rfl (t := [(0, .i x)]) rfl fun E hE => ?_
  (repeat' first | refine s_mv rfl ?_ | refine s_as rfl ?_ | refine s_neq rfl rfl ?_ | refine o_nil ?_ | refine o_op rfl ?_ | refine r_seq ?_ | refine r_region ?_ | refine r_ret ?_)
  refine e_1 Try.results56 (rv_tmp rfl) (c_pure' ?_)
  simp

theorem cmpIsNaNI_c (x : Int) : Go.Av.Pure Try.prog G 69 [.i x] (.b false) := fun B => by
  refine calls_of_run Try.func69 rfl Try.ntmps69 rfl (t := [(0, .i x)]) rfl fun E hE => ?_
  (repeat' first | refine s_mv rfl ?_ | refine s_as rfl ?_ | refine s_neq rfl rfl ?_ | refine o_nil ?_ | refine o_op rfl ?_ | refine r_seq ?_ | refine r_region ?_ | refine r_ret ?_)
  refine e_1 Try.results69 (rv_tmp rfl) (c_pure' ?_)
  simp

theorem cmpLessI_c (x y : Int) : Go.Av.Pure Try.prog G 55 [.i x, .i y] (.b (decide (x < y))) := fun B => by
  refine calls_of_run Try.func55 rfl Try.ntmps55 rfl (t := [(0, .i x), (1, .i y)]) rfl fun E hE => ?_
  (repeat' first | refine s_mv rfl ?_ | refine s_as rfl ?_ | refine s_lss rfl rfl ?_ | refine s_call_p rfl rfl (cmpIsNaNI_c _) (by repeat' first | exact clo_sc | exact clo_slOf _ | exact clo_sl (encs_clo _) | exact encs_clo _ | refine clo_fn ?_ ?_ | refine clo_ep ?_ | refine clo_tup ?_ | refine clo_agg ?_ | exact ac_nil | refine ac_cons ?_ ?_) ?_ | refine s_pf rfl rfl ?_ | refine o_nil ?_ | refine o_op rfl ?_ | refine o_gy rfl rfl rfl rfl ?_ | refine o_gn rfl rfl rfl rfl ?_ | refine r_seq ?_ | refine r_region ?_ | refine r_ret ?_)
  refine e_1 Try.results55 (rv_tmp rfl) (c_pure' ?_)
  rfl

theorem binarySearchI_c (l : List Int) (x : Int) (hl : l.length ≤ 1073741824) (hs : l.Pairwise (· ≤ ·)) : Go.Av.Pure Try.prog G 46 [slOf l, .i x] (.tup [.i (Ord.lb l x), .b (l.contains x)]) := fun B => by
  refine calls_of_run Try.func46 rfl Try.ntmps46 rfl (t := [(0, slOf l), (1, .i x)]) rfl fun E hE => ?_
  (repeat' first | refine s_mv rfl ?_ | refine s_as rfl ?_ | refine s_len_sl rfl ?_ | refine o_nil ?_ | refine o_op rfl ?_ | refine r_seq ?_ | refine r_region ?_ | refine r_block ?_)
  refine r_loop2 (fun (i j : Nat) => ⟨[(0, slOf l), (1, .i x), (6, .i l.length), (7, .i i), (8, .i j)], []⟩) (fun i j => i ≤ j ∧ j ≤ l.length ∧ (∀ k (h : k < l.length), k < i → l[k] < x) ∧ (∀ k (h : k < l.length), j ≤ k → x ≤ l[k])) (fun i j => j - i) 0 l.length ?_ ⟨by omega, by omega, fun k h hk => by omega, fun k h hk => by omega⟩ ?_
  · exact ale_drop (by repeat' first | exact mem_nil | refine mem_cons rfl ?_) rfl
  intro i j ⟨hij, hj, hlo, hhi⟩
  (repeat' first | refine s_mv rfl ?_ | refine s_lss rfl rfl ?_ | refine o_nil ?_ | refine o_op rfl ?_ | refine r_seq ?_ | refine r_region ?_)
  refine r_cond_d rfl (fun h => ?_) (fun h => ?_)
  · have hh : ((i : Int) + j) / 2 = ((i + j) / 2 : Nat) := by omega
    (repeat' first | refine s_mv rfl ?_ | refine s_as rfl ?_ | refine s_load_ep rfl ?_ | refine s_idx_sln rfl rfl (by first | assumption | omega | (simp; done) | (simp; omega)) ?_ | refine s_add rfl rfl (by omega) ?_ | refine s_shr_one rfl rfl ?_ | refine s_call_p rfl rfl (cmpLessI_c _ _) (by repeat' first | exact clo_sc | exact clo_slOf _ | exact clo_sl (encs_clo _) | exact encs_clo _ | refine clo_fn ?_ ?_ | refine clo_ep ?_ | refine clo_tup ?_ | refine clo_agg ?_ | exact ac_nil | refine ac_cons ?_ ?_) ?_ | refine s_conv_i rfl (by omega) ?_ | refine s_conv_u rfl (by omega) ?_ | refine o_nil ?_ | refine o_op rfl ?_ | refine r_seq ?_ | refine r_region ?_ | refine r_block ?_ | refine r_skip ?_)
    refine r_cond_d rfl (fun hb => ?_) (fun hb => ?_)
    · (repeat' first | refine s_mv rfl ?_ | refine s_as rfl ?_ | refine s_add rfl rfl (by omega) ?_ | refine o_nil ?_ | refine o_op rfl ?_ | refine r_region ?_)
      refine ⟨(i + j) / 2 + 1, j, ⟨by omega, hj, fun k hk hki => ?_, hhi⟩, by omega, ?_⟩
      · have h1 := List.pairwise_iff_getElem.1 hs
        rcases Nat.lt_or_ge k ((i + j) / 2) with h' | h'
        · exact Int.lt_of_le_of_lt (h1 k ((i + j) / 2) hk (by omega) h') hb
        · have : k = (i + j) / 2 := by omega
          subst this; exact hb
      · rw [show (((i + j) / 2 + 1 : Nat) : Int) = ((i : Int) + j) / 2 + 1 by omega]
        exact ale_drop (by repeat' first | exact mem_nil | refine mem_cons rfl ?_) rfl
    · (repeat' first | refine s_mv rfl ?_ | refine s_as rfl ?_ | refine o_nil ?_ | refine o_op rfl ?_ | refine r_region ?_)
      refine ⟨i, (i + j) / 2, ⟨by omega, by omega, hlo, fun k hk hki => ?_⟩, by omega, ?_⟩
      · have h1 := List.pairwise_iff_getElem.1 hs
        rcases Nat.lt_or_ge ((i + j) / 2) k with h' | h'
        · exact Int.le_trans (Int.not_lt.1 hb) (h1 ((i + j) / 2) k (by omega) hk h')
        · have : k = (i + j) / 2 := by omega
          subst this; exact Int.not_lt.1 hb
      · rw [← hh]
        exact ale_drop (by repeat' first | exact mem_nil | refine mem_cons rfl ?_) rfl
  · have hji : j = i := by omega
    subst hji
    have hlb := Ord.lb_eq hj hlo hhi
    have hno : ∀ k (h : k < l.length), l[k] = x → k = j ∨ j < k := fun k h e => by
      rcases Nat.lt_or_ge k j with h' | h'
      · have := hlo k h h'; omega
      · omega
    (repeat' first | refine s_mv rfl ?_ | refine s_as rfl ?_ | refine s_load_ep rfl ?_ | refine s_idx_sln rfl rfl (by first | assumption | omega | (simp; done) | (simp; omega)) ?_ | refine s_lss rfl rfl ?_ | refine s_eql rfl rfl ?_ | refine s_call_p rfl rfl (isNaNI_c _) (by repeat' first | exact clo_sc | exact clo_slOf _ | exact clo_sl (encs_clo _) | exact encs_clo _ | refine clo_fn ?_ ?_ | refine clo_ep ?_ | refine clo_tup ?_ | refine clo_agg ?_ | exact ac_nil | refine ac_cons ?_ ?_) ?_ | refine s_pt rfl rfl ?_ | refine s_pf rfl rfl ?_ | refine o_nil ?_ | refine o_op rfl ?_ | refine o_gy rfl rfl rfl rfl ?_ | refine o_gn rfl rfl rfl rfl ?_ | refine o_gu rfl rfl rfl rfl rfl ?_ | refine o_sp_d rfl rfl (fun _ => ?_) (fun _ => ?_) | refine r_seq ?_ | refine r_region ?_ | refine r_exit rfl ?_ | refine r_ret ?_)
    · exact e_2 (Try.results46) (rv_tmp rfl) (rv_tmp rfl) (c_pure' (by
        rename_i hx
        rw [hlb, show l.contains x = true from List.contains_iff_mem.2 (hx ▸ List.getElem_mem _)]))
    · exact e_2 (Try.results46) (rv_tmp rfl) (rv_tmp rfl) (c_pure' (by
        rename_i hjl hx
        have hjl : j < l.length := by omega
        have hx : ¬ l[j] = x := hx
        rw [hlb, show l.contains x = false from ?_]
        rw [Bool.eq_false_iff]
        intro hc
        obtain ⟨k, hk, hkx⟩ := List.getElem_of_mem (List.contains_iff_mem.1 hc)
        rcases hno k hk hkx with rfl | hlt
        · exact hx hkx
        · have h1 := List.pairwise_iff_getElem.1 hs j k hjl hk hlt
          have := hhi j hjl (Nat.le_refl _)
          omega))
    · exact e_2 (Try.results46) (rv_tmp rfl) (rv_tmp rfl) (c_pure' (by
        have hjl : l.length ≤ j := by omega
        rw [hlb, show l.contains x = false from ?_]
        rw [Bool.eq_false_iff]
        intro hc
        obtain ⟨k, hk, hkx⟩ := List.getElem_of_mem (List.contains_iff_mem.1 hc)
        rcases hno k hk hkx with rfl | hlt <;> omega))

end Go.Proofs
