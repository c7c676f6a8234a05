/-
  What functions of the program hand back: contracts over abstract values.
-/
import Derived.Test.YtecbcpilcjmhlaaDoorAvN
import Derived.Test.YtecbcpilcjmhlaaDoorInst
import Derived.Test.YtecbcpilcjmhlaaDoorV2
import Derived.Test.YtecbcpilcjmhlaaDoorV5
namespace Go.Proofs
open Go.Av
set_option linter.unusedSimpArgs false
set_option linter.unusedVariables false
set_option maxRecDepth 10000
set_option maxHeartbeats 4000000
variable {G : Nat → DV}
attribute [local irreducible] OpSem ARun AOps ALex ACalls AEnd AClose RV
open Go.Fo

theorem sameInts_c (a b : List Int) (ha : a.length ≤ 4611686018427387904) (hb : b.length ≤ 4611686018427387904) : Go.Av.Pure Tryd.prog G 23 [slOf a, slOf b] (.b (decide (a = b))) := fun B => by
  refine calls_of_run Tryd.func23 rfl Tryd.ntmps23 rfl (t := [(0, slOf a), (1, slOf b)]) rfl fun E hE => ?_
  (repeat' first | refine s_mv rfl ?_ | refine s_as rfl ?_ | refine s_neq rfl rfl ?_ | refine s_len_sl rfl ?_ | refine o_nil ?_ | refine o_op rfl ?_ | refine r_seq ?_ | refine r_region ?_)
  refine r_cond_d rfl (fun h => ?_) (fun h => ?_)
  · (repeat' first | refine s_as rfl ?_ | refine o_nil ?_ | refine o_op rfl ?_ | refine r_seq ?_ | refine r_region ?_ | refine r_ret ?_)
    refine e_1 Tryd.results23 (rv_tmp rfl) (c_pure' ?_)
    rw [decide_eq_false (p := a = b) (fun e => h (by rw [e]))]
  have hl : a.length = b.length := by omega
  (repeat' first | refine s_as rfl ?_ | refine o_nil ?_ | refine o_op rfl ?_ | refine r_seq ?_ | refine r_region ?_ | refine r_block ?_ | refine r_skip ?_)
  refine r_loop (fun k : Nat => ⟨[(0, slOf a), (1, slOf b), (5, .i k)], []⟩) (fun k => k ≤ a.length ∧ a.take k = b.take k) (fun k => a.length - k) 0 ?_ ⟨by omega, by simp⟩ ?_
  · exact ale_drop (by repeat' first | exact mem_nil | refine mem_cons rfl ?_) rfl
  intro k ⟨hk, hall⟩
  (repeat' first | refine s_mv rfl ?_ | refine s_lss rfl rfl ?_ | refine s_len_sl rfl ?_ | refine o_nil ?_ | refine o_op rfl ?_ | refine r_seq ?_ | refine r_region ?_)
  refine r_cond_d rfl (fun h => ?_) (fun h => ?_)
  · have hk' : k < a.length := by omega
    have hk'' : k < b.length := by omega
    (repeat' first | refine o_nil ?_ | refine r_seq ?_ | refine r_block ?_ | (refine g_draw ?_; first | refine r_draw0 (by rfl) (by kernel_rfl) (by kernel_rfl) ?_ | refine r_drawq (by kernel_rfl) (by kernel_rfl) ?_) | refine r_skip ?_ | refine x_op rfl (by (repeat' first | refine s_mv rfl ?_ | refine s_load_ep rfl ?_ | refine s_idx_sln rfl rfl (by first | assumption | omega | (simp; done) | (simp; omega)) ?_ | refine s_neq rfl rfl ?_ | exact ⟨rfl, rfl⟩)) ?_ | refine x_nil ?_)
    refine r_cond_d rfl (fun h => ?_) (fun h => ?_)
    · (repeat' first | refine s_as rfl ?_ | refine o_nil ?_ | refine o_op rfl ?_ | refine r_seq ?_ | refine r_region ?_ | refine r_ret ?_)
      refine e_1 Tryd.results23 (rv_tmp rfl) (c_pure' ?_)
      rw [decide_eq_false (p := a = b) (fun e => h (by subst e; rfl))]
    · (repeat' first | refine s_mv rfl ?_ | refine s_as rfl ?_ | refine s_add rfl rfl (by omega) ?_ | refine o_nil ?_ | refine o_op rfl ?_ | refine r_region ?_ | refine r_skip ?_)
      refine ⟨k + 1, ⟨hk', ?_⟩, by omega, ?_⟩
      · rw [List.take_succ_eq_append_getElem hk', List.take_succ_eq_append_getElem hk'', hall, Decidable.not_not.1 h]
      · exact ale_drop (by repeat' first | exact mem_nil | refine mem_cons rfl ?_) rfl
  · (repeat' first | refine s_as rfl ?_ | refine o_nil ?_ | refine o_op rfl ?_ | refine r_seq ?_ | refine r_region ?_ | refine r_exit rfl ?_ | refine r_ret ?_)
    refine e_1 Tryd.results23 (rv_tmp rfl) (c_pure' ?_)
    rw [List.take_of_length_le (by omega), List.take_of_length_le (by omega)] at hall
    rw [decide_eq_true hall]

theorem g1_ok (hG : G 0 = opsT) (g : Nat) : G1 g = .any ∨ G1 g = G g := by
  cases g with
  | zero => exact .inr hG.symm
  | succ g => exact .inl rfl
theorem ev_c (hG : G 0 = opsT) {f : Nat} {fid : FuncId} {args : List DV} {d : DV} (ha : ∀ a ∈ args, a.clo = true) (h : evPure Tryd.evT G1 f fid args = some d) : Go.Av.Pure Tryd.prog G fid args d := (ev_pure Tryd.evOk rfl ha h).gmono (g1_ok hG)

theorem lives_c (hG : G 0 = opsT) : Go.Av.Pure Tryd.prog G 15 [] (.b true) := fun B => by
  have hvar : Go.Av.Pure Tryd.prog G 32 [.i 0, .i 0] (.agg [.i 6, .i 0, .i 0, .nil]) := ev_c hG (by repeat' first | exact ac_nil | refine ac_cons ?_ ?_ | exact clo_sc) var_ev
  have hbin : Go.Av.Pure Tryd.prog G 47 [.i 10, .agg [.i 6, .i 0, .i 0, .nil], .agg [.i 4, .i 3, .i 0, .nil]] (.agg [.i 9, .i 10, .i 0, .sl 4 [.i 6, .i 0, .i 0, .nil, .i 4, .i 3, .i 0, .nil]]) := ev_c hG (by repeat' first | exact ac_nil | refine ac_cons ?_ ?_ | exact clo_sc | refine clo_agg ?_) bin_ev
  have hblast : Go.Av.Pure Tryd.prog G 12 [.sl 4 [.i 9, .i 10, .i 0, .sl 4 [.i 6, .i 0, .i 0, .nil, .i 4, .i 3, .i 0, .nil]]] (.tup [.agg [.i 10, slOf clsL, slOf ([0] : List Int), slOf ([0] : List Int), slOf ([2] : List Int)], .i 0]) := ev_c hG (by repeat' first | exact ac_nil | refine ac_cons ?_ ?_ | exact clo_sc | refine clo_sl ?_) blast_ev
  have hformed : Go.Av.Pure Tryd.prog G 14 [.agg [.i 10, slOf clsL, slOf ([0] : List Int), slOf ([0] : List Int), slOf ([2] : List Int)], .sl 4 [.i 9, .i 10, .i 0, .sl 4 [.i 6, .i 0, .i 0, .nil, .i 4, .i 3, .i 0, .nil]]] (.b true) := ev_c hG (by repeat' first | exact ac_nil | refine ac_cons ?_ ?_ | exact clo_sc | exact clo_slOf _ | refine clo_sl ?_ | refine clo_agg ?_) formed_ev
  have hl2 : Go.Av.Pure Tryd.prog G 18 [.agg [.i 10, slOf clsL, slOf ([0] : List Int), slOf ([0] : List Int), slOf ([2] : List Int)], slOf ([2] : List Int)] (slOf ([-2, 3, -4, -5] : List Int)) := ev_c hG (by repeat' first | exact ac_nil | refine ac_cons ?_ ?_ | exact clo_sc | exact clo_slOf _ | refine clo_sl ?_ | refine clo_agg ?_) lit2_ev
  have hl3 : Go.Av.Pure Tryd.prog G 18 [.agg [.i 10, slOf clsL, slOf ([0] : List Int), slOf ([0] : List Int), slOf ([2] : List Int)], slOf ([3] : List Int)] (slOf ([2, 3, -4, -5] : List Int)) := ev_c hG (by repeat' first | exact ac_nil | refine ac_cons ?_ ?_ | exact clo_sc | exact clo_slOf _ | refine clo_sl ?_ | refine clo_agg ?_) lit3_ev
  have hl1 : Go.Av.Pure Tryd.prog G 18 [.agg [.i 10, slOf clsL, slOf ([0] : List Int), slOf ([0] : List Int), slOf ([2] : List Int)], slOf ([-1] : List Int)] (slOf ([2, 3, 4, 5] : List Int)) := ev_c hG (by repeat' first | exact ac_nil | refine ac_cons ?_ ?_ | exact clo_sc | exact clo_slOf _ | refine clo_sl ?_ | refine clo_agg ?_) lit1_ev
  have hlen : clsL.length ≤ 1048576 := by decide
  have hcc : ∀ c ∈ clsL, c.length ≤ 1048576 := by decide
  have hcb : ∀ c ∈ clsL, ∀ x ∈ c, -2000 ≤ x ∧ x ≤ 2000 := by decide
  have e2 : (followM clsL [-2, 3, -4, -5]).isSome = true := by kernel_rfl
  have e3 : followM clsL [2, 3, -4, -5] = none := by kernel_rfl
  have e1 : (followM clsL [2, 3, 4, 5]).isSome = true := by kernel_rfl
  have e0 : followM [[1, 2], [-1, 3]] [-2] = some [1, -2, 3] := by kernel_rfl
  obtain ⟨o2, ho2⟩ := Option.isSome_iff_exists.1 e2
  obtain ⟨o1, ho1⟩ := Option.isSome_iff_exists.1 e1
  have hf2 := follow_c (G := G) 10 clsL (slOf ([0] : List Int)) (slOf ([0] : List Int)) (slOf ([2] : List Int)) [-2, 3, -4, -5] hlen hcc (by decide) hcb (by decide)
  have hf3 := follow_c (G := G) 10 clsL (slOf ([0] : List Int)) (slOf ([0] : List Int)) (slOf ([2] : List Int)) [2, 3, -4, -5] hlen hcc (by decide) hcb (by decide)
  have hf1 := follow_c (G := G) 10 clsL (slOf ([0] : List Int)) (slOf ([0] : List Int)) (slOf ([2] : List Int)) [2, 3, 4, 5] hlen hcc (by decide) hcb (by decide)
  have hf0 := follow_c (G := G) 3 [[1, 2], [-1, 3]] .nil .nil .nil [-2] (by decide) (by decide) (by decide) (by decide) (by decide)
  rw [ho2] at hf2
  rw [e3] at hf3
  rw [ho1] at hf1
  rw [e0] at hf0
  change Go.Av.Pure _ _ _ _ (.tup [slOf o2, .b true]) at hf2
  change Go.Av.Pure _ _ _ _ (.tup [.nil, .b false]) at hf3
  change Go.Av.Pure _ _ _ _ (.tup [slOf o1, .b true]) at hf1
  change Go.Av.Pure _ _ _ _ (.tup [slOf ([1, -2, 3] : List Int), .b true]) at hf0
  have hsi := sameInts_c (G := G) [1, -2, 3] [1, -2, 3] (by decide) (by decide)
  rw [decide_eq_true rfl] at hsi
  clear e2 e3 e1 e0 hcb hcc hlen
  refine calls_of_run Tryd.func15 rfl Tryd.ntmps15 rfl (t := []) rfl fun E hE => ?_
  (repeat' first | refine s_mv rfl ?_ | refine s_as rfl ?_ | refine s_load_rowa rfl rfl (by rfl) (by rfl) ?_ | refine s_neq rfl rfl ?_ | refine s_call_p rfl rfl (hvar) (by repeat' first | exact clo_sc | exact clo_slOf _ | exact clo_sl (encs_clo _) | exact encs_clo _ | refine clo_fn ?_ ?_ | refine clo_ep ?_ | refine clo_tup ?_ | refine clo_agg ?_ | exact ac_nil | refine ac_cons ?_ ?_ | refine clo_sl ?_) ?_ | refine s_call_p rfl rfl (hbin) (by repeat' first | exact clo_sc | exact clo_slOf _ | exact clo_sl (encs_clo _) | exact encs_clo _ | refine clo_fn ?_ ?_ | refine clo_ep ?_ | refine clo_tup ?_ | refine clo_agg ?_ | exact ac_nil | refine ac_cons ?_ ?_ | refine clo_sl ?_) ?_ | refine s_call_p rfl rfl (hblast) (by repeat' first | exact clo_sc | exact clo_slOf _ | exact clo_sl (encs_clo _) | exact encs_clo _ | refine clo_fn ?_ ?_ | refine clo_ep ?_ | refine clo_tup ?_ | refine clo_agg ?_ | exact ac_nil | refine ac_cons ?_ ?_ | refine clo_sl ?_) ?_ | refine s_call_p rfl rfl (hformed) (by repeat' first | exact clo_sc | exact clo_slOf _ | exact clo_sl (encs_clo _) | exact encs_clo _ | refine clo_fn ?_ ?_ | refine clo_ep ?_ | refine clo_tup ?_ | refine clo_agg ?_ | exact ac_nil | refine ac_cons ?_ ?_ | refine clo_sl ?_) ?_ | refine s_call_p rfl rfl (hf0) (by repeat' first | exact clo_sc | exact clo_slOf _ | exact clo_sl (encs_clo _) | exact encs_clo _ | refine clo_fn ?_ ?_ | refine clo_ep ?_ | refine clo_tup ?_ | refine clo_agg ?_ | exact ac_nil | refine ac_cons ?_ ?_ | refine clo_sl ?_) ?_ | refine s_call_p rfl rfl (hsi) (by repeat' first | exact clo_sc | exact clo_slOf _ | exact clo_sl (encs_clo _) | exact encs_clo _ | refine clo_fn ?_ ?_ | refine clo_ep ?_ | refine clo_tup ?_ | refine clo_agg ?_ | exact ac_nil | refine ac_cons ?_ ?_ | refine clo_sl ?_) ?_ | refine s_pt rfl rfl ?_ | refine s_pf rfl rfl ?_ | refine s_not rfl ?_ | refine s_extract rfl rfl rfl ?_ | refine s_store rfl rfl rfl rfl (by rfl) (by rfl) (by rfl) ?_ | refine s_build_s rfl rfl ?_ | refine s_bslice rfl rfl (by decide) rfl ?_ | refine s_alloc (fun _ _ => ?_) | refine o_nil ?_ | refine o_op rfl ?_ | refine o_op0 ?_ | refine o_gy rfl rfl rfl rfl ?_ | refine r_seq ?_ | refine r_region ?_ | (refine g_draw ?_; first | refine r_draw0 (by rfl) (by kernel_rfl) (by kernel_rfl) ?_ | refine r_drawq (by kernel_rfl) (by kernel_rfl) ?_) | refine r_skip ?_ | refine r_cond_f rfl ?_ | refine r_ret ?_ | refine x_op rfl (by (repeat' first | refine s_mv rfl ?_ | refine s_as rfl ?_ | refine s_load_rowa rfl rfl (by rfl) (by rfl) ?_ | refine s_call_p rfl rfl (hl2) (by repeat' first | exact clo_sc | exact clo_slOf _ | exact clo_sl (encs_clo _) | exact encs_clo _ | refine clo_fn ?_ ?_ | refine clo_ep ?_ | refine clo_tup ?_ | refine clo_agg ?_ | exact ac_nil | refine ac_cons ?_ ?_ | refine clo_sl ?_) ?_ | refine s_call_p rfl rfl (hl3) (by repeat' first | exact clo_sc | exact clo_slOf _ | exact clo_sl (encs_clo _) | exact encs_clo _ | refine clo_fn ?_ ?_ | refine clo_ep ?_ | refine clo_tup ?_ | refine clo_agg ?_ | exact ac_nil | refine ac_cons ?_ ?_ | refine clo_sl ?_) ?_ | refine s_call_p rfl rfl (hl1) (by repeat' first | exact clo_sc | exact clo_slOf _ | exact clo_sl (encs_clo _) | exact encs_clo _ | refine clo_fn ?_ ?_ | refine clo_ep ?_ | refine clo_tup ?_ | refine clo_agg ?_ | exact ac_nil | refine ac_cons ?_ ?_ | refine clo_sl ?_) ?_ | refine s_call_p rfl rfl (hf2) (by repeat' first | exact clo_sc | exact clo_slOf _ | exact clo_sl (encs_clo _) | exact encs_clo _ | refine clo_fn ?_ ?_ | refine clo_ep ?_ | refine clo_tup ?_ | refine clo_agg ?_ | exact ac_nil | refine ac_cons ?_ ?_ | refine clo_sl ?_) ?_ | refine s_call_p rfl rfl (hf3) (by repeat' first | exact clo_sc | exact clo_slOf _ | exact clo_sl (encs_clo _) | exact encs_clo _ | refine clo_fn ?_ ?_ | refine clo_ep ?_ | refine clo_tup ?_ | refine clo_agg ?_ | exact ac_nil | refine ac_cons ?_ ?_ | refine clo_sl ?_) ?_ | refine s_call_p rfl rfl (hf1) (by repeat' first | exact clo_sc | exact clo_slOf _ | exact clo_sl (encs_clo _) | exact encs_clo _ | refine clo_fn ?_ ?_ | refine clo_ep ?_ | refine clo_tup ?_ | refine clo_agg ?_ | exact ac_nil | refine ac_cons ?_ ?_ | refine clo_sl ?_) ?_ | refine s_extract rfl rfl rfl ?_ | refine s_bslice rfl rfl (by decide) rfl ?_ | exact ⟨rfl, rfl⟩)) ?_ | refine x_nil ?_)
  refine e_1 Tryd.results15 (rv_tmp rfl) (c_pure' ?_)
  rfl

end Go.Proofs
