/-
  What functions of the program hand back: contracts over abstract values.
-/
import Derived.Test.YtecbcpilcjmhlaaDoorAvN
import Derived.Test.YtecbcpilcjmhlaaDoorInst
import Derived.Test.YtecbcpilcjmhlaaDoorW0
namespace Go.Proofs
open Go.Av
set_option linter.unusedSimpArgs false
set_option linter.unusedVariables false
set_option maxRecDepth 10000
set_option maxHeartbeats 4000000
variable {G : Nat → DV}
attribute [local irreducible] OpSem ARun AOps ALex ACalls AEnd AClose RV
open Go.Fv

theorem width_c (k : Int) : Go.Av.Pure Tryd.prog G 39 [.i k] (.i (wid k)) := fun B => by
  refine calls_of_run Tryd.func39 rfl Tryd.ntmps39 rfl (t := [(0, .i k)]) rfl fun E hE => ?_
  (repeat' first | refine s_mv rfl ?_ | refine s_as rfl ?_ | refine s_eql rfl rfl ?_ | refine o_nil ?_ | refine o_op rfl ?_ | refine r_seq ?_ | refine r_region ?_)
  refine r_cond_d rfl (fun h => ?_) (fun h => ?_)
  · (repeat' first | refine s_as rfl ?_ | refine o_nil ?_ | refine o_op rfl ?_ | refine r_seq ?_ | refine r_region ?_ | refine r_ret ?_)
    refine e_1 Tryd.results39 (rv_tmp rfl) (c_pure' ?_)
    unfold wid; rw [if_pos h]; rfl
  · (repeat' first | refine s_as rfl ?_ | refine o_nil ?_ | refine o_op rfl ?_ | refine r_seq ?_ | refine r_region ?_ | refine r_skip ?_ | refine r_ret ?_)
    refine e_1 Tryd.results39 (rv_tmp rfl) (c_pure' ?_)
    unfold wid; rw [if_neg h]; rfl
theorem wWrap_c (n : Nat) (hn : n < 16) : Go.Av.Pure Tryd.prog G 57 [.i n] (.i (wrapM n)) := fun B => by
  have h15 := and_15 n hn
  refine calls_of_run Tryd.func57 rfl Tryd.ntmps57 rfl (t := [(0, .i n)]) rfl fun E hE => ?_
  (repeat' first | refine s_mv rfl ?_ | refine s_as rfl ?_ | refine s_gtr rfl rfl ?_ | refine s_and rfl rfl ?_ | refine o_nil ?_ | refine o_op rfl ?_ | refine r_seq ?_ | refine r_region ?_)
  rw [h15]
  refine r_cond_d rfl (fun h => ?_) (fun h => ?_)
  · (repeat' first | refine s_mv rfl ?_ | refine s_as rfl ?_ | refine s_sub rfl rfl (by omega) ?_ | refine o_nil ?_ | refine o_op rfl ?_ | refine r_seq ?_ | refine r_region ?_ | refine r_ret ?_)
    refine e_1 Tryd.results57 (rv_tmp rfl) (c_pure' ?_)
    unfold wrapM; rw [if_pos (by omega)]
  · (repeat' first | refine s_mv rfl ?_ | refine s_as rfl ?_ | refine o_nil ?_ | refine o_op rfl ?_ | refine r_seq ?_ | refine r_region ?_ | refine r_skip ?_ | refine r_ret ?_)
    refine e_1 Tryd.results57 (rv_tmp rfl) (c_pure' ?_)
    unfold wrapM; rw [if_neg (by omega)]
theorem r04Wrap_c (n : Nat) (hn : n < 16) : Go.Av.Pure Tryd.prog G 58 [.i n] (.i (wrapM n)) := fun B => by
  have hr : (n : Int) % 16 = n := by omega
  refine calls_of_run Tryd.func58 rfl Tryd.ntmps58 rfl (t := [(0, .i n)]) rfl fun E hE => ?_
  (repeat' first | refine s_mv rfl ?_ | refine s_as rfl ?_ | refine s_lss rfl rfl ?_ | refine s_gtr rfl rfl ?_ | refine s_rem rfl rfl (by first | omega | exact nn_shr (by omega)) (by omega) ?_ | refine o_nil ?_ | refine o_op rfl ?_ | refine r_seq ?_ | refine r_region ?_ | refine r_skip ?_ | refine r_cond_f rfl ?_)
  rw [hr]
  refine r_cond_d rfl (fun h => ?_) (fun h => ?_)
  · (repeat' first | refine s_mv rfl ?_ | refine s_as rfl ?_ | refine s_sub rfl rfl (by omega) ?_ | refine o_nil ?_ | refine o_op rfl ?_ | refine r_seq ?_ | refine r_region ?_ | refine r_ret ?_)
    refine e_1 Tryd.results58 (rv_tmp rfl) (c_pure' ?_)
    unfold wrapM; rw [if_pos (by omega)]
  · (repeat' first | refine s_mv rfl ?_ | refine s_as rfl ?_ | refine o_nil ?_ | refine o_op rfl ?_ | refine r_seq ?_ | refine r_region ?_ | refine r_skip ?_ | refine r_ret ?_)
    refine e_1 Tryd.results58 (rv_tmp rfl) (c_pure' ?_)
    unfold wrapM; rw [if_neg (by omega)]
theorem maxI_c (l : List Int) (hl : l.length ≤ 1048576) (h0 : 0 < l.length) (hp : ∀ x ∈ l, 0 ≤ x) : Go.Av.Pure Tryd.prog G 56 [slOf l] (.i (maxM l)) := fun B => by
  have hf : maxM (l.take 1) = l[0] := by
    have := maxM_succ (l := l) (i := 0) h0
    rw [this]
    have := hp _ (List.getElem_mem h0)
    simp [maxM]; omega
  refine calls_of_run Tryd.func56 rfl Tryd.ntmps56 rfl (t := [(0, slOf l)]) rfl fun E hE => ?_
  (repeat' first | refine s_mv rfl ?_ | refine s_as rfl ?_ | refine s_load_ep rfl ?_ | refine s_idx_sln rfl rfl (by first | assumption | omega | (simp; done) | (simp; omega)) ?_ | refine s_lss rfl rfl ?_ | refine s_len_sl rfl ?_ | refine o_nil ?_ | refine o_op rfl ?_ | refine r_seq ?_ | refine r_region ?_ | refine r_block ?_ | refine r_skip ?_ | refine r_cond_df rfl (by omega) ?_)
  refine r_loop (fun i : Nat => ⟨[(0, slOf l), (3, .i (maxM (l.take (i + 1)))), (4, .i ((i : Int) + 1))], []⟩) (fun i => i + 1 ≤ l.length) (fun i => l.length - i) 0 ?_ (by omega) ?_
  · rw [hf]
    exact ale_drop (by repeat' first | exact mem_nil | refine mem_cons rfl ?_) rfl
  intro i hi
  by_cases hc : i + 1 < l.length
  · have hlt : ((i : Int) + 1).toNat < l.length := by omega
    have hs : maxM (l.take (i + 1 + 1)) = max (maxM (l.take (i + 1))) (l[((i : Int) + 1).toNat]'hlt) := by
      have e : ((i : Int) + 1).toNat = i + 1 := by omega
      rw [maxM_succ hc]
      simp only [e]
    (repeat' first | refine s_mv rfl ?_ | refine s_as rfl ?_ | refine s_load_ep rfl ?_ | refine s_idx_sln rfl rfl (by first | assumption | omega | (simp; done) | (simp; omega)) ?_ | refine s_lss rfl rfl ?_ | refine s_add rfl rfl (by omega) ?_ | refine s_max_m rfl rfl ?_ | refine s_len_sl rfl ?_ | refine o_nil ?_ | refine o_op rfl ?_ | refine r_seq ?_ | refine r_region ?_ | refine r_block ?_ | refine r_skip ?_ | refine r_cond_dt rfl (by omega) ?_)
    refine ⟨i + 1, by omega, by omega, ?_⟩
    rw [hs]
    exact ale_drop (by repeat' first | exact mem_nil | refine mem_cons rfl ?_) rfl
  · (repeat' first | refine s_mv rfl ?_ | refine s_as rfl ?_ | refine s_lss rfl rfl ?_ | refine s_len_sl rfl ?_ | refine o_nil ?_ | refine o_op rfl ?_ | refine r_seq ?_ | refine r_region ?_ | refine r_cond_df rfl (by omega) ?_ | refine r_exit rfl ?_ | refine r_ret ?_)
    refine e_1 Tryd.results56 (rv_tmp rfl) (c_pure' ?_)
    rw [List.take_of_length_le (by omega)]

end Go.Proofs
