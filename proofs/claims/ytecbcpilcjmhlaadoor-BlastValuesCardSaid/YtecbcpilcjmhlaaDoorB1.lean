/-
  What functions of the program hand back: contracts over abstract values.
-/
import Derived.Test.YtecbcpilcjmhlaaDoorAvN
import Derived.Test.YtecbcpilcjmhlaaDoorInst
import Derived.Test.YtecbcpilcjmhlaaDoorO0
import Derived.Test.YtecbcpilcjmhlaaDoorB0
namespace Go.Proofs
open Go.Av
set_option linter.unusedSimpArgs false
set_option linter.unusedVariables false
set_option maxRecDepth 10000
set_option maxHeartbeats 4000000
variable {G : Nat → DV}
attribute [local irreducible] OpSem ARun AOps ALex ACalls AEnd AClose RV

theorem indexFuncI_c (l : List Int) (fid : FuncId) (first cap : List DV) (p : Int → Bool) [FnOk Tryd.prog fid] (hl : l.length ≤ 4611686018427387904) (hp : ∀ x ∈ l, Go.Av.Pure Tryd.prog G fid (first ++ [.i x] ++ cap) (.b (p x))) :
    Go.Av.Pure Tryd.prog G 50 [slOf l, .fn (.func fid) first cap] (.i (Ord.findI p l)) := fun B => by
  refine calls_of_run Tryd.func50 rfl Tryd.ntmps50 rfl (t := [(0, slOf l), (1, .fn (.func fid) first cap)]) rfl fun E hE => ?_
  (repeat' first | refine s_mv rfl ?_ | refine s_as rfl ?_ | refine s_len_sl rfl ?_ | refine o_nil ?_ | refine o_op rfl ?_ | refine r_seq ?_ | refine r_region ?_ | refine r_block ?_)
  refine r_loop (fun k : Nat => ⟨[(0, slOf l), (1, .fn (.func fid) first cap), (7, .i l.length), (8, .i k)], []⟩) (fun k => k ≤ l.length ∧ ∀ j (h : j < l.length), j < k → p l[j] = false) (fun k => l.length - k) 0 ?_ ⟨by omega, fun j h hj => by omega⟩ ?_
  · exact ale_drop (by repeat' first | exact mem_nil | refine mem_cons rfl ?_) rfl
  intro k ⟨hk, hno⟩
  (repeat' first | refine s_lss rfl rfl ?_ | refine o_nil ?_ | refine o_op rfl ?_ | refine r_seq ?_ | refine r_region ?_)
  refine r_cond_d rfl (fun h => ?_) (fun h => ?_)
  · have hk' : k < l.length := by omega
    (repeat' first | refine s_mv rfl ?_ | refine s_as rfl ?_ | refine s_load_ep rfl ?_ | refine s_idx_sln rfl rfl (by first | assumption | omega | (simp; done) | (simp; omega)) ?_ | refine s_callv_q rfl (hp _ (by first | assumption | exact List.getElem_mem _)) (by repeat' first | exact clo_sc | exact clo_slOf _ | exact clo_sl (encs_clo _) | exact encs_clo _ | refine clo_fn ?_ ?_ | refine clo_ep ?_ | refine clo_tup ?_ | refine clo_agg ?_ | exact ac_nil | refine ac_cons ?_ ?_ | refine clo_sl ?_) ?_ | refine o_nil ?_ | refine o_op rfl ?_ | refine r_seq ?_ | refine r_region ?_ | refine r_block ?_ | refine r_skip ?_)
    refine r_cond rfl (fun hb => ?_) (fun hb => ?_)
    · (repeat' first | refine s_mv rfl ?_ | refine s_as rfl ?_ | refine o_nil ?_ | refine o_op rfl ?_ | refine r_seq ?_ | refine r_region ?_ | refine r_ret ?_)
      refine e_1 Tryd.results50 (rv_tmp rfl) (c_pure' ?_)
      rw [Ord.findI_some hk' hb hno]
    · (repeat' first | refine s_mv rfl ?_ | refine s_add rfl rfl (by omega) ?_ | refine o_nil ?_ | refine o_op rfl ?_ | refine r_region ?_ | refine r_skip ?_)
      refine ⟨k + 1, ⟨hk', fun j hj hjk => ?_⟩, by omega, ?_⟩
      · rcases Nat.lt_or_ge j k with h' | h'
        · exact hno j hj h'
        · have : j = k := by omega
          subst this; exact hb
      · exact ale_drop (by repeat' first | exact mem_nil | refine mem_cons rfl ?_) rfl
  · have hk' : k = l.length := by omega
    (repeat' first | refine s_as rfl ?_ | refine o_nil ?_ | refine o_op rfl ?_ | refine r_seq ?_ | refine r_region ?_ | refine r_exit rfl ?_ | refine r_ret ?_)
    refine e_1 Tryd.results50 (rv_tmp rfl) (c_pure' ?_)
    rw [Ord.findI_none fun j hj => hno j hj (by omega)]

theorem containsFuncI_c (l : List Int) (fid : FuncId) (first cap : List DV) (p : Int → Bool) [FnOk Tryd.prog fid] (hl : l.length ≤ 4611686018427387904) (hp : ∀ x ∈ l, Go.Av.Pure Tryd.prog G fid (first ++ [.i x] ++ cap) (.b (p x))) :
    Go.Av.Pure Tryd.prog G 52 [slOf l, .fn (.func fid) first cap] (.b (l.any p)) := fun B => by
  refine calls_of_run Tryd.func52 rfl Tryd.ntmps52 rfl (t := [(0, slOf l), (1, .fn (.func fid) first cap)]) rfl fun E hE => ?_
  (repeat' first | refine s_mv rfl ?_ | refine s_as rfl ?_ | refine o_nil ?_ | refine o_op rfl ?_ | refine r_seq ?_ | refine r_region ?_)
  refine s_call_p rfl rfl (indexFuncI_c l fid first cap p hl hp) clo_sc ?_
  (repeat' first | refine s_as rfl ?_ | refine s_geq rfl rfl ?_ | refine o_nil ?_ | refine o_op rfl ?_ | refine r_ret ?_)
  refine e_1 Tryd.results52 (rv_tmp rfl) (c_pure' ?_)
  rw [Ord.findI_any]


end Go.Proofs
