/-
  The reference's functions of chapter 36: what each hands back.
-/
import Derived.Test.YtdolhcppabcodaaAvE
import Derived.Test.YtdolhcppabcodaaInst
import Derived.Test.YtdolhcppabcodaaO0
namespace Go.Proofs
open Go.Av
set_option linter.unusedSimpArgs false
set_option linter.unusedVariables false
set_option maxRecDepth 10000
variable {G : Nat → DV}
attribute [local irreducible] OpSem ARun AOps ALex ACalls AEnd AClose RV

theorem has_c (l : List Int) (x : Int) (hl : l.length ≤ 4611686018427387904) : Pure Try.prog G 31 [slOf l, .i x] (.b (l.contains x)) := fun B => by
  refine calls_of_run Try.func31 rfl Try.ntmps31 rfl (t := [(0, slOf l), (1, .i x)]) rfl fun E hE => ?_
  (repeat' first | refine s_as rfl ?_ | refine o_nil ?_ | refine o_op rfl ?_ | refine r_seq ?_ | refine r_region ?_ | refine r_block ?_)
  refine r_loop (fun k : Nat => ⟨[(0, slOf l), (1, .i x), (5, .i k)], []⟩) (fun k => k ≤ l.length ∧ (l.take k).contains x = false) (fun k => l.length - k) 0 ?_ ⟨by omega, by simp⟩ ?_
  · exact ale_drop (by repeat' first | exact mem_nil | refine mem_cons rfl ?_) rfl
  intro k ⟨hk, hno⟩
  (repeat' first | refine s_mv rfl ?_ | refine s_lss rfl rfl ?_ | refine s_len_sl rfl ?_ | refine o_nil ?_ | refine o_op rfl ?_ | refine r_seq ?_ | refine r_region ?_)
  refine r_cond_d rfl (fun h => ?_) (fun h => ?_)
  · have hk' : k < l.length := by omega
    have ht : l.take (k + 1) = l.take k ++ [l[k]] := by rw [List.take_succ_eq_append_getElem hk']
    (repeat' first | refine s_mv rfl ?_ | refine s_load_ep rfl ?_ | refine s_idx_sln rfl rfl (by first | assumption | omega | (simp; done) | (simp; omega)) ?_ | refine s_eql rfl rfl ?_ | refine o_nil ?_ | refine o_op rfl ?_ | refine r_seq ?_ | refine r_region ?_ | refine r_block ?_ | refine r_skip ?_)
    refine r_cond_d rfl (fun h => ?_) (fun h => ?_)
    · (repeat' first | refine s_as rfl ?_ | refine o_nil ?_ | refine o_op rfl ?_ | refine r_seq ?_ | refine r_region ?_ | refine r_ret ?_)
      refine e_1 Try.results31 (rv_tmp rfl) (c_pure' ?_)
      have : l.contains x = true := by
        rw [List.contains_iff_mem, ← h]; exact List.getElem_mem _
      rw [this]
    · (repeat' first | refine s_mv rfl ?_ | refine s_as rfl ?_ | refine s_add rfl rfl (by omega) ?_ | refine o_nil ?_ | refine o_op rfl ?_ | refine r_region ?_ | refine r_skip ?_)
      refine ⟨k + 1, ⟨hk', ?_⟩, by omega, ?_⟩
      · rw [ht, List.contains_append, hno]
        simp; exact fun e => h e.symm
      · exact ale_drop (by repeat' first | exact mem_nil | refine mem_cons rfl ?_) rfl
  · (repeat' first | refine s_as rfl ?_ | refine o_nil ?_ | refine o_op rfl ?_ | refine r_seq ?_ | refine r_region ?_ | refine r_exit rfl ?_ | refine r_ret ?_)
    refine e_1 Try.results31 (rv_tmp rfl) (c_pure' ?_)
    have : l.take k = l := List.take_of_length_le (by omega)
    rw [this] at hno
    rw [hno]

end Go.Proofs
