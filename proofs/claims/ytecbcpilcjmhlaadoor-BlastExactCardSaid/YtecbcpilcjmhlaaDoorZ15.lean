/-
  Part 15 of the proof: EvT V5 V8 W0 W1.
-/
import Derived.Test.YtecbcpilcjmhlaaDoorZ1
import Derived.Test.YtecbcpilcjmhlaaDoorZ4
import Derived.Test.YtecbcpilcjmhlaaDoorZ5
import Derived.Test.YtecbcpilcjmhlaaDoorZ11
import Derived.Test.YtecbcpilcjmhlaaDoorZ14
set_option maxRecDepth 100000
set_option linter.unusedSimpArgs false
set_option linter.unusedVariables false
set_option maxHeartbeats 4000000
section
namespace Go.Proofs
open Go.Av
def opsT : DV := .ep [.fn (.func 136) [] [], .b false, .b false, .fn (.func 137) [] [], .b false, .b false, .fn (.func 138) [] [], .b false, .b false, .fn (.func 139) [] [], .b true, .b false, .fn (.func 140) [] [], .b true, .b false,
  .fn (.func 141) [] [], .b false, .b false, .fn (.func 142) [] [], .b false, .b false, .fn (.func 143) [] [], .b false, .b false, .fn (.func 144) [] [], .b false, .b false, .fn (.func 146) [] [], .b false, .b false,
  .fn (.func 147) [] [], .b false, .b true, .fn (.func 149) [] [], .b false, .b true, .fn (.func 150) [] [], .b false, .b true, .fn (.func 151) [] [], .b false, .b true]
def G1 : Nat → DV := fun g => match g with | 0 => opsT | _ => .any
end Go.Proofs
namespace Go.Proofs
open Go.Av
end Go.Proofs
end
section
namespace Go.Proofs
open Go.Av
variable {G : Nat → DV}
attribute [local irreducible] OpSem ARun AOps ALex ACalls AEnd AClose RV
open Go.Fo
theorem sameIntsV_c (a b : List Int) (ha : a.length ≤ 4611686018427387904) (hb : b.length ≤ 4611686018427387904) : Go.Av.Pure Tryd.prog G 23 [slOf a, slOf b] (.b (decide (a = b))) := fun B => by
  refine calls_of_run Tryd.func23 rfl Tryd.ntmps23 rfl (t := [(0, slOf a), (1, slOf b)]) rfl fun E hE => ?_
  (repeat' first | refine s_mv rfl ?_ | refine s_as rfl ?_ | refine s_neq rfl rfl ?_ | refine s_len_sl rfl ?_ | refine o_nil ?_ | refine o_op rfl ?_ | refine r_seq ?_ | refine r_region ?_)
  refine r_cond_d rfl (fun h => ?_) (fun h => ?_)
  · (repeat' first | refine s_as rfl ?_ | refine o_nil ?_ | refine o_op rfl ?_ | refine r_seq ?_ | refine r_region ?_ | refine r_ret ?_)
    refine e_1 Tryd.results23 (rv_tmp rfl) (c_pure' ?_)
    rw [decide_eq_false (p := a = b) (fun e => h (by rw [e]))]
  have hl : a.length = b.length := by omega
  (repeat' first | refine s_as rfl ?_ | refine o_nil ?_ | refine o_op rfl ?_ | refine r_seq ?_ | refine r_region ?_ | refine r_block ?_ | refine r_skip ?_)
  refine r_loop (fun k : Nat => ⟨[(0, slOf a), (1, slOf b), (5, .i k)], []⟩) (fun k => k ≤ a.length ∧ a.take k = b.take k) (fun k => a.length - k) 0 ?_ ⟨by omega, by simp⟩ ?_
  · exact al rfl
  intro k ⟨hk, hall⟩
  (repeat' first | refine s_mv rfl ?_ | refine s_lss rfl rfl ?_ | refine s_len_sl rfl ?_ | refine o_nil ?_ | refine o_op rfl ?_ | refine r_seq ?_ | refine r_region ?_)
  refine r_cond_d rfl (fun h => ?_) (fun h => ?_)
  · have hk' : k < a.length := by omega
    have hk'' : k < b.length := by omega
    (repeat' first | refine o_nil ?_ | refine r_seq ?_ | refine r_block ?_ | (refine g_draw ?_; first | refine r_draw0 (by rfl) (by kernel_rfl) (by kernel_rfl) ?_ | refine r_drawq (by kernel_rfl) (by kernel_rfl) ?_) | refine r_skip ?_ | refine x_op rfl (by (repeat' first | refine s_mv rfl ?_ | refine s_load_ep rfl ?_ | refine s_idx_sln rfl rfl (by first | assumption | omega | (simp; done) | (simp; omega)) ?_ | refine s_neq rfl rfl ?_ | exact ⟨rfl, rfl⟩)) ?_ | refine x_nil ?_)
    refine r_cond_d rfl (fun h => ?_) (fun h => ?_)
    · (repeat' first | refine s_as rfl ?_ | refine o_nil ?_ | refine o_op rfl ?_ | refine r_seq ?_ | refine r_region ?_ | refine r_ret ?_)
      refine e_1 Tryd.results23 (rv_tmp rfl) (c_pure' ?_)
      rw [decide_eq_false (p := a = b) (fun e => h (by subst e; rfl))]
    · (repeat' first | refine s_mv rfl ?_ | refine s_as rfl ?_ | refine s_add rfl rfl (by omega) ?_ | refine o_nil ?_ | refine o_op rfl ?_ | refine r_region ?_ | refine r_skip ?_)
      refine ⟨k + 1, ⟨hk', ?_⟩, by omega, ?_⟩
      · rw [List.take_succ_eq_append_getElem hk', List.take_succ_eq_append_getElem hk'', hall, Decidable.not_not.1 h]
      · exact al rfl
  · (repeat' first | refine s_as rfl ?_ | refine o_nil ?_ | refine o_op rfl ?_ | refine r_seq ?_ | refine r_region ?_ | refine r_exit rfl ?_ | refine r_ret ?_)
    refine e_1 Tryd.results23 (rv_tmp rfl) (c_pure' ?_)
    rw [List.take_of_length_le (by omega), List.take_of_length_le (by omega)] at hall
    rw [decide_eq_true hall]
end Go.Proofs
end
section
namespace Go.Av
section
variable {P : Program} {G : Nat → DV} {B : Nat} {f : Operand → DV} {σ : List ABlk} {K : DV → List ABlk → Prop} {dst : Option Tmp} {type : TypeId} {pos : String} {after : Array Edge} {gd : Option (Nat × Bool)}
end
theorem r_loop4 {P : Program} {G : Nat → DV} {E : AX} {n : Nat} {N : ASt → Prop} {xs : List (Nat × (ASt → Prop))} {R : ASt → Prop} {st : ASt} {c : Code} {α β γ δ : Type} (I : α → β → γ → δ → ASt) (pre : α → β → γ → δ → Prop) (μ : α → Nat) (x0 : α) (y0 : β) (z0 : γ) (w0 : δ) (h0 : ALe st (I x0 y0 z0 w0)) (hp0 : pre x0 y0 z0 w0)
    (round : ∀ x y z w, pre x y z w → ARun P G E n c (fun st' => ∃ x' y' z' w', pre x' y' z' w' ∧ μ x' < μ x ∧ ALe st' (I x' y' z' w')) xs R (I x y z w)) : ARun P G E n (.loop c) N xs R st :=
  r_loop3 (fun x y (s : γ × δ) => I x y s.1 s.2) (fun x y s => pre x y s.1 s.2) (fun x _ _ => μ x) x0 y0 (z0, w0) h0 hp0 fun x y s hs a w hr => wp_mono (round x y s.1 s.2 hs a w hr) fun e a' w' ⟨st', hr', hq⟩ => ⟨st', hr', by
    cases e with
    | normal => obtain ⟨x', y', z', v', h1, h2, h3⟩ := hq; exact ⟨x', y', (z', v'), h1, h2, h3⟩
    | exit id => exact hq
    | ret => exact hq
    | goto l => exact hq
    | panic ch => exact hq
    | outgrown => exact hq⟩
end Go.Av
namespace Go.Fv
end Go.Fv
end
section
namespace Go.Proofs
open Go.Av
variable {G : Nat → DV}
attribute [local irreducible] OpSem ARun AOps ALex ACalls AEnd AClose RV
open Go.Fv
end Go.Proofs
end
