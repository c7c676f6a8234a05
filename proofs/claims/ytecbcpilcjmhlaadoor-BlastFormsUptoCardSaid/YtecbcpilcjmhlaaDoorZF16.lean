/-
  Part 16 of the proof: EvT V5 V8 W1 W2.
-/
import Derived.Test.YtecbcpilcjmhlaaDoorZF1
import Derived.Test.YtecbcpilcjmhlaaDoorZF5
import Derived.Test.YtecbcpilcjmhlaaDoorZF13
import Derived.Test.YtecbcpilcjmhlaaDoorZF15
set_option maxRecDepth 100000
set_option linter.unusedSimpArgs false
set_option linter.unusedVariables false
set_option maxHeartbeats 4000000
section
namespace Go.Proofs
open Go.Av
def opsT : DV := .ep [.fn (.func 136) [] [], .b false, .b false, .fn (.func 137) [] [], .b false, .b false, .fn (.func 138) [] [], .b false, .b false, .fn (.func 139) [] [], .b true, .b false, .fn (.func 140) [] [], .b true, .b false,
 .fn (.func 141) [] [], .b false, .b false, .fn (.func 142) [] [], .b false, .b false, .fn (.func 143) [] [], .b false, .b false, .fn (.func 144) [] [], .b false, .b false, .fn (.func 146) [] [], .b false, .b false,
 .fn (.func 147) [] [], .b false, .b true, .fn (.func 149) [] [], .b false, .b true, .fn (.func 150) [] [], .b false, .b true, .fn (.func 151) [] [], .b false, .b true]
def G1 : Nat -> DV := fun g => match g with | 0 => opsT | _ => .any
end Go.Proofs
namespace Go.Proofs
open Go.Av
end Go.Proofs
end
section
namespace Go.Proofs
open Go.Av
variable {G : Nat -> DV}
attribute [local irreducible] OpSem WB WQ WW ACalls Zo QY RV
open Go.Fo
theorem sameIntsV_c (a b : List Int) (ha : a.length <= 4611686018427387904) (hb : b.length <= 4611686018427387904) : Go.Av.Pure Tryd.prog G 23 [QG a, QG b] (.b (decide (a = b))) := fun B => by
 refine Qc Tryd.func23 rfl Tryd.ntmps23 rfl (t := [(0, QG a), (1, QG b)]) rfl fun E hE => ?_
 (repeat' first | refine Qu rfl ?_ | refine QA rfl ?_ | refine Wu rfl rfl ?_ | refine Qj rfl ?_ | refine Qe ?_ | refine Qs rfl ?_ | refine Qg ?_ | refine Qa ?_)
 refine QE rfl (fun h => ?_) (fun h => ?_)
 ·(repeat' first | refine QA rfl ?_ | refine Qe ?_ | refine Qs rfl ?_ | refine Qg ?_ | refine Qa ?_ | refine Qq ?_)
  refine e_1 Tryd.results23 (Qh rfl) (QD ?_)
  rw [decide_eq_false (p := a = b) (fun e => h (by rw [e]))]
 have hl : a.length = b.length := by omega
 (repeat' first | refine QA rfl ?_ | refine Qe ?_ | refine Qs rfl ?_ | refine Qg ?_ | refine Qa ?_ | refine Qf ?_ | refine Qk ?_)
 refine Wv (fun k : Nat => ⟨[(0, QG a), (1, QG b), (5, .i k)], []⟩) (fun k => k <= a.length /\ a.take k = b.take k) (fun k => a.length - k) 0 ?_ ⟨by omega, by simp⟩ ?_
 ·exact zal rfl
 intro k ⟨hk, hall⟩
 (repeat' first | refine Qu rfl ?_ | refine QL rfl rfl ?_ | refine Qj rfl ?_ | refine Qe ?_ | refine Qs rfl ?_ | refine Qg ?_ | refine Qa ?_)
 refine QE rfl (fun h => ?_) (fun h => ?_)
 ·have hk' : k < a.length := by omega
  have hk'' : k < b.length := by omega
  (repeat' first | refine Qe ?_ | refine Qg ?_ | refine Qf ?_ | (refine Q0 ?_; first | refine Q3 (by rfl) (by kernel_rfl) (by kernel_rfl) ?_ | refine QP (by kernel_rfl) (by kernel_rfl) ?_) | refine Qk ?_ | refine qb rfl (by (repeat' first | refine Qu rfl ?_ | refine Qv rfl ?_ | refine Ql rfl rfl (by first | assumption | omega | (simp; done) | (simp; omega)) ?_ | refine Wu rfl rfl ?_ | exact ⟨rfl, rfl⟩)) ?_ | refine ZS ?_)
  refine QE rfl (fun h => ?_) (fun h => ?_)
  ·(repeat' first | refine QA rfl ?_ | refine Qe ?_ | refine Qs rfl ?_ | refine Qg ?_ | refine Qa ?_ | refine Qq ?_)
   refine e_1 Tryd.results23 (Qh rfl) (QD ?_)
   rw [decide_eq_false (p := a = b) (fun e => h (by subst e; rfl))]
  ·(repeat' first | refine Qu rfl ?_ | refine QA rfl ?_ | refine Q5 rfl rfl (by omega) ?_ | refine Qe ?_ | refine Qs rfl ?_ | refine Qa ?_ | refine Qk ?_)
   refine ⟨k + 1, ⟨hk', ?_⟩, by omega, ?_⟩
   ·rw [List.take_succ_eq_append_getElem hk', List.take_succ_eq_append_getElem hk'', hall, Decidable.not_not.1 h]
   ·exact zal rfl
 ·(repeat' first | refine QA rfl ?_ | refine Qe ?_ | refine Qs rfl ?_ | refine Qg ?_ | refine Qa ?_ | refine Q2 rfl ?_ | refine Qq ?_)
  refine e_1 Tryd.results23 (Qh rfl) (QD ?_)
  rw [List.take_of_length_le (by omega), List.take_of_length_le (by omega)] at hall
  rw [decide_eq_true hall]
end Go.Proofs
end
section
namespace Go.Proofs
open Go.Av
variable {G : Nat -> DV}
attribute [local irreducible] OpSem WB WQ WW ACalls Zo QY RV
open Go.Fv
end Go.Proofs
end
