/-
  Closed calls, run by the kernel: the term a < 3 as clauses.
-/
import Derived.Test.YtecbcpilcjmhlaaDoorAvO
import Derived.Test.YtecbcpilcjmhlaaDoorEvT
namespace Go.Proofs
open Go.Av
set_option maxRecDepth 100000

/-- The table of the word's operations. -/
def opsT : DV := .ep [.fn (.func 136) [] [], .b false, .b false, .fn (.func 137) [] [], .b false, .b false, .fn (.func 138) [] [], .b false, .b false, .fn (.func 139) [] [], .b true, .b false, .fn (.func 140) [] [], .b true, .b false,
  .fn (.func 141) [] [], .b false, .b false, .fn (.func 142) [] [], .b false, .b false, .fn (.func 143) [] [], .b false, .b false, .fn (.func 144) [] [], .b false, .b false, .fn (.func 146) [] [], .b false, .b false,
  .fn (.func 147) [] [], .b false, .b true, .fn (.func 149) [] [], .b false, .b true, .fn (.func 150) [] [], .b false, .b true, .fn (.func 151) [] [], .b false, .b true]
def G1 : Nat → DV := fun g => match g with | 0 => opsT | _ => .any
/-- The clauses of a < 3. -/
def clsL : List (List Int) := [[1], [-3, 2, 6], [3, -6], [-2, -6], [-3, 6, 7], [3, -7], [-6, -7], [4, 7, 8], [-4, -8], [-7, -8], [5, -8, 9], [-5, -9], [8, -9], [5, 9, 10], [-5, -10], [-9, -10], [-10]]
def forL : List DV := [.i 10, slOf clsL, slOf ([0] : List Int), slOf ([0] : List Int), slOf ([2] : List Int)]
def terL : DV := .sl 4 [.i 9, .i 10, .i 0, .sl 4 [.i 6, .i 0, .i 0, .nil, .i 4, .i 3, .i 0, .nil]]
theorem var_ev : evPure Tryd.evT G1 100 32 [.i 0, .i 0] = some (.agg [.i 6, .i 0, .i 0, .nil]) := by kernel_rfl
theorem bin_ev : evPure Tryd.evT G1 100 47 [.i 10, .agg [.i 6, .i 0, .i 0, .nil], .agg [.i 4, .i 3, .i 0, .nil]] = some (.agg [.i 9, .i 10, .i 0, .sl 4 [.i 6, .i 0, .i 0, .nil, .i 4, .i 3, .i 0, .nil]]) := by kernel_rfl
theorem lit2_ev : evPure Tryd.evT G1 100 18 [.agg forL, slOf ([2] : List Int)] = some (slOf ([-2, 3, -4, -5] : List Int)) := by kernel_rfl
theorem lit3_ev : evPure Tryd.evT G1 100 18 [.agg forL, slOf ([3] : List Int)] = some (slOf ([2, 3, -4, -5] : List Int)) := by kernel_rfl
theorem lit1_ev : evPure Tryd.evT G1 100 18 [.agg forL, slOf ([-1] : List Int)] = some (slOf ([2, 3, 4, 5] : List Int)) := by kernel_rfl
theorem blast_ev : evPure Tryd.evT G1 400 12 [terL] = some (.tup [.agg forL, .i 0]) := by kernel_rfl
end Go.Proofs
namespace Go.Proofs
open Go.Av
set_option maxRecDepth 100000
theorem formed_ev : evPure Tryd.evT G1 400 14 [.agg forL, terL] = some (.b true) := by kernel_rfl
end Go.Proofs
