/-
  Part 18 of the proof: S4.
-/
import Derived.Test.YtecbcpilcjmhlaaDoorZF1
import Derived.Test.YtecbcpilcjmhlaaDoorZF17
set_option linter.unusedSimpArgs false
set_option linter.unusedVariables false
set_option maxRecDepth 10000
set_option maxHeartbeats 4000000
section
namespace Go.Proofs
open Go.Av
variable {G : Nat -> DV}
attribute [local irreducible] OpSem WB WQ WW ACalls Zo QY RV
open Go.Bl
end Go.Proofs
end
