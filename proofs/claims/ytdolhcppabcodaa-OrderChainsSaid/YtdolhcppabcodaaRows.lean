/-
  No cell of these rows narrows 'for every input' (looked for: loops, veiled, ifaces, maps, wideKeys, modest, calm, conditions, laid).
  DERIVED. THE GIVEN ROWS OF THIS SEAT. 5 by the template 'for every input the law returns true; each argument reads behind the call as it read before'; 0 by the template 'total and deterministic' (their statements: YtdolhcppabcodaaTotals.lean).
  GIVEN WITH THE SEED: the statements are not yours to turn. If you find one false, say at which input.
  Laid BY PROGRAM, IN A SANDBOX (cutbox-rows.mjs): the forced cells as the released guide's own fill.sh prints them over the translation 19cfa2dead4e9788… (all of the seat's roots in one cut). By AI agents, Wed Nov 11 2026. No macro, syntax, notation, axiom, sorry.
-/
import Derived.Test.YtdolhcppabcodaaChecked
import GoSem.Claim
import GoSem.ClaimJoined
import GoSem.ClaimMapViews
import Derived.JoinedTies
import Derived.KernelRfl
namespace Go.Proofs.Ytdolhcppabcodaa
/- THE CELL 'sum', in the pinned program and in every row, IS THE sha256 OF THE DUMP (.gsa) THAT YtdolhcppabcodaaProg.lean LOADS. Nothing in Lean hashes anything: it is a label: what it is worth is what the hold of that sum in a sandbox is worth. -/
noncomputable def Try.pinned : Pinned := { name := "ytdolhcppabcodaa", sum := "19cfa2dead4e9788dea44d5a4e501d3d4dc070d318d46ceb5a8d84b3642b98a3", checked := Try.checked }
namespace Rows
def none {H : Type} : Left H := { results := [], args := [] }

/-- 'scorialaw36.OrderBelow': WHATEVER THE INPUT: true; the input reads as it did. -/
def orderBelowSpec : ChangeSpec := { name := "orderBelow", fn := fun _ => fun
  | [d1, d2, d3, d4] => { results := [.lit (.bool true)], args := [d1, d2, d3, d4] }
  | _ => none }
def orderBelowRow : OpenClaim := { program := "ytdolhcppabcodaa", sum := "19cfa2dead4e9788dea44d5a4e501d3d4dc070d318d46ceb5a8d84b3642b98a3", func := "scoria/scorialaw36.OrderBelow", spec := "orderBelow", unfollowed := true, recurses := true, apart := false }
def OrderBelowSaid : Prop := orderBelowRow.holds Try.pinned (OpenSpec.ofChange orderBelowSpec)

/-- ITS FALSE NEIGHBOUR: 'it returns false'. Refute it at one input. -/
def orderBelowWrong : ChangeSpec := { name := "orderBelow", fn := fun _ => fun
  | [d1, d2, d3, d4] => { results := [.lit (.bool false)], args := [d1, d2, d3, d4] }
  | _ => none }
def OrderBelowWrongFalsely : Prop := orderBelowRow.holds Try.pinned (OpenSpec.ofChange orderBelowWrong)

/-- 'scorialaw36.OrderRoots': WHATEVER THE INPUT: true; the input reads as it did. -/
def orderRootsSpec : ChangeSpec := { name := "orderRoots", fn := fun _ => fun
  | [d1, d2, d3] => { results := [.lit (.bool true)], args := [d1, d2, d3] }
  | _ => none }
def orderRootsRow : OpenClaim := { program := "ytdolhcppabcodaa", sum := "19cfa2dead4e9788dea44d5a4e501d3d4dc070d318d46ceb5a8d84b3642b98a3", func := "scoria/scorialaw36.OrderRoots", spec := "orderRoots", unfollowed := true, recurses := true, apart := false }
def OrderRootsSaid : Prop := orderRootsRow.holds Try.pinned (OpenSpec.ofChange orderRootsSpec)

/-- ITS FALSE NEIGHBOUR: 'it returns false'. Refute it at one input. -/
def orderRootsWrong : ChangeSpec := { name := "orderRoots", fn := fun _ => fun
  | [d1, d2, d3] => { results := [.lit (.bool false)], args := [d1, d2, d3] }
  | _ => none }
def OrderRootsWrongFalsely : Prop := orderRootsRow.holds Try.pinned (OpenSpec.ofChange orderRootsWrong)

/-- 'scorialaw36.OrderChains': WHATEVER THE INPUT: true; the input reads as it did. -/
def orderChainsSpec : ChangeSpec := { name := "orderChains", fn := fun _ => fun
  | [d] => { results := [.lit (.bool true)], args := [d] }
  | _ => none }
def orderChainsRow : OpenClaim := { program := "ytdolhcppabcodaa", sum := "19cfa2dead4e9788dea44d5a4e501d3d4dc070d318d46ceb5a8d84b3642b98a3", func := "scoria/scorialaw36.OrderChains", spec := "orderChains", unfollowed := true, recurses := true, apart := false }
def OrderChainsSaid : Prop := orderChainsRow.holds Try.pinned (OpenSpec.ofChange orderChainsSpec)

/-- ITS FALSE NEIGHBOUR: 'it returns false'. Refute it at one input. -/
def orderChainsWrong : ChangeSpec := { name := "orderChains", fn := fun _ => fun
  | [d] => { results := [.lit (.bool false)], args := [d] }
  | _ => none }
def OrderChainsWrongFalsely : Prop := orderChainsRow.holds Try.pinned (OpenSpec.ofChange orderChainsWrong)

/-- 'scorialaw36.OrderKills': WHATEVER THE INPUT: true; the input reads as it did. -/
def orderKillsSpec : ChangeSpec := { name := "orderKills", fn := fun _ => fun
  | [d1, d2] => { results := [.lit (.bool true)], args := [d1, d2] }
  | _ => none }
def orderKillsRow : OpenClaim := { program := "ytdolhcppabcodaa", sum := "19cfa2dead4e9788dea44d5a4e501d3d4dc070d318d46ceb5a8d84b3642b98a3", func := "scoria/scorialaw36.OrderKills", spec := "orderKills", unfollowed := true, recurses := true, apart := false }
def OrderKillsSaid : Prop := orderKillsRow.holds Try.pinned (OpenSpec.ofChange orderKillsSpec)

/-- ITS FALSE NEIGHBOUR: 'it returns false'. Refute it at one input. -/
def orderKillsWrong : ChangeSpec := { name := "orderKills", fn := fun _ => fun
  | [d1, d2] => { results := [.lit (.bool false)], args := [d1, d2] }
  | _ => none }
def OrderKillsWrongFalsely : Prop := orderKillsRow.holds Try.pinned (OpenSpec.ofChange orderKillsWrong)

/-- 'scorialaw36.OrderScores': WHATEVER THE INPUT: true; the input reads as it did. -/
def orderScoresSpec : ChangeSpec := { name := "orderScores", fn := fun _ => fun
  | [d1, d2, d3] => { results := [.lit (.bool true)], args := [d1, d2, d3] }
  | _ => none }
def orderScoresRow : OpenClaim := { program := "ytdolhcppabcodaa", sum := "19cfa2dead4e9788dea44d5a4e501d3d4dc070d318d46ceb5a8d84b3642b98a3", func := "scoria/scorialaw36.OrderScores", spec := "orderScores", unfollowed := true, recurses := true, apart := false }
def OrderScoresSaid : Prop := orderScoresRow.holds Try.pinned (OpenSpec.ofChange orderScoresSpec)

/-- ITS FALSE NEIGHBOUR: 'it returns false'. Refute it at one input. -/
def orderScoresWrong : ChangeSpec := { name := "orderScores", fn := fun _ => fun
  | [d1, d2, d3] => { results := [.lit (.bool false)], args := [d1, d2, d3] }
  | _ => none }
def OrderScoresWrongFalsely : Prop := orderScoresRow.holds Try.pinned (OpenSpec.ofChange orderScoresWrong)

/- THE SECOND FORM. 'bulk': how many values and letters a reading holds, each counted each time it is reached (what is shared counts as often as it is met; a slice's spare places count too). A statement '..UptoSaid' is the law's where the arguments, and the package variables that the reading takes, are together of bulk at most 1048576: NARROWER than '..Said'. Prove '..Said' where nothing that the law and all that it calls make is longer than what came in: it says more and counts as full. Else prove '..UptoSaid'. A law counts once. -/
mutual
def uptoBulk {H : Type} : DataW H → Nat
  | .lit (.string bytes) => bytes.length + 1
  | .lit _ => 1
  | .nil => 1
  | .ptr d => uptoBulk d + 1
  | .slice elems spare => uptoBulkAll elems + uptoBulkAll spare + 1
  | .agg parts => uptoBulkAll parts + 1
  | .iface _ d => uptoBulk d + 1
  | .map entries => uptoBulkEntries entries + 1
  | .held _ => 1
def uptoBulkAll {H : Type} : List (DataW H) → Nat
  | [] => 0
  | d :: r => uptoBulk d + uptoBulkAll r
def uptoBulkEntries {H : Type} : List (Lit × DataW H) → Nat
  | [] => 0
  | x :: r => uptoBulkEntry x + uptoBulkEntries r
def uptoBulkEntry {H : Type} : Lit × DataW H → Nat
  | (.string bytes, d) => bytes.length + uptoBulk d + 1
  | (_, d) => uptoBulk d + 1
 end
def uptoSmall : (H : Type) → List (DataW H) → Bool := fun _ ds => decide (uptoBulkAll ds ≤ 1048576)
def OpenSpec.upto (s : _root_.Go.ChangeSpec) : _root_.Go.OpenSpec := { _root_.Go.OpenSpec.ofChange s with cond := some uptoSmall }

/-- 'scorialaw36.OrderBelow', WHERE WHAT IT READS IS OF BULK AT MOST 1048576: true; the input reads as it did. -/
def orderBelowUptoRow : OpenClaim := { program := "ytdolhcppabcodaa", sum := "19cfa2dead4e9788dea44d5a4e501d3d4dc070d318d46ceb5a8d84b3642b98a3", func := "scoria/scorialaw36.OrderBelow", spec := "orderBelow", unfollowed := true, recurses := true, apart := false, narrowed := true }
def OrderBelowUptoSaid : Prop := orderBelowUptoRow.holds Try.pinned (OpenSpec.upto orderBelowSpec)

/-- 'scorialaw36.OrderRoots', WHERE WHAT IT READS IS OF BULK AT MOST 1048576: true; the input reads as it did. -/
def orderRootsUptoRow : OpenClaim := { program := "ytdolhcppabcodaa", sum := "19cfa2dead4e9788dea44d5a4e501d3d4dc070d318d46ceb5a8d84b3642b98a3", func := "scoria/scorialaw36.OrderRoots", spec := "orderRoots", unfollowed := true, recurses := true, apart := false, narrowed := true }
def OrderRootsUptoSaid : Prop := orderRootsUptoRow.holds Try.pinned (OpenSpec.upto orderRootsSpec)

/-- 'scorialaw36.OrderChains', WHERE WHAT IT READS IS OF BULK AT MOST 1048576: true; the input reads as it did. -/
def orderChainsUptoRow : OpenClaim := { program := "ytdolhcppabcodaa", sum := "19cfa2dead4e9788dea44d5a4e501d3d4dc070d318d46ceb5a8d84b3642b98a3", func := "scoria/scorialaw36.OrderChains", spec := "orderChains", unfollowed := true, recurses := true, apart := false, narrowed := true }
def OrderChainsUptoSaid : Prop := orderChainsUptoRow.holds Try.pinned (OpenSpec.upto orderChainsSpec)

/-- 'scorialaw36.OrderKills', WHERE WHAT IT READS IS OF BULK AT MOST 1048576: true; the input reads as it did. -/
def orderKillsUptoRow : OpenClaim := { program := "ytdolhcppabcodaa", sum := "19cfa2dead4e9788dea44d5a4e501d3d4dc070d318d46ceb5a8d84b3642b98a3", func := "scoria/scorialaw36.OrderKills", spec := "orderKills", unfollowed := true, recurses := true, apart := false, narrowed := true }
def OrderKillsUptoSaid : Prop := orderKillsUptoRow.holds Try.pinned (OpenSpec.upto orderKillsSpec)

/-- 'scorialaw36.OrderScores', WHERE WHAT IT READS IS OF BULK AT MOST 1048576: true; the input reads as it did. -/
def orderScoresUptoRow : OpenClaim := { program := "ytdolhcppabcodaa", sum := "19cfa2dead4e9788dea44d5a4e501d3d4dc070d318d46ceb5a8d84b3642b98a3", func := "scoria/scorialaw36.OrderScores", spec := "orderScores", unfollowed := true, recurses := true, apart := false, narrowed := true }
def OrderScoresUptoSaid : Prop := orderScoresUptoRow.holds Try.pinned (OpenSpec.upto orderScoresSpec)

end Rows
end Go.Proofs.Ytdolhcppabcodaa
