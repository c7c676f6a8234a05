/-
  DERIVED. GIVEN WITH THE SEED: THE CARDS: each row of YtecbcpilcjmhlaaDoorRows.lean that lists a variable, with what it lists TIED to the program's text (the seventh form; the later family's looks); each row that meets fmt, with fmt's text TOLD by the authors' own Lean function (tested against real Go, not proved from fmt's source: count such statements apart). THE CARD IS WHAT COUNTS. Prove the row's statement (the work); the ties are given (YtecbcpilcjmhlaaDoorTie.lean); close each card by the builder's one call (the guide's Derived/Test/ToyasCard.lean, 'card_holds'). Laid BY PROGRAM, IN A SANDBOX (cutbox-door.mjs). By AI agents, Wed Nov 11 2026. No macro, syntax, notation, axiom, sorry.
-/
import Derived.Test.YtecbcpilcjmhlaaDoorRows
import GoSem.ClaimSeven
namespace Go.Proofs.YtecbcpilcjmhlaaDoor
namespace Rows

/-- THE TIED CARD OF 'scorialaw21.BlastForms'. -/
def blastFormsCard : Claim7 := { stood := { row := blastFormsRow, standIns := [], harness := (true, "da40ad3a18d0cd9c6284f69fc3cd456ff6703ba925fc81f74627948b33dca1d1"), looks := false }, kinds := [], alts := [], laidByText := true, laidKinds := [.data, .data, .data, .funcs], laidTests := true, laidLooks := .later }
def BlastFormsCardSaid : Prop := Claim7.holds Tryd.pinned (.plain (OpenSpec.ofChange blastFormsSpec)) blastFormsCard

/-- THE TIED CARD OF 'scorialaw21.BlastExact'. -/
def blastExactCard : Claim7 := { stood := { row := blastExactRow, standIns := [], harness := (true, "da40ad3a18d0cd9c6284f69fc3cd456ff6703ba925fc81f74627948b33dca1d1"), looks := false }, kinds := [], alts := [], laidByText := true, laidKinds := [.data, .data, .data, .funcs], laidTests := true, laidLooks := .later }
def BlastExactCardSaid : Prop := Claim7.holds Tryd.pinned (.plain (OpenSpec.ofChange blastExactSpec)) blastExactCard

/-- THE TIED CARD OF 'scorialaw21.BlastFollows'. -/
def blastFollowsCard : Claim7 := { stood := { row := blastFollowsRow, standIns := [], harness := (true, "da40ad3a18d0cd9c6284f69fc3cd456ff6703ba925fc81f74627948b33dca1d1"), looks := false }, kinds := [], alts := [], laidByText := true, laidKinds := [.data, .data, .data, .funcs], laidTests := true, laidLooks := .later }
def BlastFollowsCardSaid : Prop := Claim7.holds Tryd.pinned (.plain (OpenSpec.ofChange blastFollowsSpec)) blastFollowsCard

/-- THE TIED CARD OF 'scorialaw21.BlastValues'. -/
def blastValuesCard : Claim7 := { stood := { row := blastValuesRow, standIns := [], harness := (true, "da40ad3a18d0cd9c6284f69fc3cd456ff6703ba925fc81f74627948b33dca1d1"), looks := false }, kinds := [], alts := [], laidByText := true, laidKinds := [.data, .data, .data, .funcs], laidTests := true, laidLooks := .later }
def BlastValuesCardSaid : Prop := Claim7.holds Tryd.pinned (.plain (OpenSpec.ofChange blastValuesSpec)) blastValuesCard

/-- THE TIED CARD OF 'scorialaw21.BlastModels'. -/
def blastModelsCard : Claim7 := { stood := { row := blastModelsRow, standIns := [], harness := (true, "da40ad3a18d0cd9c6284f69fc3cd456ff6703ba925fc81f74627948b33dca1d1"), looks := false }, kinds := [], alts := [], laidByText := true, laidKinds := [.data, .data, .data, .funcs], laidTests := true, laidLooks := .later }
def BlastModelsCardSaid : Prop := Claim7.holds Tryd.pinned (.plain (OpenSpec.ofChange blastModelsSpec)) blastModelsCard

/-- THE SECOND FORM's CARD OF 'scorialaw21.BlastForms'. -/
def blastFormsUptoCard : Claim7 := { stood := { row := blastFormsUptoRow, standIns := [], harness := (true, "da40ad3a18d0cd9c6284f69fc3cd456ff6703ba925fc81f74627948b33dca1d1"), looks := false }, kinds := [], alts := [], laidByText := true, laidKinds := [.data, .data, .data, .funcs], laidTests := true, laidLooks := .later }
def BlastFormsUptoCardSaid : Prop := Claim7.holds Tryd.pinned (.plain (OpenSpec.upto blastFormsSpec)) blastFormsUptoCard

/-- THE SECOND FORM's CARD OF 'scorialaw21.BlastExact'. -/
def blastExactUptoCard : Claim7 := { stood := { row := blastExactUptoRow, standIns := [], harness := (true, "da40ad3a18d0cd9c6284f69fc3cd456ff6703ba925fc81f74627948b33dca1d1"), looks := false }, kinds := [], alts := [], laidByText := true, laidKinds := [.data, .data, .data, .funcs], laidTests := true, laidLooks := .later }
def BlastExactUptoCardSaid : Prop := Claim7.holds Tryd.pinned (.plain (OpenSpec.upto blastExactSpec)) blastExactUptoCard

/-- THE SECOND FORM's CARD OF 'scorialaw21.BlastFollows'. -/
def blastFollowsUptoCard : Claim7 := { stood := { row := blastFollowsUptoRow, standIns := [], harness := (true, "da40ad3a18d0cd9c6284f69fc3cd456ff6703ba925fc81f74627948b33dca1d1"), looks := false }, kinds := [], alts := [], laidByText := true, laidKinds := [.data, .data, .data, .funcs], laidTests := true, laidLooks := .later }
def BlastFollowsUptoCardSaid : Prop := Claim7.holds Tryd.pinned (.plain (OpenSpec.upto blastFollowsSpec)) blastFollowsUptoCard

/-- THE SECOND FORM's CARD OF 'scorialaw21.BlastValues'. -/
def blastValuesUptoCard : Claim7 := { stood := { row := blastValuesUptoRow, standIns := [], harness := (true, "da40ad3a18d0cd9c6284f69fc3cd456ff6703ba925fc81f74627948b33dca1d1"), looks := false }, kinds := [], alts := [], laidByText := true, laidKinds := [.data, .data, .data, .funcs], laidTests := true, laidLooks := .later }
def BlastValuesUptoCardSaid : Prop := Claim7.holds Tryd.pinned (.plain (OpenSpec.upto blastValuesSpec)) blastValuesUptoCard

/-- THE SECOND FORM's CARD OF 'scorialaw21.BlastModels'. -/
def blastModelsUptoCard : Claim7 := { stood := { row := blastModelsUptoRow, standIns := [], harness := (true, "da40ad3a18d0cd9c6284f69fc3cd456ff6703ba925fc81f74627948b33dca1d1"), looks := false }, kinds := [], alts := [], laidByText := true, laidKinds := [.data, .data, .data, .funcs], laidTests := true, laidLooks := .later }
def BlastModelsUptoCardSaid : Prop := Claim7.holds Tryd.pinned (.plain (OpenSpec.upto blastModelsSpec)) blastModelsUptoCard
end Rows
end Go.Proofs.YtecbcpilcjmhlaaDoor
