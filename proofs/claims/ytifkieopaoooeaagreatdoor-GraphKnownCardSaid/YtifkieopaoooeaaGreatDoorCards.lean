/-
  DERIVED. GIVEN WITH THE SEED: THE CARDS: each row of YtifkieopaoooeaaGreatDoorRows.lean that lists a variable, with what it lists TIED to the program's text (the seventh form; the later family's looks); each row that meets fmt, with fmt's text TOLD by the authors' own Lean function (tested against real Go, not proved from fmt's source: count such statements apart). THE CARD IS WHAT COUNTS. Prove the row's statement (the work); the ties are given (YtifkieopaoooeaaGreatDoorTie.lean); close each card by the builder's one call (the guide's Derived/Test/ToyasCard.lean, 'card_holds'). Laid BY PROGRAM, IN A SANDBOX (cutbox-door.mjs). By AI agents, Wed Nov 11 2026. No macro, syntax, notation, axiom, sorry.
-/
import Derived.Test.YtifkieopaoooeaaGreatDoorRows
import GoSem.ClaimSeven
namespace Go.Proofs.YtifkieopaoooeaaGreatDoor
namespace Rows

/-- THE TIED CARD OF 'cayleylaw31.GraphTexts'. -/
def graphTextsCard : Claim7 := { stood := { row := graphTextsRow, standIns := [], harness := (true, "cb6ca26d578d64b029040f1f25fd84398ef0f5a5a3914f0c335d4d322f6f80e7"), looks := false }, kinds := [], alts := [], laidByText := true, laidKinds := [.data, .data, .data], laidTests := true, laidLooks := .later }
def GraphTextsCardSaid : Prop := Claim7.holds Tryz.pinned (.plain (OpenSpec.ofChange graphTextsSpec)) graphTextsCard

/-- THE TIED CARD OF 'cayleylaw31.GraphMakes'. -/
def graphMakesCard : Claim7 := { stood := { row := graphMakesRow, standIns := [], harness := (true, "cb6ca26d578d64b029040f1f25fd84398ef0f5a5a3914f0c335d4d322f6f80e7"), looks := false }, kinds := [], alts := [], laidByText := true, laidKinds := [.data, .data, .data], laidTests := true, laidLooks := .later }
def GraphMakesCardSaid : Prop := Claim7.holds Tryz.pinned (.plain (OpenSpec.ofChange graphMakesSpec)) graphMakesCard

/-- THE TIED CARD OF 'cayleylaw31.GraphParts'. -/
def graphPartsCard : Claim7 := { stood := { row := graphPartsRow, standIns := [], harness := (true, "cb6ca26d578d64b029040f1f25fd84398ef0f5a5a3914f0c335d4d322f6f80e7"), looks := false }, kinds := [], alts := [], laidByText := true, laidKinds := [.data, .data, .data], laidTests := true, laidLooks := .later }
def GraphPartsCardSaid : Prop := Claim7.holds Tryz.pinned (.plain (OpenSpec.ofChange graphPartsSpec)) graphPartsCard

/-- THE TIED CARD OF 'cayleylaw31.GraphCalls'. -/
def graphCallsCard : Claim7 := { stood := { row := graphCallsRow, standIns := [], harness := (true, "cb6ca26d578d64b029040f1f25fd84398ef0f5a5a3914f0c335d4d322f6f80e7"), looks := false }, kinds := [], alts := [], laidByText := true, laidKinds := [.data, .data, .data], laidTests := true, laidLooks := .later }
def GraphCallsCardSaid : Prop := Claim7.holds Tryz.pinned (.plain (OpenSpec.ofChange graphCallsSpec)) graphCallsCard

/-- THE TIED CARD OF 'cayleylaw31.GraphMoves'. -/
def graphMovesCard : Claim7 := { stood := { row := graphMovesRow, standIns := [], harness := (true, "cb6ca26d578d64b029040f1f25fd84398ef0f5a5a3914f0c335d4d322f6f80e7"), looks := false }, kinds := [], alts := [], laidByText := true, laidKinds := [.data, .data, .data], laidTests := true, laidLooks := .later }
def GraphMovesCardSaid : Prop := Claim7.holds Tryz.pinned (.plain (OpenSpec.ofChange graphMovesSpec)) graphMovesCard

/-- THE TIED CARD OF 'cayleylaw31.GraphRenamed'. -/
def graphRenamedCard : Claim7 := { stood := { row := graphRenamedRow, standIns := [], harness := (true, "cb6ca26d578d64b029040f1f25fd84398ef0f5a5a3914f0c335d4d322f6f80e7"), looks := false }, kinds := [], alts := [], laidByText := true, laidKinds := [.data, .data, .data], laidTests := true, laidLooks := .later }
def GraphRenamedCardSaid : Prop := Claim7.holds Tryz.pinned (.plain (OpenSpec.ofChange graphRenamedSpec)) graphRenamedCard

/-- THE TIED CARD OF 'cayleylaw31.GraphKnown'. -/
def graphKnownCard : Claim7 := { stood := { row := graphKnownRow, standIns := [], harness := (true, "cb6ca26d578d64b029040f1f25fd84398ef0f5a5a3914f0c335d4d322f6f80e7"), looks := false }, kinds := [], alts := [], laidByText := true, laidKinds := [.data, .data, .data], laidTests := true, laidLooks := .later }
def GraphKnownCardSaid : Prop := Claim7.holds Tryz.pinned (.plain (OpenSpec.ofChange graphKnownSpec)) graphKnownCard

/-- THE SECOND FORM's CARD OF 'cayleylaw31.GraphTexts'. -/
def graphTextsUptoCard : Claim7 := { stood := { row := graphTextsUptoRow, standIns := [], harness := (true, "cb6ca26d578d64b029040f1f25fd84398ef0f5a5a3914f0c335d4d322f6f80e7"), looks := false }, kinds := [], alts := [], laidByText := true, laidKinds := [.data, .data, .data], laidTests := true, laidLooks := .later }
def GraphTextsUptoCardSaid : Prop := Claim7.holds Tryz.pinned (.plain (OpenSpec.upto graphTextsSpec)) graphTextsUptoCard

/-- THE SECOND FORM's CARD OF 'cayleylaw31.GraphMakes'. -/
def graphMakesUptoCard : Claim7 := { stood := { row := graphMakesUptoRow, standIns := [], harness := (true, "cb6ca26d578d64b029040f1f25fd84398ef0f5a5a3914f0c335d4d322f6f80e7"), looks := false }, kinds := [], alts := [], laidByText := true, laidKinds := [.data, .data, .data], laidTests := true, laidLooks := .later }
def GraphMakesUptoCardSaid : Prop := Claim7.holds Tryz.pinned (.plain (OpenSpec.upto graphMakesSpec)) graphMakesUptoCard

/-- THE SECOND FORM's CARD OF 'cayleylaw31.GraphParts'. -/
def graphPartsUptoCard : Claim7 := { stood := { row := graphPartsUptoRow, standIns := [], harness := (true, "cb6ca26d578d64b029040f1f25fd84398ef0f5a5a3914f0c335d4d322f6f80e7"), looks := false }, kinds := [], alts := [], laidByText := true, laidKinds := [.data, .data, .data], laidTests := true, laidLooks := .later }
def GraphPartsUptoCardSaid : Prop := Claim7.holds Tryz.pinned (.plain (OpenSpec.upto graphPartsSpec)) graphPartsUptoCard

/-- THE SECOND FORM's CARD OF 'cayleylaw31.GraphCalls'. -/
def graphCallsUptoCard : Claim7 := { stood := { row := graphCallsUptoRow, standIns := [], harness := (true, "cb6ca26d578d64b029040f1f25fd84398ef0f5a5a3914f0c335d4d322f6f80e7"), looks := false }, kinds := [], alts := [], laidByText := true, laidKinds := [.data, .data, .data], laidTests := true, laidLooks := .later }
def GraphCallsUptoCardSaid : Prop := Claim7.holds Tryz.pinned (.plain (OpenSpec.upto graphCallsSpec)) graphCallsUptoCard

/-- THE SECOND FORM's CARD OF 'cayleylaw31.GraphMoves'. -/
def graphMovesUptoCard : Claim7 := { stood := { row := graphMovesUptoRow, standIns := [], harness := (true, "cb6ca26d578d64b029040f1f25fd84398ef0f5a5a3914f0c335d4d322f6f80e7"), looks := false }, kinds := [], alts := [], laidByText := true, laidKinds := [.data, .data, .data], laidTests := true, laidLooks := .later }
def GraphMovesUptoCardSaid : Prop := Claim7.holds Tryz.pinned (.plain (OpenSpec.upto graphMovesSpec)) graphMovesUptoCard

/-- THE SECOND FORM's CARD OF 'cayleylaw31.GraphRenamed'. -/
def graphRenamedUptoCard : Claim7 := { stood := { row := graphRenamedUptoRow, standIns := [], harness := (true, "cb6ca26d578d64b029040f1f25fd84398ef0f5a5a3914f0c335d4d322f6f80e7"), looks := false }, kinds := [], alts := [], laidByText := true, laidKinds := [.data, .data, .data], laidTests := true, laidLooks := .later }
def GraphRenamedUptoCardSaid : Prop := Claim7.holds Tryz.pinned (.plain (OpenSpec.upto graphRenamedSpec)) graphRenamedUptoCard

/-- THE SECOND FORM's CARD OF 'cayleylaw31.GraphKnown'. -/
def graphKnownUptoCard : Claim7 := { stood := { row := graphKnownUptoRow, standIns := [], harness := (true, "cb6ca26d578d64b029040f1f25fd84398ef0f5a5a3914f0c335d4d322f6f80e7"), looks := false }, kinds := [], alts := [], laidByText := true, laidKinds := [.data, .data, .data], laidTests := true, laidLooks := .later }
def GraphKnownUptoCardSaid : Prop := Claim7.holds Tryz.pinned (.plain (OpenSpec.upto graphKnownSpec)) graphKnownUptoCard
end Rows
end Go.Proofs.YtifkieopaoooeaaGreatDoor
