/-
  DERIVED. GIVEN WITH THE SEED: THE CARDS: each row of YtifkieopaoooeaaDoorRows.lean that lists a variable, with what it lists TIED to the program's text (the seventh form; the later family's looks); each row that meets fmt, with fmt's text TOLD by the authors' own Lean function (tested against real Go, not proved from fmt's source: count such statements apart). THE CARD IS WHAT COUNTS. Prove the row's statement (the work); the ties are given (YtifkieopaoooeaaDoorTie.lean); close each card by the builder's one call (the guide's Derived/Test/ToyasCard.lean, 'card_holds'). Laid BY PROGRAM, IN A SANDBOX (cutbox-door.mjs). By AI agents, Wed Nov 11 2026. No macro, syntax, notation, axiom, sorry.
-/
import Derived.Test.YtifkieopaoooeaaDoorRows
import GoSem.ClaimSeven
namespace Go.Proofs.YtifkieopaoooeaaDoor
namespace Rows

/-- THE TIED CARD OF 'cayleylaw31.GraphAgain'. -/
def graphAgainCard : Claim7 := { stood := { row := graphAgainRow, standIns := [], harness := (true, "221be2ea27e9c42fc2c06ea1e18ab0ec6fb9dc295df15d7e883ae3621967d67c"), looks := false }, kinds := [], alts := [], laidByText := true, laidKinds := [.data, .data, .data], laidTests := true, laidLooks := .later }
def GraphAgainCardSaid : Prop := Claim7.holds Tryd.pinned (.plain (OpenSpec.ofChange graphAgainSpec)) graphAgainCard

/-- THE SECOND FORM's CARD OF 'cayleylaw31.GraphAgain'. -/
def graphAgainUptoCard : Claim7 := { stood := { row := graphAgainUptoRow, standIns := [], harness := (true, "221be2ea27e9c42fc2c06ea1e18ab0ec6fb9dc295df15d7e883ae3621967d67c"), looks := false }, kinds := [], alts := [], laidByText := true, laidKinds := [.data, .data, .data], laidTests := true, laidLooks := .later }
def GraphAgainUptoCardSaid : Prop := Claim7.holds Tryd.pinned (.plain (OpenSpec.upto graphAgainSpec)) graphAgainUptoCard
end Rows
end Go.Proofs.YtifkieopaoooeaaDoor
