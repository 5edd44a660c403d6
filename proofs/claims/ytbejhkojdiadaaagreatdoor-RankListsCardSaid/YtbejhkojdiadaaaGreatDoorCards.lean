/-
  DERIVED. GIVEN WITH THE SEED: THE CARDS: each row of YtbejhkojdiadaaaGreatDoorRows.lean that lists a variable, with what it lists TIED to the program's text (the seventh form; the later family's looks); each row that meets fmt, with fmt's text TOLD by the authors' own Lean function (tested against real Go, not proved from fmt's source: count such statements apart). THE CARD IS WHAT COUNTS. Prove the row's statement (the work); the ties are given (YtbejhkojdiadaaaGreatDoorTie.lean); close each card by the builder's one call (the guide's Derived/Test/ToyasCard.lean, 'card_holds'). Laid BY PROGRAM, IN A SANDBOX (cutbox-door.mjs). By AI agents, Wed Nov 11 2026. No macro, syntax, notation, axiom, sorry.
-/
import Derived.Test.YtbejhkojdiadaaaGreatDoorRows
import GoSem.ClaimSeven
namespace Go.Proofs.YtbejhkojdiadaaaGreatDoor
namespace Rows

/-- THE TIED CARD OF 'cayleylaw09.RankLists'. -/
def rankListsCard : Claim7 := { stood := { row := rankListsRow, standIns := [], harness := (true, "37d51f212e210c041785fd5e51b36df12f22efa1bf80919b1c410374871ee739"), looks := false }, kinds := [], alts := [], laidByText := true, laidKinds := [.data, .pinned], laidTests := true, laidLooks := .later }
def RankListsCardSaid : Prop := Claim7.holds Tryz.pinned (.plain (OpenSpec.ofChange rankListsSpec)) rankListsCard

/-- THE TIED CARD OF 'cayleylaw09.RankKnown'. -/
def rankKnownCard : Claim7 := { stood := { row := rankKnownRow, standIns := [], harness := (true, "37d51f212e210c041785fd5e51b36df12f22efa1bf80919b1c410374871ee739"), looks := false }, kinds := [], alts := [], laidByText := true, laidKinds := [.data, .pinned], laidTests := true, laidLooks := .later }
def RankKnownCardSaid : Prop := Claim7.holds Tryz.pinned (.plain (OpenSpec.ofChange rankKnownSpec)) rankKnownCard

/-- THE TIED CARD OF 'cayleylaw09.RankOrders'. -/
def rankOrdersCard : Claim7 := { stood := { row := rankOrdersRow, standIns := [], harness := (true, "37d51f212e210c041785fd5e51b36df12f22efa1bf80919b1c410374871ee739"), looks := false }, kinds := [], alts := [], laidByText := true, laidKinds := [.data, .pinned], laidTests := true, laidLooks := .later }
def RankOrdersCardSaid : Prop := Claim7.holds Tryz.pinned (.plain (OpenSpec.ofChange rankOrdersSpec)) rankOrdersCard

/-- THE TIED CARD OF 'cayleylaw09.RankLeast'. -/
def rankLeastCard : Claim7 := { stood := { row := rankLeastRow, standIns := [], harness := (true, "37d51f212e210c041785fd5e51b36df12f22efa1bf80919b1c410374871ee739"), looks := false }, kinds := [], alts := [], laidByText := true, laidKinds := [.data, .pinned], laidTests := true, laidLooks := .later }
def RankLeastCardSaid : Prop := Claim7.holds Tryz.pinned (.plain (OpenSpec.ofChange rankLeastSpec)) rankLeastCard

/-- THE TIED CARD OF 'cayleylaw09.RankCosets'. -/
def rankCosetsCard : Claim7 := { stood := { row := rankCosetsRow, standIns := [], harness := (true, "37d51f212e210c041785fd5e51b36df12f22efa1bf80919b1c410374871ee739"), looks := false }, kinds := [], alts := [], laidByText := true, laidKinds := [.data, .pinned], laidTests := true, laidLooks := .later }
def RankCosetsCardSaid : Prop := Claim7.holds Tryz.pinned (.plain (OpenSpec.ofChange rankCosetsSpec)) rankCosetsCard

/-- THE SECOND FORM's CARD OF 'cayleylaw09.RankLists'. -/
def rankListsUptoCard : Claim7 := { stood := { row := rankListsUptoRow, standIns := [], harness := (true, "37d51f212e210c041785fd5e51b36df12f22efa1bf80919b1c410374871ee739"), looks := false }, kinds := [], alts := [], laidByText := true, laidKinds := [.data, .pinned], laidTests := true, laidLooks := .later }
def RankListsUptoCardSaid : Prop := Claim7.holds Tryz.pinned (.plain (OpenSpec.upto rankListsSpec)) rankListsUptoCard

/-- THE SECOND FORM's CARD OF 'cayleylaw09.RankKnown'. -/
def rankKnownUptoCard : Claim7 := { stood := { row := rankKnownUptoRow, standIns := [], harness := (true, "37d51f212e210c041785fd5e51b36df12f22efa1bf80919b1c410374871ee739"), looks := false }, kinds := [], alts := [], laidByText := true, laidKinds := [.data, .pinned], laidTests := true, laidLooks := .later }
def RankKnownUptoCardSaid : Prop := Claim7.holds Tryz.pinned (.plain (OpenSpec.upto rankKnownSpec)) rankKnownUptoCard

/-- THE SECOND FORM's CARD OF 'cayleylaw09.RankOrders'. -/
def rankOrdersUptoCard : Claim7 := { stood := { row := rankOrdersUptoRow, standIns := [], harness := (true, "37d51f212e210c041785fd5e51b36df12f22efa1bf80919b1c410374871ee739"), looks := false }, kinds := [], alts := [], laidByText := true, laidKinds := [.data, .pinned], laidTests := true, laidLooks := .later }
def RankOrdersUptoCardSaid : Prop := Claim7.holds Tryz.pinned (.plain (OpenSpec.upto rankOrdersSpec)) rankOrdersUptoCard

/-- THE SECOND FORM's CARD OF 'cayleylaw09.RankLeast'. -/
def rankLeastUptoCard : Claim7 := { stood := { row := rankLeastUptoRow, standIns := [], harness := (true, "37d51f212e210c041785fd5e51b36df12f22efa1bf80919b1c410374871ee739"), looks := false }, kinds := [], alts := [], laidByText := true, laidKinds := [.data, .pinned], laidTests := true, laidLooks := .later }
def RankLeastUptoCardSaid : Prop := Claim7.holds Tryz.pinned (.plain (OpenSpec.upto rankLeastSpec)) rankLeastUptoCard

/-- THE SECOND FORM's CARD OF 'cayleylaw09.RankCosets'. -/
def rankCosetsUptoCard : Claim7 := { stood := { row := rankCosetsUptoRow, standIns := [], harness := (true, "37d51f212e210c041785fd5e51b36df12f22efa1bf80919b1c410374871ee739"), looks := false }, kinds := [], alts := [], laidByText := true, laidKinds := [.data, .pinned], laidTests := true, laidLooks := .later }
def RankCosetsUptoCardSaid : Prop := Claim7.holds Tryz.pinned (.plain (OpenSpec.upto rankCosetsSpec)) rankCosetsUptoCard
end Rows
end Go.Proofs.YtbejhkojdiadaaaGreatDoor
