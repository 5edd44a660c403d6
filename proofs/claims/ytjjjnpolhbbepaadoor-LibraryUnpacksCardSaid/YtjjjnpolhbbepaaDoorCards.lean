/-
  DERIVED. GIVEN WITH THE SEED: THE CARDS: each row of YtjjjnpolhbbepaaDoorRows.lean that lists a variable, with what it lists TIED to the program's text (the seventh form; the later family's looks); each row that meets fmt, with fmt's text TOLD by the authors' own Lean function (tested against real Go, not proved from fmt's source: count such statements apart). THE CARD IS WHAT COUNTS. Prove the row's statement (the work); the ties are given (YtjjjnpolhbbepaaDoorTie.lean); close each card by the builder's one call (the guide's Derived/Test/ToyasCard.lean, 'card_holds'). Laid BY PROGRAM, IN A SANDBOX (cutbox-door.mjs). By AI agents, Wed Nov 11 2026. No macro, syntax, notation, axiom, sorry.
-/
import Derived.Test.YtjjjnpolhbbepaaDoorRows
import GoSem.ClaimSeven
namespace Go.Proofs.YtjjjnpolhbbepaaDoor
namespace Rows

/-- THE TIED CARD OF 'cayleylaw34.LibraryPacks'. -/
def libraryPacksCard : Claim7 := { stood := { row := libraryPacksRow, standIns := [], harness := (true, "c1638c905459eb3d9dc10f2412fcbb08cc8633e9da1062da03593d8f1667e9a6"), looks := false }, kinds := [], alts := [], laidByText := true, laidKinds := [.data, .pinned], laidTests := true, laidLooks := .later }
def LibraryPacksCardSaid : Prop := Claim7.holds Tryd.pinned (.plain (OpenSpec.ofChange libraryPacksSpec)) libraryPacksCard

/-- THE TIED CARD OF 'cayleylaw34.LibraryUnpacks'. -/
def libraryUnpacksCard : Claim7 := { stood := { row := libraryUnpacksRow, standIns := [], harness := (true, "c1638c905459eb3d9dc10f2412fcbb08cc8633e9da1062da03593d8f1667e9a6"), looks := false }, kinds := [], alts := [], laidByText := true, laidKinds := [.data, .pinned], laidTests := true, laidLooks := .later }
def LibraryUnpacksCardSaid : Prop := Claim7.holds Tryd.pinned (.plain (OpenSpec.ofChange libraryUnpacksSpec)) libraryUnpacksCard

/-- THE TIED CARD OF 'cayleylaw34.LibraryBack'. -/
def libraryBackCard : Claim7 := { stood := { row := libraryBackRow, standIns := [], harness := (true, "c1638c905459eb3d9dc10f2412fcbb08cc8633e9da1062da03593d8f1667e9a6"), looks := false }, kinds := [], alts := [], laidByText := true, laidKinds := [.data, .pinned], laidTests := true, laidLooks := .later }
def LibraryBackCardSaid : Prop := Claim7.holds Tryd.pinned (.plain (OpenSpec.ofChange libraryBackSpec)) libraryBackCard

/-- THE TIED CARD OF 'cayleylaw34.LibraryChanged'. -/
def libraryChangedCard : Claim7 := { stood := { row := libraryChangedRow, standIns := [], harness := (true, "c1638c905459eb3d9dc10f2412fcbb08cc8633e9da1062da03593d8f1667e9a6"), looks := false }, kinds := [], alts := [], laidByText := true, laidKinds := [.data, .pinned], laidTests := true, laidLooks := .later }
def LibraryChangedCardSaid : Prop := Claim7.holds Tryd.pinned (.plain (OpenSpec.ofChange libraryChangedSpec)) libraryChangedCard

/-- THE SECOND FORM's CARD OF 'cayleylaw34.LibraryPacks'. -/
def libraryPacksUptoCard : Claim7 := { stood := { row := libraryPacksUptoRow, standIns := [], harness := (true, "c1638c905459eb3d9dc10f2412fcbb08cc8633e9da1062da03593d8f1667e9a6"), looks := false }, kinds := [], alts := [], laidByText := true, laidKinds := [.data, .pinned], laidTests := true, laidLooks := .later }
def LibraryPacksUptoCardSaid : Prop := Claim7.holds Tryd.pinned (.plain (OpenSpec.upto libraryPacksSpec)) libraryPacksUptoCard

/-- THE SECOND FORM's CARD OF 'cayleylaw34.LibraryUnpacks'. -/
def libraryUnpacksUptoCard : Claim7 := { stood := { row := libraryUnpacksUptoRow, standIns := [], harness := (true, "c1638c905459eb3d9dc10f2412fcbb08cc8633e9da1062da03593d8f1667e9a6"), looks := false }, kinds := [], alts := [], laidByText := true, laidKinds := [.data, .pinned], laidTests := true, laidLooks := .later }
def LibraryUnpacksUptoCardSaid : Prop := Claim7.holds Tryd.pinned (.plain (OpenSpec.upto libraryUnpacksSpec)) libraryUnpacksUptoCard

/-- THE SECOND FORM's CARD OF 'cayleylaw34.LibraryBack'. -/
def libraryBackUptoCard : Claim7 := { stood := { row := libraryBackUptoRow, standIns := [], harness := (true, "c1638c905459eb3d9dc10f2412fcbb08cc8633e9da1062da03593d8f1667e9a6"), looks := false }, kinds := [], alts := [], laidByText := true, laidKinds := [.data, .pinned], laidTests := true, laidLooks := .later }
def LibraryBackUptoCardSaid : Prop := Claim7.holds Tryd.pinned (.plain (OpenSpec.upto libraryBackSpec)) libraryBackUptoCard

/-- THE SECOND FORM's CARD OF 'cayleylaw34.LibraryChanged'. -/
def libraryChangedUptoCard : Claim7 := { stood := { row := libraryChangedUptoRow, standIns := [], harness := (true, "c1638c905459eb3d9dc10f2412fcbb08cc8633e9da1062da03593d8f1667e9a6"), looks := false }, kinds := [], alts := [], laidByText := true, laidKinds := [.data, .pinned], laidTests := true, laidLooks := .later }
def LibraryChangedUptoCardSaid : Prop := Claim7.holds Tryd.pinned (.plain (OpenSpec.upto libraryChangedSpec)) libraryChangedUptoCard
end Rows
end Go.Proofs.YtjjjnpolhbbepaaDoor
