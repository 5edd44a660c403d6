/-
  No cell of these rows narrows 'for every input' (looked for: loops, veiled, ifaces, maps, wideKeys, modest, calm, conditions, laid).
  DERIVED. THE GIVEN ROWS OF THIS SEAT. 7 by the template 'for every input the law returns true; each argument reads behind the call as it read before'; 0 by the template 'total and deterministic' (their statements: YtlnikgcanimggaaTotals.lean).
  GIVEN WITH THE SEED: the statements are not yours to turn. If you find one false, say at which input.
  Laid BY PROGRAM, IN A SANDBOX (cutbox-rows.mjs): the forced cells as the released guide's own fill.sh prints them over the translation a83f77cba03bb5ba… (all of the seat's roots in one cut). By AI agents, Wed Nov 11 2026. No macro, syntax, notation, axiom, sorry.
-/
import Derived.Test.YtlnikgcanimggaaChecked
import GoSem.Claim
import GoSem.ClaimJoined
import GoSem.ClaimMapViews
import Derived.JoinedTies
import Derived.KernelRfl
namespace Go.Proofs.Ytlnikgcanimggaa
/- THE CELL 'sum', in the pinned program and in every row, IS THE sha256 OF THE DUMP (.gsa) THAT YtlnikgcanimggaaProg.lean LOADS. Nothing in Lean hashes anything: it is a label: what it is worth is what the hold of that sum in a sandbox is worth. -/
noncomputable def Try.pinned : Pinned := { name := "ytlnikgcanimggaa", sum := "a83f77cba03bb5bafa5ec7f20876632eef665f9cc723435480d44b6f9095c32c", checked := Try.checked }
namespace Rows
def none {H : Type} : Left H := { results := [], args := [] }

/-- 'cayleylaw13.CellsRefines': WHATEVER THE INPUT: true; the input reads as it did. -/
def cellsRefinesSpec : ChangeSpec := { name := "cellsRefines", fn := fun _ => fun
  | [d1, d2, d3] => { results := [.lit (.bool true)], args := [d1, d2, d3] }
  | _ => none }
def cellsRefinesRow : OpenClaim := { program := "ytlnikgcanimggaa", sum := "a83f77cba03bb5bafa5ec7f20876632eef665f9cc723435480d44b6f9095c32c", func := "cayley/cayleylaw13.CellsRefines", spec := "cellsRefines", unfollowed := true, recurses := true, apart := false }
def CellsRefinesSaid : Prop := cellsRefinesRow.holds Try.pinned (OpenSpec.ofChange cellsRefinesSpec)

/-- ITS FALSE NEIGHBOUR: 'it returns false'. Refute it at one input. -/
def cellsRefinesWrong : ChangeSpec := { name := "cellsRefines", fn := fun _ => fun
  | [d1, d2, d3] => { results := [.lit (.bool false)], args := [d1, d2, d3] }
  | _ => none }
def CellsRefinesWrongFalsely : Prop := cellsRefinesRow.holds Try.pinned (OpenSpec.ofChange cellsRefinesWrong)

/-- 'cayleylaw13.CellsMoves': WHATEVER THE INPUT: true; the input reads as it did. -/
def cellsMovesSpec : ChangeSpec := { name := "cellsMoves", fn := fun _ => fun
  | [d1, d2, d3] => { results := [.lit (.bool true)], args := [d1, d2, d3] }
  | _ => none }
def cellsMovesRow : OpenClaim := { program := "ytlnikgcanimggaa", sum := "a83f77cba03bb5bafa5ec7f20876632eef665f9cc723435480d44b6f9095c32c", func := "cayley/cayleylaw13.CellsMoves", spec := "cellsMoves", unfollowed := true, recurses := true, apart := false }
def CellsMovesSaid : Prop := cellsMovesRow.holds Try.pinned (OpenSpec.ofChange cellsMovesSpec)

/-- ITS FALSE NEIGHBOUR: 'it returns false'. Refute it at one input. -/
def cellsMovesWrong : ChangeSpec := { name := "cellsMoves", fn := fun _ => fun
  | [d1, d2, d3] => { results := [.lit (.bool false)], args := [d1, d2, d3] }
  | _ => none }
def CellsMovesWrongFalsely : Prop := cellsMovesRow.holds Try.pinned (OpenSpec.ofChange cellsMovesWrong)

/-- 'cayleylaw13.CellsEven': WHATEVER THE INPUT: true; the input reads as it did. -/
def cellsEvenSpec : ChangeSpec := { name := "cellsEven", fn := fun _ => fun
  | [d1, d2, d3] => { results := [.lit (.bool true)], args := [d1, d2, d3] }
  | _ => none }
def cellsEvenRow : OpenClaim := { program := "ytlnikgcanimggaa", sum := "a83f77cba03bb5bafa5ec7f20876632eef665f9cc723435480d44b6f9095c32c", func := "cayley/cayleylaw13.CellsEven", spec := "cellsEven", unfollowed := true, recurses := true, apart := false }
def CellsEvenSaid : Prop := cellsEvenRow.holds Try.pinned (OpenSpec.ofChange cellsEvenSpec)

/-- ITS FALSE NEIGHBOUR: 'it returns false'. Refute it at one input. -/
def cellsEvenWrong : ChangeSpec := { name := "cellsEven", fn := fun _ => fun
  | [d1, d2, d3] => { results := [.lit (.bool false)], args := [d1, d2, d3] }
  | _ => none }
def CellsEvenWrongFalsely : Prop := cellsEvenRow.holds Try.pinned (OpenSpec.ofChange cellsEvenWrong)

/-- 'cayleylaw13.CellsCalls': WHATEVER THE INPUT: true; the input reads as it did. -/
def cellsCallsSpec : ChangeSpec := { name := "cellsCalls", fn := fun _ => fun
  | [d1, d2, d3, d4, d5] => { results := [.lit (.bool true)], args := [d1, d2, d3, d4, d5] }
  | _ => none }
def cellsCallsRow : OpenClaim := { program := "ytlnikgcanimggaa", sum := "a83f77cba03bb5bafa5ec7f20876632eef665f9cc723435480d44b6f9095c32c", func := "cayley/cayleylaw13.CellsCalls", spec := "cellsCalls", unfollowed := true, recurses := true, apart := false }
def CellsCallsSaid : Prop := cellsCallsRow.holds Try.pinned (OpenSpec.ofChange cellsCallsSpec)

/-- ITS FALSE NEIGHBOUR: 'it returns false'. Refute it at one input. -/
def cellsCallsWrong : ChangeSpec := { name := "cellsCalls", fn := fun _ => fun
  | [d1, d2, d3, d4, d5] => { results := [.lit (.bool false)], args := [d1, d2, d3, d4, d5] }
  | _ => none }
def CellsCallsWrongFalsely : Prop := cellsCallsRow.holds Try.pinned (OpenSpec.ofChange cellsCallsWrong)

/-- 'cayleylaw13.CellsPairs': WHATEVER THE INPUT: true; the input reads as it did. -/
def cellsPairsSpec : ChangeSpec := { name := "cellsPairs", fn := fun _ => fun
  | [d1, d2, d3] => { results := [.lit (.bool true)], args := [d1, d2, d3] }
  | _ => none }
def cellsPairsRow : OpenClaim := { program := "ytlnikgcanimggaa", sum := "a83f77cba03bb5bafa5ec7f20876632eef665f9cc723435480d44b6f9095c32c", func := "cayley/cayleylaw13.CellsPairs", spec := "cellsPairs", unfollowed := true, recurses := true, apart := false }
def CellsPairsSaid : Prop := cellsPairsRow.holds Try.pinned (OpenSpec.ofChange cellsPairsSpec)

/-- ITS FALSE NEIGHBOUR: 'it returns false'. Refute it at one input. -/
def cellsPairsWrong : ChangeSpec := { name := "cellsPairs", fn := fun _ => fun
  | [d1, d2, d3] => { results := [.lit (.bool false)], args := [d1, d2, d3] }
  | _ => none }
def CellsPairsWrongFalsely : Prop := cellsPairsRow.holds Try.pinned (OpenSpec.ofChange cellsPairsWrong)

/-- 'cayleylaw13.CellsLattice': WHATEVER THE INPUT: true; the input reads as it did. -/
def cellsLatticeSpec : ChangeSpec := { name := "cellsLattice", fn := fun _ => fun
  | [d1, d2, d3, d4] => { results := [.lit (.bool true)], args := [d1, d2, d3, d4] }
  | _ => none }
def cellsLatticeRow : OpenClaim := { program := "ytlnikgcanimggaa", sum := "a83f77cba03bb5bafa5ec7f20876632eef665f9cc723435480d44b6f9095c32c", func := "cayley/cayleylaw13.CellsLattice", spec := "cellsLattice", unfollowed := true, recurses := true, apart := false }
def CellsLatticeSaid : Prop := cellsLatticeRow.holds Try.pinned (OpenSpec.ofChange cellsLatticeSpec)

/-- ITS FALSE NEIGHBOUR: 'it returns false'. Refute it at one input. -/
def cellsLatticeWrong : ChangeSpec := { name := "cellsLattice", fn := fun _ => fun
  | [d1, d2, d3, d4] => { results := [.lit (.bool false)], args := [d1, d2, d3, d4] }
  | _ => none }
def CellsLatticeWrongFalsely : Prop := cellsLatticeRow.holds Try.pinned (OpenSpec.ofChange cellsLatticeWrong)

/-- 'cayleylaw13.CellsOrbits': WHATEVER THE INPUT: true; the input reads as it did. -/
def cellsOrbitsSpec : ChangeSpec := { name := "cellsOrbits", fn := fun _ => fun
  | [d1, d2] => { results := [.lit (.bool true)], args := [d1, d2] }
  | _ => none }
def cellsOrbitsRow : OpenClaim := { program := "ytlnikgcanimggaa", sum := "a83f77cba03bb5bafa5ec7f20876632eef665f9cc723435480d44b6f9095c32c", func := "cayley/cayleylaw13.CellsOrbits", spec := "cellsOrbits", unfollowed := true, recurses := true, apart := false }
def CellsOrbitsSaid : Prop := cellsOrbitsRow.holds Try.pinned (OpenSpec.ofChange cellsOrbitsSpec)

/-- ITS FALSE NEIGHBOUR: 'it returns false'. Refute it at one input. -/
def cellsOrbitsWrong : ChangeSpec := { name := "cellsOrbits", fn := fun _ => fun
  | [d1, d2] => { results := [.lit (.bool false)], args := [d1, d2] }
  | _ => none }
def CellsOrbitsWrongFalsely : Prop := cellsOrbitsRow.holds Try.pinned (OpenSpec.ofChange cellsOrbitsWrong)

/- THE SECOND FORM. 'bulk': how many values and letters a reading holds, each counted each time it is reached (what is shared counts as often as it is met; a slice's spare places count too). A statement '..UptoSaid' is the law's where the arguments, and the package variables that the reading takes, are together of bulk at most 1048576: NARROWER than '..Said'. Prove '..Said' where nothing that the law and all that it calls make is longer than what came in: it says more and counts as full. Else prove '..UptoSaid'. A law counts once. -/
mutual
def uptoBulk {H : Type} : DataW H → Nat
  | .lit (.string bytes) => bytes.length + 1
  | .lit _ => 1
  | .nil => 1
  | .ptr d => uptoBulk d + 1
  | .slice elems spare => uptoBulkAll elems + uptoBulkAll spare + 1
  | .agg parts => uptoBulkAll parts + 1
  | .iface _ d => uptoBulk d + 1
  | .map entries => uptoBulkEntries entries + 1
  | .held _ => 1
def uptoBulkAll {H : Type} : List (DataW H) → Nat
  | [] => 0
  | d :: r => uptoBulk d + uptoBulkAll r
def uptoBulkEntries {H : Type} : List (Lit × DataW H) → Nat
  | [] => 0
  | x :: r => uptoBulkEntry x + uptoBulkEntries r
def uptoBulkEntry {H : Type} : Lit × DataW H → Nat
  | (.string bytes, d) => bytes.length + uptoBulk d + 1
  | (_, d) => uptoBulk d + 1
 end
def uptoSmall : (H : Type) → List (DataW H) → Bool := fun _ ds => decide (uptoBulkAll ds ≤ 1048576)
def OpenSpec.upto (s : _root_.Go.ChangeSpec) : _root_.Go.OpenSpec := { _root_.Go.OpenSpec.ofChange s with cond := some uptoSmall }

/-- 'cayleylaw13.CellsRefines', WHERE WHAT IT READS IS OF BULK AT MOST 1048576: true; the input reads as it did. -/
def cellsRefinesUptoRow : OpenClaim := { program := "ytlnikgcanimggaa", sum := "a83f77cba03bb5bafa5ec7f20876632eef665f9cc723435480d44b6f9095c32c", func := "cayley/cayleylaw13.CellsRefines", spec := "cellsRefines", unfollowed := true, recurses := true, apart := false, narrowed := true }
def CellsRefinesUptoSaid : Prop := cellsRefinesUptoRow.holds Try.pinned (OpenSpec.upto cellsRefinesSpec)

/-- 'cayleylaw13.CellsMoves', WHERE WHAT IT READS IS OF BULK AT MOST 1048576: true; the input reads as it did. -/
def cellsMovesUptoRow : OpenClaim := { program := "ytlnikgcanimggaa", sum := "a83f77cba03bb5bafa5ec7f20876632eef665f9cc723435480d44b6f9095c32c", func := "cayley/cayleylaw13.CellsMoves", spec := "cellsMoves", unfollowed := true, recurses := true, apart := false, narrowed := true }
def CellsMovesUptoSaid : Prop := cellsMovesUptoRow.holds Try.pinned (OpenSpec.upto cellsMovesSpec)

/-- 'cayleylaw13.CellsEven', WHERE WHAT IT READS IS OF BULK AT MOST 1048576: true; the input reads as it did. -/
def cellsEvenUptoRow : OpenClaim := { program := "ytlnikgcanimggaa", sum := "a83f77cba03bb5bafa5ec7f20876632eef665f9cc723435480d44b6f9095c32c", func := "cayley/cayleylaw13.CellsEven", spec := "cellsEven", unfollowed := true, recurses := true, apart := false, narrowed := true }
def CellsEvenUptoSaid : Prop := cellsEvenUptoRow.holds Try.pinned (OpenSpec.upto cellsEvenSpec)

/-- 'cayleylaw13.CellsCalls', WHERE WHAT IT READS IS OF BULK AT MOST 1048576: true; the input reads as it did. -/
def cellsCallsUptoRow : OpenClaim := { program := "ytlnikgcanimggaa", sum := "a83f77cba03bb5bafa5ec7f20876632eef665f9cc723435480d44b6f9095c32c", func := "cayley/cayleylaw13.CellsCalls", spec := "cellsCalls", unfollowed := true, recurses := true, apart := false, narrowed := true }
def CellsCallsUptoSaid : Prop := cellsCallsUptoRow.holds Try.pinned (OpenSpec.upto cellsCallsSpec)

/-- 'cayleylaw13.CellsPairs', WHERE WHAT IT READS IS OF BULK AT MOST 1048576: true; the input reads as it did. -/
def cellsPairsUptoRow : OpenClaim := { program := "ytlnikgcanimggaa", sum := "a83f77cba03bb5bafa5ec7f20876632eef665f9cc723435480d44b6f9095c32c", func := "cayley/cayleylaw13.CellsPairs", spec := "cellsPairs", unfollowed := true, recurses := true, apart := false, narrowed := true }
def CellsPairsUptoSaid : Prop := cellsPairsUptoRow.holds Try.pinned (OpenSpec.upto cellsPairsSpec)

/-- 'cayleylaw13.CellsLattice', WHERE WHAT IT READS IS OF BULK AT MOST 1048576: true; the input reads as it did. -/
def cellsLatticeUptoRow : OpenClaim := { program := "ytlnikgcanimggaa", sum := "a83f77cba03bb5bafa5ec7f20876632eef665f9cc723435480d44b6f9095c32c", func := "cayley/cayleylaw13.CellsLattice", spec := "cellsLattice", unfollowed := true, recurses := true, apart := false, narrowed := true }
def CellsLatticeUptoSaid : Prop := cellsLatticeUptoRow.holds Try.pinned (OpenSpec.upto cellsLatticeSpec)

/-- 'cayleylaw13.CellsOrbits', WHERE WHAT IT READS IS OF BULK AT MOST 1048576: true; the input reads as it did. -/
def cellsOrbitsUptoRow : OpenClaim := { program := "ytlnikgcanimggaa", sum := "a83f77cba03bb5bafa5ec7f20876632eef665f9cc723435480d44b6f9095c32c", func := "cayley/cayleylaw13.CellsOrbits", spec := "cellsOrbits", unfollowed := true, recurses := true, apart := false, narrowed := true }
def CellsOrbitsUptoSaid : Prop := cellsOrbitsUptoRow.holds Try.pinned (OpenSpec.upto cellsOrbitsSpec)

end Rows
end Go.Proofs.Ytlnikgcanimggaa
