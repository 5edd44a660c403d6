/-
  No cell of these rows narrows 'for every input' (looked for: loops, veiled, ifaces, maps, wideKeys, modest, calm, conditions, laid).
  DERIVED. THE GIVEN ROWS OF THIS SEAT. 7 by the template 'for every input the law returns true; each argument reads behind the call as it read before'; 0 by the template 'total and deterministic' (their statements: YtbejhkojdiadaaaGreatTotals.lean).
  GIVEN WITH THE SEED: the statements are not yours to turn. If you find one false, say at which input.
  Laid BY PROGRAM, IN A SANDBOX (cutbox-rows.mjs): the forced cells as the released guide's own fill.sh prints them over the translation b14b5513cde229b0… (all of the seat's roots in one cut). By AI agents, Wed Nov 11 2026. No macro, syntax, notation, axiom, sorry.
-/
import Derived.Test.YtbejhkojdiadaaaGreatChecked
import GoSem.Claim
import GoSem.ClaimJoined
import GoSem.ClaimMapViews
import Derived.JoinedTies
import Derived.KernelRfl
namespace Go.Proofs.YtbejhkojdiadaaaGreat
/- THE CELL 'sum', in the pinned program and in every row, IS THE sha256 OF THE DUMP (.gsa) THAT YtbejhkojdiadaaaGreatProg.lean LOADS. Nothing in Lean hashes anything: it is a label: what it is worth is what the hold of that sum in a sandbox is worth. -/
noncomputable def Tryz.pinned : Pinned := { name := "ytbejhkojdiadaaagreat", sum := "b14b5513cde229b0e59f53c5b3716f98db63bb9639acf427b7a0fb02583e653e", checked := Tryz.checked }
namespace Rows
def none {H : Type} : Left H := { results := [], args := [] }

/-- 'cayleylaw09.RankCalls': WHATEVER THE INPUT: true; the input reads as it did. -/
def rankCallsSpec : ChangeSpec := { name := "rankCalls", fn := fun _ => fun
  | [d1, d2, d3] => { results := [.lit (.bool true)], args := [d1, d2, d3] }
  | _ => none }
def rankCallsRow : OpenClaim := { program := "ytbejhkojdiadaaagreat", sum := "b14b5513cde229b0e59f53c5b3716f98db63bb9639acf427b7a0fb02583e653e", func := "cayley/cayleylaw09.RankCalls", spec := "rankCalls", unfollowed := true, recurses := true, apart := false }
def RankCallsSaid : Prop := rankCallsRow.holds Tryz.pinned (OpenSpec.ofChange rankCallsSpec)

/-- ITS FALSE NEIGHBOUR: 'it returns false'. Refute it at one input. -/
def rankCallsWrong : ChangeSpec := { name := "rankCalls", fn := fun _ => fun
  | [d1, d2, d3] => { results := [.lit (.bool false)], args := [d1, d2, d3] }
  | _ => none }
def RankCallsWrongFalsely : Prop := rankCallsRow.holds Tryz.pinned (OpenSpec.ofChange rankCallsWrong)

/-- 'cayleylaw11.ClosurePairs': WHATEVER THE INPUT: true; the input reads as it did. -/
def closurePairsSpec : ChangeSpec := { name := "closurePairs", fn := fun _ => fun
  | [d1, d2] => { results := [.lit (.bool true)], args := [d1, d2] }
  | _ => none }
def closurePairsRow : OpenClaim := { program := "ytbejhkojdiadaaagreat", sum := "b14b5513cde229b0e59f53c5b3716f98db63bb9639acf427b7a0fb02583e653e", func := "cayley/cayleylaw11.ClosurePairs", spec := "closurePairs", unfollowed := true, recurses := true, apart := false }
def ClosurePairsSaid : Prop := closurePairsRow.holds Tryz.pinned (OpenSpec.ofChange closurePairsSpec)

/-- ITS FALSE NEIGHBOUR: 'it returns false'. Refute it at one input. -/
def closurePairsWrong : ChangeSpec := { name := "closurePairs", fn := fun _ => fun
  | [d1, d2] => { results := [.lit (.bool false)], args := [d1, d2] }
  | _ => none }
def ClosurePairsWrongFalsely : Prop := closurePairsRow.holds Tryz.pinned (OpenSpec.ofChange closurePairsWrong)

/-- 'cayleylaw11.ClosureCalls': WHATEVER THE INPUT: true; the input reads as it did. -/
def closureCallsSpec : ChangeSpec := { name := "closureCalls", fn := fun _ => fun
  | [d1, d2, d3, d4] => { results := [.lit (.bool true)], args := [d1, d2, d3, d4] }
  | _ => none }
def closureCallsRow : OpenClaim := { program := "ytbejhkojdiadaaagreat", sum := "b14b5513cde229b0e59f53c5b3716f98db63bb9639acf427b7a0fb02583e653e", func := "cayley/cayleylaw11.ClosureCalls", spec := "closureCalls", unfollowed := true, recurses := true, apart := false }
def ClosureCallsSaid : Prop := closureCallsRow.holds Tryz.pinned (OpenSpec.ofChange closureCallsSpec)

/-- ITS FALSE NEIGHBOUR: 'it returns false'. Refute it at one input. -/
def closureCallsWrong : ChangeSpec := { name := "closureCalls", fn := fun _ => fun
  | [d1, d2, d3, d4] => { results := [.lit (.bool false)], args := [d1, d2, d3, d4] }
  | _ => none }
def ClosureCallsWrongFalsely : Prop := closureCallsRow.holds Tryz.pinned (OpenSpec.ofChange closureCallsWrong)

/-- 'cayleylaw11.ClosureKnown': WHATEVER THE INPUT: true; the input reads as it did. -/
def closureKnownSpec : ChangeSpec := { name := "closureKnown", fn := fun _ => fun
  | [] => { results := [.lit (.bool true)], args := [] }
  | _ => none }
def closureKnownRow : OpenClaim := { program := "ytbejhkojdiadaaagreat", sum := "b14b5513cde229b0e59f53c5b3716f98db63bb9639acf427b7a0fb02583e653e", func := "cayley/cayleylaw11.ClosureKnown", spec := "closureKnown", unfollowed := true, recurses := true, apart := false }
def ClosureKnownSaid : Prop := closureKnownRow.holds Tryz.pinned (OpenSpec.ofChange closureKnownSpec)

/-- ITS FALSE NEIGHBOUR: 'it returns false'. Refute it at one input. -/
def closureKnownWrong : ChangeSpec := { name := "closureKnown", fn := fun _ => fun
  | [] => { results := [.lit (.bool false)], args := [] }
  | _ => none }
def ClosureKnownWrongFalsely : Prop := closureKnownRow.holds Tryz.pinned (OpenSpec.ofChange closureKnownWrong)

/-- 'cayleylaw11.ClosureNormal': WHATEVER THE INPUT: true; the input reads as it did. -/
def closureNormalSpec : ChangeSpec := { name := "closureNormal", fn := fun _ => fun
  | [d1, d2] => { results := [.lit (.bool true)], args := [d1, d2] }
  | _ => none }
def closureNormalRow : OpenClaim := { program := "ytbejhkojdiadaaagreat", sum := "b14b5513cde229b0e59f53c5b3716f98db63bb9639acf427b7a0fb02583e653e", func := "cayley/cayleylaw11.ClosureNormal", spec := "closureNormal", unfollowed := true, recurses := true, apart := false }
def ClosureNormalSaid : Prop := closureNormalRow.holds Tryz.pinned (OpenSpec.ofChange closureNormalSpec)

/-- ITS FALSE NEIGHBOUR: 'it returns false'. Refute it at one input. -/
def closureNormalWrong : ChangeSpec := { name := "closureNormal", fn := fun _ => fun
  | [d1, d2] => { results := [.lit (.bool false)], args := [d1, d2] }
  | _ => none }
def ClosureNormalWrongFalsely : Prop := closureNormalRow.holds Tryz.pinned (OpenSpec.ofChange closureNormalWrong)

/-- 'cayleylaw11.ClosureCommutes': WHATEVER THE INPUT: true; the input reads as it did. -/
def closureCommutesSpec : ChangeSpec := { name := "closureCommutes", fn := fun _ => fun
  | [d1, d2] => { results := [.lit (.bool true)], args := [d1, d2] }
  | _ => none }
def closureCommutesRow : OpenClaim := { program := "ytbejhkojdiadaaagreat", sum := "b14b5513cde229b0e59f53c5b3716f98db63bb9639acf427b7a0fb02583e653e", func := "cayley/cayleylaw11.ClosureCommutes", spec := "closureCommutes", unfollowed := true, recurses := true, apart := false }
def ClosureCommutesSaid : Prop := closureCommutesRow.holds Tryz.pinned (OpenSpec.ofChange closureCommutesSpec)

/-- ITS FALSE NEIGHBOUR: 'it returns false'. Refute it at one input. -/
def closureCommutesWrong : ChangeSpec := { name := "closureCommutes", fn := fun _ => fun
  | [d1, d2] => { results := [.lit (.bool false)], args := [d1, d2] }
  | _ => none }
def ClosureCommutesWrongFalsely : Prop := closureCommutesRow.holds Tryz.pinned (OpenSpec.ofChange closureCommutesWrong)

/-- 'cayleylaw11.ClosureCores': WHATEVER THE INPUT: true; the input reads as it did. -/
def closureCoresSpec : ChangeSpec := { name := "closureCores", fn := fun _ => fun
  | [d1, d2, d3, d4] => { results := [.lit (.bool true)], args := [d1, d2, d3, d4] }
  | _ => none }
def closureCoresRow : OpenClaim := { program := "ytbejhkojdiadaaagreat", sum := "b14b5513cde229b0e59f53c5b3716f98db63bb9639acf427b7a0fb02583e653e", func := "cayley/cayleylaw11.ClosureCores", spec := "closureCores", unfollowed := true, recurses := true, apart := false }
def ClosureCoresSaid : Prop := closureCoresRow.holds Tryz.pinned (OpenSpec.ofChange closureCoresSpec)

/-- ITS FALSE NEIGHBOUR: 'it returns false'. Refute it at one input. -/
def closureCoresWrong : ChangeSpec := { name := "closureCores", fn := fun _ => fun
  | [d1, d2, d3, d4] => { results := [.lit (.bool false)], args := [d1, d2, d3, d4] }
  | _ => none }
def ClosureCoresWrongFalsely : Prop := closureCoresRow.holds Tryz.pinned (OpenSpec.ofChange closureCoresWrong)

/- THE SECOND FORM. 'bulk': how many values and letters a reading holds, each counted each time it is reached (what is shared counts as often as it is met; a slice's spare places count too). A statement '..UptoSaid' is the law's where the arguments, and the package variables that the reading takes, are together of bulk at most 1048576: NARROWER than '..Said'. Prove '..Said' where nothing that the law and all that it calls make is longer than what came in: it says more and counts as full. Else prove '..UptoSaid'. A law counts once. -/
mutual
def uptoBulk {H : Type} : DataW H → Nat
  | .lit (.string bytes) => bytes.length + 1
  | .lit _ => 1
  | .nil => 1
  | .ptr d => uptoBulk d + 1
  | .slice elems spare => uptoBulkAll elems + uptoBulkAll spare + 1
  | .agg parts => uptoBulkAll parts + 1
  | .iface _ d => uptoBulk d + 1
  | .map entries => uptoBulkEntries entries + 1
  | .held _ => 1
def uptoBulkAll {H : Type} : List (DataW H) → Nat
  | [] => 0
  | d :: r => uptoBulk d + uptoBulkAll r
def uptoBulkEntries {H : Type} : List (Lit × DataW H) → Nat
  | [] => 0
  | x :: r => uptoBulkEntry x + uptoBulkEntries r
def uptoBulkEntry {H : Type} : Lit × DataW H → Nat
  | (.string bytes, d) => bytes.length + uptoBulk d + 1
  | (_, d) => uptoBulk d + 1
 end
def uptoSmall : (H : Type) → List (DataW H) → Bool := fun _ ds => decide (uptoBulkAll ds ≤ 1048576)
def OpenSpec.upto (s : _root_.Go.ChangeSpec) : _root_.Go.OpenSpec := { _root_.Go.OpenSpec.ofChange s with cond := some uptoSmall }

/-- 'cayleylaw09.RankCalls', WHERE WHAT IT READS IS OF BULK AT MOST 1048576: true; the input reads as it did. -/
def rankCallsUptoRow : OpenClaim := { program := "ytbejhkojdiadaaagreat", sum := "b14b5513cde229b0e59f53c5b3716f98db63bb9639acf427b7a0fb02583e653e", func := "cayley/cayleylaw09.RankCalls", spec := "rankCalls", unfollowed := true, recurses := true, apart := false, narrowed := true }
def RankCallsUptoSaid : Prop := rankCallsUptoRow.holds Tryz.pinned (OpenSpec.upto rankCallsSpec)

/-- 'cayleylaw11.ClosurePairs', WHERE WHAT IT READS IS OF BULK AT MOST 1048576: true; the input reads as it did. -/
def closurePairsUptoRow : OpenClaim := { program := "ytbejhkojdiadaaagreat", sum := "b14b5513cde229b0e59f53c5b3716f98db63bb9639acf427b7a0fb02583e653e", func := "cayley/cayleylaw11.ClosurePairs", spec := "closurePairs", unfollowed := true, recurses := true, apart := false, narrowed := true }
def ClosurePairsUptoSaid : Prop := closurePairsUptoRow.holds Tryz.pinned (OpenSpec.upto closurePairsSpec)

/-- 'cayleylaw11.ClosureCalls', WHERE WHAT IT READS IS OF BULK AT MOST 1048576: true; the input reads as it did. -/
def closureCallsUptoRow : OpenClaim := { program := "ytbejhkojdiadaaagreat", sum := "b14b5513cde229b0e59f53c5b3716f98db63bb9639acf427b7a0fb02583e653e", func := "cayley/cayleylaw11.ClosureCalls", spec := "closureCalls", unfollowed := true, recurses := true, apart := false, narrowed := true }
def ClosureCallsUptoSaid : Prop := closureCallsUptoRow.holds Tryz.pinned (OpenSpec.upto closureCallsSpec)

/-- 'cayleylaw11.ClosureKnown', WHERE WHAT IT READS IS OF BULK AT MOST 1048576: true; the input reads as it did. -/
def closureKnownUptoRow : OpenClaim := { program := "ytbejhkojdiadaaagreat", sum := "b14b5513cde229b0e59f53c5b3716f98db63bb9639acf427b7a0fb02583e653e", func := "cayley/cayleylaw11.ClosureKnown", spec := "closureKnown", unfollowed := true, recurses := true, apart := false, narrowed := true }
def ClosureKnownUptoSaid : Prop := closureKnownUptoRow.holds Tryz.pinned (OpenSpec.upto closureKnownSpec)

/-- 'cayleylaw11.ClosureNormal', WHERE WHAT IT READS IS OF BULK AT MOST 1048576: true; the input reads as it did. -/
def closureNormalUptoRow : OpenClaim := { program := "ytbejhkojdiadaaagreat", sum := "b14b5513cde229b0e59f53c5b3716f98db63bb9639acf427b7a0fb02583e653e", func := "cayley/cayleylaw11.ClosureNormal", spec := "closureNormal", unfollowed := true, recurses := true, apart := false, narrowed := true }
def ClosureNormalUptoSaid : Prop := closureNormalUptoRow.holds Tryz.pinned (OpenSpec.upto closureNormalSpec)

/-- 'cayleylaw11.ClosureCommutes', WHERE WHAT IT READS IS OF BULK AT MOST 1048576: true; the input reads as it did. -/
def closureCommutesUptoRow : OpenClaim := { program := "ytbejhkojdiadaaagreat", sum := "b14b5513cde229b0e59f53c5b3716f98db63bb9639acf427b7a0fb02583e653e", func := "cayley/cayleylaw11.ClosureCommutes", spec := "closureCommutes", unfollowed := true, recurses := true, apart := false, narrowed := true }
def ClosureCommutesUptoSaid : Prop := closureCommutesUptoRow.holds Tryz.pinned (OpenSpec.upto closureCommutesSpec)

/-- 'cayleylaw11.ClosureCores', WHERE WHAT IT READS IS OF BULK AT MOST 1048576: true; the input reads as it did. -/
def closureCoresUptoRow : OpenClaim := { program := "ytbejhkojdiadaaagreat", sum := "b14b5513cde229b0e59f53c5b3716f98db63bb9639acf427b7a0fb02583e653e", func := "cayley/cayleylaw11.ClosureCores", spec := "closureCores", unfollowed := true, recurses := true, apart := false, narrowed := true }
def ClosureCoresUptoSaid : Prop := closureCoresUptoRow.holds Tryz.pinned (OpenSpec.upto closureCoresSpec)

end Rows
end Go.Proofs.YtbejhkojdiadaaaGreat
