/-
  NARROWER THAN 'FOR EVERY INPUT', by the rows' own cells (each row's printed sentence says how): RankLists: laid · RankKnown: laid · RankOrders: laid · RankLeast: laid · RankCosets: laid.
  DERIVED. THE GIVEN ROWS OF THIS SEAT. 5 by the template 'for every input the law returns true; each argument reads behind the call as it read before'; 0 by the template 'total and deterministic' (their statements: YtbejhkojdiadaaaGreatDoorTotals.lean).
  GIVEN WITH THE SEED: the statements are not yours to turn. If you find one false, say at which input.
  Laid BY PROGRAM, IN A SANDBOX (cutbox-rows.mjs): the forced cells as the released guide's own fill.sh prints them over the translation e95084e97f65bb04… (all of the seat's roots in one cut). By AI agents, Wed Nov 11 2026. No macro, syntax, notation, axiom, sorry.
-/
import Derived.Test.YtbejhkojdiadaaaGreatDoorChecked
import GoSem.PinnedTables
import GoSem.Claim
import GoSem.ClaimJoined
import GoSem.ClaimMapViews
import Derived.JoinedTies
import Derived.KernelRfl
namespace Go.Proofs.YtbejhkojdiadaaaGreatDoor
/- THE CELL 'sum', in the pinned program and in every row, IS THE sha256 OF THE DUMP (.gsa) THAT YtbejhkojdiadaaaGreatDoorProg.lean LOADS. Nothing in Lean hashes anything: it is a label: what it is worth is what the hold of that sum in a sandbox is worth. -/
noncomputable def Tryz.pinned : Pinned := { name := "ytbejhkojdiadaaagreatdoor", sum := "e95084e97f65bb04358e4b6a8de1aabde4e1505dfeeb0b8c397a0302519323d4", checked := Tryz.checked }
namespace Rows
def none {H : Type} : Left H := { results := [], args := [] }

/- WHAT THE LISTED PACKAGE-LEVEL VARIABLES READ AS WHEN THE CALL BEGINS. Each datum BY PROGRAM (the guide's laid-datum.mjs) off the statement by which the dump's own 'gosem.cut.vars' lays the variable. In a bare row this is a premise. The card (YtbejhkojdiadaaaGreatDoorCards.lean) ties it to the program's text. -/
def laid_unicode_utf8_acceptRanges {H : Type} : DataW H := .agg [.agg [.lit (.int .u8 128), .lit (.int .u8 191)], .agg [.lit (.int .u8 160), .lit (.int .u8 191)], .agg [.lit (.int .u8 128), .lit (.int .u8 159)], .agg [.lit (.int .u8 144), .lit (.int .u8 191)], .agg [.lit (.int .u8 128), .lit (.int .u8 143)], .agg [.lit (.int .u8 0), .lit (.int .u8 0)], .agg [.lit (.int .u8 0), .lit (.int .u8 0)], .agg [.lit (.int .u8 0), .lit (.int .u8 0)], .agg [.lit (.int .u8 0), .lit (.int .u8 0)], .agg [.lit (.int .u8 0), .lit (.int .u8 0)], .agg [.lit (.int .u8 0), .lit (.int .u8 0)], .agg [.lit (.int .u8 0), .lit (.int .u8 0)], .agg [.lit (.int .u8 0), .lit (.int .u8 0)], .agg [.lit (.int .u8 0), .lit (.int .u8 0)], .agg [.lit (.int .u8 0), .lit (.int .u8 0)], .agg [.lit (.int .u8 0), .lit (.int .u8 0)]]
/-- One of Go's own tables, pinned by name: the form's constant. -/
def laid_unicode_utf8_first : DataW Unit := Go.Pinned.utf8First

/-- 'cayleylaw09.RankLists': WHATEVER THE INPUT: true; the input reads as it did. -/
def rankListsSpec : ChangeSpec := { name := "rankLists", fn := fun _ => fun
  | [d1, d2] => { results := [.lit (.bool true)], args := [d1, d2] }
  | _ => none }
def rankListsRow : OpenClaim := { program := "ytbejhkojdiadaaagreatdoor", sum := "e95084e97f65bb04358e4b6a8de1aabde4e1505dfeeb0b8c397a0302519323d4", func := "cayley/cayleylaw09.RankLists", spec := "rankLists", inPlace := ["internal/bytealg.IndexByteString", "internal/bytealg.IndexString"], unfollowed := true, recurses := true, named := ["unicode/utf8.first", "unicode/utf8.acceptRanges", "internal/bytealg.MaxLen"], apart := false, laid := [("unicode/utf8.acceptRanges", laid_unicode_utf8_acceptRanges), ("unicode/utf8.first", laid_unicode_utf8_first)] }
def RankListsSaid : Prop := rankListsRow.holds Tryz.pinned (OpenSpec.ofChange rankListsSpec)

/-- ITS FALSE NEIGHBOUR: 'it returns false'. Refute it at one input. -/
def rankListsWrong : ChangeSpec := { name := "rankLists", fn := fun _ => fun
  | [d1, d2] => { results := [.lit (.bool false)], args := [d1, d2] }
  | _ => none }
def RankListsWrongFalsely : Prop := rankListsRow.holds Tryz.pinned (OpenSpec.ofChange rankListsWrong)

/-- 'cayleylaw09.RankKnown': WHATEVER THE INPUT: true; the input reads as it did. -/
def rankKnownSpec : ChangeSpec := { name := "rankKnown", fn := fun _ => fun
  | [] => { results := [.lit (.bool true)], args := [] }
  | _ => none }
def rankKnownRow : OpenClaim := { program := "ytbejhkojdiadaaagreatdoor", sum := "e95084e97f65bb04358e4b6a8de1aabde4e1505dfeeb0b8c397a0302519323d4", func := "cayley/cayleylaw09.RankKnown", spec := "rankKnown", inPlace := ["internal/bytealg.IndexByteString", "internal/bytealg.IndexString"], unfollowed := true, recurses := true, named := ["unicode/utf8.first", "unicode/utf8.acceptRanges", "internal/bytealg.MaxLen"], apart := false, laid := [("unicode/utf8.acceptRanges", laid_unicode_utf8_acceptRanges), ("unicode/utf8.first", laid_unicode_utf8_first)] }
def RankKnownSaid : Prop := rankKnownRow.holds Tryz.pinned (OpenSpec.ofChange rankKnownSpec)

/-- ITS FALSE NEIGHBOUR: 'it returns false'. Refute it at one input. -/
def rankKnownWrong : ChangeSpec := { name := "rankKnown", fn := fun _ => fun
  | [] => { results := [.lit (.bool false)], args := [] }
  | _ => none }
def RankKnownWrongFalsely : Prop := rankKnownRow.holds Tryz.pinned (OpenSpec.ofChange rankKnownWrong)

/-- 'cayleylaw09.RankOrders': WHATEVER THE INPUT: true; the input reads as it did. -/
def rankOrdersSpec : ChangeSpec := { name := "rankOrders", fn := fun _ => fun
  | [d1, d2] => { results := [.lit (.bool true)], args := [d1, d2] }
  | _ => none }
def rankOrdersRow : OpenClaim := { program := "ytbejhkojdiadaaagreatdoor", sum := "e95084e97f65bb04358e4b6a8de1aabde4e1505dfeeb0b8c397a0302519323d4", func := "cayley/cayleylaw09.RankOrders", spec := "rankOrders", inPlace := ["internal/bytealg.IndexByteString", "internal/bytealg.IndexString"], unfollowed := true, recurses := true, named := ["unicode/utf8.first", "unicode/utf8.acceptRanges", "internal/bytealg.MaxLen"], apart := false, laid := [("unicode/utf8.acceptRanges", laid_unicode_utf8_acceptRanges), ("unicode/utf8.first", laid_unicode_utf8_first)] }
def RankOrdersSaid : Prop := rankOrdersRow.holds Tryz.pinned (OpenSpec.ofChange rankOrdersSpec)

/-- ITS FALSE NEIGHBOUR: 'it returns false'. Refute it at one input. -/
def rankOrdersWrong : ChangeSpec := { name := "rankOrders", fn := fun _ => fun
  | [d1, d2] => { results := [.lit (.bool false)], args := [d1, d2] }
  | _ => none }
def RankOrdersWrongFalsely : Prop := rankOrdersRow.holds Tryz.pinned (OpenSpec.ofChange rankOrdersWrong)

/-- 'cayleylaw09.RankLeast': WHATEVER THE INPUT: true; the input reads as it did. -/
def rankLeastSpec : ChangeSpec := { name := "rankLeast", fn := fun _ => fun
  | [d1, d2, d3] => { results := [.lit (.bool true)], args := [d1, d2, d3] }
  | _ => none }
def rankLeastRow : OpenClaim := { program := "ytbejhkojdiadaaagreatdoor", sum := "e95084e97f65bb04358e4b6a8de1aabde4e1505dfeeb0b8c397a0302519323d4", func := "cayley/cayleylaw09.RankLeast", spec := "rankLeast", inPlace := ["internal/bytealg.IndexByteString", "internal/bytealg.IndexString"], unfollowed := true, recurses := true, named := ["unicode/utf8.first", "unicode/utf8.acceptRanges", "internal/bytealg.MaxLen"], apart := false, laid := [("unicode/utf8.acceptRanges", laid_unicode_utf8_acceptRanges), ("unicode/utf8.first", laid_unicode_utf8_first)] }
def RankLeastSaid : Prop := rankLeastRow.holds Tryz.pinned (OpenSpec.ofChange rankLeastSpec)

/-- ITS FALSE NEIGHBOUR: 'it returns false'. Refute it at one input. -/
def rankLeastWrong : ChangeSpec := { name := "rankLeast", fn := fun _ => fun
  | [d1, d2, d3] => { results := [.lit (.bool false)], args := [d1, d2, d3] }
  | _ => none }
def RankLeastWrongFalsely : Prop := rankLeastRow.holds Tryz.pinned (OpenSpec.ofChange rankLeastWrong)

/-- 'cayleylaw09.RankCosets': WHATEVER THE INPUT: true; the input reads as it did. -/
def rankCosetsSpec : ChangeSpec := { name := "rankCosets", fn := fun _ => fun
  | [d1, d2] => { results := [.lit (.bool true)], args := [d1, d2] }
  | _ => none }
def rankCosetsRow : OpenClaim := { program := "ytbejhkojdiadaaagreatdoor", sum := "e95084e97f65bb04358e4b6a8de1aabde4e1505dfeeb0b8c397a0302519323d4", func := "cayley/cayleylaw09.RankCosets", spec := "rankCosets", inPlace := ["internal/bytealg.IndexByteString", "internal/bytealg.IndexString"], unfollowed := true, recurses := true, named := ["unicode/utf8.first", "unicode/utf8.acceptRanges", "internal/bytealg.MaxLen"], apart := false, laid := [("unicode/utf8.acceptRanges", laid_unicode_utf8_acceptRanges), ("unicode/utf8.first", laid_unicode_utf8_first)] }
def RankCosetsSaid : Prop := rankCosetsRow.holds Tryz.pinned (OpenSpec.ofChange rankCosetsSpec)

/-- ITS FALSE NEIGHBOUR: 'it returns false'. Refute it at one input. -/
def rankCosetsWrong : ChangeSpec := { name := "rankCosets", fn := fun _ => fun
  | [d1, d2] => { results := [.lit (.bool false)], args := [d1, d2] }
  | _ => none }
def RankCosetsWrongFalsely : Prop := rankCosetsRow.holds Tryz.pinned (OpenSpec.ofChange rankCosetsWrong)

/- THE SECOND FORM. 'bulk': how many values and letters a reading holds, each counted each time it is reached (what is shared counts as often as it is met; a slice's spare places count too). A statement '..UptoSaid' is the law's where the arguments, and the package variables that the reading takes, are together of bulk at most 1048576: NARROWER than '..Said'. Prove '..Said' where nothing that the law and all that it calls make is longer than what came in: it says more and counts as full. Else prove '..UptoSaid'. A law counts once. -/
mutual
def uptoBulk {H : Type} : DataW H → Nat
  | .lit (.string bytes) => bytes.length + 1
  | .lit _ => 1
  | .nil => 1
  | .ptr d => uptoBulk d + 1
  | .slice elems spare => uptoBulkAll elems + uptoBulkAll spare + 1
  | .agg parts => uptoBulkAll parts + 1
  | .iface _ d => uptoBulk d + 1
  | .map entries => uptoBulkEntries entries + 1
  | .held _ => 1
def uptoBulkAll {H : Type} : List (DataW H) → Nat
  | [] => 0
  | d :: r => uptoBulk d + uptoBulkAll r
def uptoBulkEntries {H : Type} : List (Lit × DataW H) → Nat
  | [] => 0
  | x :: r => uptoBulkEntry x + uptoBulkEntries r
def uptoBulkEntry {H : Type} : Lit × DataW H → Nat
  | (.string bytes, d) => bytes.length + uptoBulk d + 1
  | (_, d) => uptoBulk d + 1
 end
def uptoSmall : (H : Type) → List (DataW H) → Bool := fun _ ds => decide (uptoBulkAll ds ≤ 1048576)
def OpenSpec.upto (s : _root_.Go.ChangeSpec) : _root_.Go.OpenSpec := { _root_.Go.OpenSpec.ofChange s with cond := some uptoSmall }

/-- 'cayleylaw09.RankLists', WHERE WHAT IT READS IS OF BULK AT MOST 1048576: true; the input reads as it did. -/
def rankListsUptoRow : OpenClaim := { program := "ytbejhkojdiadaaagreatdoor", sum := "e95084e97f65bb04358e4b6a8de1aabde4e1505dfeeb0b8c397a0302519323d4", func := "cayley/cayleylaw09.RankLists", spec := "rankLists", inPlace := ["internal/bytealg.IndexByteString", "internal/bytealg.IndexString"], unfollowed := true, recurses := true, named := ["unicode/utf8.first", "unicode/utf8.acceptRanges", "internal/bytealg.MaxLen"], apart := false, laid := [("unicode/utf8.acceptRanges", laid_unicode_utf8_acceptRanges), ("unicode/utf8.first", laid_unicode_utf8_first)], narrowed := true }
def RankListsUptoSaid : Prop := rankListsUptoRow.holds Tryz.pinned (OpenSpec.upto rankListsSpec)

/-- 'cayleylaw09.RankKnown', WHERE WHAT IT READS IS OF BULK AT MOST 1048576: true; the input reads as it did. -/
def rankKnownUptoRow : OpenClaim := { program := "ytbejhkojdiadaaagreatdoor", sum := "e95084e97f65bb04358e4b6a8de1aabde4e1505dfeeb0b8c397a0302519323d4", func := "cayley/cayleylaw09.RankKnown", spec := "rankKnown", inPlace := ["internal/bytealg.IndexByteString", "internal/bytealg.IndexString"], unfollowed := true, recurses := true, named := ["unicode/utf8.first", "unicode/utf8.acceptRanges", "internal/bytealg.MaxLen"], apart := false, laid := [("unicode/utf8.acceptRanges", laid_unicode_utf8_acceptRanges), ("unicode/utf8.first", laid_unicode_utf8_first)], narrowed := true }
def RankKnownUptoSaid : Prop := rankKnownUptoRow.holds Tryz.pinned (OpenSpec.upto rankKnownSpec)

/-- 'cayleylaw09.RankOrders', WHERE WHAT IT READS IS OF BULK AT MOST 1048576: true; the input reads as it did. -/
def rankOrdersUptoRow : OpenClaim := { program := "ytbejhkojdiadaaagreatdoor", sum := "e95084e97f65bb04358e4b6a8de1aabde4e1505dfeeb0b8c397a0302519323d4", func := "cayley/cayleylaw09.RankOrders", spec := "rankOrders", inPlace := ["internal/bytealg.IndexByteString", "internal/bytealg.IndexString"], unfollowed := true, recurses := true, named := ["unicode/utf8.first", "unicode/utf8.acceptRanges", "internal/bytealg.MaxLen"], apart := false, laid := [("unicode/utf8.acceptRanges", laid_unicode_utf8_acceptRanges), ("unicode/utf8.first", laid_unicode_utf8_first)], narrowed := true }
def RankOrdersUptoSaid : Prop := rankOrdersUptoRow.holds Tryz.pinned (OpenSpec.upto rankOrdersSpec)

/-- 'cayleylaw09.RankLeast', WHERE WHAT IT READS IS OF BULK AT MOST 1048576: true; the input reads as it did. -/
def rankLeastUptoRow : OpenClaim := { program := "ytbejhkojdiadaaagreatdoor", sum := "e95084e97f65bb04358e4b6a8de1aabde4e1505dfeeb0b8c397a0302519323d4", func := "cayley/cayleylaw09.RankLeast", spec := "rankLeast", inPlace := ["internal/bytealg.IndexByteString", "internal/bytealg.IndexString"], unfollowed := true, recurses := true, named := ["unicode/utf8.first", "unicode/utf8.acceptRanges", "internal/bytealg.MaxLen"], apart := false, laid := [("unicode/utf8.acceptRanges", laid_unicode_utf8_acceptRanges), ("unicode/utf8.first", laid_unicode_utf8_first)], narrowed := true }
def RankLeastUptoSaid : Prop := rankLeastUptoRow.holds Tryz.pinned (OpenSpec.upto rankLeastSpec)

/-- 'cayleylaw09.RankCosets', WHERE WHAT IT READS IS OF BULK AT MOST 1048576: true; the input reads as it did. -/
def rankCosetsUptoRow : OpenClaim := { program := "ytbejhkojdiadaaagreatdoor", sum := "e95084e97f65bb04358e4b6a8de1aabde4e1505dfeeb0b8c397a0302519323d4", func := "cayley/cayleylaw09.RankCosets", spec := "rankCosets", inPlace := ["internal/bytealg.IndexByteString", "internal/bytealg.IndexString"], unfollowed := true, recurses := true, named := ["unicode/utf8.first", "unicode/utf8.acceptRanges", "internal/bytealg.MaxLen"], apart := false, laid := [("unicode/utf8.acceptRanges", laid_unicode_utf8_acceptRanges), ("unicode/utf8.first", laid_unicode_utf8_first)], narrowed := true }
def RankCosetsUptoSaid : Prop := rankCosetsUptoRow.holds Tryz.pinned (OpenSpec.upto rankCosetsSpec)

end Rows
end Go.Proofs.YtbejhkojdiadaaaGreatDoor
