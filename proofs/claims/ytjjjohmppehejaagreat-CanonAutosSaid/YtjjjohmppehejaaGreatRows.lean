/-
  No cell of these rows narrows 'for every input' (looked for: loops, veiled, ifaces, maps, wideKeys, modest, calm, conditions, laid).
  DERIVED. THE GIVEN ROWS OF THIS SEAT. 5 by the template 'for every input the law returns true; each argument reads behind the call as it read before'; 0 by the template 'total and deterministic' (their statements: YtjjjohmppehejaaGreatTotals.lean).
  GIVEN WITH THE SEED: the statements are not yours to turn. If you find one false, say at which input.
  Laid BY PROGRAM, IN A SANDBOX (cutbox-rows.mjs): the forced cells as the released guide's own fill.sh prints them over the translation 3c5b0d2e2cd0b87a… (all of the seat's roots in one cut). By AI agents, Wed Nov 11 2026. No macro, syntax, notation, axiom, sorry.
-/
import Derived.Test.YtjjjohmppehejaaGreatChecked
import GoSem.Claim
import GoSem.ClaimJoined
import GoSem.ClaimMapViews
import Derived.JoinedTies
import Derived.KernelRfl
namespace Go.Proofs.YtjjjohmppehejaaGreat
/- THE CELL 'sum', in the pinned program and in every row, IS THE sha256 OF THE DUMP (.gsa) THAT YtjjjohmppehejaaGreatProg.lean LOADS. Nothing in Lean hashes anything: it is a label: what it is worth is what the hold of that sum in a sandbox is worth. -/
noncomputable def Tryz.pinned : Pinned := { name := "ytjjjohmppehejaagreat", sum := "3c5b0d2e2cd0b87a54d8573acea8d02cddb6aca533a164b27aad8480e12af857", checked := Tryz.checked }
namespace Rows
def none {H : Type} : Left H := { results := [], args := [] }

/-- 'cayleylaw32.CanonGroups': WHATEVER THE INPUT: true; the input reads as it did. -/
def canonGroupsSpec : ChangeSpec := { name := "canonGroups", fn := fun _ => fun
  | [d] => { results := [.lit (.bool true)], args := [d] }
  | _ => none }
def canonGroupsRow : OpenClaim := { program := "ytjjjohmppehejaagreat", sum := "3c5b0d2e2cd0b87a54d8573acea8d02cddb6aca533a164b27aad8480e12af857", func := "cayley/cayleylaw32.CanonGroups", spec := "canonGroups", unfollowed := true, recurses := true, apart := false }
def CanonGroupsSaid : Prop := canonGroupsRow.holds Tryz.pinned (OpenSpec.ofChange canonGroupsSpec)

/-- ITS FALSE NEIGHBOUR: 'it returns false'. Refute it at one input. -/
def canonGroupsWrong : ChangeSpec := { name := "canonGroups", fn := fun _ => fun
  | [d] => { results := [.lit (.bool false)], args := [d] }
  | _ => none }
def CanonGroupsWrongFalsely : Prop := canonGroupsRow.holds Tryz.pinned (OpenSpec.ofChange canonGroupsWrong)

/-- 'cayleylaw32.CanonAutos': WHATEVER THE INPUT: true; the input reads as it did. -/
def canonAutosSpec : ChangeSpec := { name := "canonAutos", fn := fun _ => fun
  | [d1, d2] => { results := [.lit (.bool true)], args := [d1, d2] }
  | _ => none }
def canonAutosRow : OpenClaim := { program := "ytjjjohmppehejaagreat", sum := "3c5b0d2e2cd0b87a54d8573acea8d02cddb6aca533a164b27aad8480e12af857", func := "cayley/cayleylaw32.CanonAutos", spec := "canonAutos", unfollowed := true, recurses := true, apart := false }
def CanonAutosSaid : Prop := canonAutosRow.holds Tryz.pinned (OpenSpec.ofChange canonAutosSpec)

/-- ITS FALSE NEIGHBOUR: 'it returns false'. Refute it at one input. -/
def canonAutosWrong : ChangeSpec := { name := "canonAutos", fn := fun _ => fun
  | [d1, d2] => { results := [.lit (.bool false)], args := [d1, d2] }
  | _ => none }
def CanonAutosWrongFalsely : Prop := canonAutosRow.holds Tryz.pinned (OpenSpec.ofChange canonAutosWrong)

/-- 'cayleylaw32.CanonMaps': WHATEVER THE INPUT: true; the input reads as it did. -/
def canonMapsSpec : ChangeSpec := { name := "canonMaps", fn := fun _ => fun
  | [d1, d2] => { results := [.lit (.bool true)], args := [d1, d2] }
  | _ => none }
def canonMapsRow : OpenClaim := { program := "ytjjjohmppehejaagreat", sum := "3c5b0d2e2cd0b87a54d8573acea8d02cddb6aca533a164b27aad8480e12af857", func := "cayley/cayleylaw32.CanonMaps", spec := "canonMaps", unfollowed := true, recurses := true, apart := false }
def CanonMapsSaid : Prop := canonMapsRow.holds Tryz.pinned (OpenSpec.ofChange canonMapsSpec)

/-- ITS FALSE NEIGHBOUR: 'it returns false'. Refute it at one input. -/
def canonMapsWrong : ChangeSpec := { name := "canonMaps", fn := fun _ => fun
  | [d1, d2] => { results := [.lit (.bool false)], args := [d1, d2] }
  | _ => none }
def CanonMapsWrongFalsely : Prop := canonMapsRow.holds Tryz.pinned (OpenSpec.ofChange canonMapsWrong)

/-- 'cayleylaw32.CanonApart': WHATEVER THE INPUT: true; the input reads as it did. -/
def canonApartSpec : ChangeSpec := { name := "canonApart", fn := fun _ => fun
  | [d1, d2, d3] => { results := [.lit (.bool true)], args := [d1, d2, d3] }
  | _ => none }
def canonApartRow : OpenClaim := { program := "ytjjjohmppehejaagreat", sum := "3c5b0d2e2cd0b87a54d8573acea8d02cddb6aca533a164b27aad8480e12af857", func := "cayley/cayleylaw32.CanonApart", spec := "canonApart", unfollowed := true, recurses := true, apart := false }
def CanonApartSaid : Prop := canonApartRow.holds Tryz.pinned (OpenSpec.ofChange canonApartSpec)

/-- ITS FALSE NEIGHBOUR: 'it returns false'. Refute it at one input. -/
def canonApartWrong : ChangeSpec := { name := "canonApart", fn := fun _ => fun
  | [d1, d2, d3] => { results := [.lit (.bool false)], args := [d1, d2, d3] }
  | _ => none }
def CanonApartWrongFalsely : Prop := canonApartRow.holds Tryz.pinned (OpenSpec.ofChange canonApartWrong)

/-- 'cayleylaw32.CanonKnown': WHATEVER THE INPUT: true; the input reads as it did. -/
def canonKnownSpec : ChangeSpec := { name := "canonKnown", fn := fun _ => fun
  | [] => { results := [.lit (.bool true)], args := [] }
  | _ => none }
def canonKnownRow : OpenClaim := { program := "ytjjjohmppehejaagreat", sum := "3c5b0d2e2cd0b87a54d8573acea8d02cddb6aca533a164b27aad8480e12af857", func := "cayley/cayleylaw32.CanonKnown", spec := "canonKnown", unfollowed := true, recurses := true, apart := false }
def CanonKnownSaid : Prop := canonKnownRow.holds Tryz.pinned (OpenSpec.ofChange canonKnownSpec)

/-- ITS FALSE NEIGHBOUR: 'it returns false'. Refute it at one input. -/
def canonKnownWrong : ChangeSpec := { name := "canonKnown", fn := fun _ => fun
  | [] => { results := [.lit (.bool false)], args := [] }
  | _ => none }
def CanonKnownWrongFalsely : Prop := canonKnownRow.holds Tryz.pinned (OpenSpec.ofChange canonKnownWrong)

/- THE SECOND FORM. 'bulk': how many values and letters a reading holds, each counted each time it is reached (what is shared counts as often as it is met; a slice's spare places count too). A statement '..UptoSaid' is the law's where the arguments, and the package variables that the reading takes, are together of bulk at most 1048576: NARROWER than '..Said'. Prove '..Said' where nothing that the law and all that it calls make is longer than what came in: it says more and counts as full. Else prove '..UptoSaid'. A law counts once. -/
mutual
def uptoBulk {H : Type} : DataW H → Nat
  | .lit (.string bytes) => bytes.length + 1
  | .lit _ => 1
  | .nil => 1
  | .ptr d => uptoBulk d + 1
  | .slice elems spare => uptoBulkAll elems + uptoBulkAll spare + 1
  | .agg parts => uptoBulkAll parts + 1
  | .iface _ d => uptoBulk d + 1
  | .map entries => uptoBulkEntries entries + 1
  | .held _ => 1
def uptoBulkAll {H : Type} : List (DataW H) → Nat
  | [] => 0
  | d :: r => uptoBulk d + uptoBulkAll r
def uptoBulkEntries {H : Type} : List (Lit × DataW H) → Nat
  | [] => 0
  | x :: r => uptoBulkEntry x + uptoBulkEntries r
def uptoBulkEntry {H : Type} : Lit × DataW H → Nat
  | (.string bytes, d) => bytes.length + uptoBulk d + 1
  | (_, d) => uptoBulk d + 1
 end
def uptoSmall : (H : Type) → List (DataW H) → Bool := fun _ ds => decide (uptoBulkAll ds ≤ 1048576)
def OpenSpec.upto (s : _root_.Go.ChangeSpec) : _root_.Go.OpenSpec := { _root_.Go.OpenSpec.ofChange s with cond := some uptoSmall }

/-- 'cayleylaw32.CanonGroups', WHERE WHAT IT READS IS OF BULK AT MOST 1048576: true; the input reads as it did. -/
def canonGroupsUptoRow : OpenClaim := { program := "ytjjjohmppehejaagreat", sum := "3c5b0d2e2cd0b87a54d8573acea8d02cddb6aca533a164b27aad8480e12af857", func := "cayley/cayleylaw32.CanonGroups", spec := "canonGroups", unfollowed := true, recurses := true, apart := false, narrowed := true }
def CanonGroupsUptoSaid : Prop := canonGroupsUptoRow.holds Tryz.pinned (OpenSpec.upto canonGroupsSpec)

/-- 'cayleylaw32.CanonAutos', WHERE WHAT IT READS IS OF BULK AT MOST 1048576: true; the input reads as it did. -/
def canonAutosUptoRow : OpenClaim := { program := "ytjjjohmppehejaagreat", sum := "3c5b0d2e2cd0b87a54d8573acea8d02cddb6aca533a164b27aad8480e12af857", func := "cayley/cayleylaw32.CanonAutos", spec := "canonAutos", unfollowed := true, recurses := true, apart := false, narrowed := true }
def CanonAutosUptoSaid : Prop := canonAutosUptoRow.holds Tryz.pinned (OpenSpec.upto canonAutosSpec)

/-- 'cayleylaw32.CanonMaps', WHERE WHAT IT READS IS OF BULK AT MOST 1048576: true; the input reads as it did. -/
def canonMapsUptoRow : OpenClaim := { program := "ytjjjohmppehejaagreat", sum := "3c5b0d2e2cd0b87a54d8573acea8d02cddb6aca533a164b27aad8480e12af857", func := "cayley/cayleylaw32.CanonMaps", spec := "canonMaps", unfollowed := true, recurses := true, apart := false, narrowed := true }
def CanonMapsUptoSaid : Prop := canonMapsUptoRow.holds Tryz.pinned (OpenSpec.upto canonMapsSpec)

/-- 'cayleylaw32.CanonApart', WHERE WHAT IT READS IS OF BULK AT MOST 1048576: true; the input reads as it did. -/
def canonApartUptoRow : OpenClaim := { program := "ytjjjohmppehejaagreat", sum := "3c5b0d2e2cd0b87a54d8573acea8d02cddb6aca533a164b27aad8480e12af857", func := "cayley/cayleylaw32.CanonApart", spec := "canonApart", unfollowed := true, recurses := true, apart := false, narrowed := true }
def CanonApartUptoSaid : Prop := canonApartUptoRow.holds Tryz.pinned (OpenSpec.upto canonApartSpec)

/-- 'cayleylaw32.CanonKnown', WHERE WHAT IT READS IS OF BULK AT MOST 1048576: true; the input reads as it did. -/
def canonKnownUptoRow : OpenClaim := { program := "ytjjjohmppehejaagreat", sum := "3c5b0d2e2cd0b87a54d8573acea8d02cddb6aca533a164b27aad8480e12af857", func := "cayley/cayleylaw32.CanonKnown", spec := "canonKnown", unfollowed := true, recurses := true, apart := false, narrowed := true }
def CanonKnownUptoSaid : Prop := canonKnownUptoRow.holds Tryz.pinned (OpenSpec.upto canonKnownSpec)

end Rows
end Go.Proofs.YtjjjohmppehejaaGreat
