/- closure's builder: from and with. -/
import Derived.Test.YtbejhkojdiadaaaGreatDoorRk01
import Derived.Test.YtbejhkojdiadaaaGreatDoorRk02
import Derived.Test.YtbejhkojdiadaaaGreatDoorRk03
import Derived.Test.YtbejhkojdiadaaaGreatDoorRk04
import Derived.Test.YtbejhkojdiadaaaGreatDoorRk05
import Derived.Test.YtbejhkojdiadaaaGreatDoorRk13
import Derived.Test.YtbejhkojdiadaaaGreatDoorProg
import Derived.WalkKit
import Derived.WalkSpells
import Derived.BigQuiet
import Derived.Deep.QuietTactic
import Derived.Deep.LoopGhost
import Derived.Lib.Hide
import Derived.Maps.AppendAt
import Derived.Deep.AppendLies
import Derived.StillTailTactics
import Derived.Laws.CopyOwn
import Derived.Deep.OwnRows
import Derived.Deep.DeepCutAuto
import Derived.Laws.Cover3
import Derived.Deep.RegionHeld3
import Derived.RangeFuncRecord
import Derived.Lib.SlicesSearch
import Derived.RangeFuncBox
import Derived.RangeFuncLeaves
import Derived.RangeFuncWrites
import Derived.RangeFuncFrom
import Derived.Shelf.Abstract
import Derived.OwnWalkIn
import Derived.TacticsInMore
import Derived.LoopNIn
import Derived.LoopIn
import Derived.Shelf.GgSortFunc.Insertion
import Derived.Shelf.SlIter.Collect
import Derived.Shelf.Sort.Plain
import Derived.Deep.RegionLaw
import Derived.ControlIn
set_option linter.unusedSimpArgs false
set_option linter.unusedVariables false
namespace Go.Proofs.YtbejhkojdiadaaaGreatDoor
open Go.RowKit PlainPm
def PmsN {n : Nat} (w : World) (M : List Nat) (v : Value) (l : List (Pm n)) : Prop :=
  ∃ a c vs, v = .slice a l.length c ∧ (∀ W', Kept w W' M → Row W' a vs) ∧ PmL w M vs l
theorem BoolIs.true_ {e : Ending} {Q : Prop} (h : BoolIs e Q) (q : Q) : e = .returned (.bool true) := by
  obtain ⟨B, rfl, hB⟩ := h; rw [hB.2 q]
theorem BoolIs.false_ {e : Ending} {Q : Prop} (h : BoolIs e Q) (q : ¬ Q) : e = .returned (.bool false) := by
  obtain ⟨B, rfl, hB⟩ := h
  cases B with
  | false => rfl
  | true => exact absurd (hB.1 rfl) q
end Go.Proofs.YtbejhkojdiadaaaGreatDoor
