/- The reference's sifting, least elements and elements by rank. -/
import Derived.Test.YtbejhkojdiadaaaGreatCo01
import Derived.Test.YtbejhkojdiadaaaGreatCo02
import Derived.Test.YtbejhkojdiadaaaGreatCo03
import Derived.Test.YtbejhkojdiadaaaGreatCo04
import Derived.Test.YtbejhkojdiadaaaGreatCo05
import Derived.Test.YtbejhkojdiadaaaGreatProg
import Derived.WalkKit
import Derived.WalkSpells
import Derived.BigQuiet
import Derived.Deep.QuietTactic
import Derived.Deep.LoopGhost
import Derived.Lib.Hide
import Derived.Maps.AppendAt
import Derived.Deep.AppendLies
import Derived.StillTailTactics
import Derived.Laws.CopyOwn
import Derived.Deep.OwnRows
import Derived.Deep.DeepCutAuto
import Derived.Laws.Cover3
import Derived.Deep.RegionHeld3
import Derived.RangeFuncRecord
import Derived.Lib.SlicesSearch
import Derived.RangeFuncBox
import Derived.RangeFuncLeaves
import Derived.RangeFuncWrites
import Derived.RangeFuncFrom
import Derived.Shelf.Abstract
import Derived.OwnWalkIn
import Derived.TacticsInMore
import Derived.LoopNIn
import Derived.LoopIn
import Derived.Shelf.GgSortFunc.Insertion
import Derived.Shelf.SlIter.Collect
import Derived.Shelf.Sort.Plain
import Derived.Deep.RegionLaw
set_option linter.unusedSimpArgs false
set_option linter.unusedVariables false
namespace Go.Proofs.YtbejhkojdiadaaaGreat
open Go.RowKit PlainPm
theorem LvW.at_ {n ab ao bb bo : Nat} {w w' : World} {O : Nat → List Nat} {R : Nat → Nat → Pm n} (h : LvW n w O R ab ao bb bo) (hb : Below w.heap.size w w') {i : Nat} (hi : i < n) :
    ∃ go oo oc gr ro rc, w'.cell? ⟨ab, ao + i, none⟩ = some (.slice (some ⟨go, oo, none⟩) (O i).length oc) ∧ w'.cell? ⟨bb, bo + i, none⟩ = some (.slice (some ⟨gr, ro, none⟩) (O i).length rc) ∧
      (∀ V, Below w.heap.size w V → ∀ (k q : Nat), (O i)[k]? = some q → V.cell? ⟨go, oo + k, none⟩ = some (.int .i64 (q : Int)) ∧ ∃ u, V.cell? ⟨gr, ro + k, none⟩ = some u ∧ PmV V [] u (R i q)) := by
  obtain ⟨vo, h1, go, oo, oc, rfl, h2, _, _, h3⟩ := h.orb i hi
  obtain ⟨vr, k1, gr, ro, rc, rfl, k2, _, _, k3⟩ := h.rep i hi
  rw [List.length_map] at k1
  refine ⟨go, oo, oc, gr, ro, rc, (hb.cell (block_lt_of_cell h1)).trans h1, (hb.cell (block_lt_of_cell k1)).trans k1, fun V hV k q hq => ⟨(hV.cell (p := ⟨go, oo + k, none⟩) h2).trans (h3 k q hq), ?_⟩⟩
  obtain ⟨u, k4, k5⟩ := k3 k (R i q) (by rw [List.getElem?_map, hq]; rfl)
  exact ⟨u, (hV.cell (p := ⟨gr, ro + k, none⟩) k2).trans k4, k5.below hV⟩
end Go.Proofs.YtbejhkojdiadaaaGreat
