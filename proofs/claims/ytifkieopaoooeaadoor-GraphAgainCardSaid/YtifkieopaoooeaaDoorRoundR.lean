/- The reference's labels of a partition. · The reference's key of a point. · The reference's rounds and its refining. · The reference's Refine. -/
import Derived.Test.YtifkieopaoooeaaDoorCheck
import Derived.Test.YtifkieopaoooeaaDoorCollect
import Derived.Test.YtifkieopaoooeaaDoorPlainLabels
import Derived.Test.YtifkieopaoooeaaDoorPlainKey
import Derived.Test.YtifkieopaoooeaaDoorPlainRound
set_option linter.unusedSimpArgs false
set_option linter.unusedVariables false
namespace Go.Proofs.YtifkieopaoooeaaDoor
open Go.RowKit Plain

end Go.Proofs.YtifkieopaoooeaaDoor

namespace Go.Proofs.YtifkieopaoooeaaDoor
open Go.RowKit Plain

/-- A matrix' entry, read. -/
theorem Rows.entry {w : World} {a : Option Addr} {m : List (List Int)} {n : Nat} (h : Rows w a m) (hm : IsMat n m) {i k : Nat} (hi : i < n) (hk : k < n) :
    ∃ g o g2 o2 c, a = some ⟨g, o, none⟩ ∧ w.cell? ⟨g, o + i, none⟩ = some (.slice (some ⟨g2, o2, none⟩) n c) ∧ w.cell? ⟨g2, o2 + k, none⟩ = some (.int .i64 (mat m i k)) := by
  obtain ⟨g, o, b, c, rfl, _, hc, hr⟩ := h.at_ (k := i) (by rw [hm.1]; exact hi)
  have hl := hm.row hi
  rw [hl] at hc
  obtain ⟨g2, o2, rfl, _, hc2⟩ := hr.at_ (k := k) (by rw [hl]; exact hk)
  exact ⟨g, o, g2, o2, c, rfl, hc, hc2⟩

end Go.Proofs.YtifkieopaoooeaaDoor

namespace Go.Proofs.YtifkieopaoooeaaDoor
open Go.RowKit Plain

end Go.Proofs.YtifkieopaoooeaaDoor

namespace Go.Proofs.YtifkieopaoooeaaDoor
open Go.RowKit Plain

theorem Rows.nil' (w : World) : Rows w none [] := ⟨[], Row.nil, rfl, fun i u xs h => by simp at h⟩
theorem Rows.rowlen {w : World} {a : Option Addr} {m : List (List Int)} (h : Rows w a m) {k : Nat} (hk : k < m.length) :
    ∃ g o b c, a = some ⟨g, o, none⟩ ∧ w.cell? ⟨g, o + k, none⟩ = some (.slice b (m[k]?.getD []).length c) ∧ (m[k]?.getD []).length ≤ 9223372036854775807 := by
  obtain ⟨g, o, b, c, e, _, h1, h2⟩ := h.at_ hk
  exact ⟨g, o, b, c, e, h1, h2.len⟩

end Go.Proofs.YtifkieopaoooeaaDoor
