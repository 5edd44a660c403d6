/- The reference's key of a point. -/
import Derived.Test.YtlnikgcanimggaaGreatLabels
import Derived.Test.YtlnikgcanimggaaGreatPlainKey
set_option linter.unusedSimpArgs false
set_option linter.unusedVariables false
namespace Go.Proofs.YtlnikgcanimggaaGreat
open Go.RowKit Plain

/-- A matrix' entry, read. -/
theorem Rows.entry {w : World} {a : Option Addr} {m : List (List Int)} {n : Nat} (h : Rows w a m) (hm : IsMat n m) {i k : Nat} (hi : i < n) (hk : k < n) :
    ∃ g o g2 o2 c, a = some ⟨g, o, none⟩ ∧ w.cell? ⟨g, o + i, none⟩ = some (.slice (some ⟨g2, o2, none⟩) n c) ∧ w.cell? ⟨g2, o2 + k, none⟩ = some (.int .i64 (mat m i k)) := by
  obtain ⟨g, o, b, c, rfl, _, hc, hr⟩ := h.at_ (k := i) (by rw [hm.1]; exact hi)
  have hl := hm.row hi
  rw [hl] at hc
  obtain ⟨g2, o2, rfl, _, hc2⟩ := hr.at_ (k := k) (by rw [hl]; exact hk)
  exact ⟨g, o, g2, o2, c, rfl, hc, hc2⟩

end Go.Proofs.YtlnikgcanimggaaGreat
