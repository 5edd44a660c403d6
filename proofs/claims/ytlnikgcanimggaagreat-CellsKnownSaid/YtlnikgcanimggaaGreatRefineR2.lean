/- The reference's Refine. -/
import Derived.Test.YtlnikgcanimggaaGreatRefineR
set_option linter.unusedSimpArgs false
set_option linter.unusedVariables false
namespace Go.Proofs.YtlnikgcanimggaaGreat
open Go.RowKit Plain

theorem Rows.nil' (w : World) : Rows w none [] := ⟨[], Row.nil, rfl, fun i u xs h => by simp at h⟩
theorem Rows.rowlen {w : World} {a : Option Addr} {m : List (List Int)} (h : Rows w a m) {k : Nat} (hk : k < m.length) :
    ∃ g o b c, a = some ⟨g, o, none⟩ ∧ w.cell? ⟨g, o + k, none⟩ = some (.slice b (m[k]?.getD []).length c) ∧ (m[k]?.getD []).length ≤ 9223372036854775807 := by
  obtain ⟨g, o, b, c, e, _, h1, h2⟩ := h.at_ hk
  exact ⟨g, o, b, c, e, h1, h2.len⟩

end Go.Proofs.YtlnikgcanimggaaGreat
