/- large: some answer, and the world stands. -/
import Derived.Test.YtlnikgcanimggaaGreatSame
import Derived.Test.YtlnikgcanimggaaGreatProg
set_option linter.unusedSimpArgs false
set_option linter.unusedVariables false
namespace Go.Proofs.YtlnikgcanimggaaGreat
open Go.RowKit

/-- Some bool is answered. -/
def AnyBool (e : Ending) : Prop := ∃ z, e = .returned (.bool z)
theorem Rows.lens {w : World} {a : Option Addr} {xss : List (List Int)} (h : Rows w a xss) {k : Nat} (hk : k < xss.length) :
    ∃ g o b n c, a = some ⟨g, o, none⟩ ∧ w.cell? ⟨g, o + k, none⟩ = some (.slice b n c) := by
  obtain ⟨g, o, b, c, e, _, h1, _⟩ := h.at_ hk
  exact ⟨g, o, b, _, c, e, h1⟩

end Go.Proofs.YtlnikgcanimggaaGreat
