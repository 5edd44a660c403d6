/- Small words for laws that call one function after another. -/
import Derived.Test.YtjjjohmppehejaaGreatAwake
import Derived.Test.YtjjjohmppehejaaGreatSameG
set_option linter.unusedSimpArgs false
set_option linter.unusedVariables false
namespace Go.Proofs.YtjjjohmppehejaaGreat
open Go.RowKit Plain PlainG
theorem bchain {w W1 w2 : World} {R : Nat} (h : Below R w W1) (hR : w.heap.size = R) (k : Below W1.heap.size W1 w2) : Below R w w2 := h.trans (k.mono (by rw [← hR]; exact h.size))
theorem below_two {w W1 w2 : World} (h : Below w.heap.size w W1) (k : Below W1.heap.size W1 w2) : Below w.heap.size w w2 := h.trans (k.mono h.size)
/-- A graph's box. -/
def Bx (w : World) (X : Nat) (u0 u1 u2 : Value) : Prop := w.cell? ⟨X, 0, none⟩ = some u0 ∧ w.cell? ⟨X, 1, none⟩ = some u1 ∧ w.cell? ⟨X, 2, none⟩ = some u2
theorem Bx.below {w w' : World} {X : Nat} {u0 u1 u2 : Value} (h : Bx w X u0 u1 u2) (k : Below w.heap.size w w') : Bx w' X u0 u1 u2 :=
  ⟨(k.cell (p := ⟨X, 0, none⟩) (block_lt_of_cell h.1)).trans h.1, (k.cell (p := ⟨X, 1, none⟩) (block_lt_of_cell h.2.1)).trans h.2.1, (k.cell (p := ⟨X, 2, none⟩) (block_lt_of_cell h.2.2)).trans h.2.2⟩
theorem Bx.new (w : World) (u0 u1 u2 : Value) : Bx (w.alloc (.cells #[u0, u1, u2] 25)) w.heap.size u0 u1 u2 := ⟨by simp, by simp, by simp⟩
theorem below_drew1 (w : World) (q : Nat) : Below w.heap.size w (w.drewN q) := below_self_drewN w q
end Go.Proofs.YtjjjohmppehejaaGreat
