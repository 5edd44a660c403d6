/- Make, the program's. · The graph of a matrix, the reference's. · Make, the reference's. -/
import Derived.Test.YtjjjohmppehejaaGreatBuilt
import Derived.Test.YtjjjohmppehejaaGreatPlainG
import Derived.Test.YtjjjohmppehejaaGreatMats
import Derived.Test.YtjjjohmppehejaaGreatRefP
set_option linter.unusedSimpArgs false
set_option linter.unusedVariables false
namespace Go.Proofs
theorem Tryz.info95 : (Tryz.prog.info? 95).map (fun i => (i.zero, i.size, i.bytes)) = some (some (.agg #[.int .i64 0, .int .i64 0]), 2, 16) := by kernel_rfl
end Go.Proofs
namespace Go.Proofs.YtjjjohmppehejaaGreat
open Go.RowKit Plain PlainG
/-- What Make gives. -/
def MakeRes (w : World) (r : Gr × Int) (e : Ending) (w' : World) : Prop :=
  ∃ a c b d, e = .returned (.tuple #[.agg #[.int .i64 r.1.n, .slice a r.1.es.length c, .slice b r.1.cs.length d], .int .i64 r.2]) ∧ Edg w' a r.1.es ∧ Ints w' b r.1.cs ∧ Below w.heap.size w w'
theorem cell_alloc_keep {W : World} {a : Addr} {v : Value} (o : Obj) (h : W.cell? a = some v) : (W.alloc o).cell? a = some v := by
  rw [← h]; exact World.cell?_alloc_some _ _ _ (by rw [h]; rfl)
theorem Edg.nil (w : World) : Edg w none [] := ⟨by simp, by simp⟩
theorem MakeRes.bad {w w' : World} {r : Gr × Int} {e : Int} (hr : r = (⟨0, [], []⟩, e)) (h : Below w.heap.size w w') : MakeRes w r (.returned (.tuple #[.agg #[.int .i64 0, .slice none 0 0, .slice none 0 0], .int .i64 e])) w' := by
  subst hr
  exact ⟨none, 0, none, 0, rfl, Edg.nil _, Row.nil, h⟩
end Go.Proofs.YtjjjohmppehejaaGreat

namespace Go.Proofs.YtjjjohmppehejaaGreat
open Go.RowKit Plain PlainG
/-- A matrix's adjacency. -/
def one (f : Nat → Nat → Int) (i k : Nat) : Bool := f i k == 1
end Go.Proofs.YtjjjohmppehejaaGreat

namespace Go.Proofs.YtjjjohmppehejaaGreat
open Go.RowKit Plain PlainG
theorem one_adjF (es : List E2) : one (adjF es) = adj es := by
  funext i k
  unfold one adjF
  cases adj es i k <;> rfl
end Go.Proofs.YtjjjohmppehejaaGreat
