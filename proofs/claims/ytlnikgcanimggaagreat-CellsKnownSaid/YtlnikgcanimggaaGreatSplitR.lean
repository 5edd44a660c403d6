/- The reference's Split, and Single. -/
import Derived.Test.YtlnikgcanimggaaGreatSplit2
set_option linter.unusedSimpArgs false
set_option linter.unusedVariables false
namespace Go.Proofs.YtlnikgcanimggaaGreat
open Go.RowKit Plain

theorem Marks.kept {w w' : World} {B : Nat} {s : List Int} (h : Marks w B s) {row : Option Nat} (hg : w.grownBy w' row) (hne : ∀ g, row = some g → B < g) : Marks w' B s := by
  obtain ⟨cs, hb, hs, hc⟩ := h
  have hB : B < w.heap.size := by
    rcases Nat.lt_or_ge B w.heap.size with h | h
    · exact h
    · rw [Array.getElem?_eq_none h] at hb; cases hb
  exact ⟨cs, (hg.block B hB (fun e => by have := hne B e.symm; omega)).trans hb, hs, hc⟩
theorem Marks.lt {w : World} {B : Nat} {s : List Int} (h : Marks w B s) : B < w.heap.size := by
  obtain ⟨cs, hb, _, _⟩ := h
  rcases Nat.lt_or_ge B w.heap.size with h | h
  · exact h
  · rw [Array.getElem?_eq_none h] at hb; cases hb

end Go.Proofs.YtlnikgcanimggaaGreat
