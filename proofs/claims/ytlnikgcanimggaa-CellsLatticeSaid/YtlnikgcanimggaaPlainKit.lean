/- Plain words for the kit's partitions, matrices and renamings. -/
import Derived.Test.YtlnikgcanimggaaKitA
set_option linter.unusedSimpArgs false
set_option linter.unusedVariables false
namespace Go.Proofs.Ytlnikgcanimggaa
/-- The points up to j whose label is k. -/
def selTo (f : Nat → Int) (k : Nat) : Nat → List Nat
  | 0 => []
  | j + 1 => if f j = k then selTo f k j ++ [j] else selTo f k j
/-- The cells of the labels below k, without the empty ones. -/
def cellsTo (f : Nat → Int) (n : Nat) : Nat → List (List Nat)
  | 0 => []
  | k + 1 => if selTo f k n = [] then cellsTo f n k else cellsTo f n k ++ [selTo f k n]
/-- The partition that numbers select. -/
def partN (n : Nat) (l : List Int) : List (List Nat) := cellsTo (fun i => bel (num l i) (max 1 n)) n n
theorem selTo_len (f : Nat → Int) (k : Nat) : ∀ j, (selTo f k j).length ≤ j
  | 0 => Nat.le_refl _
  | j + 1 => by
    have := selTo_len f k j
    rw [selTo]; split
    · simp; omega
    · omega
theorem cellsTo_len (f : Nat → Int) (n : Nat) : ∀ k, (cellsTo f n k).length ≤ k
  | 0 => Nat.le_refl _
  | k + 1 => by
    have := cellsTo_len f n k
    rw [cellsTo]; split
    · omega
    · simp; omega
theorem cellsTo_mem_len (f : Nat → Int) (n : Nat) : ∀ k, ∀ x ∈ cellsTo f n k, x.length ≤ n
  | 0, x, h => by simp [cellsTo] at h
  | k + 1, x, h => by
    rw [cellsTo] at h
    split at h
    · exact cellsTo_mem_len f n k x h
    · rcases List.mem_append.1 h with h | h
      · exact cellsTo_mem_len f n k x h
      · rw [List.mem_singleton.1 h]; exact selTo_len _ _ _
end Go.Proofs.Ytlnikgcanimggaa
