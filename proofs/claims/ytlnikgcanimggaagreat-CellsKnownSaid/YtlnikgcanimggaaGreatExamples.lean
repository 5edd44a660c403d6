/- The chapter's examples, reckoned. -/
import Derived.Test.YtlnikgcanimggaaGreatMeet
import Derived.Test.YtlnikgcanimggaaGreatLarge
set_option linter.unusedSimpArgs false
set_option linter.unusedVariables false
namespace Go.Proofs.YtlnikgcanimggaaGreat
open Go.RowKit Plain

theorem part_is {R : Nat → List Int} {n : Nat} {P : List (List Nat)} (h : IsPart R (· < n) P) : P.map (·.map Int.ofNat) = collect ((List.range n).map R) := by
  obtain ⟨Q, h1, h2⟩ := collect_part ((List.range n).map R)
  rw [List.length_map, List.length_range] at h2
  have h3 : IsPart R (· < n) Q := h2.congr fun i hi => by simp [List.getElem?_map, List.getElem?_range, hi]
  rw [h1, IsPart.unique h h3]
def pathM : List (List Int) := [[0, 1, 0], [1, 0, 1], [0, 1, 0]]
theorem ex_refine : refineA 3 [[0, 1, 2]] pathM = ([[0, 2], [1]], 0) := by
  have h : refineA ((3 : Nat) : Int) [[0, 1, 2]] pathM = (refineL 3 [[0, 1, 2]] pathM, 0) := refineA_ok (n := 3) (by decide) ⟨rfl, by decide⟩
  exact h.trans (by decide)
theorem ex_meet {P : List (List Nat)} (h : IsPart (fun x => [(labelsL 4 [[0, 1, 2], [3]])[x]?.getD 0, (labelsL 4 [[1, 3], [0, 2]])[x]?.getD 0]) (· < 4) P) : P.map (·.map Int.ofNat) = [[1], [0, 2], [3]] := by
  rw [part_is h]; decide
theorem ex_of {P : List (List Nat)} (h : IsPart (fun x => [([7, -1, 7] : List Int)[x]?.getD 0]) (· < 3) P) : P.map (·.map Int.ofNat) = [[1], [0, 2]] := by
  rw [part_is h]; decide
theorem ex_chk1 : chk (4 : Nat) [[0, 1, 2], [3]] = 0 := by decide
theorem ex_chk2 : chk (4 : Nat) [[1, 3], [0, 2]] = 0 := by decide

/-- A row that is written out. -/
theorem lit_row (w : World) (xs : List Int) (h : xs.length ≤ 1000) : IsInts (w.alloc (.cells (ints xs).toArray 3)) (.slice (some ⟨w.heap.size, 0, none⟩) xs.length xs.length) xs := by
  have h1 := Own.new (w := w) (B := 0) 3 (ints xs) (Nat.zero_le _) (by rw [ints_len]; unfold maxLen; omega)
  have h2 := h1.ints (by unfold maxLen; omega)
  rw [ints_len] at h2
  exact h2
theorem IsInts.alloc {w : World} {v : Value} {xs : List Int} (h : IsInts w v xs) (o : Obj) : IsInts (w.alloc o) v xs := h.below ((Below.refl _ _).alloc (Nat.le_refl _) _)
theorem lit_rows (w : World) (vs : List Value) (xss : List (List Int)) (hl : vs.length = xss.length) (hm : vs.length ≤ 1000) (h : ∀ (i : Nat) u xs, vs[i]? = some u → xss[i]? = some xs → IsInts w u xs) :
    Rows (w.alloc (.cells vs.toArray 24)) (some ⟨w.heap.size, 0, none⟩) xss := by
  have h1 := Own.new (w := w) (B := 0) 24 vs (Nat.zero_le _) (by unfold maxLen; omega)
  obtain ⟨a, c, e, hr⟩ := h1.row (by unfold maxLen; omega)
  cases e
  exact ⟨vs, hr, hl, fun i u xs hu hx => (h i u xs hu hx).alloc _⟩
end Go.Proofs.YtlnikgcanimggaaGreat
