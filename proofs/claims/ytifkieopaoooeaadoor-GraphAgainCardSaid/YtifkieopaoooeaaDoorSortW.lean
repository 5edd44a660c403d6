/- The world behind a sort of a row of the call's own. -/
import Derived.Test.YtifkieopaoooeaaDoorSorts
import Derived.Test.YtifkieopaoooeaaDoorSmall
set_option linter.unusedSimpArgs false
set_option linter.unusedVariables false
namespace Go.Proofs.YtifkieopaoooeaaDoor
open Go.RowKit Go.Sort

theorem heap_sortWorld {α : Type} [Inhabited α] (enc : α → Value) (w : World) (blk off m : Nat) (d : Array α) (os : Array Obj) (k : Nat) (hk : k < w.heap.size) :
    (sortWorld enc w blk off m d os).heap[k]? = (w.heap.modify blk (onCells (putCells enc off d)))[k]? := by
  show ((w.heap.modify blk (onCells (putCells enc off d))) ++ os)[k]? = _
  rw [Array.getElem?_append, if_pos (by simpa using hk)]
theorem grown_sortWorld {α : Type} [Inhabited α] (enc : α → Value) (w : World) (blk off m : Nat) (d : Array α) (os : Array Obj) : w.grownBy (sortWorld enc w blk off m d os) (some blk) := by
  refine ⟨rfl, rfl, rfl, ?_, fun k hk hne => ?_⟩
  · show w.heap.size ≤ ((w.heap.modify blk (onCells (putCells enc off d))) ++ os).size
    simp
  · rw [heap_sortWorld enc w blk off m d os k hk, Array.getElem?_modify, if_neg (by rintro rfl; exact hne rfl)]
theorem own_sortWorld {α : Type} [Inhabited α] (enc : α → Value) {w : World} {D blk n cap : Nat} {e : TypeId} {xs : List Value} (h : Own w D (.slice (some ⟨blk, 0, none⟩) n cap) e xs) (m : Nat) (os : Array Obj) (d : Array α) (hd : d.size = n) :
    Own (sortWorld enc w blk 0 m d os) D (.slice (some ⟨blk, 0, none⟩) n cap) e (d.toList.map enc) := by
  have hl := h.lit
  rcases h.2 with ⟨h1, _⟩ | ⟨g, cap', cur, h1, hB, hh, hnc, hcm, hcs, htk⟩
  · cases h1
  · cases h1
    have hblk : blk < w.heap.size := by
      rcases Nat.lt_or_ge blk w.heap.size with hl | hl
      · exact hl
      · rw [Array.getElem?_eq_none hl] at hh; cases hh
    have hlen : (d.toList.map enc).length = xs.length := by simp [hd]
    rw [Nat.mul_one] at hcs htk
    refine ⟨by rw [Nat.mul_one], .inr ⟨blk, cap, putCells enc 0 d cur, by rw [hlen], hB, ?_, by omega, hcm, by simp [putCells, hcs], ?_⟩⟩
    · rw [heap_sortWorld enc w blk 0 m d os blk hblk, Array.getElem?_modify, if_pos rfl, hh]; rfl
    · rw [Nat.mul_one]
      apply List.ext_getElem?
      intro j
      rw [List.getElem?_take, hlen]
      by_cases hj : j < xs.length
      · have hjd : j < d.size := by omega
        have hjc : j < cur.size := by omega
        rw [if_pos hj, List.getElem?_map]
        simp only [putCells, Array.getElem?_toList, Array.getElem?_mapIdx]
        rw [Array.getElem?_eq_getElem hjc, Array.getElem?_eq_getElem hjd]
        simp [hjd]
      · rw [if_neg hj, List.getElem?_eq_none (by rw [hlen]; omega)]
theorem holds_own {α : Type} [Inhabited α] (enc : α → Value) {w : World} {D blk cap n : Nat} {e : TypeId} (d : Array α) (h : Own w D (.slice (some ⟨blk, 0, none⟩) n cap) e (d.toList.map enc)) : Holds enc w blk 0 d := by
  intro j hj
  rw [Nat.zero_add]
  refine ⟨?_, h.frozen j⟩
  rw [h.cell j (by simpa using hj), List.getElem?_map, Array.getElem?_toList, Array.getElem?_eq_getElem hj]
  simp [hj]
end Go.Proofs.YtifkieopaoooeaaDoor
