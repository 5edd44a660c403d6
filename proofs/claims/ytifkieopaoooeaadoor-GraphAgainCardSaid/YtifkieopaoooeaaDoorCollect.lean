/- The reference's compare: lists, element by element. · The reference's collect gives the partition of equal rows. -/
import Derived.Test.YtifkieopaoooeaaDoorProg
import Derived.Test.YtifkieopaoooeaaDoorBase
import Derived.Test.YtifkieopaoooeaaDoorPlain
import Derived.Test.YtifkieopaoooeaaDoorPlainCollect
set_option linter.unusedSimpArgs false
set_option linter.unusedVariables false
namespace Go.Proofs.YtifkieopaoooeaaDoor
open Go.RowKit Plain

end Go.Proofs.YtifkieopaoooeaaDoor

namespace Go.Proofs.YtifkieopaoooeaaDoor
open Go.RowKit Plain

theorem Tryd.info3 : (Tryd.prog.info? 3).map (fun i => (i.zero, i.size, i.bytes)) = some (some (.int .i64 0), 1, 8) := by kernel_rfl
theorem Tryd.info4 : (Tryd.prog.info? 4).map (fun i => (i.zero, i.size, i.bytes)) = some (some (.bool false), 1, 1) := by kernel_rfl
theorem Tryd.info22 : (Tryd.prog.info? 22).map (fun i => (i.zero, i.size, i.bytes)) = some (some (.slice none 0 0), 1, 24) := by kernel_rfl

def encLeast : Option Nat → Value
  | none => .int .i64 (-1)
  | some l => .int .i64 l
def nums (xs : List Nat) : List Value := xs.map fun (k : Nat) => Value.int .i64 (k : Int)
def marks (td : Nat → Bool) (n : Nat) : List Value := (List.range n).map fun k => .bool (!td k)
theorem marks_get {td : Nat → Bool} {n k : Nat} (h : k < n) : (marks td n)[k]? = some (.bool (!td k)) := by
  simp [marks, List.getElem?_map, List.getElem?_range, h]
theorem marks_len (td : Nat → Bool) (n : Nat) : (marks td n).length = n := by simp [marks]
theorem marks_congr {td td' : Nat → Bool} {n : Nat} (h : ∀ k, k < n → td k = td' k) : marks td n = marks td' n := by
  unfold marks
  apply List.map_congr_left
  intro k hk
  rw [h k (List.mem_range.1 hk)]
theorem marks_set {R : Nat → List Int} {td : Nat → Bool} {l n i : Nat} (h : td i = true ∧ cmpL (R i) (R l) = 0) (hi : i < n) : (marks (strike R td l i) n).set i (.bool true) = marks (strike R td l (i + 1)) n := by
  apply List.ext_getElem?
  intro k
  rw [List.getElem?_set, marks_len]
  by_cases hk : k < n
  · rw [marks_get hk, marks_get hk]
    by_cases e : i = k
    · subst e; simp [hi, strike, h.1, h.2]
    · rw [if_neg e]
      have : decide (k < i + 1) = decide (k < i) := by rw [decide_eq_decide]; omega
      simp [strike, this]
  · rw [List.getElem?_eq_none (by rw [marks_len]; omega), List.getElem?_eq_none (by rw [marks_len]; omega)]
    by_cases e : i = k
    · omega
    · simp [e]
theorem strike_skip {R : Nat → List Int} {td : Nat → Bool} {l n i : Nat} (h : ¬ (td i = true ∧ cmpL (R i) (R l) = 0)) : marks (strike R td l i) n = marks (strike R td l (i + 1)) n := by
  apply marks_congr
  intro k hk
  simp only [strike]
  by_cases e : k = i
  · subst e
    by_cases h1 : td k = true
    · have h2 : cmpL (R k) (R l) ≠ 0 := fun h2 => h ⟨h1, h2⟩
      simp [h1, h2]
    · simp [h1]
  · have : decide (k < i + 1) = decide (k < i) := by rw [decide_eq_decide]; omega
    rw [this]

/-- The cells that have been collected: each a row of the call's own. -/
def Cellsof (w : World) (B : Nat) (cs : List Value) (out : List (List Nat)) : Prop :=
  cs.length = out.length ∧ ∀ (i : Nat) u xs, cs[i]? = some u → out[i]? = some xs → Own w B u 3 (nums xs)
theorem Cellsof.kept {w w' : World} {B : Nat} {cs : List Value} {out : List (List Nat)} (h : Cellsof w B cs out) {row : Option Nat} (hg : w.grownBy w' row)
    (hne : ∀ (u : Value) (xs : List Value), Own w B u 3 xs → u.ownBlock = none ∨ u.ownBlock ≠ row) : Cellsof w' B cs out :=
  ⟨h.1, fun i u xs hu hx => (h.2 i u xs hu hx).kept hg (hne u _ (h.2 i u xs hu hx))⟩
theorem Cellsof.snoc {w : World} {B : Nat} {cs : List Value} {out : List (List Nat)} (h : Cellsof w B cs out) {u : Value} {xs : List Nat} (hu : Own w B u 3 (nums xs)) : Cellsof w B (cs ++ [u]) (out ++ [xs]) := by
  refine ⟨by simp [h.1], fun i v ys hv hy => ?_⟩
  by_cases hi : i < cs.length
  · rw [List.getElem?_append_left hi] at hv
    rw [List.getElem?_append_left (by rw [← h.1]; exact hi)] at hy
    exact h.2 i v ys hv hy
  · rw [List.getElem?_append_right (by omega)] at hv
    rw [List.getElem?_append_right (by rw [← h.1]; omega)] at hy
    rw [← h.1] at hy
    by_cases e : i - cs.length = 0
    · rw [e] at hv hy
      simp at hv hy
      subst hv; subst hy; exact hu
    · obtain ⟨j, hj⟩ : ∃ j, i - cs.length = j + 1 := ⟨i - cs.length - 1, by omega⟩
      rw [hj] at hv; simp at hv
theorem Cellsof.rows {w : World} {B : Nat} {v : Value} {cs : List Value} {out : List (List Nat)} (h : Cellsof w B cs out) (hv : Own w B v 22 cs) (hl : cs.length ≤ maxLen) (hs : ∀ xs ∈ out, xs.length ≤ maxLen) :
    ∃ a c, v = .slice a out.length c ∧ Rows w a (out.map (·.map Int.ofNat)) := by
  obtain ⟨a, c, rfl, hr⟩ := hv.row hl
  refine ⟨a, c, by rw [h.1], cs, hr, by simp [h.1], fun i u xs hu hx => ?_⟩
  rw [List.getElem?_map, Option.map_eq_some_iff] at hx
  obtain ⟨ys, hy, rfl⟩ := hx
  have ho := h.2 i u ys hu hy
  have hm : ys ∈ out := List.mem_of_getElem? hy
  obtain ⟨a', c', e, hr'⟩ := ho.row (by simp [nums]; exact hs ys hm)
  refine ⟨a', c', by rw [e]; simp [nums], ?_⟩
  unfold Ints
  rw [List.map_map]
  exact hr'

end Go.Proofs.YtifkieopaoooeaaDoor
