/- Literal rows; path; awake answers true. -/
import Derived.Test.YtjjjohmppehejaaGreatVerts
import Derived.Test.YtjjjohmppehejaaGreatRefP
import Derived.Test.YtjjjohmppehejaaGreatSame
set_option linter.unusedSimpArgs false
set_option linter.unusedVariables false
namespace Go.Proofs.YtjjjohmppehejaaGreat
open Go.RowKit Plain PlainG
/-- A row that is written out. -/
theorem lit_row (w : World) (xs : List Int) (h : xs.length ≤ 1000) : IsInts (w.alloc (.cells (ints xs).toArray 3)) (.slice (some ⟨w.heap.size, 0, none⟩) xs.length xs.length) xs := by
  have h1 := Own.new (w := w) (B := 0) 3 (ints xs) (Nat.zero_le _) (by rw [ints_len]; unfold maxLen; omega)
  have h2 := h1.ints (by unfold maxLen; omega)
  rw [ints_len] at h2
  exact h2
theorem IsInts.alloc {w : World} {v : Value} {xs : List Int} (h : IsInts w v xs) (o : Obj) : IsInts (w.alloc o) v xs := h.below ((Below.refl _ _).alloc (Nat.le_refl _) _)
theorem lit_rows (w : World) (vs : List Value) (xss : List (List Int)) (hl : vs.length = xss.length) (hm : vs.length ≤ 1000) (h : ∀ (i : Nat) u xs, vs[i]? = some u → xss[i]? = some xs → IsInts w u xs) :
    Rows (w.alloc (.cells vs.toArray 23)) (some ⟨w.heap.size, 0, none⟩) xss := by
  have h1 := Own.new (w := w) (B := 0) 23 vs (Nat.zero_le _) (by unfold maxLen; omega)
  obtain ⟨a, c, e, hr⟩ := h1.row (by unfold maxLen; omega)
  cases e
  exact ⟨vs, hr, hl, fun i u xs hu hx => (h i u xs hu hx).alloc _⟩
abbrev rowObj (x : List Int) : Obj := .cells (ints x).toArray 3
abbrev rowVal (g : Nat) (x : List Int) : Value := .slice (some ⟨g, 0, none⟩) x.length x.length
theorem lit1 (w : World) (x : List Int) (hx : x.length ≤ 1000) : Rows ((w.alloc (rowObj x)).alloc (.cells #[rowVal w.heap.size x] 23)) (some ⟨w.heap.size + 1, 0, none⟩) [x] := by
  have h1 := lit_row w x hx
  have h := lit_rows (w.alloc (rowObj x)) [rowVal w.heap.size x] [x] rfl (by simp) (fun i u xs hu hx => by
    match i, hu, hx with
    | 0, hu, hx => simp at hu hx; subst hu; subst hx; exact h1)
  simpa using h
theorem lit2 (w : World) (x y : List Int) (hx : x.length ≤ 1000) (hy : y.length ≤ 1000) :
    Rows (((w.alloc (rowObj x)).alloc (rowObj y)).alloc (.cells #[rowVal w.heap.size x, rowVal (w.heap.size + 1) y] 23)) (some ⟨w.heap.size + 2, 0, none⟩) [x, y] := by
  have h1 := (lit_row w x hx).alloc (rowObj y)
  have h2 := lit_row (w.alloc (rowObj x)) y hy
  have e1 : (w.alloc (rowObj x)).heap.size = w.heap.size + 1 := by simp
  rw [e1] at h2
  have h := lit_rows ((w.alloc (rowObj x)).alloc (rowObj y)) [rowVal w.heap.size x, rowVal (w.heap.size + 1) y] [x, y] rfl (by simp) (fun i u xs hu hx => by
    match i, hu, hx with
    | 0, hu, hx => simp at hu hx; subst hu; subst hx; exact h1
    | 1, hu, hx => simp at hu hx; subst hu; subst hx; exact h2)
  have e2 : ((w.alloc (rowObj x)).alloc (rowObj y)).heap.size = w.heap.size + 2 := by simp
  rw [e2] at h
  exact h
theorem lit3 (w : World) (x y z : List Int) (hx : x.length ≤ 1000) (hy : y.length ≤ 1000) (hz : z.length ≤ 1000) :
    Rows ((((w.alloc (rowObj x)).alloc (rowObj y)).alloc (rowObj z)).alloc (.cells #[rowVal w.heap.size x, rowVal (w.heap.size + 1) y, rowVal (w.heap.size + 2) z] 23)) (some ⟨w.heap.size + 3, 0, none⟩) [x, y, z] := by
  have h1 := ((lit_row w x hx).alloc (rowObj y)).alloc (rowObj z)
  have h2 := (lit_row (w.alloc (rowObj x)) y hy).alloc (rowObj z)
  have h3 := lit_row ((w.alloc (rowObj x)).alloc (rowObj y)) z hz
  have e1 : (w.alloc (rowObj x)).heap.size = w.heap.size + 1 := by simp
  have e2 : ((w.alloc (rowObj x)).alloc (rowObj y)).heap.size = w.heap.size + 2 := by simp
  rw [e1] at h2
  rw [e2] at h3
  have h := lit_rows (((w.alloc (rowObj x)).alloc (rowObj y)).alloc (rowObj z)) [rowVal w.heap.size x, rowVal (w.heap.size + 1) y, rowVal (w.heap.size + 2) z] [x, y, z] rfl (by simp) (fun i u xs hu hx => by
    match i, hu, hx with
    | 0, hu, hx => simp at hu hx; subst hu; subst hx; exact h1
    | 1, hu, hx => simp at hu hx; subst hu; subst hx; exact h2
    | 2, hu, hx => simp at hu hx; subst hu; subst hx; exact h3)
  have e3 : (((w.alloc (rowObj x)).alloc (rowObj y)).alloc (rowObj z)).heap.size = w.heap.size + 3 := by simp
  rw [e3] at h
  exact h

theorem alloc_below {a w : World} (h : Below a.heap.size a w) (o : Obj) : Below a.heap.size a (w.alloc o) := h.alloc h.size o
theorem same_true (a b : Option Addr) (c d : Nat) (xs : List (List Int)) (w : World) (ha : Rows w a xs) (hb : Rows w b xs) :
    Calls Tryz.prog 36 #[.slice a xs.length c, .slice b xs.length d] w fun e w' => e = .returned (.bool true) ∧ Below w.heap.size w w' :=
  (sameCells_calls a b c d xs xs w ha hb).mono fun _ _ ⟨he, q, hw⟩ => ⟨by rw [he, decide_eq_true rfl], by rw [hw]; exact below_self_drewN _ _⟩
def pathG : Gr := ⟨3, [(0, 1), (1, 2)], [0, 0, 1]⟩
theorem OwnE.new {w : World} {B : Nat} (T : TypeId) (xs : List (Int × Int)) (hB : B ≤ w.heap.size) (hm : xs.length ≤ maxLen) :
    OwnE (w.alloc (.cells (ints (flat2 xs)).toArray T)) B T (.slice (some ⟨w.heap.size, 0, none⟩) xs.length xs.length) xs := by
  have := World.ownsRow_lit (base := B) (e := T) (size := 2) w (ints (flat2 xs)).toArray xs.length hB hm (by simp [ints, flat2_len])
  simpa [OwnE] using this
theorem path_chk : chkGr pathG = 0 := by decide
theorem path_refined : refinedA pathG = ([[0], [1], [2]], 0) := by
  unfold refinedA
  rw [if_pos path_chk]
  have h1 : (ofA pathG.cs).1 = [[0, 1], [2]] := by decide
  have h2 : matG pathG = [[0, 1, 0], [1, 0, 1], [0, 1, 0]] := by decide
  rw [h1, h2]
  have h : refineA ((3 : Nat) : Int) [[0, 1], [2]] [[0, 1, 0], [1, 0, 1], [0, 1, 0]] = (refineL 3 [[0, 1], [2]] [[0, 1, 0], [1, 0, 1], [0, 1, 0]], 0) := refineA_ok (n := 3) (by decide) ⟨rfl, by decide⟩
  exact h.trans (by decide)
end Go.Proofs.YtjjjohmppehejaaGreat
