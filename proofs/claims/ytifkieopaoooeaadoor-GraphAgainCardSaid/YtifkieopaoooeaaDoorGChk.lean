/- The check of a graph, both programs. -/
import Derived.Test.YtifkieopaoooeaaDoorVert
set_option linter.unusedSimpArgs false
set_option linter.unusedVariables false
namespace Go.Proofs.YtifkieopaoooeaaDoor
open Go.RowKit Plain PlainG
theorem cmp_bef (x y : Int × Int) : decide (0 ≤ cmpL [x.1, x.2] [y.1, y.2]) = !bef x y := by
  obtain ⟨a, b⟩ := x
  obtain ⟨c, d⟩ := y
  simp only [cmpL, bef]
  repeat' split
  all_goals simp
  all_goals omega
set_option maxHeartbeats 400000 in
theorem edgeCmp_calls (x y : Int × Int) (w : World) : Calls Tryd.prog 27 #[.agg #[.int .i64 x.1, .int .i64 x.2], .agg #[.int .i64 y.1, .int .i64 y.2]] w fun e w' => e = .returned (.int .i64 (cmpL [x.1, x.2] [y.1, y.2])) ∧ Below w.heap.size w w' := by
  obtain ⟨a, b⟩ := x
  obtain ⟨d, e⟩ := y
  have h1 : Own (w.alloc (.cells #[.int .i64 a, .int .i64 b] 69)) 0 (.slice (some ⟨w.heap.size, 0, none⟩) 2 2) 69 (ints [a, b]) := Own.new 69 (ints [a, b]) (Nat.zero_le _) (by unfold maxLen; simp [ints])
  have h2 : Own ((w.alloc (.cells #[.int .i64 a, .int .i64 b] 69)).alloc (.cells #[.int .i64 d, .int .i64 e] 69)) 0 (.slice (some ⟨(w.alloc (.cells #[.int .i64 a, .int .i64 b] 69)).heap.size, 0, none⟩) 2 2) 69 (ints [d, e]) := Own.new 69 (ints [d, e]) (Nat.zero_le _) (by unfold maxLen; simp [ints])
  have h3 := fun m : Nat => compareS_calls _ _ 2 2 [a, b] [d, e] (World.drewN _ m) (((h1.alloc (.cells #[.int .i64 d, .int .i64 e] 69)).drewN m).toInts (by unfold maxLen; simp)) ((h2.drewN m).toInts (by unfold maxLen; simp)) rfl
  have hs : (w.alloc (.cells #[.int .i64 a, .int .i64 b] 69)).heap.size = w.heap.size + 1 := by simp
  simp only [hs] at h3
  have Hs := Lib.hid hs
  clear hs
  have Hc := Lib.hid h3
  clear h1 h2 h3
  go_enter Tryd.func27, Tryd.ntmps27
  go_wp2
  go_quiet ((go_at_call 35; exact Calls.quiet_of_same (Hc.out _)))
  go_wp2
  go_ret
  exact ⟨rfl, below_drewN (((Below.refl _ w).alloc (Nat.le_refl _) _).alloc (by simp) _) _⟩
def eAt (n : Int) (l : List (Int × Int)) (k : Nat) : Int := chkE n (match k with | 0 => none | j + 1 => l[j]?) (l.drop k)
theorem eAt_end {n : Int} {l : List (Int × Int)} {k : Nat} (hk : l.length ≤ k) : eAt n l k = 0 := by
  unfold eAt
  rw [List.drop_of_length_le hk]; rfl
theorem eAt_vert {n : Int} {l : List (Int × Int)} {k : Nat} {x : Int × Int} (hx : l[k]? = some x) (h : (vert n x.1 && vert n x.2) = false) : eAt n l k = 2 := by
  obtain ⟨hk, rfl⟩ := List.getElem?_eq_some_iff.1 hx
  unfold eAt
  rw [List.drop_eq_getElem_cons hk, chkE, if_pos h]
theorem eAt_form {n : Int} {l : List (Int × Int)} {k : Nat} {x : Int × Int} (hx : l[k]? = some x) (h : (vert n x.1 && vert n x.2) = true) (h2 : x.2 ≤ x.1) : eAt n l k = 3 := by
  obtain ⟨hk, rfl⟩ := List.getElem?_eq_some_iff.1 hx
  unfold eAt
  rw [List.drop_eq_getElem_cons hk, chkE, if_neg (by simp [h]), if_pos h2]
theorem eAt_order {n : Int} {l : List (Int × Int)} {k : Nat} {x y : Int × Int} (hx : l[k + 1]? = some x) (hy : l[k]? = some y) (h : (vert n x.1 && vert n x.2) = true) (h2 : ¬ x.2 ≤ x.1) (h3 : bef y x = false) : eAt n l (k + 1) = 9 := by
  obtain ⟨hk, rfl⟩ := List.getElem?_eq_some_iff.1 hx
  unfold eAt
  rw [List.drop_eq_getElem_cons hk, chkE, if_neg (by simp [h]), if_neg h2]
  simp only [hy, Option.any_some]
  rw [if_pos (by simp [h3])]
def lastOk (l : List (Int × Int)) (k : Nat) (x : Int × Int) : Prop := match k with | 0 => True | j + 1 => ∃ y, l[j]? = some y ∧ bef y x = true
theorem eAt_next {n : Int} {l : List (Int × Int)} {k : Nat} {x : Int × Int} (hx : l[k]? = some x) (h : (vert n x.1 && vert n x.2) = true) (h2 : ¬ x.2 ≤ x.1) (h3 : lastOk l k x) : eAt n l k = eAt n l (k + 1) := by
  obtain ⟨hk, rfl⟩ := List.getElem?_eq_some_iff.1 hx
  unfold eAt
  rw [List.drop_eq_getElem_cons hk, chkE, if_neg (by simp [h]), if_neg h2]
  cases k with
  | zero => simp only [Option.any_none]; rw [if_neg (by simp)]; simp [List.getElem?_eq_getElem hk]
  | succ j =>
    obtain ⟨y, hy, h3⟩ := h3
    simp only [hy, Option.any_some]
    rw [if_neg (by simp [h3])]; simp [List.getElem?_eq_getElem hk]
theorem chkGr_big {g : Gr} (h : g.n < 0 ∨ 24 < g.n) : chkGr g = 2 := by unfold chkGr; rw [if_pos h]
theorem chkGr_edge {g : Gr} (h1 : ¬ g.n < 0) (h2 : ¬ 24 < g.n) (h : eAt g.n g.es 0 ≠ 0) : chkGr g = eAt g.n g.es 0 := by
  unfold chkGr; rw [if_neg (by omega)]; unfold eAt at h; rw [List.drop_zero] at h; rw [if_pos h]; rfl
theorem chkGr_cols {g : Gr} (h1 : ¬ g.n < 0) (h2 : ¬ 24 < g.n) (h : eAt g.n g.es 0 = 0) : chkGr g = chkC g.n g.cs := by
  unfold chkGr; rw [if_neg (by omega)]; unfold eAt at h; rw [List.drop_zero] at h; rw [if_neg (by simpa using h)]
end Go.Proofs.YtifkieopaoooeaaDoor
