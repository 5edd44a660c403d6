/- awake answers true. -/
import Derived.Test.YtlnikgcanimggaaGreatExamples
set_option linter.unusedSimpArgs false
set_option linter.unusedVariables false
namespace Go.Proofs.YtlnikgcanimggaaGreat
open Go.RowKit Plain

abbrev rowObj (x : List Int) : Obj := .cells (ints x).toArray 3
abbrev rowVal (g : Nat) (x : List Int) : Value := .slice (some ⟨g, 0, none⟩) x.length x.length
theorem lit1 (w : World) (x : List Int) (hx : x.length ≤ 1000) : Rows ((w.alloc (rowObj x)).alloc (.cells #[rowVal w.heap.size x] 24)) (some ⟨w.heap.size + 1, 0, none⟩) [x] := by
  have h1 := lit_row w x hx
  have h := lit_rows (w.alloc (rowObj x)) [rowVal w.heap.size x] [x] rfl (by simp) (fun i u xs hu hx => by
    match i, hu, hx with
    | 0, hu, hx => simp at hu hx; subst hu; subst hx; exact h1)
  simpa using h
theorem lit2 (w : World) (x y : List Int) (hx : x.length ≤ 1000) (hy : y.length ≤ 1000) :
    Rows (((w.alloc (rowObj x)).alloc (rowObj y)).alloc (.cells #[rowVal w.heap.size x, rowVal (w.heap.size + 1) y] 24)) (some ⟨w.heap.size + 2, 0, none⟩) [x, y] := by
  have h1 := (lit_row w x hx).alloc (rowObj y)
  have h2 := lit_row (w.alloc (rowObj x)) y hy
  have e1 : (w.alloc (rowObj x)).heap.size = w.heap.size + 1 := by simp
  rw [e1] at h2
  have h := lit_rows ((w.alloc (rowObj x)).alloc (rowObj y)) [rowVal w.heap.size x, rowVal (w.heap.size + 1) y] [x, y] rfl (by simp) (fun i u xs hu hx => by
    match i, hu, hx with
    | 0, hu, hx => simp at hu hx; subst hu; subst hx; exact h1
    | 1, hu, hx => simp at hu hx; subst hu; subst hx; exact h2)
  have e2 : ((w.alloc (rowObj x)).alloc (rowObj y)).heap.size = w.heap.size + 2 := by simp
  rw [e2] at h
  exact h
theorem lit3 (w : World) (x y z : List Int) (hx : x.length ≤ 1000) (hy : y.length ≤ 1000) (hz : z.length ≤ 1000) :
    Rows ((((w.alloc (rowObj x)).alloc (rowObj y)).alloc (rowObj z)).alloc (.cells #[rowVal w.heap.size x, rowVal (w.heap.size + 1) y, rowVal (w.heap.size + 2) z] 24)) (some ⟨w.heap.size + 3, 0, none⟩) [x, y, z] := by
  have h1 := ((lit_row w x hx).alloc (rowObj y)).alloc (rowObj z)
  have h2 := (lit_row (w.alloc (rowObj x)) y hy).alloc (rowObj z)
  have h3 := lit_row ((w.alloc (rowObj x)).alloc (rowObj y)) z hz
  have e1 : (w.alloc (rowObj x)).heap.size = w.heap.size + 1 := by simp
  have e2 : ((w.alloc (rowObj x)).alloc (rowObj y)).heap.size = w.heap.size + 2 := by simp
  rw [e1] at h2
  rw [e2] at h3
  have h := lit_rows (((w.alloc (rowObj x)).alloc (rowObj y)).alloc (rowObj z)) [rowVal w.heap.size x, rowVal (w.heap.size + 1) y, rowVal (w.heap.size + 2) z] [x, y, z] rfl (by simp) (fun i u xs hu hx => by
    match i, hu, hx with
    | 0, hu, hx => simp at hu hx; subst hu; subst hx; exact h1
    | 1, hu, hx => simp at hu hx; subst hu; subst hx; exact h2
    | 2, hu, hx => simp at hu hx; subst hu; subst hx; exact h3)
  have e3 : (((w.alloc (rowObj x)).alloc (rowObj y)).alloc (rowObj z)).heap.size = w.heap.size + 3 := by simp
  rw [e3] at h
  exact h

theorem path_calls (w : World) : Calls Tryz.prog 14 #[] w fun e w' => ∃ a, e = .returned (.slice a pathM.length 3) ∧ Rows w' a pathM ∧ Below w.heap.size w w' := by
  have h := Lib.hid (lit3 w [0, 1, 0] [1, 0, 1] [0, 1, 0] (by simp) (by simp) (by simp))
  go_enter Tryz.func14, Tryz.ntmps14
  go_wp2
  go_ret
  exact ⟨_, rfl, h.out, ((((Below.refl _ _).alloc (Nat.le_refl _) _).alloc (by simp) _).alloc (by simp; omega) _).alloc (by simp; omega) _⟩
end Go.Proofs.YtlnikgcanimggaaGreat
namespace Go.Proofs.YtlnikgcanimggaaGreat
open Go.RowKit Plain
theorem alloc_below {a w : World} (h : Below a.heap.size a w) (o : Obj) : Below a.heap.size a (w.alloc o) := h.alloc h.size o
theorem same_true (a b : Option Addr) (c d : Nat) (xs : List (List Int)) (w : World) (ha : Rows w a xs) (hb : Rows w b xs) :
    Calls Tryz.prog 27 #[.slice a xs.length c, .slice b xs.length d] w fun e w' => e = .returned (.bool true) ∧ Below w.heap.size w w' :=
  (sameCells_calls a b c d xs xs w ha hb).mono fun _ _ ⟨he, q, hw⟩ => ⟨by rw [he, decide_eq_true rfl], by rw [hw]; exact below_self_drewN _ _⟩
set_option maxRecDepth 100000 in
set_option maxHeartbeats 2000000 in
theorem awake_calls (w : World) : Calls Tryz.prog 17 #[] w fun e w' => e = .returned (.bool true) ∧ Below w.heap.size w w' := by
  have hr1 := lit1 w [0, 1, 2] (by simp)
  have hb1 : Below w.heap.size w ((w.alloc (rowObj [0, 1, 2])).alloc (.cells #[rowVal w.heap.size [0, 1, 2]] 24)) := alloc_below (alloc_below (Below.refl _ _) _) _
  have H1 := Lib.hid (And.intro hr1 (And.intro hb1 (path_calls ((w.alloc (rowObj [0, 1, 2])).alloc (.cells #[rowVal w.heap.size [0, 1, 2]] 24)))))
  clear hr1 hb1
  go_enter Tryz.func17, Tryz.ntmps17
  go_wp2_with fail
  refine H1.out.2.2.mono ?_
  rintro e w1 ⟨a1, rfl, hr, hb⟩
  have H2 := Lib.hid (And.intro (refine_calls 3 (some ⟨w.heap.size + 1, 0, none⟩) a1 1 3 [[0, 1, 2]] pathM w1 (H1.out.1.below hb) hr) (H1.out.2.1.trans (hb.mono H1.out.2.1.size)))
  rw [ex_refine] at H2
  clear hr hb H1
  go_wp2_with fail
  refine H2.out.1.mono ?_
  rintro e w2 ⟨a2, c2, rfl, hr, hb⟩
  have H3 := Lib.hid (And.intro hr (H2.out.2.trans (hb.mono H2.out.2.size)))
  clear hr hb H2
  have hA := lit2 w2 [0, 1, 2] [3] (by simp) (by simp)
  have hAb : Below w2.heap.size w2 (((w2.alloc (rowObj [0, 1, 2])).alloc (rowObj [3])).alloc (.cells #[rowVal w2.heap.size [0, 1, 2], rowVal (w2.heap.size + 1) [3]] 24)) := alloc_below (alloc_below (alloc_below (Below.refl _ _) _) _) _
  have hAs : (((w2.alloc (rowObj [0, 1, 2])).alloc (rowObj [3])).alloc (.cells #[rowVal w2.heap.size [0, 1, 2], rowVal (w2.heap.size + 1) [3]] 24)).heap.size = w2.heap.size + 3 := by simp
  obtain ⟨wa, hwa⟩ : ∃ wa, (((w2.alloc (rowObj [0, 1, 2])).alloc (rowObj [3])).alloc (.cells #[rowVal w2.heap.size [0, 1, 2], rowVal (w2.heap.size + 1) [3]] 24)) = wa := ⟨_, rfl⟩
  rw [hwa] at hA hAb hAs
  have hB := lit2 wa [1, 3] [0, 2] (by simp) (by simp)
  have hBb : Below wa.heap.size wa (((wa.alloc (rowObj [1, 3])).alloc (rowObj [0, 2])).alloc (.cells #[rowVal wa.heap.size [1, 3], rowVal (wa.heap.size + 1) [0, 2]] 24)) := alloc_below (alloc_below (alloc_below (Below.refl _ _) _) _) _
  have hm := meet_calls 4 (some ⟨w2.heap.size + 2, 0, none⟩) (some ⟨wa.heap.size + 2, 0, none⟩) 2 2 [[0, 1, 2], [3]] [[1, 3], [0, 2]] _ (hA.below hBb) hB ex_chk1 ex_chk2
  rw [hAs] at hm
  have hbb2 := H3.out.2.trans ((hAb.trans (hBb.mono (by omega))).mono H3.out.2.size)
  rw [hAs] at hbb2
  rw [← hwa] at hm hbb2
  have H4 := Lib.hid (And.intro hm hbb2)
  clear hA hAb hAs hB hBb hm hbb2 hwa
  go_wp2_with fail
  refine H4.out.1.mono ?_
  rintro e w4 ⟨a4, c4, P, rfl, hr, hp, hb⟩
  rw [ex_meet hp] at hr ⊢
  have hb3 := H4.out.2.trans (hb.mono H4.out.2.size)
  have hw24 : Below w2.heap.size w2 w4 := by
    refine Below.trans ?_ (hb.mono ?_)
    · exact alloc_below (alloc_below (alloc_below (alloc_below (alloc_below (alloc_below (Below.refl _ _) _) _) _) _) _) _
    · simp; omega
  have hl := lit_row w4 [7, -1, 7] (by simp)
  obtain ⟨ga, gc, ge, hi⟩ := hl
  cases ge
  have hof := of_calls 3 (by omega) _ 3 [7, -1, 7] _ hi rfl
  have hb5 : Below w.heap.size w (w4.alloc (rowObj [7, -1, 7])) := hb3.alloc hb3.size _
  have H5 := Lib.hid (And.intro hof (And.intro hb5 (And.intro (H3.out.1.below (hw24.alloc hw24.size (rowObj [7, -1, 7]))) (hr.below ((Below.refl _ _).alloc (Nat.le_refl _) (rowObj [7, -1, 7]))))))
  clear hof hb5 hi hb3 hw24 hr hp hb H4 H3
  go_wp2_with fail
  refine H5.out.1.mono ?_
  rintro e w6 ⟨a6, c6, P, rfl, hr, hp, hb⟩
  rw [ex_of hp] at hr ⊢
  have H6 := Lib.hid (And.intro hr (And.intro (H5.out.2.1.trans (hb.mono H5.out.2.1.size)) (And.intro (H5.out.2.2.1.below hb) (H5.out.2.2.2.below hb))))
  clear hr hp hb H5
  go_wp2_with fail
  have hbA : Below w6.heap.size w6 (((w6.alloc (rowObj [0, 2])).alloc (rowObj [1])).alloc (.cells #[rowVal w6.heap.size [0, 2], rowVal (w6.heap.size + 1) [1]] 24)) := alloc_below (alloc_below (alloc_below (Below.refl _ _) _) _) _
  have hs := same_true a2 _ c2 2 [[0, 2], [1]] _ (H6.out.2.2.1.below hbA) (lit2 w6 [0, 2] [1] (by simp) (by simp))
  have H7 := Lib.hid (And.intro H6.out.1 (And.intro H6.out.2.1 (And.intro H6.out.2.2.2 (And.intro hbA hs))))
  clear hs hbA H6
  refine H7.out.2.2.2.2.mono ?_
  rintro e w7 ⟨rfl, hb⟩
  have h67 := H7.out.2.2.2.1.trans (hb.mono H7.out.2.2.2.1.size)
  have H8 := Lib.hid (And.intro (H7.out.1.below h67) (And.intro (H7.out.2.1.trans (h67.mono H7.out.2.1.size)) (H7.out.2.2.1.below h67)))
  clear hb h67 H7
  go_wp2_with fail
  have hbA : Below w7.heap.size w7 ((((w7.alloc (rowObj [1])).alloc (rowObj [0, 2])).alloc (rowObj [3])).alloc (.cells #[rowVal w7.heap.size [1], rowVal (w7.heap.size + 1) [0, 2], rowVal (w7.heap.size + 2) [3]] 24)) := alloc_below (alloc_below (alloc_below (alloc_below (Below.refl _ _) _) _) _) _
  have hs := same_true a4 _ c4 3 [[1], [0, 2], [3]] _ (H8.out.2.2.below hbA) (lit3 w7 [1] [0, 2] [3] (by simp) (by simp) (by simp))
  have H7 := Lib.hid (And.intro H8.out.1 (And.intro H8.out.2.1 (And.intro hbA hs)))
  clear hs hbA H8
  refine H7.out.2.2.2.mono ?_
  rintro e w8 ⟨rfl, hb⟩
  have h67 := H7.out.2.2.1.trans (hb.mono H7.out.2.2.1.size)
  have H8 := Lib.hid (And.intro (H7.out.1.below h67) (H7.out.2.1.trans (h67.mono H7.out.2.1.size)))
  clear hb h67 H7
  go_wp2_with fail
  have hbA : Below w8.heap.size w8 (((w8.alloc (rowObj [1])).alloc (rowObj [0, 2])).alloc (.cells #[rowVal w8.heap.size [1], rowVal (w8.heap.size + 1) [0, 2]] 24)) := alloc_below (alloc_below (alloc_below (Below.refl _ _) _) _) _
  have hs := same_true a6 _ c6 2 [[1], [0, 2]] _ (H8.out.1.below hbA) (lit2 w8 [1] [0, 2] (by simp) (by simp))
  have H7 := Lib.hid (And.intro H8.out.2 (And.intro hbA hs))
  clear hs hbA H8
  refine H7.out.2.2.mono ?_
  rintro e w9 ⟨rfl, hb⟩
  have h67 := H7.out.2.1.trans (hb.mono H7.out.2.1.size)
  have H8 := Lib.hid (H7.out.1.trans (h67.mono H7.out.1.size))
  clear hb h67 H7
  go_wp2
  go_ret
  exact ⟨rfl, H8.out⟩
end Go.Proofs.YtlnikgcanimggaaGreat
