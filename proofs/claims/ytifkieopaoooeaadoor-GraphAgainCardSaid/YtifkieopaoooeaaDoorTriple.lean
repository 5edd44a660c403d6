/- The comparison of triples; slices.CompareFunc at it. -/
import Derived.Test.YtifkieopaoooeaaDoorGrouped
set_option linter.unusedSimpArgs false
set_option linter.unusedVariables false
namespace Go.Proofs.YtifkieopaoooeaaDoor
open Go.RowKit Go.Sort Go.Shelf Plain

abbrev T3 := Int × Int × Int
def tl (x : T3) : List Int := [x.1, x.2.1, x.2.2]
def tv (x : T3) : List Value := ints (tl x)

set_option maxHeartbeats 400000 in
theorem triple_calls (x y : T3) (w : World) : Calls Tryd.prog 43 #[.agg (tv x).toArray, .agg (tv y).toArray] w fun e w' => e = .returned (.int .i64 (cmpL (tl x) (tl y))) ∧ Grew w w' := by
  obtain ⟨a, b, c⟩ := x
  obtain ⟨d, e, f⟩ := y
  have h1 : Own (w.alloc (.cells #[.int .i64 a, .int .i64 b, .int .i64 c] 85)) 0 (.slice (some ⟨w.heap.size, 0, none⟩) 3 3) 85 (ints [a, b, c]) := Own.new 85 (ints [a, b, c]) (Nat.zero_le _) (by unfold maxLen; simp [ints])
  have h2 : Own ((w.alloc (.cells #[.int .i64 a, .int .i64 b, .int .i64 c] 85)).alloc (.cells #[.int .i64 d, .int .i64 e, .int .i64 f] 85)) 0 (.slice (some ⟨(w.alloc (.cells #[.int .i64 a, .int .i64 b, .int .i64 c] 85)).heap.size, 0, none⟩) 3 3) 85 (ints [d, e, f]) := Own.new 85 (ints [d, e, f]) (Nat.zero_le _) (by unfold maxLen; simp [ints])
  have h3 := fun m : Nat => compareS_calls _ _ 3 3 [a, b, c] [d, e, f] (World.drewN _ m) (((h1.alloc (.cells #[.int .i64 d, .int .i64 e, .int .i64 f] 85)).drewN m).toInts (by unfold maxLen; simp)) ((h2.drewN m).toInts (by unfold maxLen; simp)) rfl
  have hs : (w.alloc (.cells #[.int .i64 a, .int .i64 b, .int .i64 c] 85)).heap.size = w.heap.size + 1 := by simp
  simp only [hs] at h3
  have Hs := Lib.hid hs
  clear hs
  have Hc := Lib.hid h3
  clear h1 h2 h3
  have e1 : ∀ a b c : Int, (tv (a, b, c)).toArray = #[.int .i64 a, .int .i64 b, .int .i64 c] := fun _ _ _ => rfl
  rw [e1, e1]
  clear e1
  go_enter Tryd.func43, Tryd.ntmps43
  go_wp2
  go_quiet ((go_at_call 35; exact Calls.quiet_of_same (Hc.out _)))
  go_wp2
  go_ret
  exact ⟨rfl, ((((Grew.refl w).alloc _).alloc _).drewN _)⟩

/-- A row of triples. -/
def Tri (w : World) (a : Option Addr) (xs : List T3) : Prop :=
  xs.length ≤ 1000000 ∧ ∀ i x, xs[i]? = some x → ∃ b, a = some ⟨b, 0, none⟩ ∧ b < w.heap.size ∧ w.cell? ⟨b, i * 3, none⟩ = some (.int .i64 x.1) ∧ w.cell? ⟨b, i * 3 + 1, none⟩ = some (.int .i64 x.2.1) ∧ w.cell? ⟨b, i * 3 + 2, none⟩ = some (.int .i64 x.2.2)
theorem Tri.below {w w' : World} {a : Option Addr} {xs : List T3} (h : Tri w a xs) (hb : Below w.heap.size w w') : Tri w' a xs :=
  ⟨h.1, fun i x hx => by
    obtain ⟨b, e, hl, h1, h2, h3⟩ := h.2 i x hx
    exact ⟨b, e, Nat.lt_of_lt_of_le hl hb.size, by rw [hb.cell hl]; exact h1, by rw [hb.cell hl]; exact h2, by rw [hb.cell hl]; exact h3⟩⟩
def flat (xs : List T3) : List Int := xs.flatMap tl
theorem cmpL_flat (x y : T3) (xs ys : List T3) : cmpL (flat (x :: xs)) (flat (y :: ys)) = if cmpL (tl x) (tl y) ≠ 0 then cmpL (tl x) (tl y) else cmpL (flat xs) (flat ys) := by
  obtain ⟨a, b, c⟩ := x
  obtain ⟨d, e, f⟩ := y
  show cmpL (a :: b :: c :: flat xs) (d :: e :: f :: flat ys) = if cmpL [a, b, c] [d, e, f] ≠ 0 then cmpL [a, b, c] [d, e, f] else _
  rw [cmpL_step a d (b :: c :: flat xs), cmpL_step b e (c :: flat xs), cmpL_step c f (flat xs), cmpL_step a d [b, c], cmpL_step b e [c], cmpL_step c f []]
  have h0 : cmpL ([] : List Int) [] = 0 := by simp [cmpL]
  rw [h0]
  by_cases h1 : cmpL [a] [d] = 0 <;> by_cases h2 : cmpL [b] [e] = 0 <;> by_cases h3 : cmpL [c] [f] = 0 <;> simp [h1, h2, h3]

set_option maxHeartbeats 800000 in
theorem compareT_calls (a b : Option Addr) (c d : Nat) (xs ys : List T3) (w : World) (ha : Tri w a xs) (hb : Tri w b ys) (hl : xs.length = ys.length) :
    Calls Tryd.prog 48 #[.slice a xs.length c, .slice b ys.length d, .func (.func 43) #[] #[]] w fun e w' => e = .returned (.int .i64 (cmpL (flat xs) (flat ys))) ∧ Grew w w' := by
  have hA := Lib.hid ha
  have hB := Lib.hid hb
  have hmx := ha.1
  clear ha hb
  obtain ⟨n, hn⟩ : ∃ n, n = xs.length := ⟨_, rfl⟩
  rw [← hl, ← hn]
  rw [← hn] at hmx hl
  have Hn := Lib.hid hn
  have Hm := Lib.hid hl
  clear hn hl
  go_enter Tryd.func48, Tryd.ntmps48
  go_wp2
  go_loopw [13] (fun i wr => ∃ k : Nat, k ≤ n ∧ i = .int .i64 k ∧ cmpL (flat xs) (flat ys) = cmpL (flat (xs.drop k)) (flat (ys.drop k)) ∧ Grew w wr) (fun i _ => n - (intOf i).toNat)
  case atStart => exact ⟨0, Nat.zero_le _, rfl, rfl, Grew.refl _⟩
  case round =>
    obtain ⟨k, hk, rfl, he, hg⟩ := hrel
    by_cases hlt : k < n
    · have hA2 := hA.out.below hg.below
      have hB2 := hB.out.below hg.below
      have hkx : k < xs.length := by rw [← Hn.out]; exact hlt
      have hky : k < ys.length := by rw [← Hm.out]; exact hlt
      obtain ⟨b1, rfl, hl1, x1, x2, x3⟩ := hA2.2 k _ (List.getElem?_eq_getElem hkx)
      obtain ⟨b2, rfl, hl2, y1, y2, y3⟩ := hB2.2 k _ (List.getElem?_eq_getElem hky)
      obtain ⟨x, hx⟩ : ∃ x, x = xs[k] := ⟨_, rfl⟩
      obtain ⟨y, hy⟩ : ∃ y, y = ys[k] := ⟨_, rfl⟩
      rw [← hx] at x1 x2 x3
      rw [← hy] at y1 y2 y3
      have hd : xs.drop k = x :: xs.drop (k + 1) := by rw [hx]; exact (List.getElem_cons_drop hkx).symm
      have hd2 : ys.drop k = y :: ys.drop (k + 1) := by rw [hy]; exact (List.getElem_cons_drop hky).symm
      rw [hd, hd2, cmpL_flat] at he
      have hc := fun W => triple_calls x y W
      have H := Lib.hid (And.intro he (And.intro hg (And.intro hA2 hB2)))
      clear he hg hA2 hB2 hx hy hd hd2
      obtain ⟨p1, p2, p3⟩ := x
      obtain ⟨q1, q2, q3⟩ := y
      obtain ⟨r, hr⟩ : ∃ r, cmpL (tl (p1, p2, p3)) (tl (q1, q2, q3)) = r := ⟨_, rfl⟩
      rw [hr] at H
      simp only [hr] at hc
      have Hc := Lib.hid hc
      clear hc hr
      by_cases h0 : r = 0
      · subst h0
        go_wp2_with fail
        refine (Hc.out _).mono ?_
        rintro e w3 ⟨rfl, hw3⟩
        have hw4 : Grew w w3 := (((H.out.2.1).alloc _).alloc _).trans hw3
        have H4 := Lib.hid hw4
        clear hw3 hw4
        go_wp2
        exact ⟨⟨k + 1, by omega, by go_num, by rw [H.out.1]; simp, H4.out⟩, by simp [intOf]; omega⟩
      · have h1 : (r != 0) = true := by simpa using h0
        have H0 := Lib.hid h0
        clear h0
        go_wp2_with fail
        refine (Hc.out _).mono ?_
        rintro e w3 ⟨rfl, hw3⟩
        have hw4 : Grew w w3 := (((H.out.2.1).alloc _).alloc _).trans hw3
        have H4 := Lib.hid hw4
        clear hw3 hw4
        go_wp2
        go_ret
        exact ⟨ret_int (by rw [H.out.1, if_pos H0.out]), H4.out⟩
    · have hend : cmpL (flat xs) (flat ys) = 0 := by
        rw [he, List.drop_eq_nil_of_le (by rw [← Hn.out]; omega), List.drop_eq_nil_of_le (by rw [← Hm.out]; omega)]
        simp [flat, cmpL]
      have H := Lib.hid (And.intro hend hg)
      clear hend he hg
      go_wp2
      go_ret
      exact ⟨ret_int (by rw [H.out.1]), H.out.2⟩
end Go.Proofs.YtifkieopaoooeaaDoor
