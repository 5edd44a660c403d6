/- Has: the program's, the reference's. -/
import Derived.Test.YtifkieopaoooeaaGreatDoorWithP
import Derived.Test.YtifkieopaoooeaaGreatDoorMats
import Derived.Test.YtifkieopaoooeaaGreatDoorRefP
import Derived.Test.YtifkieopaoooeaaGreatDoorMoveB
set_option linter.unusedSimpArgs false
set_option linter.unusedVariables false
namespace Go.Proofs.YtifkieopaoooeaaGreatDoor
open Go.RowKit Plain PlainG
def hasA (g : Gr) (i k : Int) : Bool × Int := if withA g [i, k] ≠ 0 then (false, withA g [i, k]) else (adj g.es i.toNat k.toNat, 0)
theorem withA_ok {g : Gr} {l : List Int} (h : withA g l = 0) : chkGr g = 0 ∧ ∀ v ∈ l, 0 ≤ v ∧ v < g.n := by
  unfold withA at h
  by_cases h0 : chkGr g = 0
  · rw [if_neg (by simpa using h0)] at h
    refine ⟨h0, fun v hv => ?_⟩
    by_cases hb : badW g.n l = true
    · rw [if_pos hb] at h; simp at h
    · unfold badW at hb
      simp only [List.any_eq_true, not_exists, not_and, Bool.not_eq_true'] at hb
      have := hb v hv
      unfold vert at this
      simpa using this
  · rw [if_pos (by simpa using h0)] at h; exact absurd h h0
theorem ints_two (w : World) (x y : Int) (W : World) (hW : W = w.alloc (.cells #[.int .i64 x, .int .i64 y] 3)) : Ints W (some ⟨w.heap.size, 0, none⟩) [x, y] := by
  have h := (Own.new (w := w) (B := w.heap.size) 3 (ints [x, y]) (Nat.le_refl _) (by simp [ints, maxLen]))
  have h2 := Own.toInts (n := 2) (c := 2) (a := some ⟨w.heap.size, 0, none⟩) (w := W) (B := w.heap.size) (e := 3) (xs := [x, y]) (by rw [hW]; exact h) (by simp [maxLen])
  exact h2
theorem ints_one1 (w : World) (x : Int) (W : World) (hW : W = w.alloc (.cells #[.int .i64 x] 3)) : Ints W (some ⟨w.heap.size, 0, none⟩) [x] := by
  have h := (Own.new (w := w) (B := w.heap.size) 3 (ints [x]) (Nat.le_refl _) (by simp [ints, maxLen]))
  have h2 := Own.toInts (n := 1) (c := 1) (a := some ⟨w.heap.size, 0, none⟩) (w := W) (B := w.heap.size) (e := 3) (xs := [x]) (by rw [hW]; exact h) (by simp [maxLen])
  exact h2
theorem one_adjF2 (es : List E2) (i k : Nat) : (adjF es i k == 1) = adj es i k := by
  unfold adjF; cases adj es i k <;> rfl
set_option maxRecDepth 100000 in
set_option maxHeartbeats 4000000 in
theorem has_calls {w : World} {a b : Option Addr} {c d : Nat} {g : Gr} (i k : Int) (he : Edg w a g.es) (hc : Ints w b g.cs) :
    Calls Tryz.prog 24 #[.agg #[.int .i64 g.n, .slice a g.es.length c, .slice b g.cs.length d], .int .i64 i, .int .i64 k] w fun e w' => e = .returned (.tuple #[.bool (hasA g i k).1, .int .i64 (hasA g i k).2]) ∧ Below w.heap.size w w' := by
  obtain ⟨R, hR⟩ : ∃ R, w.heap.size = R := ⟨_, rfl⟩
  obtain ⟨W1, hW1⟩ : ∃ W1, W1 = w.alloc (.cells #[.int .i64 g.n, .slice a g.es.length c, .slice b g.cs.length d] 25) := ⟨_, rfl⟩
  have hb1 : Below R w W1 := by rw [hW1, ← hR]; exact (Below.refl _ w).alloc (Nat.le_refl _) _
  have hs1 : W1.heap.size = R + 1 := by rw [hW1, ← hR]; simp
  have hx1 : Bx W1 R (.int .i64 g.n) (.slice a g.es.length c) (.slice b g.cs.length d) := by rw [hW1, ← hR]; exact Bx.new _ _ _ _
  obtain ⟨W2, hW2⟩ : ∃ W2, W2 = W1.alloc (.cells #[.int .i64 i, .int .i64 k] 3) := ⟨_, rfl⟩
  have hb2 : Below W1.heap.size W1 W2 := by rw [hW2]; exact (Below.refl _ _).alloc (Nat.le_refl _) _
  have hl2 := ints_two W1 i k W2 hW2
  have hbw2 : Below w.heap.size w W2 := by rw [hR]; exact hb1.trans (hb2.mono (by omega))
  have K77 := with_calls (c := c) (d := d) (cl := 2) (he.below hbw2) (hc.below hbw2) hl2
  have hx2 := hx1.below hb2
  have K78 := fun (w' : World) (h : Below W2.heap.size W2 w') (N : Nat) (hN : g.n = N) (hN24 : N ≤ 24) (hev : ∀ x ∈ g.es, 0 ≤ x.1 ∧ x.1 < x.2 ∧ x.2 < N) => gmatrix_calls (w := w') (c := c) (b := b) (d := d) (L := g.es.length) (M := g.cs.length) (n := N) ((he.below hbw2).below h) rfl (by omega) (fun x hx => by have := hev x hx; omega)
  obtain ⟨⟨z1, z2⟩, hz⟩ : ∃ z, hasA g i k = z := ⟨_, rfl⟩
  rw [hz]
  unfold hasA at hz
  have hok := @withA_ok g [i, k]
  obtain ⟨E, hE⟩ : ∃ E, withA g [i, k] = E := ⟨_, rfl⟩
  rw [hE] at K77 hz hok
  obtain ⟨L, hL⟩ : ∃ L, g.es.length = L := ⟨_, rfl⟩
  obtain ⟨M, hM⟩ : ∃ M, g.cs.length = M := ⟨_, rfl⟩
  obtain ⟨N0, hN0⟩ : ∃ N0, g.n = N0 := ⟨_, rfl⟩
  simp only [List.length_cons, List.length_nil, Nat.zero_add, Nat.reduceAdd] at K77
  by_cases hE0 : E = 0
  · obtain ⟨hg0, hv⟩ := hok hE0
    obtain ⟨N, hN, hN24, hel, hev, hcl⟩ := chk_edges hg0
    have hvi := hv i (by simp)
    have hvk := hv k (by simp)
    obtain ⟨i, rfl⟩ : ∃ n : Nat, i = n := ⟨i.toNat, by omega⟩
    obtain ⟨k, rfl⟩ : ∃ n : Nat, k = n := ⟨k.toNat, by omega⟩
    rw [if_neg (by simpa using hE0)] at hz
    have hz1 : z1 = adj g.es i k ∧ z2 = 0 := by
      simp only [Int.toNat_natCast, Prod.mk.injEq] at hz
      exact ⟨hz.1.symm, hz.2.symm⟩
    obtain ⟨hz1, rfl⟩ := hz1
    have K78 := fun (w' : World) (h : Below W2.heap.size W2 w') => K78 w' h N hN hN24 hev
    rw [hN] at K77 hW1 hx1 hx2 hvi hvk ⊢
    rw [hL] at K77 hW1 hx1 hx2 K78 ⊢
    rw [hM] at K77 hW1 hx1 hx2 K78 ⊢
    have H := Lib.hid (And.intro K77 (And.intro K78 (And.intro hx2 (And.intro hbw2 (And.intro hR hz1)))))
    have HW := Lib.hid hW1
    have HW2 := Lib.hid hW2
    have hiN : i < N := by omega
    have hkN : k < N := by omega
    have hiI : (i : Int) < N := hvi.2
    have hkI : (k : Int) < N := hvk.2
    obtain ⟨x0, x1, x2⟩ := hx1
    subst hE0
    clear K77 K78 hx2 hbw2 hb1 hb2 hl2 hW1 hW2 hE hz hok hN0 hL hM hg0 hv hN hel hev hcl he hc hR hs1 hvi hvk hz1
    go_enter Tryz.func24, Tryz.ntmps24
    go_upto_region 1 with (fail)
    rw [← HW.out]
    try rw [H.out.2.2.2.2.1]
    go_wp2_with (first
      | (rw [← HW2.out]; go_at_call 77; refine H.out.1.mono ?_; rintro e w3 ⟨rfl, hw3⟩; obtain ⟨x0, x1, x2⟩ := H.out.2.2.1.below hw3; have HA := Lib.hid hw3; clear hw3)
      | (go_at_call 78; refine (H.out.2.1 _ HA.out).mono ?_; rintro e w4 ⟨G, mc, rfl, hmat, hw4⟩; obtain ⟨q, cc, _, g1, g2, _, _⟩ := hmat.entry hiN hkN; have HB := Lib.hid (H.out.2.2.2.1.trans ((below_two HA.out hw4).mono H.out.2.2.2.1.size)); clear hw4 hmat x0 x1 x2))
    go_ret2
    exact ⟨by rw [H.out.2.2.2.2.2, ← one_adjF2]; rfl, HB.out⟩
  · rw [if_pos (by simpa using hE0)] at hz
    have hz1 : z1 = false ∧ z2 = E := by
      simp only [Prod.mk.injEq] at hz
      exact ⟨hz.1.symm, hz.2.symm⟩
    obtain ⟨rfl, rfl⟩ := hz1
    have hEn : (z2 != 0) = true := by simp [hE0]
    rw [hN0, hL, hM] at K77 hW1 hx1 ⊢
    have H := Lib.hid (And.intro K77 (And.intro hbw2 hR))
    have HW := Lib.hid hW1
    have HW2 := Lib.hid hW2
    obtain ⟨x0, x1, x2⟩ := hx1
    clear K77 K78 hx2 hbw2 hb1 hb2 hl2 hW1 hW2 hE hz hok hN0 hL hM he hc hR hs1 hE0
    go_enter Tryz.func24, Tryz.ntmps24
    go_upto_region 1 with (fail)
    rw [← HW.out]
    try rw [H.out.2.2]
    go_wp2_with (rw [← HW2.out]; go_at_call 77; refine H.out.1.mono ?_; rintro e w3 ⟨rfl, hw3⟩; have HA := Lib.hid hw3; clear hw3)
    go_ret2
    exact ⟨rfl, H.out.2.1.trans (HA.out.mono H.out.2.1.size)⟩
theorem withA_chk {g : Gr} {l : List Int} (h : chkGr g ≠ 0) : withA g l = chkGr g := by unfold withA; rw [if_pos h]
theorem withA_bad {g : Gr} {l : List Int} {v : Int} (h : chkGr g = 0) (hv : v ∈ l) (hb : vert g.n v = false) : withA g l = 2 := by
  unfold withA
  rw [if_neg (by simpa using h), if_pos]
  unfold badW
  exact List.any_eq_true.2 ⟨v, hv, by simp [hb]⟩
theorem withA_good {g : Gr} {l : List Int} (h : chkGr g = 0) (hl : ∀ v ∈ l, vert g.n v = true) : withA g l = 0 := by
  unfold withA
  rw [if_neg (by simpa using h), if_neg]
  unfold badW
  intro hh
  obtain ⟨v, hv, hb⟩ := List.any_eq_true.1 hh
  rw [hl v hv] at hb
  simp at hb
theorem vert_in {n v : Int} (h : vert n v = true) : 0 ≤ v ∧ v < n := by unfold vert at h; simpa using h
set_option maxRecDepth 100000 in
set_option maxHeartbeats 4000000 in
theorem hasR_calls {w : World} {a b : Option Addr} {c d : Nat} {g : Gr} (i k : Int) (he : Edg w a g.es) (hc : Ints w b g.cs) :
    Calls Tryz.prog 26 #[.agg #[.int .i64 g.n, .slice a g.es.length c, .slice b g.cs.length d], .int .i64 i, .int .i64 k] w fun e w' => e = .returned (.tuple #[.bool (hasA g i k).1, .int .i64 (hasA g i k).2]) ∧ Below w.heap.size w w' := by
  obtain ⟨R, hR⟩ : ∃ R, w.heap.size = R := ⟨_, rfl⟩
  obtain ⟨W1, hW1⟩ : ∃ W1, W1 = w.alloc (.cells #[.int .i64 g.n, .slice a g.es.length c, .slice b g.cs.length d] 25) := ⟨_, rfl⟩
  have hb1 : Below R w W1 := by rw [hW1, ← hR]; exact (Below.refl _ w).alloc (Nat.le_refl _) _
  have hx1 : Bx W1 R (.int .i64 g.n) (.slice a g.es.length c) (.slice b g.cs.length d) := by rw [hW1, ← hR]; exact Bx.new _ _ _ _
  have hbw1 : Below w.heap.size w W1 := by rw [hR]; exact hb1
  have K28 := gcheckR_calls (c := c) (d := d) (he.below hbw1) (hc.below hbw1)
  have K71 := fun (w' : World) (h : Below w.heap.size w w') (N : Nat) (hN : g.n = N) (hN24 : N ≤ 24) (hev : ∀ x ∈ g.es, 0 ≤ x.1 ∧ x.1 < x.2 ∧ x.2 < N) => gmatrixR_calls (w := w') (c := c) (b := b) (d := d) (L := g.es.length) (M := g.cs.length) (n := N) (he.below h) rfl (by omega) (fun x hx => by have := hev x hx; omega)
  obtain ⟨⟨z1, z2⟩, hz⟩ : ∃ z, hasA g i k = z := ⟨_, rfl⟩
  rw [hz]
  unfold hasA at hz
  obtain ⟨E, hE⟩ : ∃ E, chkGr g = E := ⟨_, rfl⟩
  rw [hE] at K28
  obtain ⟨L, hL⟩ : ∃ L, g.es.length = L := ⟨_, rfl⟩
  obtain ⟨M, hM⟩ : ∃ M, g.cs.length = M := ⟨_, rfl⟩
  obtain ⟨N0, hN0⟩ : ∃ N0, g.n = N0 := ⟨_, rfl⟩
  by_cases hE0 : E = 0
  · cases hv1 : vert g.n i
    · rw [withA_bad (v := i) (hE.trans hE0) (by simp) hv1, if_pos (by decide)] at hz
      cases hz
      rw [hN0, hL, hM] at K28 hW1 hx1 ⊢
      rw [hN0] at hv1
      have H := Lib.hid (And.intro K28 (And.intro hx1 hbw1))
      have HW := Lib.hid hW1
      have HR := Lib.hid hR
      obtain ⟨x0, x1, x2⟩ := hx1
      subst hE0
      clear K28 K71 hbw1 hb1 hW1 hE hN0 hL hM he hc hR
      go_enter Tryz.func26, Tryz.ntmps26
      go_upto_region 1 with (fail)
      rw [← HW.out]
      try rw [HR.out]
      go_wp2_with (first
        | (go_at_call 28; refine H.out.1.mono ?_; rintro e w3 ⟨rfl, hw3⟩; obtain ⟨x0, x1, x2⟩ := H.out.2.1.below hw3; have HA := Lib.hid (H.out.2.2.trans (hw3.mono H.out.2.2.size)); clear hw3)
        | (go_at_call 72; refine (vertexR_calls _ _ _).mono ?_; rintro e w9 ⟨rfl, hw9⟩; replace hw9 := hw9.symm; subst hw9; simp only [hv1]))
      go_ret2
      exact ⟨rfl, HA.out⟩
    · cases hv2 : vert g.n k
      · rw [withA_bad (v := k) (hE.trans hE0) (by simp) hv2, if_pos (by decide)] at hz
        cases hz
        rw [hN0, hL, hM] at K28 hW1 hx1 ⊢
        rw [hN0] at hv1 hv2
        have H := Lib.hid (And.intro K28 (And.intro hx1 hbw1))
        have HW := Lib.hid hW1
        have HR := Lib.hid hR
        obtain ⟨x0, x1, x2⟩ := hx1
        subst hE0
        clear K28 K71 hbw1 hb1 hW1 hE hN0 hL hM he hc hR
        go_enter Tryz.func26, Tryz.ntmps26
        go_upto_region 1 with (fail)
        rw [← HW.out]
        try rw [HR.out]
        go_wp2_with (first
          | (go_at_call 28; refine H.out.1.mono ?_; rintro e w3 ⟨rfl, hw3⟩; obtain ⟨x0, x1, x2⟩ := H.out.2.1.below hw3; have HA := Lib.hid (H.out.2.2.trans (hw3.mono H.out.2.2.size)); clear hw3)
          | (go_at_call 72; refine (vertexR_calls _ _ _).mono ?_; rintro e w9 ⟨rfl, hw9⟩; replace hw9 := hw9.symm; subst hw9; first | simp only [hv1] | simp only [hv2]))
        go_ret2
        exact ⟨rfl, HA.out⟩
      · rw [withA_good (hE.trans hE0) (by simp [hv1, hv2]), if_neg (by decide)] at hz
        obtain ⟨N, hN, hN24, hel, hev, hcl⟩ := chk_edges (hE.trans hE0)
        have hvi := vert_in hv1
        have hvk := vert_in hv2
        obtain ⟨i, rfl⟩ : ∃ n : Nat, i = n := ⟨i.toNat, by omega⟩
        obtain ⟨k, rfl⟩ : ∃ n : Nat, k = n := ⟨k.toNat, by omega⟩
        have hz1 : z1 = adj g.es i k ∧ z2 = 0 := by
          simp only [Int.toNat_natCast, Prod.mk.injEq] at hz
          exact ⟨hz.1.symm, hz.2.symm⟩
        obtain ⟨hz1, rfl⟩ := hz1
        have K71 := fun (w' : World) (h : Below w.heap.size w w') => K71 w' h N hN hN24 hev
        rw [hN] at K28 hW1 hx1 hvi hvk hv1 hv2 ⊢
        rw [hL] at K28 hW1 hx1 K71 ⊢
        rw [hM] at K28 hW1 hx1 K71 ⊢
        have H := Lib.hid (And.intro K28 (And.intro K71 (And.intro hx1 (And.intro hbw1 hz1))))
        have HW := Lib.hid hW1
        have HR := Lib.hid hR
        have hiN : i < N := by omega
        have hkN : k < N := by omega
        have hiI : (i : Int) < N := hvi.2
        have hkI : (k : Int) < N := hvk.2
        obtain ⟨x0, x1, x2⟩ := hx1
        subst hE0
        clear K28 K71 hbw1 hb1 hW1 hE hz hN0 hL hM hN hel hev hcl he hc hR hvi hvk hz1
        go_enter Tryz.func26, Tryz.ntmps26
        go_upto_region 1 with (fail)
        rw [← HW.out]
        try rw [HR.out]
        go_wp2_with (first
          | (go_at_call 28; refine H.out.1.mono ?_; rintro e w3 ⟨rfl, hw3⟩; obtain ⟨x0, x1, x2⟩ := H.out.2.2.1.below hw3; have HA := Lib.hid (H.out.2.2.2.1.trans (hw3.mono H.out.2.2.2.1.size)); clear hw3)
          | (go_at_call 72; refine (vertexR_calls _ _ _).mono ?_; rintro e w9 ⟨rfl, hw9⟩; replace hw9 := hw9.symm; subst hw9; first | simp only [hv1] | simp only [hv2])
          | (go_at_call 71; refine (H.out.2.1 _ HA.out).mono ?_; rintro e w4 ⟨G, mc, rfl, hmat, hw4⟩; obtain ⟨q, cc, _, g1, g2, _, _⟩ := hmat.entry hiN hkN; have HB := Lib.hid (HA.out.trans (hw4.mono HA.out.size)); clear hw4 hmat x0 x1 x2))
        go_ret2
        exact ⟨by rw [H.out.2.2.2.2, ← one_adjF2]; rfl, HB.out⟩
  · rw [withA_chk (by rw [hE]; exact hE0), if_pos (by rw [hE]; exact hE0), hE] at hz
    cases hz
    have hEn : (z2 != 0) = true := by simp [hE0]
    rw [hN0, hL, hM] at K28 hW1 hx1 ⊢
    have H := Lib.hid (And.intro K28 (And.intro hbw1 hR))
    have HW := Lib.hid hW1
    obtain ⟨x0, x1, x2⟩ := hx1
    clear K28 K71 hbw1 hb1 hW1 hE hN0 hL hM he hc hR hE0
    go_enter Tryz.func26, Tryz.ntmps26
    go_upto_region 1 with (fail)
    rw [← HW.out]
    try rw [H.out.2.2]
    go_wp2_with (go_at_call 28; refine H.out.1.mono ?_; rintro e w3 ⟨rfl, hw3⟩; have HA := Lib.hid hw3; clear hw3)
    go_ret2
    exact ⟨rfl, H.out.2.1.trans (HA.out.mono H.out.2.1.size)⟩
end Go.Proofs.YtifkieopaoooeaaGreatDoor
