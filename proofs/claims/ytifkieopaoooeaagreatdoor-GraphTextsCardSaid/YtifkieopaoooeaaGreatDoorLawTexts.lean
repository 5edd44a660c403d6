/- The law: both write the same text and read the same graph. -/
import Derived.Test.YtifkieopaoooeaaGreatDoorParseR2
import Derived.Test.YtifkieopaoooeaaGreatDoorTextR
import Derived.Test.YtifkieopaoooeaaGreatDoorSameG
import Derived.Test.YtifkieopaoooeaaGreatDoorAwake
set_option linter.unusedSimpArgs false
set_option linter.unusedVariables false
namespace Go.Proofs.YtifkieopaoooeaaGreatDoor
open Go.RowKit Plain PlainG
def grOf (r : Except Flt Gr) : Gr := match r with | .ok g => g | .error _ => ⟨0, [], []⟩
def fltOf (r : Except Flt Gr) : Flt := match r with | .ok _ => (0, 0) | .error f => f
theorem ParseRes.read {w w' : World} {r : Except Flt Gr} {e : Ending} (h : ParseRes w r e w') :
    ∃ a c b d, e = .returned (.tuple #[.agg #[.int .i64 (grOf r).n, .slice a (grOf r).es.length c, .slice b (grOf r).cs.length d], .agg #[.int .i64 (fltOf r).1, .int .i64 ((fltOf r).2 : Int)]]) ∧ Edg w' a (grOf r).es ∧ Ints w' b (grOf r).cs ∧ Below w.heap.size w w' := by
  cases r with
  | error f =>
    obtain ⟨rfl, hb⟩ := h
    exact ⟨none, 0, none, 0, rfl, ⟨by simp [grOf], fun i x hx => by simp [grOf] at hx⟩, ⟨by simp [grOf, maxLen], fun i u hu => by simp [grOf] at hu⟩, hb⟩
  | ok g =>
    obtain ⟨a, c, b, d, rfl, h1, h2, h3, h4, hb⟩ := h
    exact ⟨a, c, b, d, rfl, OwnE.edg h1 (by simp only [grOf]; omega), Own.toInts h2 (by simp only [grOf]; unfold maxLen; omega), hb⟩
theorem bchain {w W1 w2 : World} {R : Nat} (h : Below R w W1) (hR : w.heap.size = R) (k : Below W1.heap.size W1 w2) : Below R w w2 := h.trans (k.mono (by rw [← hR]; exact h.size))
theorem below_two {w W1 w2 : World} (h : Below w.heap.size w W1) (k : Below W1.heap.size W1 w2) : Below w.heap.size w w2 := h.trans (k.mono h.size)
/-- A graph and a fault, laid into boxes of their own. -/
theorem two_boxes {w : World} (a0 a1 a2 b0 b1 : Value) :
    ∃ W, W = (w.alloc (.cells #[a0, a1, a2] 25)).alloc (.cells #[b0, b1] 32) ∧
      W.cell? ⟨w.heap.size, 0, none⟩ = some a0 ∧ W.cell? ⟨w.heap.size, 1, none⟩ = some a1 ∧ W.cell? ⟨w.heap.size, 2, none⟩ = some a2 ∧ W.cell? ⟨w.heap.size + 1, 0, none⟩ = some b0 ∧ W.cell? ⟨w.heap.size + 1, 1, none⟩ = some b1 ∧ Below w.heap.size w W := by
  have h1 : ((w.alloc (.cells #[a0, a1, a2] 25)).alloc (.cells #[b0, b1] 32)).heap[w.heap.size]? = some (.cells #[a0, a1, a2] 25) := by
    rw [Below.heap_alloc _ _ _ (by simp)]; exact heap_new w _
  have h2 : ((w.alloc (.cells #[a0, a1, a2] 25)).alloc (.cells #[b0, b1] 32)).heap[w.heap.size + 1]? = some (.cells #[b0, b1] 32) := by
    have e : w.heap.size + 1 = (w.alloc (.cells #[a0, a1, a2] 25)).heap.size := by simp
    rw [e]; exact heap_new _ _
  exact ⟨_, rfl, by simp [World.cell?, h1], by simp [World.cell?, h1], by simp [World.cell?, h1], by unfold World.cell?; rw [h2]; rfl, by unfold World.cell?; rw [h2]; rfl, ((Below.refl _ w).alloc (Nat.le_refl _) _).alloc (by simp) _⟩
set_option maxRecDepth 100000 in
set_option maxHeartbeats 8000000 in
theorem texts_calls {w : World} {a b : Option Addr} {g : Gr} (c d : Nat) (s : ByteArray) (he : Edg w a g.es) (hc : Ints w b g.cs) :
    Calls Tryz.prog 3 #[.agg #[.int .i64 g.n, .slice a g.es.length c, .slice b g.cs.length d], .string s] w fun e w' => e = .returned (.bool true) ∧ Below w.heap.size w w' := by
  obtain ⟨W1, hW1⟩ : ∃ W1, W1 = w.alloc (.cells #[.int .i64 g.n, .slice a g.es.length c, .slice b g.cs.length d] 25) := ⟨_, rfl⟩
  have hb1 : Below w.heap.size w W1 := by rw [hW1]; exact (Below.refl _ w).alloc (Nat.le_refl _) _
  have hx1 : ∀ w', Below W1.heap.size W1 w' → w'.cell? ⟨w.heap.size, 0, none⟩ = some (.int .i64 g.n) ∧ w'.cell? ⟨w.heap.size, 1, none⟩ = some (.slice a g.es.length c) ∧ w'.cell? ⟨w.heap.size, 2, none⟩ = some (.slice b g.cs.length d) ∧ w.heap.size < w'.heap.size := fun w' h => by
    rw [hW1] at h; exact box3 h
  have K10 := large_calls a b c d g.es.length g.cs.length g.n
  obtain ⟨Lg, hLg⟩ : ∃ Lg, (decide ((400 : Int) < (g.es.length : Int)) || decide ((40 : Int) < (g.cs.length : Int))) = Lg := ⟨_, rfl⟩
  rw [hLg] at K10
  have K12 := fun (w' : World) (h : Below w.heap.size w w') => gtext_calls (c := c) (d := d) (he.below h) (hc.below h)
  have K13 := fun (w' : World) (h : Below w.heap.size w w') => gtextR_calls (c := c) (d := d) (he.below h) (hc.below h)
  obtain ⟨L, hL⟩ : ∃ L, g.es.length = L := ⟨_, rfl⟩
  obtain ⟨M, hM⟩ : ∃ M, g.cs.length = M := ⟨_, rfl⟩
  obtain ⟨N, hN⟩ : ∃ N, g.n = N := ⟨_, rfl⟩
  obtain ⟨T, hT⟩ : ∃ T, sb (textR g) = T := ⟨_, rfl⟩
  obtain ⟨E, hE⟩ : ∃ E, chkGr g = E := ⟨_, rfl⟩
  rw [hL, hM, hN] at hW1 hx1 K10 ⊢
  rw [hL, hM, hN, hT, hE] at K12 K13
  obtain ⟨S, hS⟩ : ∃ S, s.size = S := ⟨_, rfl⟩
  have hA := Lib.hid awake_calls
  obtain ⟨R, hR⟩ : ∃ R, w.heap.size = R := ⟨_, rfl⟩
  rw [hR] at hb1 hx1 K12 K13
  obtain ⟨x0, x1, x2, x3⟩ := hx1 W1 (Below.refl _ _)
  have H := Lib.hid (And.intro K10 (And.intro hx1 (And.intro hb1 (And.intro K12 (And.intro K13 (And.intro hS hR))))))
  have HW := Lib.hid hW1
  have HLg := Lib.hid hLg
  clear K10 hx1 hb1 K12 K13 hW1 hLg he hc hL hM hN hT hE hR
  by_cases hg : Lg = true ∨ (3000 < S ∧ S ≤ 20000) ∨ 40000 < S
  · cases Lg with
    | true =>
      clear hg
      go_enter Tryz.func3, Tryz.ntmps3
      go_upto_region 1 with (fail)
      rw [← HW.out]
      rw [H.out.2.2.2.2.2.2]
      go_wp2_with (first
        | (go_at_call 10; refine (H.out.1 _).mono ?_; rintro e w2 ⟨rfl, hw2⟩; have HB := Lib.hid hw2; clear hw2)
        | (go_at_call 11; refine (hA.out _).mono ?_; rintro e w3 ⟨rfl, hw3⟩; have HC := Lib.hid hw3; clear hw3))
      go_ret
      exact ⟨rfl, by rw [H.out.2.2.2.2.2.2]; exact (H.out.2.2.1.trans (HB.out.mono (by have := H.out.2.2.1.size; have := H.out.2.2.2.2.2.2; omega))).trans (HC.out.mono (by have := HB.out.size; have := H.out.2.2.1.size; have := H.out.2.2.2.2.2.2; omega))⟩
    | false =>
      have hg : (3000 < S ∧ S ≤ 20000) ∨ 40000 < S := by simpa using hg
      have hsz := H.out.2.2.2.2.2.1
      by_cases h40 : 40000 < S
      · have d1 : decide ((3000 : Int) < (s.size : Int)) = true := by simp; omega
        have d2 : decide ((s.size : Int) ≤ 20000) = false := by simp; omega
        have d3 : decide ((40000 : Int) < (s.size : Int)) = true := by simp; omega
        have e1 : (3000 : Int) < (s.size : Int) := by omega
        have e2 : ¬ (s.size : Int) ≤ 20000 := by omega
        have e3 : (40000 : Int) < (s.size : Int) := by omega
        have HS := Lib.hid hsz
        clear hg h40 hsz
        go_enter Tryz.func3, Tryz.ntmps3
        go_upto_region 1 with (fail)
        rw [← HW.out]
        rw [H.out.2.2.2.2.2.2]
        go_wp2_with (first
          | (go_at_call 10; refine (H.out.1 _).mono ?_; rintro e w2 ⟨rfl, hw2⟩; have HB := Lib.hid hw2; clear hw2)
          | (go_at_call 11; refine (hA.out _).mono ?_; rintro e w3 ⟨rfl, hw3⟩; have HC := Lib.hid hw3; clear hw3))
        go_ret
        exact ⟨rfl, by rw [H.out.2.2.2.2.2.2]; exact (H.out.2.2.1.trans (HB.out.mono (by have := H.out.2.2.1.size; have := H.out.2.2.2.2.2.2; omega))).trans (HC.out.mono (by have := HB.out.size; have := H.out.2.2.1.size; have := H.out.2.2.2.2.2.2; omega))⟩
      · have d1 : decide ((3000 : Int) < (s.size : Int)) = true := by simp; omega
        have d2 : decide ((s.size : Int) ≤ 20000) = true := by simp; omega
        have e1 : (3000 : Int) < (s.size : Int) := by omega
        have e2 : (s.size : Int) ≤ 20000 := by omega
        have HS := Lib.hid hsz
        clear hg h40 hsz
        go_enter Tryz.func3, Tryz.ntmps3
        go_upto_region 1 with (fail)
        rw [← HW.out]
        rw [H.out.2.2.2.2.2.2]
        go_wp2_with (first
          | (go_at_call 10; refine (H.out.1 _).mono ?_; rintro e w2 ⟨rfl, hw2⟩; have HB := Lib.hid hw2; clear hw2)
          | (go_at_call 11; refine (hA.out _).mono ?_; rintro e w3 ⟨rfl, hw3⟩; have HC := Lib.hid hw3; clear hw3))
        go_ret
        exact ⟨rfl, by rw [H.out.2.2.2.2.2.2]; exact (H.out.2.2.1.trans (HB.out.mono (by have := H.out.2.2.1.size; have := H.out.2.2.2.2.2.2; omega))).trans (HC.out.mono (by have := HB.out.size; have := H.out.2.2.1.size; have := H.out.2.2.2.2.2.2; omega))⟩
  · have hLg0 : Lg = false := by cases Lg <;> simp_all
    subst hLg0
    have hg : ¬ (3000 < S ∧ S ≤ 20000) ∧ ¬ 40000 < S := by simpa using hg
    have hsz := H.out.2.2.2.2.2.1
    have hgd : decide ((3000 : Int) < (s.size : Int)) = false ∨ (decide ((3000 : Int) < (s.size : Int)) = true ∧ decide ((s.size : Int) ≤ 20000) = false) := by
      by_cases h : 3000 < S
      · right; simp; omega
      · left; simp; omega
    have d3 : decide ((40000 : Int) < (s.size : Int)) = false := by simp; omega
    have e3 : ¬ (40000 : Int) < (s.size : Int) := by omega
    have K14 := fun w => (gparse_calls s w (by omega)).mono fun e w' h => ParseRes.read h
    have K15 := fun w => (gparseR_calls s w (by omega)).mono fun e w' h => ParseRes.read h
    obtain ⟨r, hr⟩ : ∃ r, parse (bytesOf s) = r := ⟨_, rfl⟩
    rw [hr] at K14 K15
    have K16 := fun (w : World) (a1 b1 a2 b2 : Option Addr) (c1 d1 c2 d2 : Nat) (h1 : Edg w a1 (grOf r).es) (h2 : Ints w b1 (grOf r).cs) (h3 : Edg w a2 (grOf r).es) (h4 : Ints w b2 (grOf r).cs) => sameGraph_calls (c1 := c1) (d1 := d1) (c2 := c2) (d2 := d2) h1 h2 h3 h4
    rw [sameG_iff.2 rfl] at K16
    obtain ⟨f1, hf1⟩ : ∃ f1, (fltOf r).1 = f1 := ⟨_, rfl⟩
    obtain ⟨f2, hf2⟩ : ∃ f2, (fltOf r).2 = f2 := ⟨_, rfl⟩
    rw [hf1, hf2] at K14 K15
    obtain ⟨L1, hL1⟩ : ∃ L1, (grOf r).es.length = L1 := ⟨_, rfl⟩
    obtain ⟨M1, hM1⟩ : ∃ M1, (grOf r).cs.length = M1 := ⟨_, rfl⟩
    obtain ⟨N1, hN1⟩ : ∃ N1, (grOf r).n = N1 := ⟨_, rfl⟩
    rw [hL1, hM1, hN1] at K14 K15 K16
    have HP := Lib.hid (And.intro K14 (And.intro K15 K16))
    have HS := Lib.hid hsz
    clear K14 K15 K16 hsz hg hr hL1 hM1 hN1 hf1 hf2
    have e1 : decide ((3000 : Int) < (s.size : Int)) = true → ¬ (s.size : Int) ≤ 20000 := fun h => by
      rcases hgd with d1 | ⟨_, d2⟩
      · rw [d1] at h; cases h
      · simpa using d2
    have HE := Lib.hid e1
    clear e1
    obtain ⟨D, hD⟩ : ∃ D, decide ((3000 : Int) < (s.size : Int)) = D := ⟨_, rfl⟩
    cases D with
    | true =>
      have d1 := hD
      have e1 : (3000 : Int) < (s.size : Int) := by simpa using hD
      have e2 := HE.out hD
      have d2 : decide ((s.size : Int) ≤ 20000) = false := by simpa using e2
      clear hgd hD
      go_enter Tryz.func3, Tryz.ntmps3
      go_upto_region 1 with (fail)
      rw [← HW.out]
      rw [H.out.2.2.2.2.2.2]
      go_upto_region 6 with (first
        | (go_at_call 10; refine (H.out.1 _).mono ?_; rintro e w2 ⟨rfl, hw2⟩; obtain ⟨x0, x1, x2, x3⟩ := H.out.2.1 _ hw2; have HB := Lib.hid (bchain H.out.2.2.1 H.out.2.2.2.2.2.2 hw2); have HB1 := Lib.hid hw2; clear hw2)
        | (go_at_call 12; refine (H.out.2.2.2.1 _ HB.out).mono ?_; rintro e w3 ⟨rfl, hw3⟩; have HC1 := Lib.hid (below_two HB1.out hw3); obtain ⟨x0, x1, x2, x3⟩ := H.out.2.1 _ HC1.out; have HC := Lib.hid (bchain HB.out H.out.2.2.2.2.2.2 hw3); clear hw3)
        | (go_at_call 13; refine (H.out.2.2.2.2.1 _ HC.out).mono ?_; rintro e w4 ⟨rfl, hw4⟩; have HD := Lib.hid (bchain HC.out H.out.2.2.2.2.2.2 hw4); clear hw4 x0 x1 x2)
        | (go_at_call 14; refine (HP.out.1 _).mono ?_; rintro e w5 ⟨a1, c1, b1, d1', rfl, q1, q2, q3⟩; have HF := Lib.hid (And.intro q1 (And.intro q2 (bchain HD.out H.out.2.2.2.2.2.2 q3))); clear q1 q2 q3))
      obtain ⟨D1, hD1⟩ : ∃ D1, w5.heap.size = D1 := ⟨_, rfl⟩
      obtain ⟨W3, hW3, y0, y1, y2, y3, y4, hbW3⟩ := two_boxes (w := w5) (.int .i64 N1) (.slice a1 L1 c1) (.slice b1 M1 d1') (.int .i64 f1) (.int .i64 (f2 : Int))
      rw [← hW3]
      rw [hD1] at y0 y1 y2 y3 y4 hbW3
      try rw [hD1]
      have hbW3' : Below w5.heap.size w5 W3 := by rw [hD1]; exact hbW3
      have HG := Lib.hid (And.intro (HF.out.1.below hbW3') (And.intro (HF.out.2.1.below hbW3') (bchain HF.out.2.2 H.out.2.2.2.2.2.2 hbW3')))
      have y5 : D1 + 1 < W3.heap.size := by have := block_lt_of_cell y3; exact this
      have HG2 := Lib.hid (And.intro y0 (And.intro y1 (And.intro y2 (And.intro y3 (And.intro y4 y5)))))
      clear hW3 hbW3 hbW3' hD1 y0 y1 y2 y3 y4 y5
      go_upto_region 7 with (go_at_call 15; refine (HP.out.2.1 _).mono ?_; rintro e w6 ⟨a2, c2, b2, d2', rfl, q1, q2, q3⟩; have HI := Lib.hid (And.intro q1 (And.intro q2 (And.intro q3 (bchain HG.out.2.2 H.out.2.2.2.2.2.2 q3)))); clear q1 q2 q3)
      obtain ⟨D2, hD2⟩ : ∃ D2, w6.heap.size = D2 := ⟨_, rfl⟩
      obtain ⟨W4, hW4, z0, z1, z2, z3, z4, hbW4⟩ := two_boxes (w := w6) (.int .i64 N1) (.slice a2 L1 c2) (.slice b2 M1 d2') (.int .i64 f1) (.int .i64 (f2 : Int))
      rw [← hW4]
      rw [hD2] at z0 z1 z2 z3 z4 hbW4
      try rw [hD2]
      have hbW4' : Below w6.heap.size w6 W4 := by rw [hD2]; exact hbW4
      have hb34 := below_two HI.out.2.2.1 hbW4'
      have HJ := Lib.hid (HP.out.2.2 W4 a1 b1 a2 b2 c1 d1' c2 d2' (HG.out.1.below hb34) (HG.out.2.1.below hb34) (HI.out.1.below hbW4') (HI.out.2.1.below hbW4'))
      have HK := Lib.hid (bchain HI.out.2.2.2 H.out.2.2.2.2.2.2 hbW4')
      have y0 := (hb34.cell (p := ⟨D1, 0, none⟩) (block_lt_of_cell HG2.out.1)).trans HG2.out.1
      have y1 := (hb34.cell (p := ⟨D1, 1, none⟩) (block_lt_of_cell HG2.out.2.1)).trans HG2.out.2.1
      have y2 := (hb34.cell (p := ⟨D1, 2, none⟩) (block_lt_of_cell HG2.out.2.2.1)).trans HG2.out.2.2.1
      have y3 := (hb34.cell (p := ⟨D1 + 1, 0, none⟩) (block_lt_of_cell HG2.out.2.2.2.1)).trans HG2.out.2.2.2.1
      have y4 := (hb34.cell (p := ⟨D1 + 1, 1, none⟩) (block_lt_of_cell HG2.out.2.2.2.2.1)).trans HG2.out.2.2.2.2.1
      have HL := Lib.hid (And.intro (block_lt_of_cell y3) (block_lt_of_cell z3))
      have HM := Lib.hid (And.intro y3 (And.intro y4 (And.intro z3 z4)))
      clear hW4 hbW4 hbW4' hD2 hb34
      go_wp2_with (first
        | (go_at_call 16; refine HJ.out.mono ?_; rintro e w7 ⟨rfl, hw7⟩; have g3 := (hw7.cell (p := ⟨D1 + 1, 0, none⟩) HL.out.1).trans HM.out.1; have g4 := (hw7.cell (p := ⟨D1 + 1, 1, none⟩) HL.out.1).trans HM.out.2.1; have g5 := (hw7.cell (p := ⟨D2 + 1, 0, none⟩) HL.out.2).trans HM.out.2.2.1; have g6 := (hw7.cell (p := ⟨D2 + 1, 1, none⟩) HL.out.2).trans HM.out.2.2.2; have HN := Lib.hid (bchain HK.out H.out.2.2.2.2.2.2 hw7); clear hw7 y0 y1 y2 y3 y4 z0 z1 z2 z3 z4)
        | (go_at_call 11; refine (hA.out _).mono ?_; rintro e w8 ⟨rfl, hw8⟩; have HO := Lib.hid (bchain HN.out H.out.2.2.2.2.2.2 hw8); clear hw8 g3 g4 g5 g6))
      go_ret
      exact ⟨rfl, by rw [H.out.2.2.2.2.2.2]; exact HO.out⟩
    | false =>
      have d1 := hD
      have e1 : ¬ (3000 : Int) < (s.size : Int) := by simpa using hD
      clear hgd hD
      go_enter Tryz.func3, Tryz.ntmps3
      go_upto_region 1 with (fail)
      rw [← HW.out]
      rw [H.out.2.2.2.2.2.2]
      go_upto_region 6 with (first
        | (go_at_call 10; refine (H.out.1 _).mono ?_; rintro e w2 ⟨rfl, hw2⟩; obtain ⟨x0, x1, x2, x3⟩ := H.out.2.1 _ hw2; have HB := Lib.hid (bchain H.out.2.2.1 H.out.2.2.2.2.2.2 hw2); have HB1 := Lib.hid hw2; clear hw2)
        | (go_at_call 12; refine (H.out.2.2.2.1 _ HB.out).mono ?_; rintro e w3 ⟨rfl, hw3⟩; have HC1 := Lib.hid (below_two HB1.out hw3); obtain ⟨x0, x1, x2, x3⟩ := H.out.2.1 _ HC1.out; have HC := Lib.hid (bchain HB.out H.out.2.2.2.2.2.2 hw3); clear hw3)
        | (go_at_call 13; refine (H.out.2.2.2.2.1 _ HC.out).mono ?_; rintro e w4 ⟨rfl, hw4⟩; have HD := Lib.hid (bchain HC.out H.out.2.2.2.2.2.2 hw4); clear hw4 x0 x1 x2)
        | (go_at_call 14; refine (HP.out.1 _).mono ?_; rintro e w5 ⟨a1, c1, b1, d1', rfl, q1, q2, q3⟩; have HF := Lib.hid (And.intro q1 (And.intro q2 (bchain HD.out H.out.2.2.2.2.2.2 q3))); clear q1 q2 q3))
      obtain ⟨D1, hD1⟩ : ∃ D1, w5.heap.size = D1 := ⟨_, rfl⟩
      obtain ⟨W3, hW3, y0, y1, y2, y3, y4, hbW3⟩ := two_boxes (w := w5) (.int .i64 N1) (.slice a1 L1 c1) (.slice b1 M1 d1') (.int .i64 f1) (.int .i64 (f2 : Int))
      rw [← hW3]
      rw [hD1] at y0 y1 y2 y3 y4 hbW3
      try rw [hD1]
      have hbW3' : Below w5.heap.size w5 W3 := by rw [hD1]; exact hbW3
      have HG := Lib.hid (And.intro (HF.out.1.below hbW3') (And.intro (HF.out.2.1.below hbW3') (bchain HF.out.2.2 H.out.2.2.2.2.2.2 hbW3')))
      have y5 : D1 + 1 < W3.heap.size := by have := block_lt_of_cell y3; exact this
      have HG2 := Lib.hid (And.intro y0 (And.intro y1 (And.intro y2 (And.intro y3 (And.intro y4 y5)))))
      clear hW3 hbW3 hbW3' hD1 y0 y1 y2 y3 y4 y5
      go_upto_region 7 with (go_at_call 15; refine (HP.out.2.1 _).mono ?_; rintro e w6 ⟨a2, c2, b2, d2', rfl, q1, q2, q3⟩; have HI := Lib.hid (And.intro q1 (And.intro q2 (And.intro q3 (bchain HG.out.2.2 H.out.2.2.2.2.2.2 q3)))); clear q1 q2 q3)
      obtain ⟨D2, hD2⟩ : ∃ D2, w6.heap.size = D2 := ⟨_, rfl⟩
      obtain ⟨W4, hW4, z0, z1, z2, z3, z4, hbW4⟩ := two_boxes (w := w6) (.int .i64 N1) (.slice a2 L1 c2) (.slice b2 M1 d2') (.int .i64 f1) (.int .i64 (f2 : Int))
      rw [← hW4]
      rw [hD2] at z0 z1 z2 z3 z4 hbW4
      try rw [hD2]
      have hbW4' : Below w6.heap.size w6 W4 := by rw [hD2]; exact hbW4
      have hb34 := below_two HI.out.2.2.1 hbW4'
      have HJ := Lib.hid (HP.out.2.2 W4 a1 b1 a2 b2 c1 d1' c2 d2' (HG.out.1.below hb34) (HG.out.2.1.below hb34) (HI.out.1.below hbW4') (HI.out.2.1.below hbW4'))
      have HK := Lib.hid (bchain HI.out.2.2.2 H.out.2.2.2.2.2.2 hbW4')
      have y0 := (hb34.cell (p := ⟨D1, 0, none⟩) (block_lt_of_cell HG2.out.1)).trans HG2.out.1
      have y1 := (hb34.cell (p := ⟨D1, 1, none⟩) (block_lt_of_cell HG2.out.2.1)).trans HG2.out.2.1
      have y2 := (hb34.cell (p := ⟨D1, 2, none⟩) (block_lt_of_cell HG2.out.2.2.1)).trans HG2.out.2.2.1
      have y3 := (hb34.cell (p := ⟨D1 + 1, 0, none⟩) (block_lt_of_cell HG2.out.2.2.2.1)).trans HG2.out.2.2.2.1
      have y4 := (hb34.cell (p := ⟨D1 + 1, 1, none⟩) (block_lt_of_cell HG2.out.2.2.2.2.1)).trans HG2.out.2.2.2.2.1
      have HL := Lib.hid (And.intro (block_lt_of_cell y3) (block_lt_of_cell z3))
      have HM := Lib.hid (And.intro y3 (And.intro y4 (And.intro z3 z4)))
      clear hW4 hbW4 hbW4' hD2 hb34
      go_wp2_with (first
        | (go_at_call 16; refine HJ.out.mono ?_; rintro e w7 ⟨rfl, hw7⟩; have g3 := (hw7.cell (p := ⟨D1 + 1, 0, none⟩) HL.out.1).trans HM.out.1; have g4 := (hw7.cell (p := ⟨D1 + 1, 1, none⟩) HL.out.1).trans HM.out.2.1; have g5 := (hw7.cell (p := ⟨D2 + 1, 0, none⟩) HL.out.2).trans HM.out.2.2.1; have g6 := (hw7.cell (p := ⟨D2 + 1, 1, none⟩) HL.out.2).trans HM.out.2.2.2; have HN := Lib.hid (bchain HK.out H.out.2.2.2.2.2.2 hw7); clear hw7 y0 y1 y2 y3 y4 z0 z1 z2 z3 z4)
        | (go_at_call 11; refine (hA.out _).mono ?_; rintro e w8 ⟨rfl, hw8⟩; have HO := Lib.hid (bchain HN.out H.out.2.2.2.2.2.2 hw8); clear hw8 g3 g4 g5 g6))
      go_ret
      exact ⟨rfl, by rw [H.out.2.2.2.2.2.2]; exact HO.out⟩
theorem textsW {w : World} {a b : Option Addr} {c0 d0 : Nat} {g : Gr} {s1 : ByteArray} (he : Edg w a g.es) (hc : Ints w b g.cs) :
    Calls Tryz.prog 3 #[.agg #[.int .i64 g.n, .slice a g.es.length c0, .slice b g.cs.length d0], .string s1] w fun e w' => e = .returned (.bool true) ∧ Below w.heap.size w w' := texts_calls c0 d0 s1 he hc
end Go.Proofs.YtifkieopaoooeaaGreatDoor
