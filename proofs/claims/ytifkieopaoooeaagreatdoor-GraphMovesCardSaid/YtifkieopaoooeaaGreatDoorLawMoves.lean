/- The law: both move, turn round, refine and write out a graph alike. -/
import Derived.Test.YtifkieopaoooeaaGreatDoorMoveB
import Derived.Test.YtifkieopaoooeaaGreatDoorRefR
import Derived.Test.YtifkieopaoooeaaGreatDoorLawKit
set_option linter.unusedSimpArgs false
set_option linter.unusedVariables false
namespace Go.Proofs.YtifkieopaoooeaaGreatDoor
open Go.RowKit Plain PlainG
set_option maxRecDepth 100000 in
set_option maxHeartbeats 16000000 in
theorem moves_calls {w : World} {a b p : Option Addr} {g : Gr} {pl : List Int} (c d e : Nat) (he : Edg w a g.es) (hc : Ints w b g.cs) (hp : Ints w p pl) :
    Calls Tryz.prog 7 #[.agg #[.int .i64 g.n, .slice a g.es.length c, .slice b g.cs.length d], .slice p pl.length e] w fun r w' => r = .returned (.bool true) ∧ Below w.heap.size w w' := by
  have hA := Lib.hid awake_calls
  obtain ⟨R, hR⟩ : ∃ R, w.heap.size = R := ⟨_, rfl⟩
  obtain ⟨W1, hW1⟩ : ∃ W1, W1 = w.alloc (.cells #[.int .i64 g.n, .slice a g.es.length c, .slice b g.cs.length d] 25) := ⟨_, rfl⟩
  have hb1 : Below R w W1 := by rw [hW1, ← hR]; exact (Below.refl _ w).alloc (Nat.le_refl _) _
  have hx1 : Bx W1 R (.int .i64 g.n) (.slice a g.es.length c) (.slice b g.cs.length d) := by rw [hW1, ← hR]; exact Bx.new _ _ _ _
  have K10 := large_calls a b c d g.es.length g.cs.length g.n
  obtain ⟨Lg, hLg⟩ : ∃ Lg, (decide ((400 : Int) < (g.es.length : Int)) || decide ((40 : Int) < (g.cs.length : Int))) = Lg := ⟨_, rfl⟩
  rw [hLg] at K10
  by_cases hbig : Lg = true ∨ 40 < pl.length
  · obtain ⟨L, hL⟩ : ∃ L, g.es.length = L := ⟨_, rfl⟩
    obtain ⟨M, hM⟩ : ∃ M, g.cs.length = M := ⟨_, rfl⟩
    obtain ⟨N, hN⟩ : ∃ N, g.n = N := ⟨_, rfl⟩
    obtain ⟨Q, hQ⟩ : ∃ Q, pl.length = Q := ⟨_, rfl⟩
    rw [hL, hM, hN] at hW1 hx1 K10 ⊢
    rw [hQ] at hbig ⊢
    have HW := Lib.hid hW1
    have H := Lib.hid (And.intro hb1 hR)
    have HK := Lib.hid K10
    obtain ⟨x0, x1, x2⟩ := hx1
    clear hW1 hb1 hR hLg he hc hp hL hM hN hQ K10
    cases Lg with
    | true =>
      clear hbig
      go_enter Tryz.func7, Tryz.ntmps7
      go_upto_region 1 with (fail)
      rw [← HW.out]
      rw [H.out.2]
      go_wp2_with (first
        | (go_at_call 10; refine (HK.out _).mono ?_; rintro e w2 ⟨rfl, hw2⟩; have HB := Lib.hid (bchain H.out.1 H.out.2 hw2); clear hw2)
        | (go_at_call 11; refine (hA.out _).mono ?_; rintro e w3 ⟨rfl, hw3⟩; have HC := Lib.hid (bchain HB.out H.out.2 hw3); clear hw3))
      go_ret
      exact ⟨rfl, by rw [H.out.2]; exact HC.out⟩
    | false =>
      have hq : (40 : Int) < (Q : Int) := by simp at hbig; omega
      clear hbig
      go_enter Tryz.func7, Tryz.ntmps7
      go_upto_region 1 with (fail)
      rw [← HW.out]
      rw [H.out.2]
      go_wp2_with (first
        | (go_at_call 10; refine (HK.out _).mono ?_; rintro e w2 ⟨rfl, hw2⟩; have HB := Lib.hid (bchain H.out.1 H.out.2 hw2); clear hw2)
        | (go_at_call 11; refine (hA.out _).mono ?_; rintro e w3 ⟨rfl, hw3⟩; have HC := Lib.hid (bchain HB.out H.out.2 hw3); clear hw3))
      go_ret
      exact ⟨rfl, by rw [H.out.2]; exact HC.out⟩
  · have hLg0 : Lg = false := by cases Lg <;> simp_all
    subst hLg0
    have hpq : pl.length ≤ 40 := by simp at hbig; omega
    have bel := fun (w' : World) (h : Below R w w') => (show Below w.heap.size w w' from by rw [hR]; exact h)
    obtain ⟨⟨⟨n1, es1, cs1⟩, e1⟩, hm1⟩ : ∃ m : Gr × Int, moveA g pl = m := ⟨_, rfl⟩
    obtain ⟨⟨⟨n2, es2, cs2⟩, e2⟩, hm2⟩ : ∃ m : Gr × Int, complA g = m := ⟨_, rfl⟩
    obtain ⟨⟨l3, e3⟩, hm3⟩ : ∃ m, cellsA g = m := ⟨_, rfl⟩
    obtain ⟨⟨l4, e4⟩, hm4⟩ : ∃ m, refinedA g = m := ⟨_, rfl⟩
    obtain ⟨⟨l5, e5⟩, hm5⟩ : ∃ m, wordA g pl = m := ⟨_, rfl⟩
    have K35 := fun (w' : World) (h : Below R w w') => gmove_calls (c := c) (d := d) (e := e) (he.below (bel _ h)) (hc.below (bel _ h)) (hp.below (bel _ h)) (by omega)
    have K36 := fun (w' : World) (h : Below R w w') => gmoveR_calls (c := c) (d := d) (e := e) (he.below (bel _ h)) (hc.below (bel _ h)) (hp.below (bel _ h)) (by omega)
    have K37 := fun (w' : World) (h : Below R w w') => gcompl_calls (c := c) (d := d) (he.below (bel _ h)) (hc.below (bel _ h))
    have K38 := fun (w' : World) (h : Below R w w') => gcomplR_calls (c := c) (d := d) (he.below (bel _ h)) (hc.below (bel _ h))
    have K39 := fun (w' : World) (h : Below R w w') => gcells_calls (c := c) (d := d) (he.below (bel _ h)) (hc.below (bel _ h))
    have K40 := fun (w' : World) (h : Below R w w') => gcellsR_calls (c := c) (d := d) (he.below (bel _ h)) (hc.below (bel _ h))
    have K41 := fun (w' : World) (h : Below R w w') => grefined_calls (c := c) (d := d) (he.below (bel _ h)) (hc.below (bel _ h))
    have K42 := fun (w' : World) (h : Below R w w') => grefinedR_calls (c := c) (d := d) (he.below (bel _ h)) (hc.below (bel _ h))
    have K43 := fun (w' : World) (h : Below R w w') => gword_calls (c := c) (d := d) (e := e) (he.below (bel _ h)) (hc.below (bel _ h)) (hp.below (bel _ h)) (by omega)
    have K44 := fun (w' : World) (h : Below R w w') => gwordR_calls (c := c) (d := d) (e := e) (he.below (bel _ h)) (hc.below (bel _ h)) (hp.below (bel _ h)) (by omega)
    rw [hm1] at K35 K36
    rw [hm2] at K37 K38
    rw [hm3] at K39 K40
    rw [hm4] at K41 K42
    rw [hm5] at K43 K44
    unfold MakeRes at K35 K36 K37 K38
    unfold WordRes at K43 K44
    simp only at K35 K36 K37 K38 K39 K40 K41 K42 K43 K44
    have K16a := fun (W : World) (a1 b1 a2 b2 : Option Addr) (c1 d1 c2 d2 : Nat) (h1 : Edg W a1 es1) (h2 : Ints W b1 cs1) (h3 : Edg W a2 es1) (h4 : Ints W b2 cs1) => sameGraph_calls (g := ⟨n1, es1, cs1⟩) (h := ⟨n1, es1, cs1⟩) (c1 := c1) (d1 := d1) (c2 := c2) (d2 := d2) h1 h2 h3 h4
    have K16b := fun (W : World) (a1 b1 a2 b2 : Option Addr) (c1 d1 c2 d2 : Nat) (h1 : Edg W a1 es2) (h2 : Ints W b1 cs2) (h3 : Edg W a2 es2) (h4 : Ints W b2 cs2) => sameGraph_calls (g := ⟨n2, es2, cs2⟩) (h := ⟨n2, es2, cs2⟩) (c1 := c1) (d1 := d1) (c2 := c2) (d2 := d2) h1 h2 h3 h4
    have K34a := fun (W : World) (a1 a2 : Option Addr) (c1 c2 : Nat) (h1 : Rows W a1 l3) (h2 : Rows W a2 l3) => sameCells_calls a1 a2 c1 c2 l3 l3 W h1 h2
    have K34b := fun (W : World) (a1 a2 : Option Addr) (c1 c2 : Nat) (h1 : Rows W a1 l4) (h2 : Rows W a2 l4) => sameCells_calls a1 a2 c1 c2 l4 l4 W h1 h2
    have K31 := fun (W : World) (a1 a2 : Option Addr) (c1 c2 : Nat) (h1 : Ints W a1 l5) (h2 : Ints W a2 l5) => sameInts_calls a1 a2 c1 c2 l5 l5 W h1 h2
    simp only [sameG_iff.2 rfl, decide_true] at K16a K16b K34a K34b K31
    obtain ⟨L1, hL1⟩ : ∃ L1, es1.length = L1 := ⟨_, rfl⟩
    obtain ⟨M1, hM1⟩ : ∃ M1, cs1.length = M1 := ⟨_, rfl⟩
    obtain ⟨L2, hL2⟩ : ∃ L2, es2.length = L2 := ⟨_, rfl⟩
    obtain ⟨M2, hM2⟩ : ∃ M2, cs2.length = M2 := ⟨_, rfl⟩
    obtain ⟨L3, hL3⟩ : ∃ L3, l3.length = L3 := ⟨_, rfl⟩
    obtain ⟨L4, hL4⟩ : ∃ L4, l4.length = L4 := ⟨_, rfl⟩
    obtain ⟨L5, hL5⟩ : ∃ L5, l5.length = L5 := ⟨_, rfl⟩
    obtain ⟨L, hL⟩ : ∃ L, g.es.length = L := ⟨_, rfl⟩
    obtain ⟨M, hM⟩ : ∃ M, g.cs.length = M := ⟨_, rfl⟩
    obtain ⟨N, hN⟩ : ∃ N, g.n = N := ⟨_, rfl⟩
    obtain ⟨Q, hQ⟩ : ∃ Q, pl.length = Q := ⟨_, rfl⟩
    rw [hL1, hM1] at K35 K36 K16a
    rw [hL2, hM2] at K37 K38 K16b
    rw [hL3] at K39 K40 K34a
    rw [hL4] at K41 K42 K34b
    rw [hL5] at K43 K44 K31
    rw [hN, hL, hM] at K35 K36 K37 K38 K39 K40 K41 K42 K43 K44 K10 hW1 hx1 ⊢
    rw [hQ] at K35 K36 K43 K44 hpq ⊢
    have hq : ¬ (40 : Int) < (Q : Int) := by omega
    have HW := Lib.hid hW1
    have HR := Lib.hid hR
    have H10 := Lib.hid K10
    have HG := Lib.hid (And.intro K35 (And.intro K36 (And.intro K37 K38)))
    have HC := Lib.hid (And.intro K39 (And.intro K40 (And.intro K41 K42)))
    have HV := Lib.hid (And.intro K43 (And.intro K44 K31))
    have HS := Lib.hid (And.intro K16a (And.intro K16b (And.intro K34a K34b)))
    have BW_0 := Lib.hid hb1
    have Bx0_0 := Lib.hid hx1
    clear K35 K36 K37 K38 K39 K40 K41 K42 K43 K44 K10 K16a K16b K34a K34b K31 hW1 hR hb1 hx1 hm1 hm2 hm3 hm4 hm5 hL1 hM1 hL2 hM2 hL3 hL4 hL5 hL hM hN hQ hbig hpq he hc hp bel hLg
    go_enter Tryz.func7, Tryz.ntmps7
    go_upto_region 1 with (fail)
    rw [← HW.out]
    rw [HR.out]
    clear HW
    obtain ⟨x0, x1, x2⟩ := Bx0_0.out
    go_upto_region 3 with (go_at_call 10; refine (H10.out _).mono ?_; rintro e w0 ⟨rfl, hw2⟩; have HK0 := Lib.hid hw2; clear hw2 x0 x1 x2)
    have BW_1 := Lib.hid (bchain BW_0.out HR.out HK0.out)
    have Bx0_1 := Lib.hid (Bx0_0.out.below HK0.out)
    clear BW_0 Bx0_0
    obtain ⟨x0, x1, x2⟩ := Bx0_1.out
    go_upto_region 4 with (go_at_call 35; refine (HG.out.1 _ BW_1.out).mono ?_; rintro r w1 ⟨a1, c1, b1, d1, rfl, q1, q2, q3⟩; have A1 := Lib.hid (And.intro q1 (And.intro q2 q3)); clear q1 q2 q3 x0 x1 x2)
    obtain ⟨X1, hX⟩ : ∃ X, w1.heap.size = X := ⟨_, rfl⟩
    obtain ⟨V1, hV⟩ : ∃ V, V = w1.alloc (.cells #[.int .i64 n1, .slice a1 L1 c1, .slice b1 M1 d1] 25) := ⟨_, rfl⟩
    have hal : Below w1.heap.size w1 V1 := by rw [hV]; exact (Below.refl _ _).alloc (Nat.le_refl _) _
    have HK1 := Lib.hid (below_two A1.out.2.2 hal)
    have gE1 := Lib.hid (A1.out.1.below hal)
    have gI1 := Lib.hid (A1.out.2.1.below hal)
    have gB1 := Lib.hid (show Bx V1 X1 (.int .i64 n1) (.slice a1 L1 c1) (.slice b1 M1 d1) from by rw [hV, ← hX]; exact Bx.new _ _ _ _)
    rw [← hV]
    try rw [hX]
    clear hV hX hal
    have BW_2 := Lib.hid (bchain BW_1.out HR.out HK1.out)
    have Bx0_2 := Lib.hid (Bx0_1.out.below HK1.out)
    clear BW_1 Bx0_1
    have gE1_2 := gE1
    clear gE1
    have gI1_2 := gI1
    clear gI1
    have gB1_2 := gB1
    clear gB1
    obtain ⟨x0, x1, x2⟩ := Bx0_2.out
    go_upto_region 5 with (go_at_call 36; refine (HG.out.2.1 _ BW_2.out).mono ?_; rintro r w2 ⟨a2, c2, b2, d2, rfl, q1, q2, q3⟩; have A2 := Lib.hid (And.intro q1 (And.intro q2 q3)); clear q1 q2 q3 x0 x1 x2)
    obtain ⟨X2, hX⟩ : ∃ X, w2.heap.size = X := ⟨_, rfl⟩
    obtain ⟨V2, hV⟩ : ∃ V, V = w2.alloc (.cells #[.int .i64 n1, .slice a2 L1 c2, .slice b2 M1 d2] 25) := ⟨_, rfl⟩
    have hal : Below w2.heap.size w2 V2 := by rw [hV]; exact (Below.refl _ _).alloc (Nat.le_refl _) _
    have HK2 := Lib.hid (below_two A2.out.2.2 hal)
    have gE2 := Lib.hid (A2.out.1.below hal)
    have gI2 := Lib.hid (A2.out.2.1.below hal)
    have gB2 := Lib.hid (show Bx V2 X2 (.int .i64 n1) (.slice a2 L1 c2) (.slice b2 M1 d2) from by rw [hV, ← hX]; exact Bx.new _ _ _ _)
    rw [← hV]
    try rw [hX]
    clear hV hX hal
    have BW_3 := Lib.hid (bchain BW_2.out HR.out HK2.out)
    have Bx0_3 := Lib.hid (Bx0_2.out.below HK2.out)
    have gE1_3 := Lib.hid (gE1_2.out.below HK2.out)
    have gI1_3 := Lib.hid (gI1_2.out.below HK2.out)
    have gB1_3 := Lib.hid (gB1_2.out.below HK2.out)
    clear BW_2 Bx0_2 gE1_2 gI1_2 gB1_2
    have gE2_3 := gE2
    clear gE2
    have gI2_3 := gI2
    clear gI2
    have gB2_3 := gB2
    clear gB2
    obtain ⟨x0, x1, x2⟩ := Bx0_3.out
    go_upto_region 6 with (go_at_call 37; refine (HG.out.2.2.1 _ BW_3.out).mono ?_; rintro r w3 ⟨a3, c3, b3, d3, rfl, q1, q2, q3⟩; have A3 := Lib.hid (And.intro q1 (And.intro q2 q3)); clear q1 q2 q3 x0 x1 x2)
    obtain ⟨X3, hX⟩ : ∃ X, w3.heap.size = X := ⟨_, rfl⟩
    obtain ⟨V3, hV⟩ : ∃ V, V = w3.alloc (.cells #[.int .i64 n2, .slice a3 L2 c3, .slice b3 M2 d3] 25) := ⟨_, rfl⟩
    have hal : Below w3.heap.size w3 V3 := by rw [hV]; exact (Below.refl _ _).alloc (Nat.le_refl _) _
    have HK3 := Lib.hid (below_two A3.out.2.2 hal)
    have gE3 := Lib.hid (A3.out.1.below hal)
    have gI3 := Lib.hid (A3.out.2.1.below hal)
    have gB3 := Lib.hid (show Bx V3 X3 (.int .i64 n2) (.slice a3 L2 c3) (.slice b3 M2 d3) from by rw [hV, ← hX]; exact Bx.new _ _ _ _)
    rw [← hV]
    try rw [hX]
    clear hV hX hal
    have BW_4 := Lib.hid (bchain BW_3.out HR.out HK3.out)
    have Bx0_4 := Lib.hid (Bx0_3.out.below HK3.out)
    have gE1_4 := Lib.hid (gE1_3.out.below HK3.out)
    have gI1_4 := Lib.hid (gI1_3.out.below HK3.out)
    have gB1_4 := Lib.hid (gB1_3.out.below HK3.out)
    have gE2_4 := Lib.hid (gE2_3.out.below HK3.out)
    have gI2_4 := Lib.hid (gI2_3.out.below HK3.out)
    have gB2_4 := Lib.hid (gB2_3.out.below HK3.out)
    clear BW_3 Bx0_3 gE1_3 gI1_3 gB1_3 gE2_3 gI2_3 gB2_3
    have gE3_4 := gE3
    clear gE3
    have gI3_4 := gI3
    clear gI3
    have gB3_4 := gB3
    clear gB3
    obtain ⟨x0, x1, x2⟩ := Bx0_4.out
    go_upto_region 7 with (go_at_call 38; refine (HG.out.2.2.2 _ BW_4.out).mono ?_; rintro r w4 ⟨a4, c4, b4, d4, rfl, q1, q2, q3⟩; have A4 := Lib.hid (And.intro q1 (And.intro q2 q3)); clear q1 q2 q3 x0 x1 x2)
    obtain ⟨X4, hX⟩ : ∃ X, w4.heap.size = X := ⟨_, rfl⟩
    obtain ⟨V4, hV⟩ : ∃ V, V = w4.alloc (.cells #[.int .i64 n2, .slice a4 L2 c4, .slice b4 M2 d4] 25) := ⟨_, rfl⟩
    have hal : Below w4.heap.size w4 V4 := by rw [hV]; exact (Below.refl _ _).alloc (Nat.le_refl _) _
    have HK4 := Lib.hid (below_two A4.out.2.2 hal)
    have gE4 := Lib.hid (A4.out.1.below hal)
    have gI4 := Lib.hid (A4.out.2.1.below hal)
    have gB4 := Lib.hid (show Bx V4 X4 (.int .i64 n2) (.slice a4 L2 c4) (.slice b4 M2 d4) from by rw [hV, ← hX]; exact Bx.new _ _ _ _)
    rw [← hV]
    try rw [hX]
    clear hV hX hal
    have BW_5 := Lib.hid (bchain BW_4.out HR.out HK4.out)
    have Bx0_5 := Lib.hid (Bx0_4.out.below HK4.out)
    have gE1_5 := Lib.hid (gE1_4.out.below HK4.out)
    have gI1_5 := Lib.hid (gI1_4.out.below HK4.out)
    have gB1_5 := Lib.hid (gB1_4.out.below HK4.out)
    have gE2_5 := Lib.hid (gE2_4.out.below HK4.out)
    have gI2_5 := Lib.hid (gI2_4.out.below HK4.out)
    have gB2_5 := Lib.hid (gB2_4.out.below HK4.out)
    have gE3_5 := Lib.hid (gE3_4.out.below HK4.out)
    have gI3_5 := Lib.hid (gI3_4.out.below HK4.out)
    have gB3_5 := Lib.hid (gB3_4.out.below HK4.out)
    clear BW_4 Bx0_4 gE1_4 gI1_4 gB1_4 gE2_4 gI2_4 gB2_4 gE3_4 gI3_4 gB3_4
    have gE4_5 := gE4
    clear gE4
    have gI4_5 := gI4
    clear gI4
    have gB4_5 := gB4
    clear gB4
    obtain ⟨x0, x1, x2⟩ := gB1_5.out
    obtain ⟨y0, y1, y2⟩ := gB2_5.out
    go_upto_region 9 with (first
      | (go_at_call 16; (with_reducible refine (HS.out.1 _ a1 b1 a2 b2 c1 d1 c2 d2 gE1_5.out gI1_5.out gE2_5.out gI2_5.out).mono ?_); rintro e w5 ⟨rfl, hw5⟩; clear x0 x1 x2 y0 y1 y2; obtain ⟨x0, x1, x2⟩ := gB3_5.out.below hw5; obtain ⟨y0, y1, y2⟩ := gB4_5.out.below hw5; have H5 := Lib.hid hw5; clear hw5)
      | (go_at_call 16; (with_reducible refine (HS.out.2.1 _ a3 b3 a4 b4 c3 d3 c4 d4 (gE3_5.out.below H5.out) (gI3_5.out.below H5.out) (gE4_5.out.below H5.out) (gI4_5.out.below H5.out)).mono ?_); rintro e w6 ⟨rfl, hw6⟩; have HK5 := Lib.hid (below_two H5.out hw6); clear hw6 x0 x1 x2 y0 y1 y2))
    have BW_6 := Lib.hid (bchain BW_5.out HR.out HK5.out)
    have Bx0_6 := Lib.hid (Bx0_5.out.below HK5.out)
    clear BW_5 Bx0_5
    clear gE1_5 gI1_5 gB1_5 gE2_5 gI2_5 gB2_5 gE3_5 gI3_5 gB3_5 gE4_5 gI4_5 gB4_5
    obtain ⟨x0, x1, x2⟩ := Bx0_6.out
    go_upto_region 10 with (go_at_call 39; refine (HC.out.1 _ BW_6.out).mono ?_; rintro r w7 ⟨a7, c7, rfl, q1, q2⟩; have A7 := Lib.hid (And.intro q1 q2); clear q1 q2 x0 x1 x2)
    have HK7 := Lib.hid A7.out.2
    have gR7 := Lib.hid A7.out.1
    have BW_7 := Lib.hid (bchain BW_6.out HR.out HK7.out)
    have Bx0_7 := Lib.hid (Bx0_6.out.below HK7.out)
    clear BW_6 Bx0_6
    have gR7_7 := gR7
    clear gR7
    obtain ⟨x0, x1, x2⟩ := Bx0_7.out
    go_upto_region 11 with (go_at_call 40; refine (HC.out.2.1 _ BW_7.out).mono ?_; rintro r w8 ⟨a8, c8, rfl, q1, q2⟩; have A8 := Lib.hid (And.intro q1 q2); clear q1 q2 x0 x1 x2)
    have HK8 := Lib.hid A8.out.2
    have gR8 := Lib.hid A8.out.1
    have BW_8 := Lib.hid (bchain BW_7.out HR.out HK8.out)
    have Bx0_8 := Lib.hid (Bx0_7.out.below HK8.out)
    have gR7_8 := Lib.hid (gR7_7.out.below HK8.out)
    clear BW_7 Bx0_7 gR7_7
    have gR8_8 := gR8
    clear gR8
    obtain ⟨x0, x1, x2⟩ := Bx0_8.out
    go_upto_region 12 with (go_at_call 41; refine (HC.out.2.2.1 _ BW_8.out).mono ?_; rintro r w9 ⟨a9, c9, rfl, q1, q2⟩; have A9 := Lib.hid (And.intro q1 q2); clear q1 q2 x0 x1 x2)
    have HK9 := Lib.hid A9.out.2
    have gR9 := Lib.hid A9.out.1
    have BW_9 := Lib.hid (bchain BW_8.out HR.out HK9.out)
    have Bx0_9 := Lib.hid (Bx0_8.out.below HK9.out)
    have gR7_9 := Lib.hid (gR7_8.out.below HK9.out)
    have gR8_9 := Lib.hid (gR8_8.out.below HK9.out)
    clear BW_8 Bx0_8 gR7_8 gR8_8
    have gR9_9 := gR9
    clear gR9
    obtain ⟨x0, x1, x2⟩ := Bx0_9.out
    go_upto_region 13 with (go_at_call 42; refine (HC.out.2.2.2 _ BW_9.out).mono ?_; rintro r w10 ⟨a10, c10, rfl, q1, q2⟩; have A10 := Lib.hid (And.intro q1 q2); clear q1 q2 x0 x1 x2)
    have HK10 := Lib.hid A10.out.2
    have gR10 := Lib.hid A10.out.1
    have BW_10 := Lib.hid (bchain BW_9.out HR.out HK10.out)
    have Bx0_10 := Lib.hid (Bx0_9.out.below HK10.out)
    have gR7_10 := Lib.hid (gR7_9.out.below HK10.out)
    have gR8_10 := Lib.hid (gR8_9.out.below HK10.out)
    have gR9_10 := Lib.hid (gR9_9.out.below HK10.out)
    clear BW_9 Bx0_9 gR7_9 gR8_9 gR9_9
    have gR10_10 := gR10
    clear gR10
    go_upto_region 15 with (first
      | (go_at_call 34; (with_reducible refine (HS.out.2.2.1 _ a7 a8 c7 c8 gR7_10.out gR8_10.out).mono ?_); rintro e w11 ⟨rfl, q11, hw11⟩; have H11 := Lib.hid (show Below w10.heap.size w10 w11 from by rw [hw11]; exact below_drew1 _ _); clear hw11)
      | (go_at_call 34; (with_reducible refine (HS.out.2.2.2 _ a9 a10 c9 c10 (gR9_10.out.below H11.out) (gR10_10.out.below H11.out)).mono ?_); rintro e w12 ⟨rfl, q12, hw12⟩; have HK11 := Lib.hid (below_two H11.out (show Below w11.heap.size w11 w12 from by rw [hw12]; exact below_drew1 _ _)); clear hw12))
    have BW_11 := Lib.hid (bchain BW_10.out HR.out HK11.out)
    have Bx0_11 := Lib.hid (Bx0_10.out.below HK11.out)
    clear BW_10 Bx0_10
    obtain ⟨x0, x1, x2⟩ := Bx0_11.out
    go_upto_region 16 with (go_at_call 43; refine (HV.out.1 _ BW_11.out).mono ?_; rintro r w13 ⟨a13, c13, rfl, q1, q2⟩; have A13 := Lib.hid (And.intro q1 q2); clear q1 q2 x0 x1 x2)
    have HK13 := Lib.hid A13.out.2
    have gR13 := Lib.hid A13.out.1
    have BW_12 := Lib.hid (bchain BW_11.out HR.out HK13.out)
    have Bx0_12 := Lib.hid (Bx0_11.out.below HK13.out)
    clear BW_11 Bx0_11
    have gR13_12 := gR13
    clear gR13
    obtain ⟨x0, x1, x2⟩ := Bx0_12.out
    go_upto_region 17 with (go_at_call 44; refine (HV.out.2.1 _ BW_12.out).mono ?_; rintro r w14 ⟨a14, c14, rfl, q1, q2⟩; have A14 := Lib.hid (And.intro q1 q2); clear q1 q2 x0 x1 x2)
    have HK14 := Lib.hid A14.out.2
    have gR14 := Lib.hid A14.out.1
    have BW_13 := Lib.hid (bchain BW_12.out HR.out HK14.out)
    have Bx0_13 := Lib.hid (Bx0_12.out.below HK14.out)
    have gR13_13 := Lib.hid (gR13_12.out.below HK14.out)
    clear BW_12 Bx0_12 gR13_12
    have gR14_13 := gR14
    clear gR14
    go_wp2_with (first
      | (go_at_call 31; refine (HV.out.2.2 _ a13 a14 c13 c14 gR13_13.out gR14_13.out).mono ?_; rintro e w15 ⟨rfl, q15, hw15⟩; have H15 := Lib.hid (bchain BW_13.out HR.out (show Below w14.heap.size w14 w15 from by rw [hw15]; exact below_drew1 _ _)); clear hw15)
      | (go_at_call 11; refine (hA.out _).mono ?_; rintro e w16 ⟨rfl, hw16⟩; have H16 := Lib.hid (bchain H15.out HR.out hw16); clear hw16))
    go_ret
    exact ⟨rfl, by rw [HR.out]; exact H16.out⟩
theorem movesW {w : World} {a b p : Option Addr} {c0 d0 c1 : Nat} {g : Gr} {pl : List Int} (he : Edg w a g.es) (hc : Ints w b g.cs) (hp : Ints w p pl) :
    Calls Tryz.prog 7 #[.agg #[.int .i64 g.n, .slice a g.es.length c0, .slice b g.cs.length d0], .slice p pl.length c1] w fun r w' => r = .returned (.bool true) ∧ Below w.heap.size w w' := moves_calls c0 d0 c1 he hc hp
end Go.Proofs.YtifkieopaoooeaaGreatDoor
