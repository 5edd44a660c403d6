/- The law: what is computed of a moved graph is what was computed, moved. -/
import Derived.Test.YtifkieopaoooeaaGreatDoorRenW
set_option linter.unusedSimpArgs false
set_option linter.unusedVariables false
namespace Go.Proofs.YtifkieopaoooeaaGreatDoor
open Go.RowKit Plain PlainG
set_option maxRecDepth 100000 in
set_option maxHeartbeats 16000000 in
theorem lawrenamed_calls {w : World} {i0 i1 i2 : Option Addr} {nums first second : List Int} (k0 k1 k2 : Nat) (n : Int) (h0 : Ints w i0 nums) (h1 : Ints w i1 first) (h2 : Ints w i2 second) :
    Calls Tryz.prog 8 #[.int .i64 n, .slice i0 nums.length k0, .slice i1 first.length k1, .slice i2 second.length k2] w fun r w' => r = .returned (.bool true) ∧ Below w.heap.size w w' := by
  have hbr := bel_range (n := n) (k := 10) (by omega)
  have K19 := below_calls n 10 w (by omega)
  obtain ⟨N, hN⟩ : ∃ N : Nat, bel n 10 = N := ⟨(bel n 10).toNat, by omega⟩
  rw [hN] at K19 hbr
  have hN9 : N ≤ 9 := by omega
  have K20 := drawn_calls k0 h0 (n := N) (by omega)
  have K45a := fun (W : World) (h : Below w.heap.size w W) => renaming_calls N i1 k1 first W (h1.below h) (by omega)
  have K45b := fun (W : World) (h : Below w.heap.size w W) => renaming_calls N i2 k2 second W (h2.below h) (by omega)
  have hA := Lib.hid awake_calls
  obtain ⟨Q0, hQ0⟩ : ∃ Q, nums.length = Q := ⟨_, rfl⟩
  obtain ⟨Q1, hQ1⟩ : ∃ Q, first.length = Q := ⟨_, rfl⟩
  obtain ⟨Q2, hQ2⟩ : ∃ Q, second.length = Q := ⟨_, rfl⟩
  rw [hQ0] at K20 ⊢
  rw [hQ1] at K45a ⊢
  rw [hQ2] at K45b ⊢
  have HS := Lib.hid (And.intro K19 (And.intro K20 (And.intro K45a K45b)))
  clear K19 K20 K45a K45b h0 h1 h2 hbr hN hQ0 hQ1 hQ2
  go_enter Tryz.func8, Tryz.ntmps8
  go_upto_region 2 with (go_at_call 19; refine HS.out.1.mono ?_; rintro e w2 ⟨rfl, hw⟩; replace hw := hw.symm; subst hw)
  go_upto_region 3 with (first
    | (go_at_call 20; refine HS.out.2.1.mono ?_; rintro e w2 ⟨a0, c0, b0, d0, g, rfl, hgn, hg0, hge, hgc, hw2⟩; have HA := Lib.hid (And.intro hgn (And.intro hg0 (And.intro hge (And.intro hgc hw2)))); clear hgn hg0 hge hgc hw2)
    | (go_at_call 45; (with_reducible refine (HS.out.2.2.1 _ HA.out.2.2.2.2).mono ?_); rintro r w3 ⟨p, e, s, t, rfl, hp, hi, hw⟩; have HP := Lib.hid (And.intro hp (And.intro hi (And.intro hw (below_two HA.out.2.2.2.2 hw)))); clear hp hi hw)
    | (go_at_call 45; (with_reducible refine (HS.out.2.2.2 _ HP.out.2.2.2).mono ?_); rintro r w4 ⟨q, f, s2, t2, rfl, hp, hi, hw⟩; have HQ := Lib.hid (And.intro hp (And.intro hi hw)); clear hp hi hw))
  obtain ⟨W1, hW1⟩ : ∃ W1, W1 = w4.alloc (.cells #[.int .i64 (N : Int), .slice a0 g.es.length c0, .slice b0 g.cs.length d0] 25) := ⟨_, rfl⟩
  have hb1 : Below w4.heap.size w4 W1 := by rw [hW1]; exact (Below.refl _ _).alloc (Nat.le_refl _) _
  have X0F : BxF W1 w4.heap.size (.int .i64 (N : Int)) (.slice a0 g.es.length c0) (.slice b0 g.cs.length d0) := by rw [hW1]; exact BxF.new _ _ _ _
  rw [← hW1]
  have hw1 : Below w.heap.size w W1 := below_two (below_two HP.out.2.2.2 HQ.out.2.2) hb1
  have gE := ((HA.out.2.2.1.below HP.out.2.2.1).below HQ.out.2.2).below hb1
  have gI := ((HA.out.2.2.2.1.below HP.out.2.2.1).below HQ.out.2.2).below hb1
  have gP := (HP.out.2.1.below HQ.out.2.2).below hb1
  have gQ := HQ.out.2.1.below hb1
  have hg0 := HA.out.2.1
  have hgn := HA.out.1
  have hp1 := HP.out.1
  have hp2 := HQ.out.1
  have hX0w : w.heap.size ≤ w4.heap.size := (below_two HP.out.2.2.2 HQ.out.2.2).size
  obtain ⟨X0, hX0⟩ : ∃ X, w4.heap.size = X := ⟨_, rfl⟩
  rw [hX0] at X0F hX0w ⊢
  clear HA HP HQ HS hW1 hb1 hX0
  obtain ⟨h, a, b, m, x, y, l, D, hF⟩ := ren_facts hp1 hp2 hg0 hgn
  have K35 := gmove_calls (w := W1) (c := c0) (d := d0) (e := e) gE gI gP (by rw [permL_len]; omega)
  rw [hF.mov, permL_len, hgn] at K35
  unfold MakeRes at K35
  simp only [hF.hn] at K35
  obtain ⟨L0, hL0⟩ : ∃ L, g.es.length = L := ⟨_, rfl⟩
  obtain ⟨M0, hM0⟩ : ∃ L, g.cs.length = L := ⟨_, rfl⟩
  obtain ⟨L1, hL1⟩ : ∃ L, h.es.length = L := ⟨_, rfl⟩
  obtain ⟨M1, hM1⟩ : ∃ L, h.cs.length = L := ⟨_, rfl⟩
  rw [hL0, hM0] at K35 X0F ⊢
  rw [hL1, hM1] at K35
  have HK := Lib.hid K35
  have H0 := Lib.hid (And.intro gE (And.intro gI (And.intro gP (And.intro gQ (And.intro X0F (And.intro hw1 hX0w))))))
  have HF := Lib.hid (And.intro hF (And.intro hp1 (And.intro hp2 (And.intro hg0 (And.intro hgn (And.intro hL0 (And.intro hM0 (And.intro hL1 hM1))))))))
  obtain ⟨x0, x1, x2, x3, x4⟩ := X0F
  clear K35 gE gI gP gQ hw1 hX0w hF hp1 hp2 hg0 hgn hL0 hM0 hL1 hM1 x3 x4
  go_upto_region 4 with (go_at_call 35; refine HK.out.mono ?_; rintro r w5 ⟨a1, c1, b1, d1, rfl, q1, q2, q3⟩; have HM := Lib.hid (And.intro q1 (And.intro q2 q3)); clear q1 q2 q3 x0 x1 x2)
  obtain ⟨V, hV⟩ : ∃ V, V = w5.alloc (.cells #[.int .i64 (N : Int), .slice a1 L1 c1, .slice b1 M1 d1] 25) := ⟨_, rfl⟩
  have hb2 : Below w5.heap.size w5 V := by rw [hV]; exact (Below.refl _ _).alloc (Nat.le_refl _) _
  have X1F : BxF V w5.heap.size (.int .i64 (N : Int)) (.slice a1 L1 c1) (.slice b1 M1 d1) := by rw [hV]; exact BxF.new _ _ _ _
  rw [← hV]
  have hb3 : Below W1.heap.size W1 V := below_two HM.out.2.2 hb2
  obtain ⟨X1, hX1⟩ : ∃ X, w5.heap.size = X := ⟨_, rfl⟩
  rw [hX1] at X1F ⊢
  obtain ⟨hF, hp1, hp2, hg0, hgn, hL0, hM0, hL1, hM1⟩ := HF.out
  have R := ren_world hp1 hp2 hg0 hgn (by omega) hF c0 d0 c1 d1 e f (H0.out.1.below hb3) (H0.out.2.1.below hb3) (HM.out.1.below hb2) (HM.out.2.1.below hb2) (H0.out.2.2.1.below hb3) (H0.out.2.2.2.1.below hb3)
  rw [hL0, hM0, hL1, hM1] at R
  have X0F := H0.out.2.2.2.2.1.below hb3
  have hwV := below_two H0.out.2.2.2.2.2.1 hb3
  have hX0w := H0.out.2.2.2.2.2.2
  have hl2 : w.heap.size ≤ W1.heap.size := H0.out.2.2.2.2.2.1.size
  have hl3 : w.heap.size ≤ X1 := by rw [← hX1]; exact Nat.le_trans hl2 HM.out.2.2.size
  clear HF hF hp1 hp2 hg0 hgn hL0 hM0 hL1 hM1 HM H0 HK hV hb2 hb3 hX1 hl2
  generalize a.es = es2, b.es = es3, m.es = es4, a.cs = cs2, b.cs = cs3, m.cs = cs4 at R
  generalize es2.length = L2, cs2.length = M2, es3.length = L3, cs3.length = M3, es4.length = L4, cs4.length = M4, x.length = Lx, y.length = Ly, l.length = Ll at R
  have HR := Lib.hid R
  obtain ⟨RR, hRR⟩ : ∃ RR, V.heap.size = RR := ⟨_, rfl⟩
  have bel : ∀ W, Below RR V W → Below V.heap.size V W := fun W h => by rw [hRR]; exact h
  have HB := Lib.hid (And.intro hRR bel)
  have HX0 := Lib.hid X0F
  have HX1 := Lib.hid X1F
  have HV := Lib.hid (And.intro hwV (And.intro hX0w hl3))
  obtain ⟨y0, y1, y2, y3, y4⟩ := X0F
  clear R hRR bel X1F hwV hX0w hl3 y3 y4
  go_upto_region 5 with (go_at_call 37; refine (HR.out.com _ (Below.refl _ _)).mono ?_; rintro r w12 ⟨a2, c2, b2, d2, rfl, q1, q2, q3⟩; have A2 := Lib.hid (And.intro q1 (And.intro q2 q3)); clear q1 q2 q3 y0 y1 y2)
  obtain ⟨V2, hV⟩ : ∃ V, V = w12.alloc (.cells #[.int .i64 (N : Int), .slice a2 L2 c2, .slice b2 M2 d2] 25) := ⟨_, rfl⟩
  have hb : Below w12.heap.size w12 V2 := by rw [hV]; exact (Below.refl _ _).alloc (Nat.le_refl _) _
  have gB2 := (show BxF V2 w12.heap.size (.int .i64 (N : Int)) (.slice a2 L2 c2) (.slice b2 M2 d2) from by rw [hV]; exact BxF.new _ _ _ _)
  rw [← hV]
  obtain ⟨X2, hX⟩ : ∃ X, w12.heap.size = X := ⟨_, rfl⟩
  rw [hX] at gB2 ⊢
  have HK2 := Lib.hid (below_two A2.out.2.2 hb)
  have gE2 := Lib.hid (A2.out.1.below hb)
  have gI2 := Lib.hid (A2.out.2.1.below hb)
  replace gB2 := Lib.hid gB2
  have hXw2 : w.heap.size ≤ X2 := by rw [← hX]; exact Nat.le_trans HV.out.1.size A2.out.2.2.size
  have hR2 : RR ≤ X2 := by rw [← hX, ← HB.out.1]; exact A2.out.2.2.size
  clear hV hX hb A2
  have BW_1 := Lib.hid (show Below RR V V2 from by have := HK2.out; rw [HB.out.1] at this; exact this)
  have gE2_1 := gE2
  clear gE2
  have gI2_1 := gI2
  clear gI2
  have gB2_1 := gB2
  clear gB2
  obtain ⟨y0, y1, y2, z3, z4⟩ := (Lib.hid (HX1.out.below (HB.out.2 _ BW_1.out))).out
  clear z3 z4
  go_upto_region 6 with (go_at_call 37; refine (HR.out.com2 _ (HB.out.2 _ BW_1.out)).mono ?_; rintro r w13 ⟨a3, c3, b3, d3, rfl, q1, q2, q3⟩; have A3 := Lib.hid (And.intro q1 (And.intro q2 q3)); clear q1 q2 q3 y0 y1 y2)
  obtain ⟨V3, hV⟩ : ∃ V, V = w13.alloc (.cells #[.int .i64 (N : Int), .slice a3 L3 c3, .slice b3 M3 d3] 25) := ⟨_, rfl⟩
  have hb : Below w13.heap.size w13 V3 := by rw [hV]; exact (Below.refl _ _).alloc (Nat.le_refl _) _
  have gB3 := (show BxF V3 w13.heap.size (.int .i64 (N : Int)) (.slice a3 L3 c3) (.slice b3 M3 d3) from by rw [hV]; exact BxF.new _ _ _ _)
  rw [← hV]
  obtain ⟨X3, hX⟩ : ∃ X, w13.heap.size = X := ⟨_, rfl⟩
  rw [hX] at gB3 ⊢
  have HK3 := Lib.hid (below_two A3.out.2.2 hb)
  have gE3 := Lib.hid (A3.out.1.below hb)
  have gI3 := Lib.hid (A3.out.2.1.below hb)
  replace gB3 := Lib.hid gB3
  have hXw3 : w.heap.size ≤ X3 := by rw [← hX]; have h1 := HV.out.1.size; have h2 := BW_1.out.size; have h3 := A3.out.2.2.size; omega
  have h23 : X2 < X3 := by rw [← hX]; have h1 := gB2_1.out.lt; have h2 := A3.out.2.2.size; omega
  clear hV hX hb A3
  have BW_2 := Lib.hid (bchain BW_1.out HB.out.1 HK3.out)
  clear BW_1
  have gE2_2 := Lib.hid (gE2_1.out.below HK3.out)
  clear gE2_1
  have gI2_2 := Lib.hid (gI2_1.out.below HK3.out)
  clear gI2_1
  have gB2_2 := Lib.hid (gB2_1.out.below HK3.out)
  clear gB2_1
  have gE3_2 := gE3
  clear gE3
  have gI3_2 := gI3
  clear gI3
  have gB3_2 := gB3
  clear gB3
  obtain ⟨y0, y1, y2, z3, z4⟩ := gB2_2.out
  clear z3 z4
  go_upto_region 7 with (go_at_call 35; refine (HR.out.movc _ _ _ _ _ (HB.out.2 _ BW_2.out) gE2_2.out gI2_2.out).mono ?_; rintro r w14 ⟨a4, c4, b4, d4, rfl, q1, q2, q3⟩; have A4 := Lib.hid (And.intro q1 (And.intro q2 q3)); clear q1 q2 q3 y0 y1 y2)
  obtain ⟨V4, hV⟩ : ∃ V, V = w14.alloc (.cells #[.int .i64 (N : Int), .slice a4 L3 c4, .slice b4 M3 d4] 25) := ⟨_, rfl⟩
  have hb : Below w14.heap.size w14 V4 := by rw [hV]; exact (Below.refl _ _).alloc (Nat.le_refl _) _
  have gB4 := (show BxF V4 w14.heap.size (.int .i64 (N : Int)) (.slice a4 L3 c4) (.slice b4 M3 d4) from by rw [hV]; exact BxF.new _ _ _ _)
  rw [← hV]
  obtain ⟨X4, hX⟩ : ∃ X, w14.heap.size = X := ⟨_, rfl⟩
  rw [hX] at gB4 ⊢
  have HK4 := Lib.hid (below_two A4.out.2.2 hb)
  have gE4 := Lib.hid (A4.out.1.below hb)
  have gI4 := Lib.hid (A4.out.2.1.below hb)
  replace gB4 := Lib.hid gB4
  have hXw4 : w.heap.size ≤ X4 := by rw [← hX]; have h1 := HV.out.1.size; have h2 := BW_2.out.size; have h3 := A4.out.2.2.size; omega
  clear hV hX hb A4
  have BW_3 := Lib.hid (bchain BW_2.out HB.out.1 HK4.out)
  clear BW_2
  have gE2_3 := Lib.hid (gE2_2.out.below HK4.out)
  clear gE2_2
  have gI2_3 := Lib.hid (gI2_2.out.below HK4.out)
  clear gI2_2
  have gB2_3 := Lib.hid (gB2_2.out.below HK4.out)
  clear gB2_2
  have gE3_3 := Lib.hid (gE3_2.out.below HK4.out)
  clear gE3_2
  have gI3_3 := Lib.hid (gI3_2.out.below HK4.out)
  clear gI3_2
  have gB3_3 := Lib.hid (gB3_2.out.below HK4.out)
  clear gB3_2
  have gE4_3 := gE4
  clear gE4
  have gI4_3 := gI4
  clear gI4
  have gB4_3 := gB4
  clear gB4
  obtain ⟨y0, y1, y2, z3, z4⟩ := gB3_3.out
  clear z3 z4
  obtain ⟨x0, x1, x2, z3, z4⟩ := gB4_3.out
  clear z3 z4
  go_upto_region 9 with (go_at_call 16; refine (HR.out.same3 _ _ _ _ _ _ _ _ _ gE3_3.out gI3_3.out gE4_3.out gI4_3.out).mono ?_; rintro r w15 ⟨rfl, hw⟩; have HK5 := Lib.hid hw; clear hw y0 y1 y2 x0 x1 x2)
  clear gE2_3 gI2_3 gE3_3 gI3_3 gE4_3 gI4_3 gB4_3
  have BW_4 := Lib.hid (bchain BW_3.out HB.out.1 HK5.out)
  clear BW_3
  have gB2_4 := Lib.hid (gB2_3.out.below HK5.out)
  clear gB2_3
  have gB3_4 := Lib.hid (gB3_3.out.below HK5.out)
  clear gB3_3
  obtain ⟨y0, y1, y2, z3, z4⟩ := (Lib.hid (HX0.out.below (HB.out.2 _ BW_4.out))).out
  clear z3 z4
  go_upto_region 10 with (go_at_call 41; refine (HR.out.ref _ (HB.out.2 _ BW_4.out)).mono ?_; rintro r w16 ⟨a6, c6, rfl, q1, q2⟩; have gR6 := Lib.hid q1; have HK6 := Lib.hid q2; clear q1 q2 y0 y1 y2)
  have BW_5 := Lib.hid (bchain BW_4.out HB.out.1 HK6.out)
  clear BW_4
  have gB2_5 := Lib.hid (gB2_4.out.below HK6.out)
  clear gB2_4
  have gB3_5 := Lib.hid (gB3_4.out.below HK6.out)
  clear gB3_4
  have gR6_5 := gR6
  clear gR6
  obtain ⟨y0, y1, y2, z3, z4⟩ := (Lib.hid (HX1.out.below (HB.out.2 _ BW_5.out))).out
  clear z3 z4
  go_upto_region 11 with (go_at_call 41; refine (HR.out.ref2 _ (HB.out.2 _ BW_5.out)).mono ?_; rintro r w17 ⟨a7, c7, rfl, q1, q2⟩; have gR7 := Lib.hid q1; have HK7 := Lib.hid q2; clear q1 q2 y0 y1 y2)
  have BW_6 := Lib.hid (bchain BW_5.out HB.out.1 HK7.out)
  clear BW_5
  have gB2_6 := Lib.hid (gB2_5.out.below HK7.out)
  clear gB2_5
  have gB3_6 := Lib.hid (gB3_5.out.below HK7.out)
  clear gB3_5
  have gR6_6 := Lib.hid (gR6_5.out.below HK7.out)
  clear gR6_5
  have gR7_6 := gR7
  clear gR7
  go_upto_region 13 with (first
    | (go_at_call 22; refine (HR.out.ins _ _ _ gR6_6.out).mono ?_; rintro r w18 ⟨rfl, hw⟩; replace hw := hw.symm; subst hw)
    | (go_at_call 46; refine (HR.out.ren _ _ _ (HB.out.2 _ BW_6.out) gR6_6.out).mono ?_; rintro r w19 ⟨a9, c9, rfl, q1, q2⟩; have A9 := Lib.hid (And.intro q1 q2); clear q1 q2)
    | (go_at_call 34; refine (HR.out.samey _ _ _ _ _ A9.out.1 (gR7_6.out.below A9.out.2)).mono ?_; rintro r w20 ⟨rfl, hw⟩; have HK9 := Lib.hid (below_two A9.out.2 hw); clear hw))
  clear A9 gR6_6 gR7_6
  have BW_7 := Lib.hid (bchain BW_6.out HB.out.1 HK9.out)
  clear BW_6
  have gB2_7 := Lib.hid (gB2_6.out.below HK9.out)
  clear gB2_6
  have gB3_7 := Lib.hid (gB3_6.out.below HK9.out)
  clear gB3_6
  obtain ⟨y0, y1, y2, z3, z4⟩ := (Lib.hid (HX1.out.below (HB.out.2 _ BW_7.out))).out
  clear z3 z4
  obtain ⟨z0, z1, z2, z3, z4⟩ := gB2_7.out
  have hf0 := z3 0
  have hf1 := z3 1
  have hf2 := z3 2
  clear z3 z4
  go_upto_region 14 with (go_at_call 35; refine (HR.out.mov2 _ (HB.out.2 _ BW_7.out)).mono ?_; rintro r w21 ⟨a10, c10, b10, d10, rfl, q1, q2, q3, q4, q5⟩; have A10 := Lib.hid (And.intro q1 (And.intro q2 (And.intro q3 (And.intro q4 q5)))); clear z0 z1 z2 hf0 hf1 hf2 y0 y1 y2; obtain ⟨z0, z1, z2, z3, z4⟩ := gB2_7.out.below q3; have hf0 := z3 0; have hf1 := z3 1; have hf2 := z3 2; clear q1 q2 q3 q4 q5 z3 z4)
  clear z0 z1 z2 hf0 hf1 hf2
  obtain ⟨U, hU⟩ : ∃ U, U = set3 w21 X2 (.int .i64 (N : Int)) (.slice a10 L4 c10) (.slice b10 M4 d10) := ⟨_, rfl⟩
  have hk2 : Kept w21 U [X2] := by rw [hU]; exact set3_kept _ _ _ _ _
  have gX2 : BxF U X2 (.int .i64 (N : Int)) (.slice a10 L4 c10) (.slice b10 M4 d10) := by rw [hU]; exact (gB2_7.out.below A10.out.2.2.1).set
  have gEm := A10.out.1.keptF hk2 (A10.out.2.2.2.1.ne gB2_7.out.lt)
  have gIm := A10.out.2.1.keptF hk2 (A10.out.2.2.2.2.ne gB2_7.out.lt)
  have gX3 := (gB3_7.out.below A10.out.2.2.1).keptF hk2 (by simp; omega)
  have hfa : From U.heap.size a10 → True := fun _ => trivial
  have hbU : Below RR V U := (bchain BW_7.out HB.out.1 A10.out.2.2.1).trans (hk2.below (by have h1 := BW_7.out.size; have h2 := A10.out.2.2.1.size; have h3 := HB.out.1; omega) (by simpa using hR2))
  unfold set3 at hU
  rw [← hU]
  have ha2 := A10.out.2.2.2.1
  have hb2' := A10.out.2.2.2.2
  have hs20 : X3 < w20.heap.size := gB3_7.out.lt
  have ha3 := ha2.ne hs20
  have hb3 := hb2'.ne hs20
  have hX03 : X0 ≠ X3 := by have h1 := HX0.out.lt; have h2 := HB.out.1; omega
  have hRU : RR ≤ U.heap.size := by have h1 := hbU.size; have h2 := HB.out.1; omega
  have hR3 : RR ≤ X3 := by omega
  have H2 := Lib.hid (And.intro gX2 (And.intro gEm (And.intro gIm (And.intro ha3 hb3))))
  have H3 := Lib.hid (And.intro gX3 (And.intro hbU (And.intro hR3 hRU)))
  have H4 := Lib.hid (And.intro hX03 (And.intro h23 hR2))
  have hx3U := gX3.lt
  clear hfa hU hk2 gX2 gEm gIm gX3 hbU ha2 hb2' hs20 ha3 hb3 h23 hR2 A10 gB2_7 gB3_7 BW_7 hRU hR3
  obtain ⟨y0, y1, y2, z3, z4⟩ := HX0.out.below (HB.out.2 _ H3.out.2.1)
  clear z3 z4
  go_cut [15] (fun u15 wx => u15 = .int .i64 0 ∧ ∃ a14 c14 b14 d14, BxF wx X3 (.int .i64 (N : Int)) (.slice a14 L4 c14) (.slice b14 M4 d14) ∧ Edg wx a14 es4 ∧ Ints wx b14 cs4 ∧ Kept U wx [X3])
  case first =>
    go_region_held3 (fun W => W.cell? ⟨X0, 0, none⟩ = some (.int .i64 (N : Int)) ∧ W.cell? ⟨X0, 1, none⟩ = some (.slice a0 L0 c0) ∧ W.cell? ⟨X0, 2, none⟩ = some (.slice b0 M0 d0) ∧ Kept U W [X3] ∧ BxE W X3)
      (first
        | assumption
        | exact ⟨y0, y1, y2, Kept.refl _ _, _, _, _, H3.out.1⟩
        | exact keepS (by assumption) (by assumption)
        | exact keepS_set hX03 (by assumption)
        | exact keepS ⟨y0, y1, y2, Kept.refl _ _, _, _, _, H3.out.1⟩ (below_drew1 _ _)
        | exact keepS (by assumption) (below_drew1 _ _))
      (first
        | (go_at_call 47; (with_reducible refine (HR.out.mul _ (HB.out.2 _ (lastS H3.out.2.1 H3.out.2.2.1 H3.out.2.2.2 (by assumption)))).mono ?_); rintro r w22 ⟨a11, c11, rfl, q1, q2⟩)
        | (go_at_call 35; (with_reducible refine (HR.out.movp _ a11 c11 (HB.out.2 _ (lastS H3.out.2.1 H3.out.2.2.1 H3.out.2.2.2 (by assumption))) (by first | exact q1 | exact q1.below (below_self_drewN _ _))).mono ?_); rintro r w23 ⟨a14, c14, b14, d14, rfl, q3, q4, q5, q6, q7⟩; obtain ⟨hk14, hz14, v0, v1, v2, hx14⟩ := exS (U := U) (X3 := X3) q5 (by assumption); have z3 := hx14.c0; have z4 := hx14.c1; have z5 := hx14.c2; have f3 := hx14.fr 0; have f4 := hx14.fr 1; have f5 := hx14.fr 2))
    all_goals go_wp2
    all_goals go_meet
    all_goals (obtain ⟨f1, f2, f3⟩ := fin14 hx14 q3 q4 q6 q7 (by omega); exact ⟨rfl, a14, c14, b14, d14, f1, f2, f3, hk14.trans (set3_kept _ _ _ _ _)⟩)
  case rest =>
    obtain ⟨rfl, a14, c14, b14, d14, hx, he, hc, hk⟩ := hcut
    obtain ⟨wC, hwC⟩ : ∃ wC, wC = wc := ⟨_, rfl⟩
    rw [← hwC] at hx he hc hk ⊢
    clear hwC
    have hbC : Below RR V wC := H3.out.2.1.trans (hk.below H3.out.2.2.2 (by simpa using H3.out.2.2.1))
    have gX2 := H2.out.1.keptF hk (by have := H4.out.2.1; simp; omega)
    have gEm := H2.out.2.1.keptF hk H2.out.2.2.2.1
    have gIm := H2.out.2.2.1.keptF hk H2.out.2.2.2.2
    have BW_1 := Lib.hid hbC
    have gX2_1 := Lib.hid gX2
    have gX3_1 := Lib.hid hx
    have gE2_1 := Lib.hid gEm
    have gI2_1 := Lib.hid gIm
    have gE3_1 := Lib.hid he
    have gI3_1 := Lib.hid hc
    clear H2 H3 H4 hx he hc hk hbC gX2 gEm gIm hX03 hx3U y0 y1 y2
    obtain ⟨RC, hRC⟩ : ∃ RC, wC.heap.size = RC := ⟨_, rfl⟩
    have hRCle : RR ≤ RC := by have h1 := BW_1.out.size; have h2 := HB.out.1; omega
    have HC := Lib.hid (And.intro hRC hRCle)
    obtain ⟨y0, y1, y2, z3, z4⟩ := HX0.out.below (HB.out.2 _ BW_1.out)
    clear hRC hRCle z3 z4
    go_upto_region 15 with (fail)
    go_cut [17, 22] (fun u17 u22 wx => u17 = .int .i64 0 ∧ ∃ a15 c15, u22 = .slice a15 Ll c15 ∧ Ints wx a15 l ∧ Below RC wC wx)
    case first =>
      go_region_held3 (fun W => W.cell? ⟨X0, 0, none⟩ = some (.int .i64 (N : Int)) ∧ W.cell? ⟨X0, 1, none⟩ = some (.slice a0 L0 c0) ∧ W.cell? ⟨X0, 2, none⟩ = some (.slice b0 M0 d0) ∧ Below RC wC W)
        (first
          | assumption
          | exact ⟨y0, y1, y2, Below.refl _ _⟩
          | exact keepC3 HC.out.1 (by assumption) (by assumption)
          | exact keepC3 HC.out.1 ⟨y0, y1, y2, Below.refl _ _⟩ (below_drew1 _ _)
          | exact keepC3 HC.out.1 (by assumption) (below_drew1 _ _))
        (first
          | (go_at_call 47; (with_reducible refine (HR.out.mul _ (HB.out.2 _ (lastC3 BW_1.out HC.out.2 (by assumption)))).mono ?_); rintro r w22 ⟨a11, c11, rfl, q1, q2⟩)
          | (go_at_call 43; (with_reducible refine (HR.out.wrd _ a11 c11 (HB.out.2 _ (lastC3 BW_1.out HC.out.2 (by assumption))) (by first | exact q1 | exact q1.below (below_self_drewN _ _))).mono ?_); rintro r w23 ⟨a15, c15, rfl, q3, q4⟩; have hb15 := exC3 HC.out.1 q4 (by assumption)))
      all_goals go_wp2
      all_goals go_meet
      all_goals exact ⟨rfl, a15, c15, rfl, q3, hb15⟩
    case rest =>
      obtain ⟨rfl, a15, c15, rfl, hl5, hb5⟩ := hcut
      obtain ⟨wD, hwD⟩ : ∃ wD, wD = wc := ⟨_, rfl⟩
      rw [← hwD] at hl5 hb5 ⊢
      clear hwD y0 y1 y2
      have hkD : Below wC.heap.size wC wD := by rw [HC.out.1]; exact hb5
      have BW_2 := Lib.hid (bchain BW_1.out HB.out.1 hkD)
      have gX2_2 := Lib.hid (gX2_1.out.below hkD)
      have gX3_2 := Lib.hid (gX3_1.out.below hkD)
      have gE2_2 := Lib.hid (gE2_1.out.below hkD)
      have gI2_2 := Lib.hid (gI2_1.out.below hkD)
      have gE3_2 := Lib.hid (gE3_1.out.below hkD)
      have gI3_2 := Lib.hid (gI3_1.out.below hkD)
      have gL_2 := Lib.hid hl5
      clear BW_1 gX2_1 gX3_1 gE2_1 gI2_1 gE3_1 gI3_1 hl5 hb5 hkD HC
      obtain ⟨y0, y1, y2, z3, z4⟩ := HX1.out.below (HB.out.2 _ BW_2.out)
      clear z3 z4
      go_upto_region 17 with (go_at_call 43; refine (HR.out.wrd2 _ (HB.out.2 _ BW_2.out)).mono ?_; rintro r w24 ⟨a16, c16, rfl, q1, q2⟩; have HK := Lib.hid q2; have gM_3 := Lib.hid q1; clear q1 q2 y0 y1 y2)
      have BW_3 := Lib.hid (bchain BW_2.out HB.out.1 HK.out)
      have gX2_3 := gX2_2.out.below HK.out
      have gX3_3 := gX3_2.out.below HK.out
      have gE2_3 := Lib.hid (gE2_2.out.below HK.out)
      have gI2_3 := Lib.hid (gI2_2.out.below HK.out)
      have gE3_3 := Lib.hid (gE3_2.out.below HK.out)
      have gI3_3 := Lib.hid (gI3_2.out.below HK.out)
      have gL_3 := Lib.hid (gL_2.out.below HK.out)
      obtain ⟨y0, y1, y2, z3, z4⟩ := gX2_3
      obtain ⟨x0, x1, x2, x3, x4⟩ := gX3_3
      clear BW_2 gX2_2 gX3_2 gE2_2 gI2_2 gE3_2 gI3_2 gL_2 HK z3 z4 x3 x4
      go_upto_region 19 with (first
        | (go_at_call 16; refine (HR.out.same4 _ _ _ _ _ _ _ _ _ gE2_3.out gI2_3.out gE3_3.out gI3_3.out).mono ?_; rintro r w25 ⟨rfl, hw⟩; have HK := Lib.hid hw; clear hw y0 y1 y2 x0 x1 x2)
        | (go_at_call 31; refine (HR.out.samel _ _ _ _ _ (gL_3.out.below HK.out) (gM_3.out.below HK.out)).mono ?_; rintro r w26 ⟨rfl, hw⟩; have HK2 := Lib.hid (below_two HK.out hw); clear hw))
      have BW_4 := Lib.hid (bchain BW_3.out HB.out.1 HK2.out)
      clear BW_3 gE2_3 gI2_3 gE3_3 gI3_3 gL_3 gM_3 HK HK2
      go_wp2
      go_loopw [24] (fun i wr => ∃ a : Nat, a ≤ N ∧ i = .int .i64 a ∧ Below RR V wr) (fun i _ => N - (intOf i).toNat)
      case atStart => exact ⟨0, by omega, rfl, BW_4.out⟩
      case round =>
        clear BW_4
        obtain ⟨i, hi, rfl, hb⟩ := hrel
        have BW := Lib.hid hb
        clear hb
        by_cases hlt : i < N
        · go_wp2
          go_loopw [25] (fun k wr => ∃ b : Nat, b ≤ N ∧ k = .int .i64 b ∧ Below RR V wr) (fun k _ => N - (intOf k).toNat)
          case atStart => exact ⟨0, by omega, rfl, BW.out⟩
          case round =>
            clear BW
            obtain ⟨k, hk, rfl, hb⟩ := hrel
            have BW := Lib.hid hb
            clear hb
            by_cases hkl : k < N
            · obtain ⟨y0, y1, y2, z3, z4⟩ := HX0.out.below (HB.out.2 _ BW.out)
              clear z3 z4
              go_upto_region 26 with (go_at_call 23; refine (HR.out.dis _ (HB.out.2 _ BW.out) i k hlt hkl).mono ?_; rintro r w31 ⟨rfl, hw⟩; have BW2 := Lib.hid (bchain BW.out HB.out.1 hw); clear hw y0 y1 y2)
              clear BW
              have hb := BW2.out
              obtain ⟨y0, y1, y2, z3, z4⟩ := HX1.out.below (HB.out.2 _ hb)
              obtain ⟨gp, op, rfl, p1⟩ := HR.out.pts _ (HB.out.2 _ hb) i hlt
              obtain ⟨gp2, op2, e2, p2⟩ := HR.out.pts _ (HB.out.2 _ hb) k hkl
              injection e2 with e2
              injection e2 with e2 e3 _
              subst e2 e3
              clear z3 z4
              have h02 : (0 : Int) ≤ i := by omega
              have h03 : (0 : Int) ≤ k := by omega
              have h04 : (i : Int) < N := by omega
              have h05 : (k : Int) < N := by omega
              go_cut [28, 29] (fun u28 u29 wx => u28 = .int .i64 (D i k) ∧ u29 = .int .i64 0 ∧ Below RR V wx)
              case first =>
                go_region_held3 (fun W => W.cell? ⟨X1, 0, none⟩ = some (.int .i64 (N : Int)) ∧ W.cell? ⟨X1, 1, none⟩ = some (.slice a1 L1 c1) ∧ W.cell? ⟨X1, 2, none⟩ = some (.slice b1 M1 d1) ∧ W.cell? ⟨gp, op + i, none⟩ = some (.int .i64 (s i : Nat)) ∧ W.cell? ⟨gp, op + k, none⟩ = some (.int .i64 (s k : Nat)) ∧ Below RR V W)
                  (first
                    | assumption
                    | exact ⟨y0, y1, y2, p1, p2, hb⟩
                    | exact keepC5 HB.out.1 (by assumption) (by assumption)
                    | exact keepC5 HB.out.1 ⟨y0, y1, y2, p1, p2, hb⟩ (below_drew1 _ _)
                    | exact keepC5 HB.out.1 (by assumption) (below_drew1 _ _))
                  ((go_at_call 23; (with_reducible refine (HR.out.dis2 _ (HB.out.2 _ (lastC5 (by assumption))) i k hlt hkl).mono ?_); rintro r w32 ⟨rfl, q4⟩; have hb15 := exC5 HB.out.1 q4 (by assumption)))
                all_goals go_wp2
                all_goals go_meet
                all_goals exact ⟨rfl, rfl, hb15⟩
              case rest =>
                obtain ⟨rfl, rfl, hb9⟩ := hcut
                have BW3 := Lib.hid hb9
                clear hb9 hb BW2 y0 y1 y2 p1 p2 h02 h03 h04 h05
                go_wp2
                exact ⟨⟨k + 1, by omega, by go_num, BW3.out⟩, by simp [intOf]; omega⟩
            · go_wp2
              exact ⟨⟨i + 1, by omega, by go_num, BW.out⟩, by simp [intOf]; omega⟩
        · have hw9 := below_two HV.out.1 (HB.out.2 _ BW.out)
          have HH := Lib.hid hw9
          clear hw9
          go_wp2_with (go_at_call 11; refine (hA.out _).mono ?_; rintro e w9 ⟨rfl, hw9⟩; have H9 := Lib.hid (below_two HH.out hw9); clear hw9)
          go_ret
          exact ⟨rfl, H9.out⟩
theorem renamedW {w : World} {i0 i1 i2 : Option Addr} {c1 c2 c3 : Nat} {n0 n1 n2 : List Int} (n : Int) (h0 : Ints w i0 n0) (h1 : Ints w i1 n1) (h2 : Ints w i2 n2) :
    Calls Tryz.prog 8 #[.int .i64 n, .slice i0 n0.length c1, .slice i1 n1.length c2, .slice i2 n2.length c3] w fun r w' => r = .returned (.bool true) ∧ Below w.heap.size w w' := lawrenamed_calls c1 c2 c3 n h0 h1 h2
end Go.Proofs.YtifkieopaoooeaaGreatDoor
