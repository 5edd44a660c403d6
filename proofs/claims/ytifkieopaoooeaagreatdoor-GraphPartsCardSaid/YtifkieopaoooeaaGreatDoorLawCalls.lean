/- The law: both answer alike about a graph's pairs, its neighbours, its distances and its parts. -/
import Derived.Test.YtifkieopaoooeaaGreatDoorNear
import Derived.Test.YtifkieopaoooeaaGreatDoorDistP
import Derived.Test.YtifkieopaoooeaaGreatDoorPartsP
import Derived.Test.YtifkieopaoooeaaGreatDoorLawKit
set_option linter.unusedSimpArgs false
set_option linter.unusedVariables false
namespace Go.Proofs.YtifkieopaoooeaaGreatDoor
open Go.RowKit Plain PlainG
theorem keep3 {D : Nat} {W1 W W3 : World} {b1 o1 o2 o3 : Nat} {v1 v2 v3 : Value} (hD : W1.heap.size = D)
    (h : W.cell? ⟨b1, o1, none⟩ = some v1 ∧ W.cell? ⟨b1, o2, none⟩ = some v2 ∧ W.cell? ⟨b1, o3, none⟩ = some v3 ∧ Below D W1 W) (k : Below W.heap.size W W3) :
    W3.cell? ⟨b1, o1, none⟩ = some v1 ∧ W3.cell? ⟨b1, o2, none⟩ = some v2 ∧ W3.cell? ⟨b1, o3, none⟩ = some v3 ∧ Below D W1 W3 :=
  ⟨(k.cell (p := ⟨b1, o1, none⟩) (block_lt_of_cell h.1)).trans h.1, (k.cell (p := ⟨b1, o2, none⟩) (block_lt_of_cell h.2.1)).trans h.2.1, (k.cell (p := ⟨b1, o3, none⟩) (block_lt_of_cell h.2.2.1)).trans h.2.2.1, bchain h.2.2.2 hD k⟩
theorem last3 {D : Nat} {W1 W : World} {a1 a2 a3 : Addr} {v1 v2 v3 : Value} (h : W.cell? a1 = some v1 ∧ W.cell? a2 = some v2 ∧ W.cell? a3 = some v3 ∧ Below D W1 W) : Below D W1 W := h.2.2.2
set_option maxRecDepth 100000 in
set_option maxHeartbeats 16000000 in
theorem lawcalls_calls {w : World} {a b : Option Addr} {g : Gr} (c d : Nat) (i1 i2 : Int) (he : Edg w a g.es) (hc : Ints w b g.cs) :
    Calls Tryz.prog 6 #[.agg #[.int .i64 g.n, .slice a g.es.length c, .slice b g.cs.length d], .int .i64 i1, .int .i64 i2] w fun r w' => r = .returned (.bool true) ∧ Below w.heap.size w w' := by
  have hA := Lib.hid awake_calls
  obtain ⟨R, hR⟩ : ∃ R, w.heap.size = R := ⟨_, rfl⟩
  obtain ⟨W1, hW1⟩ : ∃ W1, W1 = w.alloc (.cells #[.int .i64 g.n, .slice a g.es.length c, .slice b g.cs.length d] 25) := ⟨_, rfl⟩
  have hb1 : Below R w W1 := by rw [hW1, ← hR]; exact (Below.refl _ w).alloc (Nat.le_refl _) _
  have hx1 : Bx W1 R (.int .i64 g.n) (.slice a g.es.length c) (.slice b g.cs.length d) := by rw [hW1, ← hR]; exact Bx.new _ _ _ _
  have K10 := large_calls a b c d g.es.length g.cs.length g.n
  obtain ⟨Lg, hLg⟩ : ∃ Lg, (decide ((400 : Int) < (g.es.length : Int)) || decide ((40 : Int) < (g.cs.length : Int))) = Lg := ⟨_, rfl⟩
  rw [hLg] at K10
  cases Lg with
  | true =>
    obtain ⟨L, hL⟩ : ∃ L, g.es.length = L := ⟨_, rfl⟩
    obtain ⟨M, hM⟩ : ∃ M, g.cs.length = M := ⟨_, rfl⟩
    obtain ⟨N, hN⟩ : ∃ N, g.n = N := ⟨_, rfl⟩
    rw [hL, hM, hN] at hW1 hx1 K10 ⊢
    have HW := Lib.hid hW1
    have H := Lib.hid (And.intro hb1 hR)
    have HK := Lib.hid K10
    obtain ⟨x0, x1, x2⟩ := hx1
    clear hW1 hb1 hR hLg he hc hL hM hN K10
    go_enter Tryz.func6, Tryz.ntmps6
    go_upto_region 1 with (fail)
    rw [← HW.out]
    rw [H.out.2]
    go_wp2_with (first
      | (go_at_call 10; refine (HK.out _).mono ?_; rintro e w2 ⟨rfl, hw2⟩; have HB := Lib.hid (bchain H.out.1 H.out.2 hw2); clear hw2)
      | (go_at_call 11; refine (hA.out _).mono ?_; rintro e w3 ⟨rfl, hw3⟩; have HC := Lib.hid (bchain HB.out H.out.2 hw3); clear hw3))
    go_ret
    exact ⟨rfl, by rw [H.out.2]; exact HC.out⟩
  | false =>
    have bel := fun (w' : World) (h : Below R w w') => (show Below w.heap.size w w' from by rw [hR]; exact h)
    obtain ⟨⟨B1, E1⟩, hm1⟩ : ∃ m, hasA g i1 i2 = m := ⟨_, rfl⟩
    obtain ⟨C1, hm2⟩ : ∃ m, chkGr g = m := ⟨_, rfl⟩
    obtain ⟨⟨l3, E3⟩, hm3⟩ : ∃ m, nearA g i1 = m := ⟨_, rfl⟩
    obtain ⟨⟨D4, E4⟩, hm4⟩ : ∃ m, distA g i1 i2 = m := ⟨_, rfl⟩
    obtain ⟨⟨l5, E5⟩, hm5⟩ : ∃ m, partsA g = m := ⟨_, rfl⟩
    have K24 := fun (w' : World) (h : Below R w w') => has_calls (c := c) (d := d) i1 i2 (he.below (bel _ h)) (hc.below (bel _ h))
    have K26 := fun (w' : World) (h : Below R w w') => hasR_calls (c := c) (d := d) i1 i2 (he.below (bel _ h)) (hc.below (bel _ h))
    have K27 := fun (w' : World) (h : Below R w w') => gcheck_calls (c := c) (d := d) (he.below (bel _ h)) (hc.below (bel _ h))
    have K28 := fun (w' : World) (h : Below R w w') => gcheckR_calls (c := c) (d := d) (he.below (bel _ h)) (hc.below (bel _ h))
    have K29 := fun (w' : World) (h : Below R w w') => near_calls (c := c) (d := d) i1 (he.below (bel _ h)) (hc.below (bel _ h))
    have K30 := fun (w' : World) (h : Below R w w') => nearR_calls (c := c) (d := d) i1 (he.below (bel _ h)) (hc.below (bel _ h))
    have K23 := fun (w' : World) (h : Below R w w') => dist_calls (c := c) (d := d) i1 i2 (he.below (bel _ h)) (hc.below (bel _ h))
    have K32 := fun (w' : World) (h : Below R w w') => distR_calls (c := c) (d := d) i1 i2 (he.below (bel _ h)) (hc.below (bel _ h))
    have K21 := fun (w' : World) (h : Below R w w') => parts_calls (c := c) (d := d) (he.below (bel _ h)) (hc.below (bel _ h))
    have K33 := fun (w' : World) (h : Below R w w') => partsR_calls (c := c) (d := d) (he.below (bel _ h)) (hc.below (bel _ h))
    rw [hm1] at K24 K26
    rw [hm2] at K27 K28
    rw [hm3] at K29 K30
    rw [hm4] at K23 K32
    rw [hm5] at K21 K33
    unfold NearRes at K29 K30
    unfold PartsRes at K21 K33
    simp only at K24 K26 K29 K30 K23 K32 K21 K33
    have K31 := fun (W : World) (a1 a2 : Option Addr) (c1 c2 : Nat) (h1 : Ints W a1 l3) (h2 : Ints W a2 l3) => sameInts_calls a1 a2 c1 c2 l3 l3 W h1 h2
    have K34 := fun (W : World) (a1 a2 : Option Addr) (c1 c2 : Nat) (h1 : Rows W a1 l5) (h2 : Rows W a2 l5) => sameCells_calls a1 a2 c1 c2 l5 l5 W h1 h2
    simp only [decide_true] at K31 K34
    obtain ⟨L3, hL3⟩ : ∃ L3, l3.length = L3 := ⟨_, rfl⟩
    obtain ⟨L5, hL5⟩ : ∃ L5, l5.length = L5 := ⟨_, rfl⟩
    obtain ⟨L, hL⟩ : ∃ L, g.es.length = L := ⟨_, rfl⟩
    obtain ⟨M, hM⟩ : ∃ M, g.cs.length = M := ⟨_, rfl⟩
    obtain ⟨N, hN⟩ : ∃ N, g.n = N := ⟨_, rfl⟩
    rw [hL3] at K29 K30 K31
    rw [hL5] at K21 K33 K34
    rw [hN, hL, hM] at K24 K26 K27 K28 K29 K30 K23 K32 K21 K33 K10 hW1 hx1 ⊢
    have HW := Lib.hid hW1
    have HR := Lib.hid hR
    have H10 := Lib.hid K10
    have HH := Lib.hid (And.intro K24 (And.intro K26 (And.intro K27 K28)))
    have HN := Lib.hid (And.intro K29 (And.intro K30 K31))
    have HD := Lib.hid (And.intro K23 K32)
    have HP := Lib.hid (And.intro K21 (And.intro K33 K34))
    have BW_0 := Lib.hid hb1
    have Bx0_0 := Lib.hid hx1
    clear K24 K26 K27 K28 K29 K30 K23 K32 K21 K33 K31 K34 K10 hW1 hR hb1 hx1 hm1 hm2 hm3 hm4 hm5 hL3 hL5 hL hM hN he hc bel hLg
    go_enter Tryz.func6, Tryz.ntmps6
    go_upto_region 1 with (fail)
    rw [← HW.out]
    rw [HR.out]
    clear HW
    obtain ⟨x0, x1, x2⟩ := Bx0_0.out
    go_upto_region 3 with (go_at_call 10; refine (H10.out _).mono ?_; rintro e w0 ⟨rfl, hw2⟩; have HK0 := Lib.hid hw2; clear hw2 x0 x1 x2)
    have BW_1 := Lib.hid (bchain BW_0.out HR.out HK0.out)
    have Bx0_1 := Lib.hid (Bx0_0.out.below HK0.out)
    clear BW_0 Bx0_0
    obtain ⟨x0, x1, x2⟩ := Bx0_1.out
    go_upto_region 4 with (go_at_call 24; refine (HH.out.1 _ BW_1.out).mono ?_; rintro r w1 ⟨rfl, q1⟩; have HK1 := Lib.hid q1; clear q1 x0 x1 x2)
    have BW_2 := Lib.hid (bchain BW_1.out HR.out HK1.out)
    have Bx0_2 := Lib.hid (Bx0_1.out.below HK1.out)
    clear BW_1 Bx0_1
    obtain ⟨x0, x1, x2⟩ := Bx0_2.out
    go_upto_region 5 with (go_at_call 26; refine (HH.out.2.1 _ BW_2.out).mono ?_; rintro r w2 ⟨rfl, q1⟩; have HK2 := Lib.hid q1; clear q1 x0 x1 x2)
    have BW_3 := Lib.hid (bchain BW_2.out HR.out HK2.out)
    have Bx0_3 := Lib.hid (Bx0_2.out.below HK2.out)
    clear BW_2 Bx0_2
    obtain ⟨x0, x1, x2⟩ := Bx0_3.out
    have hb5 := BW_3.out
    go_cut [50] (fun u50 wx => u50 = .bool false ∧ wx.cell? ⟨R, 0, none⟩ = some (.int .i64 N) ∧ wx.cell? ⟨R, 1, none⟩ = some (.slice a L c) ∧ wx.cell? ⟨R, 2, none⟩ = some (.slice b M d) ∧ Below R w wx)
    case first =>
      go_region_held3 (fun W => W.cell? ⟨R, 0, none⟩ = some (.int .i64 N) ∧ W.cell? ⟨R, 1, none⟩ = some (.slice a L c) ∧ W.cell? ⟨R, 2, none⟩ = some (.slice b M d) ∧ Below R w W)
        (first
          | assumption
          | (refine ⟨?_, ?_, ?_, ?_⟩ <;> first | go_keep | exact hb5 | exact hb5.drew | exact hb5.drewN _)
          | exact keep3 HR.out (by assumption) (by assumption))
        (first
          | (go_at_call 27; (with_reducible refine (HH.out.2.2.1 _ (last3 (by assumption))).mono ?_); rintro e w3 ⟨rfl, hw3⟩)
          | (go_at_call 28; (with_reducible refine (HH.out.2.2.2 _ (last3 (by assumption))).mono ?_); rintro e w4 ⟨rfl, hw4⟩))
      all_goals go_wp2
      all_goals go_meet
      all_goals exact ⟨by first | rfl | simp [go_sem], by assumption⟩
    case rest =>
      obtain ⟨rfl, z0, z1, z2, z3⟩ := hcut
      clear BW_3 Bx0_3 hb5 x0 x1 x2
      have BW_4 := Lib.hid z3
      have Bx0_4 := Lib.hid (show Bx _ R _ _ _ from ⟨z0, z1, z2⟩)
      clear z0 z1 z2 z3
      obtain ⟨x0, x1, x2⟩ := Bx0_4.out
      go_upto_region 8 with (go_at_call 29; refine (HN.out.1 _ BW_4.out).mono ?_; rintro r w5 ⟨a5, c5, rfl, q1, q2⟩; have A5 := Lib.hid (And.intro q1 q2); clear q1 q2 x0 x1 x2)
      have HK5 := Lib.hid A5.out.2
      have gR5 := Lib.hid A5.out.1
      have BW_5 := Lib.hid (bchain BW_4.out HR.out HK5.out)
      have Bx0_5 := Lib.hid (Bx0_4.out.below HK5.out)
      clear BW_4 Bx0_4
      have gR5_5 := gR5
      clear gR5
      obtain ⟨x0, x1, x2⟩ := Bx0_5.out
      go_upto_region 9 with (go_at_call 30; refine (HN.out.2.1 _ BW_5.out).mono ?_; rintro r w6 ⟨a6, c6, rfl, q1, q2⟩; have A6 := Lib.hid (And.intro q1 q2); clear q1 q2 x0 x1 x2)
      have HK6 := Lib.hid A6.out.2
      have gR6 := Lib.hid A6.out.1
      have BW_6 := Lib.hid (bchain BW_5.out HR.out HK6.out)
      have Bx0_6 := Lib.hid (Bx0_5.out.below HK6.out)
      have gR5_6 := Lib.hid (gR5_5.out.below HK6.out)
      clear BW_5 Bx0_5 gR5_5
      have gR6_6 := gR6
      clear gR6
      go_upto_region 11 with (go_at_call 31; (with_reducible refine (HN.out.2.2 _ a5 a6 c5 c6 gR5_6.out gR6_6.out).mono ?_); rintro e w7 ⟨rfl, q7, hw7⟩; have HK7 := Lib.hid (show Below w6.heap.size w6 w7 from by rw [hw7]; exact below_drew1 _ _); clear hw7)
      clear gR5_6 gR6_6
      have BW_7 := Lib.hid (bchain BW_6.out HR.out HK7.out)
      have Bx0_7 := Lib.hid (Bx0_6.out.below HK7.out)
      clear BW_6 Bx0_6
      obtain ⟨x0, x1, x2⟩ := Bx0_7.out
      go_upto_region 12 with (go_at_call 23; refine (HD.out.1 _ BW_7.out).mono ?_; rintro r w8 ⟨rfl, q1⟩; have HK8 := Lib.hid q1; clear q1 x0 x1 x2)
      have BW_8 := Lib.hid (bchain BW_7.out HR.out HK8.out)
      have Bx0_8 := Lib.hid (Bx0_7.out.below HK8.out)
      clear BW_7 Bx0_7
      obtain ⟨x0, x1, x2⟩ := Bx0_8.out
      go_upto_region 13 with (go_at_call 32; refine (HD.out.2 _ BW_8.out).mono ?_; rintro r w9 ⟨rfl, q1⟩; have HK9 := Lib.hid q1; clear q1 x0 x1 x2)
      have BW_9 := Lib.hid (bchain BW_8.out HR.out HK9.out)
      have Bx0_9 := Lib.hid (Bx0_8.out.below HK9.out)
      clear BW_8 Bx0_8
      obtain ⟨x0, x1, x2⟩ := Bx0_9.out
      go_upto_region 14 with (go_at_call 21; refine (HP.out.1 _ BW_9.out).mono ?_; rintro r w10 ⟨a10, c10, rfl, q1, q2⟩; have A10 := Lib.hid (And.intro q1 q2); clear q1 q2 x0 x1 x2)
      have HK10 := Lib.hid A10.out.2
      have gR10 := Lib.hid A10.out.1
      have BW_10 := Lib.hid (bchain BW_9.out HR.out HK10.out)
      have Bx0_10 := Lib.hid (Bx0_9.out.below HK10.out)
      clear BW_9 Bx0_9
      have gR10_10 := gR10
      clear gR10
      obtain ⟨x0, x1, x2⟩ := Bx0_10.out
      go_upto_region 15 with (go_at_call 33; refine (HP.out.2.1 _ BW_10.out).mono ?_; rintro r w11 ⟨a11, c11, rfl, q1, q2⟩; have A11 := Lib.hid (And.intro q1 q2); clear q1 q2 x0 x1 x2)
      have HK11 := Lib.hid A11.out.2
      have gR11 := Lib.hid A11.out.1
      have BW_11 := Lib.hid (bchain BW_10.out HR.out HK11.out)
      have Bx0_11 := Lib.hid (Bx0_10.out.below HK11.out)
      have gR10_11 := Lib.hid (gR10_10.out.below HK11.out)
      clear BW_10 Bx0_10 gR10_10
      have gR11_11 := gR11
      clear gR11
      go_wp2_with (first
        | (go_at_call 34; (with_reducible refine (HP.out.2.2 _ a10 a11 c10 c11 gR10_11.out gR11_11.out).mono ?_); rintro e w12 ⟨rfl, q12, hw12⟩; have H12 := Lib.hid (bchain BW_11.out HR.out (show Below w11.heap.size w11 w12 from by rw [hw12]; exact below_drew1 _ _)); clear hw12)
        | (go_at_call 11; refine (hA.out _).mono ?_; rintro e w13 ⟨rfl, hw13⟩; have H13 := Lib.hid (bchain H12.out HR.out hw13); clear hw13))
      go_ret
      exact ⟨rfl, by rw [HR.out]; exact H13.out⟩
theorem callsW {w : World} {a b : Option Addr} {c0 d0 : Nat} {g : Gr} (he : Edg w a g.es) (hc : Ints w b g.cs) (n1 n2 : Int) :
    Calls Tryz.prog 6 #[.agg #[.int .i64 g.n, .slice a g.es.length c0, .slice b g.cs.length d0], .int .i64 n1, .int .i64 n2] w fun r w' => r = .returned (.bool true) ∧ Below w.heap.size w w' := lawcalls_calls c0 d0 n1 n2 he hc
end Go.Proofs.YtifkieopaoooeaaGreatDoor
