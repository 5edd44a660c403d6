/- GraphKnown: the walk. -/
import Derived.Test.YtifkieopaoooeaaGreatDoorKnownK
import Derived.BigQuiet
set_option linter.unusedSimpArgs false
set_option linter.unusedVariables false
namespace Go.Proofs.YtifkieopaoooeaaGreatDoor
open Go.RowKit Plain PlainG
theorem Rows.al {w : World} {a : Option Addr} {xs : List (List Int)} (h : Rows w a xs) (o : Obj) : Rows (w.alloc o) a xs := h.below (alloc_below (Below.refl _ _) o)
set_option maxRecDepth 100000 in
set_option maxHeartbeats 16000000 in
theorem graphKnown_calls (w0 : World) : Calls Tryz.prog 9 #[] w0 fun e w' => e = .returned (.bool true) ∧ Below w0.heap.size w0 w' := by
  go_enter Tryz.func9, Tryz.ntmps9
  go_wp2_with fail
  refine (kMk1 (by first | exact litE rfl (by simp) (by decide) | (refine Edg.al ?_ _; exact litE rfl (by simp) (by decide))) (by first | exact litI rfl (by simp) (by decide) | (refine Ints.al ?_ _; exact litI rfl (by simp) (by decide)))).mono ?_
  rintro r w1 ⟨ag, cg, bg, dg, rfl, q1, q2, qb⟩
  have hst0 : Below w0.heap.size w0 w1 := below_two (by repeat (first | exact Below.refl _ _ | refine alloc_below ?_ _)) qb
  clear qb
  have hst := hst0
  have HB_1 := Lib.hid hst
  clear hst
  clear hst0
  have GE_1 := Lib.hid (q1)
  clear q1
  have GI_1 := Lib.hid (q2)
  clear q2
  go_upto_region 2 with (fail)
  obtain ⟨V, hV⟩ : ∃ V, V = w1.alloc (.cells #[.int .i64 3, .slice ag 2 cg, .slice bg 3 dg] 25) := ⟨_, rfl⟩
  have hbV : Below w1.heap.size w1 V := by rw [hV]; exact alloc_below (Below.refl _ _) _
  have gBx : Bx V w1.heap.size (.int .i64 3) (.slice ag 2 cg) (.slice bg 3 dg) := by rw [hV]; exact Bx.new _ _ _ _
  rw [← hV]
  obtain ⟨X, hX⟩ : ∃ X, w1.heap.size = X := ⟨_, rfl⟩
  rw [hX] at gBx ⊢
  clear hV hX
  have hst := hbV
  have HB_2 := Lib.hid (below_two HB_1.out hst)
  clear HB_1
  have GE_2 := Lib.hid (GE_1.out.below hst)
  clear GE_1
  have GI_2 := Lib.hid (GI_1.out.below hst)
  clear GI_1
  clear hst
  clear hbV
  have GB_2 := Lib.hid (gBx)
  clear gBx
  go_wp2_with fail
  refine (kMk2 (by first | exact litE rfl (by simp) (by decide) | (refine Edg.al ?_ _; exact litE rfl (by simp) (by decide)))).mono ?_
  rintro r w2 ⟨a2, c2, b2, d2, rfl, qb⟩
  have hst0 : Below V.heap.size V w2 := below_two (by repeat (first | exact Below.refl _ _ | refine alloc_below ?_ _)) qb
  clear qb
  have hst := hst0
  have HB_3 := Lib.hid (below_two HB_2.out hst)
  clear HB_2
  have GE_3 := Lib.hid (GE_2.out.below hst)
  clear GE_2
  have GI_3 := Lib.hid (GI_2.out.below hst)
  clear GI_2
  have GB_3 := Lib.hid (GB_2.out.below hst)
  clear GB_2
  clear hst
  clear hst0
  go_wp2_with fail
  refine (kMk3 (by first | exact litE rfl (by simp) (by decide) | (refine Edg.al ?_ _; exact litE rfl (by simp) (by decide)))).mono ?_
  rintro r w3 ⟨a3, c3, b3, d3, rfl, qb⟩
  have hst0 : Below w2.heap.size w2 w3 := below_two (by repeat (first | exact Below.refl _ _ | refine alloc_below ?_ _)) qb
  clear qb
  have hst := hst0
  have HB_4 := Lib.hid (below_two HB_3.out hst)
  clear HB_3
  have GE_4 := Lib.hid (GE_3.out.below hst)
  clear GE_3
  have GI_4 := Lib.hid (GI_3.out.below hst)
  clear GI_3
  have GB_4 := Lib.hid (GB_3.out.below hst)
  clear GB_3
  clear hst
  clear hst0
  go_wp2_with fail
  refine (kMk4).mono ?_
  rintro r w4 ⟨a4, c4, b4, d4, rfl, qb⟩
  have hst0 : Below w3.heap.size w3 w4 := below_two (by repeat (first | exact Below.refl _ _ | refine alloc_below ?_ _)) qb
  clear qb
  have hst := hst0
  have HB_5 := Lib.hid (below_two HB_4.out hst)
  clear HB_4
  have GE_5 := Lib.hid (GE_4.out.below hst)
  clear GE_4
  have GI_5 := Lib.hid (GI_4.out.below hst)
  clear GI_4
  have GB_5 := Lib.hid (GB_4.out.below hst)
  clear GB_4
  clear hst
  clear hst0
  go_wp2_with fail
  refine (kMk5 (by first | exact litI rfl (by simp) (by decide) | (refine Ints.al ?_ _; exact litI rfl (by simp) (by decide)))).mono ?_
  rintro r w5 ⟨a5, c5, b5, d5, rfl, qb⟩
  have hst0 : Below w4.heap.size w4 w5 := below_two (by repeat (first | exact Below.refl _ _ | refine alloc_below ?_ _)) qb
  clear qb
  have hst := hst0
  have HB_6 := Lib.hid (below_two HB_5.out hst)
  clear HB_5
  have GE_6 := Lib.hid (GE_5.out.below hst)
  clear GE_5
  have GI_6 := Lib.hid (GI_5.out.below hst)
  clear GI_5
  have GB_6 := Lib.hid (GB_5.out.below hst)
  clear GB_5
  clear hst
  clear hst0
  go_upto_region 6 with (fail)
  obtain ⟨V6, hV⟩ : ∃ V, V = w5.alloc (.cells #[.int .i64 0, .slice a5 0 c5, .slice b5 0 d5] 25) := ⟨_, rfl⟩
  have hbV : Below w5.heap.size w5 V6 := by rw [hV]; exact alloc_below (Below.refl _ _) _
  rw [← hV]
  clear hV
  have hst := hbV
  have HB_7 := Lib.hid (below_two HB_6.out hst)
  clear HB_6
  have GE_7 := Lib.hid (GE_6.out.below hst)
  clear GE_6
  have GI_7 := Lib.hid (GI_6.out.below hst)
  clear GI_6
  have GB_7 := Lib.hid (GB_6.out.below hst)
  clear GB_6
  clear hst
  clear hbV
  obtain ⟨RC, hRC⟩ : ∃ RC, V6.heap.size = RC := ⟨_, rfl⟩
  have HC := Lib.hid hRC
  clear hRC
  obtain ⟨x0, x1, x2⟩ := GB_7.out
  go_cut [74] (fun u74 wx => u74 = .bool false ∧ Below RC V6 wx)
  case first =>
    have hge := GE_7.out
    have hgi := GI_7.out
    go_region_held3 (fun W => W.cell? ⟨X, 0, none⟩ = some (.int .i64 3) ∧ W.cell? ⟨X, 1, none⟩ = some (.slice ag 2 cg) ∧ W.cell? ⟨X, 2, none⟩ = some (.slice bg 3 dg) ∧ Below RC V6 W)
      (first
        | assumption
        | exact ⟨x0, x1, x2, Below.refl _ _⟩
        | exact kc3 HC.out (by assumption) (by assumption)
        | exact kc3 HC.out ⟨x0, x1, x2, Below.refl _ _⟩ (below_drew1 _ _)
        | exact kc3 HC.out (by assumption) (below_drew1 _ _))
      (first
        | (go_at_call 48; (with_reducible refine (path_calls _).mono ?_); rintro r wp ⟨ap, cp, bp, dp, rfl, p1, p2, p3⟩)
        | (go_at_call 16; (with_reducible refine (kSg 3 2 3 pathG.es pathG.cs rfl rfl (hge.below (kl3 HC.out (by assumption))) (hgi.below (kl3 HC.out (by assumption))) (by first | exact p1 | exact p1.below (below_drew1 _ _)) (by first | exact p2 | exact p2.below (below_drew1 _ _))).mono ?_); rintro r wq ⟨rfl, p4⟩; have hb6 := ke3 HC.out p4 (by assumption)))
    all_goals go_wp2
    all_goals go_meet
    all_goals exact ⟨rfl, by first | exact hb6 | exact hb6.drew | exact hb6.drewN _⟩
  case rest =>
    obtain ⟨rfl, hb6⟩ := hcut
    obtain ⟨wC, hwC⟩ : ∃ wC, wC = wc := ⟨_, rfl⟩
    rw [← hwC] at hb6 ⊢
    clear hwC x0 x1 x2
    have hkC : Below V6.heap.size V6 wC := by rw [HC.out]; exact hb6
    have hst := hkC
    have HB_8 := Lib.hid (below_two HB_7.out hst)
    clear HB_7
    have GE_8 := Lib.hid (GE_7.out.below hst)
    clear GE_7
    have GI_8 := Lib.hid (GI_7.out.below hst)
    clear GI_7
    have GB_8 := Lib.hid (GB_7.out.below hst)
    clear GB_7
    clear hst
    clear hkC hb6 HC
    obtain ⟨x0, x1, x2⟩ := GB_8.out
    go_wp2_with fail
    refine (kHas GE_8.out GI_8.out).mono ?_
    rintro r w6 ⟨rfl, qb⟩
    clear x0 x1 x2
    have hst0 : Below wC.heap.size wC w6 := below_two (by repeat (first | exact Below.refl _ _ | refine alloc_below ?_ _)) qb
    clear qb
    have hst := hst0
    have HB_9 := Lib.hid (below_two HB_8.out hst)
    clear HB_8
    have GE_9 := Lib.hid (GE_8.out.below hst)
    clear GE_8
    have GI_9 := Lib.hid (GI_8.out.below hst)
    clear GI_8
    have GB_9 := Lib.hid (GB_8.out.below hst)
    clear GB_8
    clear hst
    clear hst0
    obtain ⟨x0, x1, x2⟩ := GB_9.out
    go_wp2_with fail
    refine (kNear GE_9.out GI_9.out).mono ?_
    rintro r w7 ⟨an, cn, rfl, q1, qb⟩
    clear x0 x1 x2
    have hst0 : Below w6.heap.size w6 w7 := below_two (by repeat (first | exact Below.refl _ _ | refine alloc_below ?_ _)) qb
    clear qb
    have hst := hst0
    have HB_10 := Lib.hid (below_two HB_9.out hst)
    clear HB_9
    have GE_10 := Lib.hid (GE_9.out.below hst)
    clear GE_9
    have GI_10 := Lib.hid (GI_9.out.below hst)
    clear GI_9
    have GB_10 := Lib.hid (GB_9.out.below hst)
    clear GB_9
    clear hst
    clear hst0
    have NI_10 := Lib.hid (q1)
    clear q1
    obtain ⟨x0, x1, x2⟩ := GB_10.out
    go_wp2_with fail
    refine (kD1 GE_10.out GI_10.out).mono ?_
    rintro r w8 ⟨rfl, qb⟩
    clear x0 x1 x2
    have hst0 : Below w7.heap.size w7 w8 := below_two (by repeat (first | exact Below.refl _ _ | refine alloc_below ?_ _)) qb
    clear qb
    have hst := hst0
    have HB_11 := Lib.hid (below_two HB_10.out hst)
    clear HB_10
    have GE_11 := Lib.hid (GE_10.out.below hst)
    clear GE_10
    have GI_11 := Lib.hid (GI_10.out.below hst)
    clear GI_10
    have GB_11 := Lib.hid (GB_10.out.below hst)
    clear GB_10
    have NI_11 := Lib.hid (NI_10.out.below hst)
    clear NI_10
    clear hst
    clear hst0
    obtain ⟨x0, x1, x2⟩ := GB_11.out
    go_wp2_with fail
    refine (kD2 GE_11.out GI_11.out).mono ?_
    rintro r w9 ⟨rfl, qb⟩
    clear x0 x1 x2
    have hst0 : Below w8.heap.size w8 w9 := below_two (by repeat (first | exact Below.refl _ _ | refine alloc_below ?_ _)) qb
    clear qb
    have hst := hst0
    have HB_12 := Lib.hid (below_two HB_11.out hst)
    clear HB_11
    have GE_12 := Lib.hid (GE_11.out.below hst)
    clear GE_11
    have GI_12 := Lib.hid (GI_11.out.below hst)
    clear GI_11
    have GB_12 := Lib.hid (GB_11.out.below hst)
    clear GB_11
    have NI_12 := Lib.hid (NI_11.out.below hst)
    clear NI_11
    clear hst
    clear hst0
    go_wp2_with fail
    refine (kSi 2 [0, 2] rfl (by repeat (first | exact NI_12.out | refine Ints.al ?_ _)) (by first | exact litI rfl (by simp) (by decide) | (refine Ints.al ?_ _; exact litI rfl (by simp) (by decide)))).mono ?_
    rintro r w10 ⟨rfl, qb⟩
    have hst0 : Below w9.heap.size w9 w10 := below_two (by repeat (first | exact Below.refl _ _ | refine alloc_below ?_ _)) qb
    clear qb
    have hst := hst0
    have HB_13 := Lib.hid (below_two HB_12.out hst)
    clear HB_12
    have GE_13 := Lib.hid (GE_12.out.below hst)
    clear GE_12
    have GI_13 := Lib.hid (GI_12.out.below hst)
    clear GI_12
    have GB_13 := Lib.hid (GB_12.out.below hst)
    clear GB_12
    have NI_13 := Lib.hid (NI_12.out.below hst)
    clear NI_12
    clear hst
    clear hst0
    clear NI_13
    obtain ⟨x0, x1, x2⟩ := GB_13.out
    go_wp2_with fail
    refine (kMv (by repeat (first | exact GE_13.out | refine Edg.al ?_ _)) (by repeat (first | exact GI_13.out | refine Ints.al ?_ _)) (by first | exact litI rfl (by simp) (by decide) | (refine Ints.al ?_ _; exact litI rfl (by simp) (by decide)))).mono ?_
    rintro r w11 ⟨am, cm, bm, dm, rfl, q1, q2, qb⟩
    clear x0 x1 x2
    have hst0 : Below w10.heap.size w10 w11 := below_two (by repeat (first | exact Below.refl _ _ | refine alloc_below ?_ _)) qb
    clear qb
    have hst := hst0
    have HB_14 := Lib.hid (below_two HB_13.out hst)
    clear HB_13
    have GE_14 := Lib.hid (GE_13.out.below hst)
    clear GE_13
    have GI_14 := Lib.hid (GI_13.out.below hst)
    clear GI_13
    have GB_14 := Lib.hid (GB_13.out.below hst)
    clear GB_13
    clear hst
    clear hst0
    have ME_14 := Lib.hid (q1)
    clear q1
    have MI_14 := Lib.hid (q2)
    clear q2
    go_upto_region 15 with (fail)
    obtain ⟨VM, hV⟩ : ∃ V, V = w11.alloc (.cells #[.int .i64 3, .slice am 2 cm, .slice bm 3 dm] 25) := ⟨_, rfl⟩
    have hbV : Below w11.heap.size w11 VM := by rw [hV]; exact alloc_below (Below.refl _ _) _
    have gBx : Bx VM w11.heap.size (.int .i64 3) (.slice am 2 cm) (.slice bm 3 dm) := by rw [hV]; exact Bx.new _ _ _ _
    rw [← hV]
    obtain ⟨XM, hX⟩ : ∃ X, w11.heap.size = X := ⟨_, rfl⟩
    rw [hX] at gBx ⊢
    clear hV hX
    have hst := hbV
    have HB_15 := Lib.hid (below_two HB_14.out hst)
    clear HB_14
    have GE_15 := Lib.hid (GE_14.out.below hst)
    clear GE_14
    have GI_15 := Lib.hid (GI_14.out.below hst)
    clear GI_14
    have GB_15 := Lib.hid (GB_14.out.below hst)
    clear GB_14
    have ME_15 := Lib.hid (ME_14.out.below hst)
    clear ME_14
    have MI_15 := Lib.hid (MI_14.out.below hst)
    clear MI_14
    clear hst
    clear hbV
    have MB_15 := Lib.hid (gBx)
    clear gBx
    obtain ⟨x0, x1, x2⟩ := GB_15.out
    go_wp2_with fail
    refine (kWd (by repeat (first | exact GE_15.out | refine Edg.al ?_ _)) (by repeat (first | exact GI_15.out | refine Ints.al ?_ _)) (by first | exact litI rfl (by simp) (by decide) | (refine Ints.al ?_ _; exact litI rfl (by simp) (by decide)))).mono ?_
    rintro r w12 ⟨aw, cw, rfl, q1, qb⟩
    clear x0 x1 x2
    have hst0 : Below VM.heap.size VM w12 := below_two (by repeat (first | exact Below.refl _ _ | refine alloc_below ?_ _)) qb
    clear qb
    have hst := hst0
    have HB_16 := Lib.hid (below_two HB_15.out hst)
    clear HB_15
    have GE_16 := Lib.hid (GE_15.out.below hst)
    clear GE_15
    have GI_16 := Lib.hid (GI_15.out.below hst)
    clear GI_15
    have GB_16 := Lib.hid (GB_15.out.below hst)
    clear GB_15
    have ME_16 := Lib.hid (ME_15.out.below hst)
    clear ME_15
    have MI_16 := Lib.hid (MI_15.out.below hst)
    clear MI_15
    have MB_16 := Lib.hid (MB_15.out.below hst)
    clear MB_15
    clear hst
    clear hst0
    have WI_16 := Lib.hid (q1)
    clear q1
    obtain ⟨x0, x1, x2⟩ := GB_16.out
    go_wp2_with fail
    refine (kCo GE_16.out GI_16.out).mono ?_
    rintro r w13 ⟨ac, cc, bc, dc, rfl, q1, q2, qb⟩
    clear x0 x1 x2
    have hst0 : Below w12.heap.size w12 w13 := below_two (by repeat (first | exact Below.refl _ _ | refine alloc_below ?_ _)) qb
    clear qb
    have hst := hst0
    have HB_17 := Lib.hid (below_two HB_16.out hst)
    clear HB_16
    have GE_17 := Lib.hid (GE_16.out.below hst)
    clear GE_16
    have GI_17 := Lib.hid (GI_16.out.below hst)
    clear GI_16
    have GB_17 := Lib.hid (GB_16.out.below hst)
    clear GB_16
    have ME_17 := Lib.hid (ME_16.out.below hst)
    clear ME_16
    have MI_17 := Lib.hid (MI_16.out.below hst)
    clear MI_16
    have MB_17 := Lib.hid (MB_16.out.below hst)
    clear MB_16
    have WI_17 := Lib.hid (WI_16.out.below hst)
    clear WI_16
    clear hst
    clear hst0
    have CE_17 := Lib.hid (q1)
    clear q1
    have CI_17 := Lib.hid (q2)
    clear q2
    go_upto_region 17 with (fail)
    obtain ⟨VC, hV⟩ : ∃ V, V = w13.alloc (.cells #[.int .i64 3, .slice ac 1 cc, .slice bc 3 dc] 25) := ⟨_, rfl⟩
    have hbV : Below w13.heap.size w13 VC := by rw [hV]; exact alloc_below (Below.refl _ _) _
    have gBx : Bx VC w13.heap.size (.int .i64 3) (.slice ac 1 cc) (.slice bc 3 dc) := by rw [hV]; exact Bx.new _ _ _ _
    rw [← hV]
    obtain ⟨XC, hX⟩ : ∃ X, w13.heap.size = X := ⟨_, rfl⟩
    rw [hX] at gBx ⊢
    clear hV hX
    have hst := hbV
    have HB_18 := Lib.hid (below_two HB_17.out hst)
    clear HB_17
    have GE_18 := Lib.hid (GE_17.out.below hst)
    clear GE_17
    have GI_18 := Lib.hid (GI_17.out.below hst)
    clear GI_17
    have GB_18 := Lib.hid (GB_17.out.below hst)
    clear GB_17
    have ME_18 := Lib.hid (ME_17.out.below hst)
    clear ME_17
    have MI_18 := Lib.hid (MI_17.out.below hst)
    clear MI_17
    have MB_18 := Lib.hid (MB_17.out.below hst)
    clear MB_17
    have WI_18 := Lib.hid (WI_17.out.below hst)
    clear WI_17
    have CE_18 := Lib.hid (CE_17.out.below hst)
    clear CE_17
    have CI_18 := Lib.hid (CI_17.out.below hst)
    clear CI_17
    clear hst
    clear hbV
    have CB_18 := Lib.hid (gBx)
    clear gBx
    obtain ⟨x0, x1, x2⟩ := GB_18.out
    go_wp2_with fail
    refine (kCe GE_18.out GI_18.out).mono ?_
    rintro r w14 ⟨ae, ce, rfl, q1, qb⟩
    clear x0 x1 x2
    have hst0 : Below VC.heap.size VC w14 := below_two (by repeat (first | exact Below.refl _ _ | refine alloc_below ?_ _)) qb
    clear qb
    have hst := hst0
    have HB_19 := Lib.hid (below_two HB_18.out hst)
    clear HB_18
    have GE_19 := Lib.hid (GE_18.out.below hst)
    clear GE_18
    have GI_19 := Lib.hid (GI_18.out.below hst)
    clear GI_18
    have GB_19 := Lib.hid (GB_18.out.below hst)
    clear GB_18
    have ME_19 := Lib.hid (ME_18.out.below hst)
    clear ME_18
    have MI_19 := Lib.hid (MI_18.out.below hst)
    clear MI_18
    have MB_19 := Lib.hid (MB_18.out.below hst)
    clear MB_18
    have WI_19 := Lib.hid (WI_18.out.below hst)
    clear WI_18
    have CE_19 := Lib.hid (CE_18.out.below hst)
    clear CE_18
    have CI_19 := Lib.hid (CI_18.out.below hst)
    clear CI_18
    have CB_19 := Lib.hid (CB_18.out.below hst)
    clear CB_18
    clear hst
    clear hst0
    have ER_19 := Lib.hid (q1)
    clear q1
    go_upto_region 18 with (fail)
    obtain ⟨RD, hRD⟩ : ∃ RD, w14.heap.size = RD := ⟨_, rfl⟩
    have HD := Lib.hid hRD
    clear hRD
    obtain ⟨x0, x1, x2⟩ := GB_19.out
    go_cut [10, 18] (fun u10 u18 wx => u10 = .int .i64 0 ∧ ∃ a18 c18, u18 = .slice a18 2 c18 ∧ Rows wx a18 [[0, 2], [1]] ∧ Below RD w14 wx)
    case first =>
      have hge := GE_19.out
      have hmk := mk_three
      go_region_held3 (fun W => W.cell? ⟨X, 0, none⟩ = some (.int .i64 3) ∧ W.cell? ⟨X, 1, none⟩ = some (.slice ag 2 cg) ∧ W.cell? ⟨X, 2, none⟩ = some (.slice bg 3 dg) ∧ Below RD w14 W)
        (first
          | assumption
          | exact ⟨x0, x1, x2, Below.refl _ _⟩
          | exact kc3 HD.out (by assumption) (by assumption)
          | exact kc3 HD.out (by assumption) (alloc_below (Below.refl _ _) _)
          | exact kc3 HD.out ⟨x0, x1, x2, Below.refl _ _⟩ (alloc_below (Below.refl _ _) _)
          | exact kc3 HD.out ⟨x0, x1, x2, Below.refl _ _⟩ (below_drew1 _ _)
          | exact kc3 HD.out (by assumption) (below_drew1 _ _))
        (first
          | (go_at_call 41; (with_reducible refine (kRe (hge.below (kl3 HD.out (by assumption))) (by first | exact litI rfl (by simp) (by decide) | exact (litI rfl (by simp) (by decide)).below (below_drew1 _ _))).mono ?_); rintro r wq ⟨a18, c18, rfl, p3, p4⟩; have hb6 := ke3 HD.out p4 (by assumption)))
      all_goals go_wp2
      all_goals go_meet
      all_goals exact ⟨rfl, a18, c18, rfl, p3, hb6⟩
    case rest =>
      obtain ⟨rfl, a18, c18, rfl, hr18, hb6⟩ := hcut
      obtain ⟨wD, hwD⟩ : ∃ wD, wD = wc := ⟨_, rfl⟩
      rw [← hwD] at hb6 hr18 ⊢
      clear hwD x0 x1 x2
      have hkC : Below w14.heap.size w14 wD := by rw [HD.out]; exact hb6
      have hst := hkC
      have HB_20 := Lib.hid (below_two HB_19.out hst)
      clear HB_19
      have GE_20 := Lib.hid (GE_19.out.below hst)
      clear GE_19
      have GI_20 := Lib.hid (GI_19.out.below hst)
      clear GI_19
      have GB_20 := Lib.hid (GB_19.out.below hst)
      clear GB_19
      have ME_20 := Lib.hid (ME_19.out.below hst)
      clear ME_19
      have MI_20 := Lib.hid (MI_19.out.below hst)
      clear MI_19
      have MB_20 := Lib.hid (MB_19.out.below hst)
      clear MB_19
      have WI_20 := Lib.hid (WI_19.out.below hst)
      clear WI_19
      have CE_20 := Lib.hid (CE_19.out.below hst)
      clear CE_19
      have CI_20 := Lib.hid (CI_19.out.below hst)
      clear CI_19
      have CB_20 := Lib.hid (CB_19.out.below hst)
      clear CB_19
      have ER_20 := Lib.hid (ER_19.out.below hst)
      clear ER_19
      clear hst
      clear hkC hb6 HD
      have RR_20 := Lib.hid (hr18)
      clear hr18
      obtain ⟨x0, x1, x2⟩ := MB_20.out
      go_wp2_with fail
      refine (kSg 3 2 3 [(0, 1), (0, 2)] [0, 1, 0] rfl rfl (by repeat (first | exact ME_20.out | refine Edg.al ?_ _)) (by repeat (first | exact MI_20.out | refine Ints.al ?_ _)) (by first | exact litE rfl (by simp) (by decide) | (refine Edg.al ?_ _; exact litE rfl (by simp) (by decide))) (by first | exact litI rfl (by simp) (by decide) | (refine Ints.al ?_ _; exact litI rfl (by simp) (by decide)))).mono ?_
      rintro r w15 ⟨rfl, qb⟩
      clear x0 x1 x2
      have hst0 : Below wD.heap.size wD w15 := below_two (by repeat (first | exact Below.refl _ _ | refine alloc_below ?_ _)) qb
      clear qb
      have hst := hst0
      have HB_21 := Lib.hid (below_two HB_20.out hst)
      clear HB_20
      have GE_21 := Lib.hid (GE_20.out.below hst)
      clear GE_20
      have GI_21 := Lib.hid (GI_20.out.below hst)
      clear GI_20
      have GB_21 := Lib.hid (GB_20.out.below hst)
      clear GB_20
      have ME_21 := Lib.hid (ME_20.out.below hst)
      clear ME_20
      have MI_21 := Lib.hid (MI_20.out.below hst)
      clear MI_20
      have MB_21 := Lib.hid (MB_20.out.below hst)
      clear MB_20
      have WI_21 := Lib.hid (WI_20.out.below hst)
      clear WI_20
      have CE_21 := Lib.hid (CE_20.out.below hst)
      clear CE_20
      have CI_21 := Lib.hid (CI_20.out.below hst)
      clear CI_20
      have CB_21 := Lib.hid (CB_20.out.below hst)
      clear CB_20
      have ER_21 := Lib.hid (ER_20.out.below hst)
      clear ER_20
      have RR_21 := Lib.hid (RR_20.out.below hst)
      clear RR_20
      clear hst
      clear hst0
      clear ME_21
      clear MI_21
      clear MB_21
      obtain ⟨y0, y1, y2⟩ := CB_21.out
      go_wp2_with fail
      refine (kSi 6 [0, 0, 1, 1, 0, 1] rfl (by repeat (first | exact WI_21.out | refine Ints.al ?_ _)) (by first | exact litI rfl (by simp) (by decide) | (refine Ints.al ?_ _; exact litI rfl (by simp) (by decide)))).mono ?_
      rintro r w16 ⟨rfl, qb⟩
      have hst0 : Below w15.heap.size w15 w16 := below_two (by repeat (first | exact Below.refl _ _ | refine alloc_below ?_ _)) qb
      clear qb
      have hst := hst0
      have HB_22 := Lib.hid (below_two HB_21.out hst)
      clear HB_21
      have GE_22 := Lib.hid (GE_21.out.below hst)
      clear GE_21
      have GI_22 := Lib.hid (GI_21.out.below hst)
      clear GI_21
      have GB_22 := Lib.hid (GB_21.out.below hst)
      clear GB_21
      have WI_22 := Lib.hid (WI_21.out.below hst)
      clear WI_21
      have CE_22 := Lib.hid (CE_21.out.below hst)
      clear CE_21
      have CI_22 := Lib.hid (CI_21.out.below hst)
      clear CI_21
      have CB_22 := Lib.hid (CB_21.out.below hst)
      clear CB_21
      have ER_22 := Lib.hid (ER_21.out.below hst)
      clear ER_21
      have RR_22 := Lib.hid (RR_21.out.below hst)
      clear RR_21
      clear hst
      clear hst0
      clear y0 y1 y2
      clear WI_22
      obtain ⟨x0, x1, x2⟩ := CB_22.out
      go_wp2_with fail
      refine (kSg 3 1 3 [(0, 2)] [0, 0, 1] rfl rfl (by repeat (first | exact CE_22.out | refine Edg.al ?_ _)) (by repeat (first | exact CI_22.out | refine Ints.al ?_ _)) (by first | exact litE rfl (by simp) (by decide) | (refine Edg.al ?_ _; exact litE rfl (by simp) (by decide))) (by first | exact litI rfl (by simp) (by decide) | (refine Ints.al ?_ _; exact litI rfl (by simp) (by decide)))).mono ?_
      rintro r w17 ⟨rfl, qb⟩
      clear x0 x1 x2
      have hst0 : Below w16.heap.size w16 w17 := below_two (by repeat (first | exact Below.refl _ _ | refine alloc_below ?_ _)) qb
      clear qb
      have hst := hst0
      have HB_23 := Lib.hid (below_two HB_22.out hst)
      clear HB_22
      have GE_23 := Lib.hid (GE_22.out.below hst)
      clear GE_22
      have GI_23 := Lib.hid (GI_22.out.below hst)
      clear GI_22
      have GB_23 := Lib.hid (GB_22.out.below hst)
      clear GB_22
      have CE_23 := Lib.hid (CE_22.out.below hst)
      clear CE_22
      have CI_23 := Lib.hid (CI_22.out.below hst)
      clear CI_22
      have CB_23 := Lib.hid (CB_22.out.below hst)
      clear CB_22
      have ER_23 := Lib.hid (ER_22.out.below hst)
      clear ER_22
      have RR_23 := Lib.hid (RR_22.out.below hst)
      clear RR_22
      clear hst
      clear hst0
      clear CE_23
      clear CI_23
      clear CB_23
      go_wp2_with fail
      refine (kTx).mono ?_
      rintro r w18 ⟨rfl, qb⟩
      have hst0 : Below w17.heap.size w17 w18 := below_two (by repeat (first | exact Below.refl _ _ | refine alloc_below ?_ _)) qb
      clear qb
      have hst := hst0
      have HB_24 := Lib.hid (below_two HB_23.out hst)
      clear HB_23
      have GE_24 := Lib.hid (GE_23.out.below hst)
      clear GE_23
      have GI_24 := Lib.hid (GI_23.out.below hst)
      clear GI_23
      have GB_24 := Lib.hid (GB_23.out.below hst)
      clear GB_23
      have ER_24 := Lib.hid (ER_23.out.below hst)
      clear ER_23
      have RR_24 := Lib.hid (RR_23.out.below hst)
      clear RR_23
      clear hst
      clear hst0
      obtain ⟨x0, x1, x2⟩ := GB_24.out
      go_wp2_with fail
      refine (kMv2 (by repeat (first | exact GE_24.out | refine Edg.al ?_ _)) (by repeat (first | exact GI_24.out | refine Ints.al ?_ _)) (by first | exact litI rfl (by simp) (by decide) | (refine Ints.al ?_ _; exact litI rfl (by simp) (by decide)))).mono ?_
      rintro r w19 ⟨a22, c22, b22, d22, rfl, qb⟩
      clear x0 x1 x2
      have hst0 : Below w18.heap.size w18 w19 := below_two (by repeat (first | exact Below.refl _ _ | refine alloc_below ?_ _)) qb
      clear qb
      have hst := hst0
      have HB_25 := Lib.hid (below_two HB_24.out hst)
      clear HB_24
      have GE_25 := Lib.hid (GE_24.out.below hst)
      clear GE_24
      have GI_25 := Lib.hid (GI_24.out.below hst)
      clear GI_24
      have GB_25 := Lib.hid (GB_24.out.below hst)
      clear GB_24
      have ER_25 := Lib.hid (ER_24.out.below hst)
      clear ER_24
      have RR_25 := Lib.hid (RR_24.out.below hst)
      clear RR_24
      clear hst
      clear hst0
      clear GE_25
      clear GI_25
      clear GB_25
      go_wp2_with fail
      refine (kCk (by first | exact litE rfl (by simp) (by decide) | (refine Edg.al ?_ _; exact litE rfl (by simp) (by decide))) (by first | exact litI rfl (by simp) (by decide) | (refine Ints.al ?_ _; exact litI rfl (by simp) (by decide)))).mono ?_
      rintro r w20 ⟨rfl, qb⟩
      have hst0 : Below w19.heap.size w19 w20 := below_two (by repeat (first | exact Below.refl _ _ | refine alloc_below ?_ _)) qb
      clear qb
      have hst := hst0
      have HB_26 := Lib.hid (below_two HB_25.out hst)
      clear HB_25
      have ER_26 := Lib.hid (ER_25.out.below hst)
      clear ER_25
      have RR_26 := Lib.hid (RR_25.out.below hst)
      clear RR_25
      clear hst
      clear hst0
      go_wp2_with fail
      refine (kSc 2 [[0, 1], [2]] rfl (by repeat (first | exact ER_26.out | refine Rows.al ?_ _)) (lit2 _ [0, 1] [2] (by simp) (by simp))).mono ?_
      rintro r w21 ⟨rfl, qb⟩
      have hst0 : Below w20.heap.size w20 w21 := below_two (by repeat (first | exact Below.refl _ _ | refine alloc_below ?_ _)) qb
      clear qb
      have hst := hst0
      have HB_27 := Lib.hid (below_two HB_26.out hst)
      clear HB_26
      have ER_27 := Lib.hid (ER_26.out.below hst)
      clear ER_26
      have RR_27 := Lib.hid (RR_26.out.below hst)
      clear RR_26
      clear hst
      clear hst0
      clear ER_27
      go_wp2_with fail
      refine (kSc 2 [[0, 2], [1]] rfl (by repeat (first | exact RR_27.out | refine Rows.al ?_ _)) (lit2 _ [0, 2] [1] (by simp) (by simp))).mono ?_
      rintro r w22 ⟨rfl, qb⟩
      have hst0 : Below w21.heap.size w21 w22 := below_two (by repeat (first | exact Below.refl _ _ | refine alloc_below ?_ _)) qb
      clear qb
      have hst := hst0
      have HB_28 := Lib.hid (below_two HB_27.out hst)
      clear HB_27
      have RR_28 := Lib.hid (RR_27.out.below hst)
      clear RR_27
      clear hst
      clear hst0
      clear RR_28
      go_wp2_with fail
      refine (faulty_calls ⟨#[51, 32, 48, 45, 49, 32, 48, 45, 49]⟩ 9 6 (by decide) (ex_parse (by decide +kernel)) _).mono ?_
      rintro r w23 ⟨rfl, qb⟩
      have hst0 : Below w22.heap.size w22 w23 := below_two (by repeat (first | exact Below.refl _ _ | refine alloc_below ?_ _)) qb
      clear qb
      have hst := hst0
      have HB_29 := Lib.hid (below_two HB_28.out hst)
      clear HB_28
      clear hst
      clear hst0
      go_wp2_with fail
      refine (faulty_calls ⟨#[51, 32, 48, 45, 51]⟩ 2 4 (by decide) (ex_parse (by decide +kernel)) _).mono ?_
      rintro r w24 ⟨rfl, qb⟩
      have hst0 : Below w23.heap.size w23 w24 := below_two (by repeat (first | exact Below.refl _ _ | refine alloc_below ?_ _)) qb
      clear qb
      have hst := hst0
      have HB_30 := Lib.hid (below_two HB_29.out hst)
      clear HB_29
      clear hst
      clear hst0
      go_wp2_with fail
      refine (faulty_calls ⟨#[50, 32, 58, 32, 48, 32, 48]⟩ 3 2 (by decide) (ex_parse (by decide +kernel)) _).mono ?_
      rintro r w25 ⟨rfl, qb⟩
      have hst0 : Below w24.heap.size w24 w25 := below_two (by repeat (first | exact Below.refl _ _ | refine alloc_below ?_ _)) qb
      clear qb
      have hst := hst0
      have HB_31 := Lib.hid (below_two HB_30.out hst)
      clear HB_30
      clear hst
      clear hst0
      go_wp2_with fail
      refine (faulty_calls ⟨#[50, 32, 58, 32, 49]⟩ 11 5 (by decide) (ex_parse (by decide +kernel)) _).mono ?_
      rintro r w26 ⟨rfl, qb⟩
      have hst0 : Below w25.heap.size w25 w26 := below_two (by repeat (first | exact Below.refl _ _ | refine alloc_below ?_ _)) qb
      clear qb
      have hst := hst0
      have HB_32 := Lib.hid (below_two HB_31.out hst)
      clear HB_31
      clear hst
      clear hst0
      go_wp2_with fail
      refine (faulty_calls ⟨#[48, 51]⟩ 11 1 (by decide) (ex_parse (by decide +kernel)) _).mono ?_
      rintro r w27 ⟨rfl, qb⟩
      have hst0 : Below w26.heap.size w26 w27 := below_two (by repeat (first | exact Below.refl _ _ | refine alloc_below ?_ _)) qb
      clear qb
      have hst := hst0
      have HB_33 := Lib.hid (below_two HB_32.out hst)
      clear HB_32
      clear hst
      clear hst0
      go_wp2_with fail
      refine (faulty_calls ⟨#[]⟩ 11 0 (by decide) (ex_parse (by decide +kernel)) _).mono ?_
      rintro r w28 ⟨rfl, qb⟩
      have hst0 : Below w27.heap.size w27 w28 := below_two (by repeat (first | exact Below.refl _ _ | refine alloc_below ?_ _)) qb
      clear qb
      have hst := hst0
      have HB_34 := Lib.hid (below_two HB_33.out hst)
      clear HB_33
      clear hst
      clear hst0
      go_wp2_with fail
      refine (faulty_calls ⟨#[48, 32, 58]⟩ 11 2 (by decide) (ex_parse (by decide +kernel)) _).mono ?_
      rintro r w29 ⟨rfl, qb⟩
      have hst0 : Below w28.heap.size w28 w29 := below_two (by repeat (first | exact Below.refl _ _ | refine alloc_below ?_ _)) qb
      clear qb
      have hst := hst0
      have HB_35 := Lib.hid (below_two HB_34.out hst)
      clear HB_34
      clear hst
      clear hst0
      go_wp2_with fail
      refine (faulty_calls ⟨#[50, 53]⟩ 2 0 (by decide) (ex_parse (by decide +kernel)) _).mono ?_
      rintro r w30 ⟨rfl, qb⟩
      have hst0 : Below w29.heap.size w29 w30 := below_two (by repeat (first | exact Below.refl _ _ | refine alloc_below ?_ _)) qb
      clear qb
      have hst := hst0
      have HB_36 := Lib.hid (below_two HB_35.out hst)
      clear HB_35
      clear hst
      clear hst0
      go_wp2_with fail
      refine (awake_calls _).mono ?_
      rintro r wz ⟨rfl, qb⟩
      have HZ := Lib.hid (below_two HB_36.out qb)
      clear qb
      go_wp2
      go_ret
      exact ⟨rfl, HZ.out⟩
end Go.Proofs.YtifkieopaoooeaaGreatDoor
