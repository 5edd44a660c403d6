/- Parts: the program's. -/
import Derived.Test.YtifkieopaoooeaaGreatDoorDistR
set_option linter.unusedSimpArgs false
set_option linter.unusedVariables false
namespace Go.Proofs.YtifkieopaoooeaaGreatDoor
open Go.RowKit Plain PlainG
set_option maxRecDepth 100000 in
set_option maxHeartbeats 4000000 in
theorem parts_calls {w : World} {a b : Option Addr} {c d : Nat} {g : Gr} (he : Edg w a g.es) (hc : Ints w b g.cs) :
    Calls Tryz.prog 21 #[.agg #[.int .i64 g.n, .slice a g.es.length c, .slice b g.cs.length d]] w fun e w' => PartsRes w (partsA g) e w' := by
  obtain ⟨i3, hi3, hz3, hs3, hb3⟩ := info_parts Tryz.info3
  have I3 := Lib.hid (And.intro hi3 (And.intro hz3 (And.intro hs3 hb3)))
  clear hi3 hz3 hs3 hb3
  obtain ⟨R, hR⟩ : ∃ R, w.heap.size = R := ⟨_, rfl⟩
  obtain ⟨W1, hW1⟩ : ∃ W1, W1 = w.alloc (.cells #[.int .i64 g.n, .slice a g.es.length c, .slice b g.cs.length d] 25) := ⟨_, rfl⟩
  have hb1 : Below R w W1 := by rw [hW1, ← hR]; exact (Below.refl _ w).alloc (Nat.le_refl _) _
  have hx1 : Bx W1 R (.int .i64 g.n) (.slice a g.es.length c) (.slice b g.cs.length d) := by rw [hW1, ← hR]; exact Bx.new _ _ _ _
  have hbw1 : Below w.heap.size w W1 := by rw [hR]; exact hb1
  have K28 := gcheck_calls (c := c) (d := d) (he.below hbw1) (hc.below hbw1)
  obtain ⟨z, hz⟩ : ∃ z, partsA g = z := ⟨_, rfl⟩
  rw [hz]
  unfold partsA at hz
  obtain ⟨E, hE⟩ : ∃ E, chkGr g = E := ⟨_, rfl⟩
  rw [hE] at K28 hz
  obtain ⟨L, hL⟩ : ∃ L, g.es.length = L := ⟨_, rfl⟩
  obtain ⟨M, hM⟩ : ∃ M, g.cs.length = M := ⟨_, rfl⟩
  obtain ⟨N0, hN0⟩ : ∃ N0, g.n = N0 := ⟨_, rfl⟩
  by_cases hE0 : E = 0
  · rw [if_neg (by simpa using hE0)] at hz
    obtain ⟨N, hN, hN24, hel, hev, hcl⟩ := chk_edges (hE.trans hE0)
    rw [hN, Int.toNat_natCast] at hz
    rw [hN] at K28 hW1 hx1 ⊢
    rw [hL] at K28 hW1 hx1 hel ⊢
    rw [hM] at K28 hW1 hx1 ⊢
    have H := Lib.hid (And.intro K28 (And.intro hx1 (And.intro hbw1 (And.intro hz (And.intro he (And.intro hev hL))))))
    have HW := Lib.hid hW1
    have HR := Lib.hid hR
    obtain ⟨x0, x1, x2⟩ := hx1
    subst hE0
    clear K28 hbw1 hb1 hW1 hE hz hN0 hL hM hN hev hcl he hc hR
    go_enter Tryz.func21, Tryz.ntmps21
    go_upto_region 1 with (fail)
    rw [← HW.out]
    try rw [HR.out]
    go_wp2_with (first
      | (go_at_call 27; refine H.out.1.mono ?_; rintro e w2 ⟨rfl, hw2⟩; obtain ⟨x0, x1, x2⟩ := H.out.2.1.below hw2; have HA := Lib.hid (And.intro (H.out.2.2.1.trans (hw2.mono H.out.2.2.1.size)) (H.out.2.1.below hw2)); clear hw2)
      | (at_make; refine mk1 rfl _ _ 23 3 rfl i3 (.int .i64 0) 8 Tryz.underlying23 I3.out.1 I3.out.2.1 I3.out.2.2.1 I3.out.2.2.2 rfl (by omega) w2.heap.size N rfl rfl (by omega) (Nat.le_refl _) ?_; intro w3 hd hg hz1; have H1 := Lib.hid (And.intro hd (And.intro hg hz1)); clear hd hg hz1))
    obtain ⟨B, hB⟩ : ∃ B, w2.heap.size = B := ⟨_, rfl⟩
    rw [hB] at H1 ⊢
    have HB := Lib.hid hB
    rw [ints_zero, lsF_zero] at H1
    have hres : ∀ wi, w3.grownBy wi (some B) → Bx wi R (.int .i64 (N : Int)) (.slice a L c) (.slice b M d) ∧ Below w.heap.size w wi := fun wi h => by
      have h2 : Below w2.heap.size w2 w3 := (Below.refl _ w2).grown H1.out.2.1 (Nat.le_refl _) (by simp)
      have h3 : Below w2.heap.size w2 wi := h2.grown h h2.size (fun g e => by have := Option.some.inj e; omega)
      exact ⟨HA.out.2.below h3, HA.out.1.trans (h3.mono HA.out.1.size)⟩
    have HRS := Lib.hid hres
    clear hres hB x0 x1 x2
    obtain ⟨⟨x0, x1, x2⟩, _⟩ := HRS.out _ (grown_drewN w3 0 _)
    go_loopw [20] (fun i wi => ∃ k : Nat, k ≤ N ∧ i = .int .i64 (k : Int) ∧ Own wi B (.slice (some ⟨B, 0, none⟩) N N) 3 (ints (lsF N (fun u => if u < k then (u : Int) else 0))) ∧ w3.grownBy wi (some B)) (fun i _ => N - (intOf i).toNat)
    case atStart => exact ⟨0, Nat.zero_le _, rfl, by simpa using H1.out.1, grown_drewN w3 0 _⟩
    case round =>
      obtain ⟨k, hk, rfl, hU, hg⟩ := hrel
      clear x0 x1 x2
      obtain ⟨⟨x0, x1, x2⟩, hbw⟩ := HRS.out _ hg
      by_cases hlt : k < N
      · have hkI : (k : Int) < N := by omega
        obtain ⟨g1, g2⟩ := lsAt hU hlt
        have hU2 := lsPut hU k (k : Int)
        have hcg : lsF N (fun a => if a = k then (k : Int) else if a < k then (a : Int) else 0) = lsF N (fun u => if u < k + 1 then (u : Int) else 0) := lsF_cong fun u _ => by
          by_cases h1 : u = k
          · subst h1; simp
          · by_cases h2 : u < k
            · rw [if_neg h1, if_pos h2, if_pos (by omega)]
            · rw [if_neg h1, if_neg h2, if_neg (by omega)]
        rw [hcg] at hU2
        have HY := Lib.hid (And.intro hU2 (hg.trans (grown_put k (.int .i64 (k : Int)))))
        clear hU hU2 hg hcg
        go_wp2
        exact ⟨⟨k + 1, by omega, by go_num, HY.out.1, HY.out.2⟩, by simp [intOf]; omega⟩
      · obtain rfl : k = N := by omega
        have hcg : lsF k (fun u => if u < k then (u : Int) else 0) = lsF k (fun u => (u : Int)) := lsF_cong fun u hu => by rw [if_pos hu]
        rw [hcg] at hU
        have HY := Lib.hid (And.intro hU hg)
        clear hU hg hcg hbw
        go_wp2
        go_loopw [30] (fun i wi => ∃ (D : Nat) (f : Nat → Int), D ≤ k ∧ i = .int .i64 (D : Int) ∧ Own wi B (.slice (some ⟨B, 0, none⟩) k k) 3 (ints (lsF k f)) ∧ Lab k (adj g.es) D f ∧ w3.grownBy wi (some B)) (fun i _ => k - (intOf i).toNat)
        case atStart => exact ⟨0, _, Nat.zero_le _, rfl, HY.out.1, Lab.start, HY.out.2⟩
        case round =>
          obtain ⟨D, f0, hD, rfl, hU, hLab, hg⟩ := hrel
          clear x0 x1 x2
          obtain ⟨⟨x0, x1, x2⟩, hbw⟩ := HRS.out _ hg
          by_cases hlt2 : D < k
          · have hDI : (D : Int) < k := by omega
            obtain ⟨wo, hwo⟩ : ∃ wo, wo = wr := ⟨_, rfl⟩
            subst hwo
            have HX := Lib.hid (And.intro hU (And.intro hLab hg))
            clear hU hLab hg hbw
            go_wp2
            go_loopw [35] (fun i wi => ∃ (p : Nat) (f : Nat → Int), p ≤ L ∧ i = .int .i64 (p : Int) ∧ Own wi B (.slice (some ⟨B, 0, none⟩) k k) 3 (ints (lsF k f)) ∧ LabIn k (adj g.es) D f0 (g.es.take p) f ∧ w3.grownBy wi (some B)) (fun i _ => L - (intOf i).toNat)
            case atStart => exact ⟨0, f0, Nat.zero_le _, rfl, HX.out.1, by rw [List.take_zero]; exact LabIn.start HX.out.2.1, HX.out.2.2⟩
            case round =>
              obtain ⟨p, f, hp, rfl, hU, hLab, hg⟩ := hrel
              clear x0 x1 x2
              obtain ⟨⟨x0, x1, x2⟩, hbw⟩ := HRS.out _ hg
              by_cases hlt3 : p < L
              · obtain ⟨x, hx⟩ : ∃ x, g.es[p]? = some x := ⟨_, List.getElem?_eq_getElem (by rw [H.out.2.2.2.2.2.2]; exact hlt3)⟩
                have hmem := List.mem_of_getElem? hx
                obtain ⟨r1, r2, r3⟩ := H.out.2.2.2.2.2.1 x hmem
                have htk : g.es.take (p + 1) = g.es.take p ++ [x] := by rw [List.take_add_one, hx]; rfl
                obtain ⟨EB, eo, hea, hB5, e1, e2⟩ := (H.out.2.2.2.2.1.below hbw).at_ p x hx
                obtain ⟨xx, yy⟩ := x
                simp only at e1 e2 r1 r2 r3
                obtain ⟨i1, rfl⟩ : ∃ i1 : Nat, xx = i1 := ⟨xx.toNat, by omega⟩
                obtain ⟨i2, rfl⟩ : ∃ i2 : Nat, yy = i2 := ⟨yy.toNat, by omega⟩
                subst hea
                have h1k : i1 < k := by omega
                have h2k : i2 < k := by omega
                have h12 : i1 ≠ i2 := by omega
                have h1I : (i1 : Int) < k := by omega
                have h2I : (i2 : Int) < k := by omega
                have hpI : (p : Int) < L := by omega
                have hstep := hLab.step (fun z hz => by have := H.out.2.2.2.2.2.1 z (List.mem_of_mem_take hz); omega) h1k h2k (adj_iff.2 (.inl hmem)) (adj_iff.2 (.inr hmem))
                rw [← htk] at hstep
                obtain ⟨X, hX⟩ : ∃ X, wr.heap.size = X := ⟨_, rfl⟩
                obtain ⟨wx, hwx⟩ : ∃ wx, wx = wr.alloc (.cells #[.int .i64 (i1 : Int), .int .i64 (i2 : Int)] 69) := ⟨_, rfl⟩
                have hUx : Own wx B (.slice (some ⟨B, 0, none⟩) k k) 3 (ints (lsF k f)) := by rw [hwx]; exact hU.alloc _
                have hgx : w3.grownBy wx (some B) := by rw [hwx]; exact hg.trans (grown_alloc _ _ _)
                have c0 : wx.cell? ⟨X, 0, none⟩ = some (.int .i64 (i1 : Int)) := by rw [hwx, ← hX]; simp
                have c1 : wx.cell? ⟨X, 1, none⟩ = some (.int .i64 (i2 : Int)) := by rw [hwx, ← hX]; simp
                have hXB : X ≠ B := fun e => by
                  rcases hU.blk with e3 | ⟨g', _, e3, _, h, _⟩
                  · cases e3
                  · cases e3
                    have h9 : B < wr.heap.size := h
                    omega
                obtain ⟨g1, _⟩ := lsAt hUx h1k
                obtain ⟨g2, _⟩ := lsAt hUx h2k
                obtain ⟨m, hm⟩ : ∃ m, min (f i1) (f i2) = m := ⟨_, rfl⟩
                have HX2 := Lib.hid (And.intro hUx (And.intro hgx (And.intro hstep (And.intro hm hwx))))
                clear hU hLab hg hbw hx hmem htk hwx hUx hgx hstep hm hB5 r1 r2 r3
                go_upto_region 15 with (fail)
                try rw [hX]
                rw [← HX2.out.2.2.2.2]
                clear e1 e2 x0 x1 x2
                go_quiet (fail)
                go_upto_region 16 with (fail)
                obtain ⟨wy, hwy⟩ : ∃ wy, wy = wx.drewN nq := ⟨_, rfl⟩
                have c0 : wy.cell? ⟨X, 0, none⟩ = some (.int .i64 (i1 : Int)) := by rw [hwy]; exact c0
                have c1 : wy.cell? ⟨X, 1, none⟩ = some (.int .i64 (i2 : Int)) := by rw [hwy]; exact c1
                have hUy : Own wy B (.slice (some ⟨B, 0, none⟩) k k) 3 (ints (lsF k f)) := by rw [hwy]; exact HX2.out.1.drewN nq
                have hgy : w3.grownBy wy (some B) := by rw [hwy]; exact HX2.out.2.1.trans (grown_drewN _ _ _)
                obtain ⟨g1, gf1⟩ := lsAt hUy h1k
                obtain ⟨g2, gf2⟩ := lsAt hUy h2k
                have hA1 := lsPut (lsPut hUy i1 m) i2 m
                have hA2 := lsPut (lsPut hUy i2 m) i1 m
                have hc1 : lsF k (fun a => if a = i2 then m else (fun a => if a = i1 then m else f a) a) = lsF k (relax f i1 i2) := lsF_cong fun u _ => by
                  unfold relax
                  rw [HX2.out.2.2.2.1]
                  by_cases h1 : u = i2
                  · rw [if_pos h1, if_pos (.inr h1)]
                  · by_cases h2 : u = i1
                    · rw [if_neg h1]; simp [h2]
                    · rw [if_neg h1]; simp [h1, h2]
                have hc2 : lsF k (fun a => if a = i1 then m else (fun a => if a = i2 then m else f a) a) = lsF k (relax f i1 i2) := lsF_cong fun u _ => by
                  unfold relax
                  rw [HX2.out.2.2.2.1]
                  by_cases h1 : u = i2
                  · by_cases h2 : u = i1
                    · simp [h2]
                    · rw [if_neg h2]; simp [h1]
                  · by_cases h2 : u = i1
                    · simp [h2]
                    · simp [h1, h2]
                rw [hc1] at hA1
                rw [hc2] at hA2
                have z1 : ∀ u, (wy.setCell ⟨B, i1, none⟩ u).cell? ⟨B, i2, none⟩ = some (.int .i64 (f i2)) := fun u => by rw [cell_set_other (by simp [h12])]; exact g2
                have z2 : ∀ u, (wy.setCell ⟨B, i2, none⟩ u).cell? ⟨B, i1, none⟩ = some (.int .i64 (f i1)) := fun u => by rw [cell_set_other (by simp [Ne.symm h12])]; exact g1
                have HM := Lib.hid HX2.out.2.2.2.1
                have HY2 := Lib.hid (And.intro hA1 (And.intro hA2 (And.intro (hgy.trans ((grown_put i1 (.int .i64 m)).trans (grown_put i2 (.int .i64 m)))) (hgy.trans ((grown_put i2 (.int .i64 m)).trans (grown_put i1 (.int .i64 m)))))))
                rw [← hwy, HM.out]
                clear hUy hgy hA1 hA2 hc1 hc2 hwy
                go_region
                all_goals
                  go_wp2
                  first
                    | exact ⟨⟨p + 1, _, by omega, by go_num, HY2.out.1.drew, HX2.out.2.2.1, HY2.out.2.2.1.trans (grown_drewN _ 1 _)⟩, by simp only [intOf]; omega⟩
                    | exact ⟨⟨p + 1, _, by omega, by go_num, HY2.out.2.1.drew, HX2.out.2.2.1, HY2.out.2.2.2.trans (grown_drewN _ 1 _)⟩, by simp only [intOf]; omega⟩
              · obtain rfl : p = L := by omega
                rw [List.take_of_length_le (by rw [H.out.2.2.2.2.2.2]; omega)] at hLab
                have hL2 := hLab.leave (fun i v _ _ h => adj_iff.1 h)
                have HZ := Lib.hid (And.intro hU (And.intro hL2 hg))
                clear hU hLab hg hbw hL2
                go_wp2
                exact ⟨⟨D + 1, f, by omega, by go_num, HZ.out⟩, by simp [intOf]; omega⟩
          · obtain rfl : D = k := by omega
            have hcg : lsF D f0 = partsL D g.es := lsF_cong fun u hu => hLab.least hu
            rw [hcg] at hU
            have hpl : (partsL D g.es).length = D := lsF_len _ _
            have K81 := ofE_calls (some ⟨B, 0, none⟩) D (partsL D g.es) wr (hU.toInts (by rw [hpl]; unfold maxLen; omega))
            rw [hpl, H.out.2.2.2.1] at K81
            have HQ := Lib.hid (And.intro K81 hbw)
            clear K81 hU hg hcg hpl hbw hLab
            go_wp2_with (go_at_call 76; refine HQ.out.1.mono ?_; rintro e w5 ⟨a5, c5, rfl, q1, q2⟩; have HZ := Lib.hid (And.intro q1 (HQ.out.2.trans (q2.mono HQ.out.2.size))); clear q1 q2)
            go_ret2
            exact ⟨a5, c5, rfl, HZ.out.1, HZ.out.2⟩
  · rw [if_pos (by simpa using hE0)] at hz
    subst hz
    have hEn : (E != 0) = true := by simp [hE0]
    rw [hN0, hL, hM] at K28 hW1 hx1 ⊢
    have H := Lib.hid (And.intro K28 (And.intro hbw1 hR))
    have HW := Lib.hid hW1
    obtain ⟨x0, x1, x2⟩ := hx1
    clear K28 hbw1 hb1 hW1 hE hN0 hL hM he hc hR hE0
    go_enter Tryz.func21, Tryz.ntmps21
    go_upto_region 1 with (fail)
    rw [← HW.out]
    try rw [H.out.2.2]
    go_wp2_with (go_at_call 27; refine H.out.1.mono ?_; rintro e w3 ⟨rfl, hw3⟩; have HA := Lib.hid hw3; clear hw3)
    go_ret2
    exact ⟨none, 0, rfl, Rows.empty, H.out.2.1.trans (HA.out.mono H.out.2.1.size)⟩
end Go.Proofs.YtifkieopaoooeaaGreatDoor
