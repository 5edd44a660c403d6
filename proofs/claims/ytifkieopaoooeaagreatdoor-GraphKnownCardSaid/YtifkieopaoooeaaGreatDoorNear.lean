/- Near: the program's, the reference's. -/
import Derived.Test.YtifkieopaoooeaaGreatDoorHas
set_option linter.unusedSimpArgs false
set_option linter.unusedVariables false
namespace Go.Proofs.YtifkieopaoooeaaGreatDoor
open Go.RowKit Plain PlainG
def nearTo (es : List E2) (v k : Nat) : List Int := ((List.range k).filter fun u => adj es v u).map fun (u : Nat) => (u : Int)
theorem nearTo_zero (es : List E2) (v : Nat) : nearTo es v 0 = [] := rfl
theorem nearTo_yes {es : List E2} {v k : Nat} (h : adj es v k = true) : nearTo es v (k + 1) = nearTo es v k ++ [(k : Int)] := by
  unfold nearTo; rw [List.range_succ, List.filter_append, List.map_append]; simp [h]
theorem nearTo_no {es : List E2} {v k : Nat} (h : adj es v k = false) : nearTo es v (k + 1) = nearTo es v k := by
  unfold nearTo; rw [List.range_succ, List.filter_append, List.map_append]; simp [h]
theorem nearTo_len (es : List E2) (v k : Nat) : (nearTo es v k).length ≤ k := by
  unfold nearTo; rw [List.length_map]; exact Nat.le_trans (List.length_filter_le _ _) (by simp)
def nearA (g : Gr) (v : Int) : List Int × Int := if withA g [v] ≠ 0 then ([], withA g [v]) else (nearTo g.es v.toNat g.n.toNat, 0)
def NearRes (w : World) (r : List Int × Int) (e : Ending) (w' : World) : Prop :=
  ∃ a c, e = .returned (.tuple #[.slice a r.1.length c, .int .i64 r.2]) ∧ Ints w' a r.1 ∧ Below w.heap.size w w'
set_option maxRecDepth 100000 in
set_option maxHeartbeats 4000000 in
theorem near_calls {w : World} {a b : Option Addr} {c d : Nat} {g : Gr} (i : Int) (he : Edg w a g.es) (hc : Ints w b g.cs) :
    Calls Tryz.prog 29 #[.agg #[.int .i64 g.n, .slice a g.es.length c, .slice b g.cs.length d], .int .i64 i] w fun e w' => NearRes w (nearA g i) e w' := by
  obtain ⟨i3, hi3, hz3, hs3, hb3⟩ := info_parts Tryz.info3
  have I3 := Lib.hid (And.intro hi3 (And.intro hz3 (And.intro hs3 hb3)))
  clear hi3 hz3 hs3 hb3
  obtain ⟨R, hR⟩ : ∃ R, w.heap.size = R := ⟨_, rfl⟩
  obtain ⟨W1, hW1⟩ : ∃ W1, W1 = w.alloc (.cells #[.int .i64 g.n, .slice a g.es.length c, .slice b g.cs.length d] 25) := ⟨_, rfl⟩
  have hb1 : Below R w W1 := by rw [hW1, ← hR]; exact (Below.refl _ w).alloc (Nat.le_refl _) _
  have hs1 : W1.heap.size = R + 1 := by rw [hW1, ← hR]; simp
  have hx1 : Bx W1 R (.int .i64 g.n) (.slice a g.es.length c) (.slice b g.cs.length d) := by rw [hW1, ← hR]; exact Bx.new _ _ _ _
  obtain ⟨W2, hW2⟩ : ∃ W2, W2 = W1.alloc (.cells #[.int .i64 i] 3) := ⟨_, rfl⟩
  have hb2 : Below W1.heap.size W1 W2 := by rw [hW2]; exact (Below.refl _ _).alloc (Nat.le_refl _) _
  have hl2 := ints_one1 W1 i W2 hW2
  have hbw2 : Below w.heap.size w W2 := by rw [hR]; exact hb1.trans (hb2.mono (by omega))
  have K77 := with_calls (c := c) (d := d) (cl := 1) (he.below hbw2) (hc.below hbw2) hl2
  have hx2 := hx1.below hb2
  have K78 := fun (w' : World) (h : Below W2.heap.size W2 w') (N : Nat) (hN : g.n = N) (hN24 : N ≤ 24) (hev : ∀ x ∈ g.es, 0 ≤ x.1 ∧ x.1 < x.2 ∧ x.2 < N) => gmatrix_calls (w := w') (c := c) (b := b) (d := d) (L := g.es.length) (M := g.cs.length) (n := N) ((he.below hbw2).below h) rfl (by omega) (fun x hx => by have := hev x hx; omega)
  obtain ⟨⟨z1, z2⟩, hz⟩ : ∃ z, nearA g i = z := ⟨_, rfl⟩
  rw [hz]
  unfold nearA at hz
  have hok := @withA_ok g [i]
  obtain ⟨E, hE⟩ : ∃ E, withA g [i] = E := ⟨_, rfl⟩
  rw [hE] at K77 hz hok
  obtain ⟨L, hL⟩ : ∃ L, g.es.length = L := ⟨_, rfl⟩
  obtain ⟨M, hM⟩ : ∃ M, g.cs.length = M := ⟨_, rfl⟩
  obtain ⟨N0, hN0⟩ : ∃ N0, g.n = N0 := ⟨_, rfl⟩
  simp only [List.length_cons, List.length_nil, Nat.zero_add, Nat.reduceAdd] at K77
  by_cases hE0 : E = 0
  · obtain ⟨hg0, hv⟩ := hok hE0
    obtain ⟨N, hN, hN24, hel, hev, hcl⟩ := chk_edges hg0
    have hvi := hv i (by simp)
    obtain ⟨i, rfl⟩ : ∃ n : Nat, i = n := ⟨i.toNat, by omega⟩
    rw [if_neg (by simpa using hE0), hN] at hz
    have hz1 : z1 = nearTo g.es i N ∧ z2 = 0 := by
      simp only [Int.toNat_natCast, Prod.mk.injEq] at hz
      exact ⟨hz.1.symm, hz.2.symm⟩
    obtain ⟨hz1, rfl⟩ := hz1
    have K78 := fun (w' : World) (h : Below W2.heap.size W2 w') => K78 w' h N hN hN24 hev
    rw [hN] at K77 hW1 hx1 hx2 hvi ⊢
    rw [hL] at K77 hW1 hx1 hx2 K78 ⊢
    rw [hM] at K77 hW1 hx1 hx2 K78 ⊢
    have H := Lib.hid (And.intro K77 (And.intro K78 (And.intro hx2 (And.intro hbw2 (And.intro hR hz1)))))
    have HW := Lib.hid hW1
    have HW2 := Lib.hid hW2
    have hiN : i < N := by omega
    have hiI : (i : Int) < N := hvi.2
    obtain ⟨x0, x1, x2⟩ := hx1
    subst hE0
    clear K77 K78 hx2 hbw2 hb1 hb2 hl2 hW1 hW2 hE hz hok hN0 hL hM hg0 hv hN hel hev hcl he hc hR hs1 hvi hz1
    go_enter Tryz.func29, Tryz.ntmps29
    go_upto_region 1 with (fail)
    rw [← HW.out]
    try rw [H.out.2.2.2.2.1]
    go_wp2_with (first
      | (rw [← HW2.out]; go_at_call 77; refine H.out.1.mono ?_; rintro e w3 ⟨rfl, hw3⟩; obtain ⟨x0, x1, x2⟩ := H.out.2.2.1.below hw3; have HA := Lib.hid hw3; clear hw3)
      | (go_at_call 78; refine (H.out.2.1 _ HA.out).mono ?_; rintro e w4 ⟨G, mc, rfl, hmat, hw4⟩; obtain ⟨q, cc, g1, _, _⟩ := hmat.rowAt hiN; have HB := Lib.hid (And.intro (H.out.2.2.2.1.trans ((below_two HA.out hw4).mono H.out.2.2.2.1.size)) hmat); clear hw4 hmat x0 x1 x2))
    obtain ⟨B, hB⟩ : ∃ B, w4.heap.size = B := ⟨_, rfl⟩
    have HB4 := Lib.hid hB
    have HG := Lib.hid g1
    clear hB g1
    go_loopw [7, 23] (fun v j wi => ∃ (k : Nat), k ≤ N ∧ j = .int .i64 (k : Int) ∧ Own wi B v 3 (ints (nearTo g.es i k)) ∧ Below B w4 wi) (fun _ j _ => N - (intOf j).toNat)
    case atStart => exact ⟨0, Nat.zero_le _, rfl, Own.nil _ _ _, Below.refl _ _⟩
    case round =>
      obtain ⟨k, hk, rfl, hU, hb⟩ := hrel
      have hb4 : Below w4.heap.size w4 wr := by rw [HB4.out]; exact hb
      by_cases hlt : k < N
      · have hmW := HB.out.2.belowB hb4
        obtain ⟨q', cc', g1, _, g2⟩ := hmW.rowAt hiN
        have hg1 := (hb4.cell (p := ⟨G, i, none⟩) (block_lt_of_cell HG.out)).trans HG.out
        rw [hg1] at g1
        injection g1 with g1
        injection g1 with e1 e2 e3
        injection e1 with e1
        injection e1 with e1 e4
        subst e1; subst e3
        have g2 := g2 k hlt
        rw [Nat.zero_add] at g2
        have hkI : (k : Int) < N := by omega
        have hll := nearTo_len g.es i k
        have hsz : B ≤ wr.heap.size := by have h1 := hb.size; have h2 := HB4.out; omega
        cases hA : adj g.es i k
        · have hav : adjF g.es i k = 0 := by unfold adjF; rw [hA]; rfl
          rw [hav] at g2
          rw [← nearTo_no hA] at hU
          have HY := Lib.hid (And.intro hU hb)
          clear hU hb hb4 hmW hg1 hA hav hll
          go_wp2
          exact ⟨⟨k + 1, by omega, by go_num, HY.out.1, HY.out.2⟩, by simp [intOf]; omega⟩
        · have hav : adjF g.es i k = 1 := by unfold adjF; rw [hA]; rfl
          rw [hav] at g2
          have hys := nearTo_yes hA
          have HY := Lib.hid (And.intro hU (And.intro hb (And.intro hys (And.intro hll hsz))))
          clear hU hb hb4 hmW hg1 hA hav hll hys hsz
          go_wp2_with (at_builtin; refine app1 rfl (.tmp 30) (.tmp 32) 23 3 rfl i3 (.int .i64 0) 8 Tryz.underlying23 I3.out.1 I3.out.2.1 I3.out.2.2.1 I3.out.2.2.2 rfl (by omega) B (.int .i64 (k : Int)) u7 (ints (nearTo g.es i k)) rfl HY.out.1 rfl rfl (by rw [ints_len]; have := HY.out.2.2.2.1; omega) HY.out.2.2.2.2 ?_; intro v' w6 k2 k3 k4; have HZ := Lib.hid (And.intro k2 (HY.out.2.1.grown k3 HY.out.2.2.2.2 (fun g hg => by
            rcases HY.out.1.blk with e | ⟨g', _, e, h1, _⟩
            · rw [e] at hg; cases hg
            · rw [e] at hg; cases hg; exact h1))); clear k2 k3 k4)
          refine ⟨⟨k + 1, by omega, by go_num, ?_, HZ.out.2⟩, by simp [intOf]; omega⟩
          rw [HY.out.2.2.1]
          have hh := HZ.out.1
          rw [show ints (nearTo g.es i k ++ [(k : Int)]) = ints (nearTo g.es i k) ++ [.int .i64 (k : Int)] by simp [ints]]
          exact hh
      · obtain rfl : k = N := by omega
        have hll := nearTo_len g.es i k
        obtain ⟨av, cv, hv, hrow⟩ := hU.row (by rw [ints_len]; unfold maxLen; omega)
        rw [ints_len] at hv
        have hI : Ints wr av (nearTo g.es i k) := hrow
        have HY := Lib.hid (And.intro hI (And.intro (HB.out.1.trans (hb4.mono HB.out.1.size)) hv))
        clear hU hb hb4 hrow hI hll hv
        go_wp2
        go_ret2
        rw [H.out.2.2.2.2.2]
        exact ⟨av, cv, by rw [← HY.out.2.2]; rfl, HY.out.1, HY.out.2.1⟩
  · rw [if_pos (by simpa using hE0)] at hz
    have hz1 : z1 = [] ∧ z2 = E := by
      simp only [Prod.mk.injEq] at hz
      exact ⟨hz.1.symm, hz.2.symm⟩
    obtain ⟨rfl, rfl⟩ := hz1
    have hEn : (z2 != 0) = true := by simp [hE0]
    rw [hN0, hL, hM] at K77 hW1 hx1 ⊢
    have H := Lib.hid (And.intro K77 (And.intro hbw2 hR))
    have HW := Lib.hid hW1
    have HW2 := Lib.hid hW2
    obtain ⟨x0, x1, x2⟩ := hx1
    clear K77 K78 hx2 hbw2 hb1 hb2 hl2 hW1 hW2 hE hz hok hN0 hL hM he hc hR hs1 hE0
    go_enter Tryz.func29, Tryz.ntmps29
    go_upto_region 1 with (fail)
    rw [← HW.out]
    try rw [H.out.2.2]
    go_wp2_with (rw [← HW2.out]; go_at_call 77; refine H.out.1.mono ?_; rintro e w3 ⟨rfl, hw3⟩; have HA := Lib.hid hw3; clear hw3)
    go_ret2
    exact ⟨none, 0, rfl, ⟨by simp [maxLen], fun i u hu => by simp at hu⟩, H.out.2.1.trans (HA.out.mono H.out.2.1.size)⟩
set_option maxRecDepth 100000 in
set_option maxHeartbeats 4000000 in
theorem nearR_calls {w : World} {a b : Option Addr} {c d : Nat} {g : Gr} (i : Int) (he : Edg w a g.es) (hc : Ints w b g.cs) :
    Calls Tryz.prog 30 #[.agg #[.int .i64 g.n, .slice a g.es.length c, .slice b g.cs.length d], .int .i64 i] w fun e w' => NearRes w (nearA g i) e w' := by
  obtain ⟨i3, hi3, hz3, hs3, hb3⟩ := info_parts Tryz.info3
  have I3 := Lib.hid (And.intro hi3 (And.intro hz3 (And.intro hs3 hb3)))
  clear hi3 hz3 hs3 hb3
  obtain ⟨R, hR⟩ : ∃ R, w.heap.size = R := ⟨_, rfl⟩
  obtain ⟨W1, hW1⟩ : ∃ W1, W1 = w.alloc (.cells #[.int .i64 g.n, .slice a g.es.length c, .slice b g.cs.length d] 25) := ⟨_, rfl⟩
  have hb1 : Below R w W1 := by rw [hW1, ← hR]; exact (Below.refl _ w).alloc (Nat.le_refl _) _
  have hx1 : Bx W1 R (.int .i64 g.n) (.slice a g.es.length c) (.slice b g.cs.length d) := by rw [hW1, ← hR]; exact Bx.new _ _ _ _
  have hbw1 : Below w.heap.size w W1 := by rw [hR]; exact hb1
  have K28 := gcheckR_calls (c := c) (d := d) (he.below hbw1) (hc.below hbw1)
  have K71 := fun (w' : World) (h : Below w.heap.size w w') (N : Nat) (hN : g.n = N) (hN24 : N ≤ 24) (hev : ∀ x ∈ g.es, 0 ≤ x.1 ∧ x.1 < x.2 ∧ x.2 < N) => gmatrixR_calls (w := w') (c := c) (b := b) (d := d) (L := g.es.length) (M := g.cs.length) (n := N) (he.below h) rfl (by omega) (fun x hx => by have := hev x hx; omega)
  obtain ⟨⟨z1, z2⟩, hz⟩ : ∃ z, nearA g i = z := ⟨_, rfl⟩
  rw [hz]
  unfold nearA at hz
  obtain ⟨E, hE⟩ : ∃ E, chkGr g = E := ⟨_, rfl⟩
  rw [hE] at K28
  obtain ⟨L, hL⟩ : ∃ L, g.es.length = L := ⟨_, rfl⟩
  obtain ⟨M, hM⟩ : ∃ M, g.cs.length = M := ⟨_, rfl⟩
  obtain ⟨N0, hN0⟩ : ∃ N0, g.n = N0 := ⟨_, rfl⟩
  by_cases hE0 : E = 0
  · cases hv1 : vert g.n i
    · rw [withA_bad (v := i) (hE.trans hE0) (by simp) hv1, if_pos (by decide)] at hz
      cases hz
      rw [hN0, hL, hM] at K28 hW1 hx1 ⊢
      rw [hN0] at hv1
      have H := Lib.hid (And.intro K28 (And.intro hx1 hbw1))
      have HW := Lib.hid hW1
      have HR := Lib.hid hR
      obtain ⟨x0, x1, x2⟩ := hx1
      subst hE0
      clear K28 K71 hbw1 hb1 hW1 hE hN0 hL hM he hc hR
      go_enter Tryz.func30, Tryz.ntmps30
      go_upto_region 1 with (fail)
      rw [← HW.out]
      try rw [HR.out]
      go_wp2_with (first
        | (go_at_call 28; refine H.out.1.mono ?_; rintro e w3 ⟨rfl, hw3⟩; obtain ⟨x0, x1, x2⟩ := H.out.2.1.below hw3; have HA := Lib.hid (H.out.2.2.trans (hw3.mono H.out.2.2.size)); clear hw3)
        | (go_at_call 72; refine (vertexR_calls _ _ _).mono ?_; rintro e w9 ⟨rfl, hw9⟩; replace hw9 := hw9.symm; subst hw9; simp only [hv1]))
      go_ret2
      exact ⟨none, 0, rfl, ⟨by simp [maxLen], fun i u hu => by simp at hu⟩, HA.out⟩
    · rw [withA_good (hE.trans hE0) (by simp [hv1]), if_neg (by decide)] at hz
      obtain ⟨N, hN, hN24, hel, hev, hcl⟩ := chk_edges (hE.trans hE0)
      have hvi := vert_in hv1
      obtain ⟨i, rfl⟩ : ∃ n : Nat, i = n := ⟨i.toNat, by omega⟩
      rw [hN] at hz
      have hz1 : z1 = nearTo g.es i N ∧ z2 = 0 := by
        simp only [Int.toNat_natCast, Prod.mk.injEq] at hz
        exact ⟨hz.1.symm, hz.2.symm⟩
      obtain ⟨hz1, rfl⟩ := hz1
      have K71 := fun (w' : World) (h : Below w.heap.size w w') => K71 w' h N hN hN24 hev
      rw [hN] at K28 hW1 hx1 hvi hv1 ⊢
      rw [hL] at K28 hW1 hx1 K71 ⊢
      rw [hM] at K28 hW1 hx1 K71 ⊢
      have H := Lib.hid (And.intro K28 (And.intro K71 (And.intro hx1 (And.intro hbw1 hz1))))
      have HW := Lib.hid hW1
      have HR := Lib.hid hR
      have hiN : i < N := by omega
      have hiI : (i : Int) < N := hvi.2
      obtain ⟨x0, x1, x2⟩ := hx1
      subst hE0
      clear K28 K71 hbw1 hb1 hW1 hE hz hN0 hL hM hN hel hev hcl he hc hR hvi hz1
      go_enter Tryz.func30, Tryz.ntmps30
      go_upto_region 1 with (fail)
      rw [← HW.out]
      try rw [HR.out]
      go_wp2_with (first
        | (go_at_call 28; refine H.out.1.mono ?_; rintro e w3 ⟨rfl, hw3⟩; obtain ⟨x0, x1, x2⟩ := H.out.2.2.1.below hw3; have HA := Lib.hid (And.intro (H.out.2.2.2.1.trans (hw3.mono H.out.2.2.2.1.size)) (H.out.2.2.1.below hw3)); clear hw3)
        | (go_at_call 72; refine (vertexR_calls _ _ _).mono ?_; rintro e w9 ⟨rfl, hw9⟩; replace hw9 := hw9.symm; subst hw9; simp only [hv1])
        | (go_at_call 71; refine (H.out.2.1 _ HA.out.1).mono ?_; rintro e w4 ⟨G, mc, rfl, hmat, hw4⟩; have HB := Lib.hid (And.intro (HA.out.1.trans (hw4.mono HA.out.1.size)) (And.intro hmat (HA.out.2.below hw4))); clear hw4 hmat x0 x1 x2))
      obtain ⟨B, hB⟩ : ∃ B, w4.heap.size = B := ⟨_, rfl⟩
      have HB4 := Lib.hid hB
      clear hB
      go_loopw [8, 9] (fun v j wi => ∃ (k : Nat), k ≤ N ∧ j = .int .i64 (k : Int) ∧ Own wi B v 3 (ints (nearTo g.es i k)) ∧ Below B w4 wi) (fun _ j _ => N - (intOf j).toNat)
      case atStart => exact ⟨0, Nat.zero_le _, rfl, Own.nil _ _ _, Below.refl _ _⟩
      case round =>
        obtain ⟨k, hk, rfl, hU, hb⟩ := hrel
        have hb4 : Below w4.heap.size w4 wr := by rw [HB4.out]; exact hb
        obtain ⟨x0, _, _⟩ := HB.out.2.2.below hb4
        by_cases hlt : k < N
        · have hmW := HB.out.2.1.belowB hb4
          obtain ⟨q, cc, _, g1, g2, _, _⟩ := hmW.entry hiN hlt
          have hkI : (k : Int) < N := by omega
          have hll := nearTo_len g.es i k
          have hsz : B ≤ wr.heap.size := by have h1 := hb.size; have h2 := HB4.out; omega
          cases hA : adj g.es i k
          · have hav : adjF g.es i k = 0 := by unfold adjF; rw [hA]; rfl
            rw [hav] at g2
            rw [← nearTo_no hA] at hU
            have HY := Lib.hid (And.intro hU hb)
            clear hU hb hb4 hmW hA hav hll
            go_wp2
            exact ⟨⟨k + 1, by omega, by go_num, HY.out.1, HY.out.2⟩, by simp [intOf]; omega⟩
          · have hav : adjF g.es i k = 1 := by unfold adjF; rw [hA]; rfl
            rw [hav] at g2
            have hys := nearTo_yes hA
            have HY := Lib.hid (And.intro hU (And.intro hb (And.intro hys (And.intro hll hsz))))
            clear hU hb hb4 hmW hA hav hll hys hsz
            go_wp2_with (at_builtin; refine app1 rfl (.tmp 36) (.tmp 38) 23 3 rfl i3 (.int .i64 0) 8 Tryz.underlying23 I3.out.1 I3.out.2.1 I3.out.2.2.1 I3.out.2.2.2 rfl (by omega) B (.int .i64 (k : Int)) u8 (ints (nearTo g.es i k)) rfl HY.out.1 rfl rfl (by rw [ints_len]; have := HY.out.2.2.2.1; omega) HY.out.2.2.2.2 ?_; intro v' w6 k2 k3 k4; have HZ := Lib.hid (And.intro k2 (HY.out.2.1.grown k3 HY.out.2.2.2.2 (fun g hg => by
              rcases HY.out.1.blk with e | ⟨g', _, e, h1, _⟩
              · rw [e] at hg; cases hg
              · rw [e] at hg; cases hg; exact h1))); clear k2 k3 k4)
            refine ⟨⟨k + 1, by omega, by go_num, ?_, HZ.out.2⟩, by simp [intOf]; omega⟩
            rw [HY.out.2.2.1]
            have hh := HZ.out.1
            rw [show ints (nearTo g.es i k ++ [(k : Int)]) = ints (nearTo g.es i k) ++ [.int .i64 (k : Int)] by simp [ints]]
            exact hh
        · obtain rfl : k = N := by omega
          have hll := nearTo_len g.es i k
          obtain ⟨av, cv, hv, hrow⟩ := hU.row (by rw [ints_len]; unfold maxLen; omega)
          rw [ints_len] at hv
          have hI : Ints wr av (nearTo g.es i k) := hrow
          have HY := Lib.hid (And.intro hI (And.intro (HB.out.1.trans (hb4.mono HB.out.1.size)) hv))
          clear hU hb hb4 hrow hI hll hv
          go_wp2
          go_ret2
          rw [H.out.2.2.2.2]
          exact ⟨av, cv, by rw [← HY.out.2.2]; rfl, HY.out.1, HY.out.2.1⟩
  · rw [withA_chk (by rw [hE]; exact hE0), if_pos (by rw [hE]; exact hE0), hE] at hz
    cases hz
    have hEn : (z2 != 0) = true := by simp [hE0]
    rw [hN0, hL, hM] at K28 hW1 hx1 ⊢
    have H := Lib.hid (And.intro K28 (And.intro hbw1 hR))
    have HW := Lib.hid hW1
    obtain ⟨x0, x1, x2⟩ := hx1
    clear K28 K71 hbw1 hb1 hW1 hE hN0 hL hM he hc hR hE0
    go_enter Tryz.func30, Tryz.ntmps30
    go_upto_region 1 with (fail)
    rw [← HW.out]
    try rw [H.out.2.2]
    go_wp2_with (go_at_call 28; refine H.out.1.mono ?_; rintro e w3 ⟨rfl, hw3⟩; have HA := Lib.hid hw3; clear hw3)
    go_ret2
    exact ⟨none, 0, rfl, ⟨by simp [maxLen], fun i u hu => by simp at hu⟩, H.out.2.1.trans (HA.out.mono H.out.2.1.size)⟩
end Go.Proofs.YtifkieopaoooeaaGreatDoor
