/- Distance, Parts: the reference's. -/
import Derived.Test.YtifkieopaoooeaaGreatDoorFromR
import Derived.Test.YtifkieopaoooeaaGreatDoorPlainParts
set_option linter.unusedSimpArgs false
set_option linter.unusedVariables false
namespace Go.Proofs.YtifkieopaoooeaaGreatDoor
open Go.RowKit Plain PlainG
def distA (g : Gr) (i k : Int) : Int × Int := if withA g [i, k] ≠ 0 then (0, withA g [i, k]) else (lev g.n.toNat (adj g.es) i.toNat g.n.toNat k.toNat, 0)
set_option maxRecDepth 100000 in
set_option maxHeartbeats 4000000 in
theorem distR_calls {w : World} {a b : Option Addr} {c d : Nat} {g : Gr} (i k : Int) (he : Edg w a g.es) (hc : Ints w b g.cs) :
    Calls Tryz.prog 32 #[.agg #[.int .i64 g.n, .slice a g.es.length c, .slice b g.cs.length d], .int .i64 i, .int .i64 k] w fun e w' => e = .returned (.tuple #[.int .i64 (distA g i k).1, .int .i64 (distA g i k).2]) ∧ Below w.heap.size w w' := by
  obtain ⟨R, hR⟩ : ∃ R, w.heap.size = R := ⟨_, rfl⟩
  obtain ⟨W1, hW1⟩ : ∃ W1, W1 = w.alloc (.cells #[.int .i64 g.n, .slice a g.es.length c, .slice b g.cs.length d] 25) := ⟨_, rfl⟩
  have hb1 : Below R w W1 := by rw [hW1, ← hR]; exact (Below.refl _ w).alloc (Nat.le_refl _) _
  have hx1 : Bx W1 R (.int .i64 g.n) (.slice a g.es.length c) (.slice b g.cs.length d) := by rw [hW1, ← hR]; exact Bx.new _ _ _ _
  have hbw1 : Below w.heap.size w W1 := by rw [hR]; exact hb1
  have K28 := gcheckR_calls (c := c) (d := d) (he.below hbw1) (hc.below hbw1)
  have K71 := fun (w' : World) (h : Below w.heap.size w w') (N : Nat) (hN : g.n = N) (hN24 : N ≤ 24) (hev : ∀ x ∈ g.es, 0 ≤ x.1 ∧ x.1 < x.2 ∧ x.2 < N) (v : Nat) (hv : v < N) => from_calls (w := w') (c := c) (b := b) (d := d) (L := g.es.length) (M := g.cs.length) (N := N) v (he.below h) rfl hN24 hev hv
  obtain ⟨⟨z1, z2⟩, hz⟩ : ∃ z, distA g i k = z := ⟨_, rfl⟩
  rw [hz]
  unfold distA at hz
  obtain ⟨E, hE⟩ : ∃ E, chkGr g = E := ⟨_, rfl⟩
  rw [hE] at K28
  obtain ⟨L, hL⟩ : ∃ L, g.es.length = L := ⟨_, rfl⟩
  obtain ⟨M, hM⟩ : ∃ M, g.cs.length = M := ⟨_, rfl⟩
  obtain ⟨N0, hN0⟩ : ∃ N0, g.n = N0 := ⟨_, rfl⟩
  by_cases hE0 : E = 0
  · cases hv1 : vert g.n i
    · rw [withA_bad (v := i) (hE.trans hE0) (by simp) hv1, if_pos (by decide)] at hz
      cases hz
      rw [hN0, hL, hM] at K28 hW1 hx1 ⊢
      rw [hN0] at hv1
      have H := Lib.hid (And.intro K28 (And.intro hx1 hbw1))
      have HW := Lib.hid hW1
      have HR := Lib.hid hR
      obtain ⟨x0, x1, x2⟩ := hx1
      subst hE0
      clear K28 K71 hbw1 hb1 hW1 hE hN0 hL hM he hc hR
      go_enter Tryz.func32, Tryz.ntmps32
      go_upto_region 1 with (fail)
      rw [← HW.out]
      try rw [HR.out]
      go_wp2_with (first
        | (go_at_call 28; refine H.out.1.mono ?_; rintro e w3 ⟨rfl, hw3⟩; obtain ⟨x0, x1, x2⟩ := H.out.2.1.below hw3; have HA := Lib.hid (H.out.2.2.trans (hw3.mono H.out.2.2.size)); clear hw3)
        | (go_at_call 72; refine (vertexR_calls _ _ _).mono ?_; rintro e w9 ⟨rfl, hw9⟩; replace hw9 := hw9.symm; subst hw9; simp only [hv1]))
      go_ret2
      exact ⟨rfl, HA.out⟩
    · cases hv2 : vert g.n k
      · rw [withA_bad (v := k) (hE.trans hE0) (by simp) hv2, if_pos (by decide)] at hz
        cases hz
        rw [hN0, hL, hM] at K28 hW1 hx1 ⊢
        rw [hN0] at hv1 hv2
        have H := Lib.hid (And.intro K28 (And.intro hx1 hbw1))
        have HW := Lib.hid hW1
        have HR := Lib.hid hR
        obtain ⟨x0, x1, x2⟩ := hx1
        subst hE0
        clear K28 K71 hbw1 hb1 hW1 hE hN0 hL hM he hc hR
        go_enter Tryz.func32, Tryz.ntmps32
        go_upto_region 1 with (fail)
        rw [← HW.out]
        try rw [HR.out]
        go_wp2_with (first
          | (go_at_call 28; refine H.out.1.mono ?_; rintro e w3 ⟨rfl, hw3⟩; obtain ⟨x0, x1, x2⟩ := H.out.2.1.below hw3; have HA := Lib.hid (H.out.2.2.trans (hw3.mono H.out.2.2.size)); clear hw3)
          | (go_at_call 72; refine (vertexR_calls _ _ _).mono ?_; rintro e w9 ⟨rfl, hw9⟩; replace hw9 := hw9.symm; subst hw9; first | simp only [hv1] | simp only [hv2]))
        go_ret2
        exact ⟨rfl, HA.out⟩
      · rw [withA_good (hE.trans hE0) (by simp [hv1, hv2]), if_neg (by decide)] at hz
        obtain ⟨N, hN, hN24, hel, hev, hcl⟩ := chk_edges (hE.trans hE0)
        have hvi := vert_in hv1
        have hvk := vert_in hv2
        obtain ⟨i, rfl⟩ : ∃ n : Nat, i = n := ⟨i.toNat, by omega⟩
        obtain ⟨k, rfl⟩ : ∃ n : Nat, k = n := ⟨k.toNat, by omega⟩
        rw [hN] at hz
        have hz1 : z1 = lev N (adj g.es) i N k ∧ z2 = 0 := by
          simp only [Int.toNat_natCast, Prod.mk.injEq] at hz
          exact ⟨hz.1.symm, hz.2.symm⟩
        obtain ⟨hz1, rfl⟩ := hz1
        have K71 := fun (w' : World) (h : Below w.heap.size w w') => K71 w' h N hN hN24 hev i (by omega)
        rw [hN] at K28 hW1 hx1 hvi hvk hv1 hv2 ⊢
        rw [hL] at K28 hW1 hx1 K71 ⊢
        rw [hM] at K28 hW1 hx1 K71 ⊢
        have H := Lib.hid (And.intro K28 (And.intro K71 (And.intro hx1 (And.intro hbw1 hz1))))
        have HW := Lib.hid hW1
        have HR := Lib.hid hR
        have hiN : i < N := by omega
        have hkN : k < N := by omega
        have hiI : (i : Int) < N := hvi.2
        have hkI : (k : Int) < N := hvk.2
        obtain ⟨x0, x1, x2⟩ := hx1
        subst hE0
        clear K28 K71 hbw1 hb1 hW1 hE hz hN0 hL hM hN hel hev hcl he hc hR hvi hvk hz1
        go_enter Tryz.func32, Tryz.ntmps32
        go_upto_region 1 with (fail)
        rw [← HW.out]
        try rw [HR.out]
        go_wp2_with (first
          | (go_at_call 28; refine H.out.1.mono ?_; rintro e w3 ⟨rfl, hw3⟩; obtain ⟨x0, x1, x2⟩ := H.out.2.2.1.below hw3; have HA := Lib.hid (H.out.2.2.2.1.trans (hw3.mono H.out.2.2.2.1.size)); clear hw3)
          | (go_at_call 72; refine (vertexR_calls _ _ _).mono ?_; rintro e w9 ⟨rfl, hw9⟩; replace hw9 := hw9.symm; subst hw9; first | simp only [hv1] | simp only [hv2])
          | (go_at_call 80; refine (H.out.2.1 _ HA.out).mono ?_; rintro e w4 ⟨G, rfl, ho, hw4⟩; obtain ⟨g1, _⟩ := lsAt ho hkN; have HB := Lib.hid (HA.out.trans (hw4.mono HA.out.size)); clear hw4 ho x0 x1 x2))
        go_ret2
        exact ⟨by rw [H.out.2.2.2.2]; rfl, HB.out⟩
  · rw [withA_chk (by rw [hE]; exact hE0), if_pos (by rw [hE]; exact hE0), hE] at hz
    cases hz
    have hEn : (z2 != 0) = true := by simp [hE0]
    rw [hN0, hL, hM] at K28 hW1 hx1 ⊢
    have H := Lib.hid (And.intro K28 (And.intro hbw1 hR))
    have HW := Lib.hid hW1
    obtain ⟨x0, x1, x2⟩ := hx1
    clear K28 K71 hbw1 hb1 hW1 hE hN0 hL hM he hc hR hE0
    go_enter Tryz.func32, Tryz.ntmps32
    go_upto_region 1 with (fail)
    rw [← HW.out]
    try rw [H.out.2.2]
    go_wp2_with (go_at_call 28; refine H.out.1.mono ?_; rintro e w3 ⟨rfl, hw3⟩; have HA := Lib.hid hw3; clear hw3)
    go_ret2
    exact ⟨rfl, H.out.2.1.trans (HA.out.mono H.out.2.1.size)⟩
/-- The least vertex that can be reached, for each vertex. -/
def partsL (N : Nat) (es : List E2) : List Int := lsF N (fun i => (lo (lev N (adj es) i N) N N : Int))
def partsA (g : Gr) : List (List Int) × Int := if chkGr g ≠ 0 then ([], chkGr g) else ofA (partsL g.n.toNat g.es)
def PartsRes (w : World) (r : List (List Int) × Int) (e : Ending) (w' : World) : Prop :=
  ∃ a c, e = .returned (.tuple #[.slice a r.1.length c, .int .i64 r.2]) ∧ Rows w' a r.1 ∧ Below w.heap.size w w'
set_option maxRecDepth 100000 in
set_option maxHeartbeats 4000000 in
theorem partsR_calls {w : World} {a b : Option Addr} {c d : Nat} {g : Gr} (he : Edg w a g.es) (hc : Ints w b g.cs) :
    Calls Tryz.prog 33 #[.agg #[.int .i64 g.n, .slice a g.es.length c, .slice b g.cs.length d]] w fun e w' => PartsRes w (partsA g) e w' := by
  obtain ⟨i3, hi3, hz3, hs3, hb3⟩ := info_parts Tryz.info3
  have I3 := Lib.hid (And.intro hi3 (And.intro hz3 (And.intro hs3 hb3)))
  clear hi3 hz3 hs3 hb3
  obtain ⟨R, hR⟩ : ∃ R, w.heap.size = R := ⟨_, rfl⟩
  obtain ⟨W1, hW1⟩ : ∃ W1, W1 = w.alloc (.cells #[.int .i64 g.n, .slice a g.es.length c, .slice b g.cs.length d] 25) := ⟨_, rfl⟩
  have hb1 : Below R w W1 := by rw [hW1, ← hR]; exact (Below.refl _ w).alloc (Nat.le_refl _) _
  have hx1 : Bx W1 R (.int .i64 g.n) (.slice a g.es.length c) (.slice b g.cs.length d) := by rw [hW1, ← hR]; exact Bx.new _ _ _ _
  have hbw1 : Below w.heap.size w W1 := by rw [hR]; exact hb1
  have K28 := gcheckR_calls (c := c) (d := d) (he.below hbw1) (hc.below hbw1)
  have K80 := fun (w' : World) (h : Below w.heap.size w w') (N : Nat) (hN : g.n = N) (hN24 : N ≤ 24) (hev : ∀ x ∈ g.es, 0 ≤ x.1 ∧ x.1 < x.2 ∧ x.2 < N) (v : Nat) (hv : v < N) => from_calls (w := w') (c := c) (b := b) (d := d) (L := g.es.length) (M := g.cs.length) (N := N) v (he.below h) rfl hN24 hev hv
  obtain ⟨z, hz⟩ : ∃ z, partsA g = z := ⟨_, rfl⟩
  rw [hz]
  unfold partsA at hz
  obtain ⟨E, hE⟩ : ∃ E, chkGr g = E := ⟨_, rfl⟩
  rw [hE] at K28 hz
  obtain ⟨L, hL⟩ : ∃ L, g.es.length = L := ⟨_, rfl⟩
  obtain ⟨M, hM⟩ : ∃ M, g.cs.length = M := ⟨_, rfl⟩
  obtain ⟨N0, hN0⟩ : ∃ N0, g.n = N0 := ⟨_, rfl⟩
  by_cases hE0 : E = 0
  · rw [if_neg (by simpa using hE0)] at hz
    obtain ⟨N, hN, hN24, hel, hev, hcl⟩ := chk_edges (hE.trans hE0)
    have K80 := fun (w' : World) (h : Below w.heap.size w w') (v : Nat) (hv : v < N) => K80 w' h N hN hN24 hev v hv
    rw [hN, Int.toNat_natCast] at hz
    rw [hN] at K28 hW1 hx1 ⊢
    rw [hL] at K28 hW1 hx1 K80 ⊢
    rw [hM] at K28 hW1 hx1 K80 ⊢
    have H := Lib.hid (And.intro K28 (And.intro K80 (And.intro hx1 (And.intro hbw1 hz))))
    have HW := Lib.hid hW1
    have HR := Lib.hid hR
    obtain ⟨x0, x1, x2⟩ := hx1
    subst hE0
    clear K28 K80 hbw1 hb1 hW1 hE hz hN0 hL hM hN hel hev hcl he hc hR
    go_enter Tryz.func33, Tryz.ntmps33
    go_upto_region 1 with (fail)
    rw [← HW.out]
    try rw [HR.out]
    go_wp2_with (first
      | (go_at_call 28; refine H.out.1.mono ?_; rintro e w2 ⟨rfl, hw2⟩; obtain ⟨x0, x1, x2⟩ := H.out.2.2.1.below hw2; have HA := Lib.hid (And.intro (H.out.2.2.2.1.trans (hw2.mono H.out.2.2.2.1.size)) (H.out.2.2.1.below hw2)); clear hw2)
      | (at_make; refine mk1 rfl _ _ 23 3 rfl i3 (.int .i64 0) 8 Tryz.underlying23 I3.out.1 I3.out.2.1 I3.out.2.2.1 I3.out.2.2.2 rfl (by omega) w2.heap.size N rfl rfl (by omega) (Nat.le_refl _) ?_; intro w3 hd hg hz1; have H1 := Lib.hid (And.intro hd (And.intro hg hz1)); clear hd hg hz1))
    obtain ⟨B, hB⟩ : ∃ B, w2.heap.size = B := ⟨_, rfl⟩
    rw [hB] at H1 ⊢
    have HB := Lib.hid hB
    rw [ints_zero, lsF_zero] at H1
    have hres : ∀ wi, w3.grownBy wi (some B) → Bx wi R (.int .i64 (N : Int)) (.slice a L c) (.slice b M d) ∧ Below w.heap.size w wi := fun wi h => by
      have h2 : Below w2.heap.size w2 w3 := (Below.refl _ w2).grown H1.out.2.1 (Nat.le_refl _) (by simp)
      have h3 : Below w2.heap.size w2 wi := h2.grown h h2.size (fun g e => by have := Option.some.inj e; omega)
      exact ⟨HA.out.2.below h3, HA.out.1.trans (h3.mono HA.out.1.size)⟩
    have HRS := Lib.hid hres
    clear hres hB x0 x1 x2
    obtain ⟨⟨x0, x1, x2⟩, _⟩ := HRS.out _ (grown_drewN w3 0 _)
    obtain ⟨lf, hlf⟩ : ∃ lf : Nat → Int, lf = fun i => (lo (lev N (adj g.es) i N) N N : Int) := ⟨_, rfl⟩
    have HLF := Lib.hid hlf
    clear hlf
    go_loopw [6] (fun i wi => ∃ k : Nat, k ≤ N ∧ i = .int .i64 (k : Int) ∧ Own wi B (.slice (some ⟨B, 0, none⟩) N N) 3 (ints (lsF N (fun u => if u < k then lf u else 0))) ∧ w3.grownBy wi (some B)) (fun i _ => N - (intOf i).toNat)
    case atStart => exact ⟨0, Nat.zero_le _, rfl, by simpa using H1.out.1, grown_drewN w3 0 _⟩
    case round =>
      obtain ⟨k, hk, rfl, hU, hg⟩ := hrel
      clear x0 x1 x2
      obtain ⟨⟨x0, x1, x2⟩, hbw⟩ := HRS.out _ hg
      by_cases hlt : k < N
      · have hkI : (k : Int) < N := by omega
        have K80 := H.out.2.1 _ hbw k hlt
        have hBs : B < wr.heap.size := by
          rcases hU.blk with e | ⟨g', _, e, _, h, _⟩
          · cases e
          · cases e; exact h
        have HK := Lib.hid (And.intro K80 (And.intro hU (And.intro hg hBs)))
        clear K80 hU hg hbw hBs
        go_wp2_with (go_at_call 80; refine HK.out.1.mono ?_; rintro e w4 ⟨G, rfl, ho, hw4⟩; obtain ⟨⟨x0, _, _⟩, _⟩ := HRS.out w4 (HK.out.2.2.1.trans (grown_below hw4 _)); have HG := Lib.hid (And.intro ho hw4); clear ho hw4 x1 x2)
        have hUk : Own w4 B (.slice (some ⟨B, 0, none⟩) N N) 3 (ints (lsF N (fun u => if u < k then lf u else if u = k then (lo (lev N (adj g.es) k N) N 0 : Int) else 0))) := by
          have h1 := HK.out.2.1.kept (grown_below HG.out.2 none) (own_none _)
          have h2 : lsF N (fun u => if u < k then lf u else 0) = lsF N (fun u => if u < k then lf u else if u = k then (lo (lev N (adj g.es) k N) N 0 : Int) else 0) := lsF_cong fun u _ => by
            by_cases h3 : u < k
            · rw [if_pos h3, if_pos h3]
            · rw [if_neg h3, if_neg h3]; simp [lo]
          rwa [h2] at h1
        have hGB : G ≠ B := fun e => by
          rcases HG.out.1.blk with e2 | ⟨g', _, e2, h1, _⟩
          · cases e2
          · cases e2
            have h2 := HK.out.2.2.2
            have h3 : wr.heap.size ≤ G := h1
            omega
        have HU := Lib.hid hUk
        clear hUk
        have hN1 : IntKind.i64.wrap ((N : Int) - 1) = (N : Int) - 1 := IntWalk.i64_in _ (by omega)
        go_loopw [8] (fun i wi => ∃ j : Nat, j ≤ N ∧ i = .int .i64 ((N : Int) - 1 - (j : Int)) ∧ Own wi B (.slice (some ⟨B, 0, none⟩) N N) 3 (ints (lsF N (fun u => if u < k then lf u else if u = k then (lo (lev N (adj g.es) k N) N j : Int) else 0))) ∧ w4.grownBy wi (some B)) (fun i _ => (intOf i + 1).toNat)
        case atStart => exact ⟨0, Nat.zero_le _, by simp, HU.out, grown_drewN w4 0 _⟩
        case round =>
          obtain ⟨j, hj, rfl, hU, hg⟩ := hrel
          by_cases hlt2 : j < N
          · obtain ⟨m, hm⟩ : ∃ m, N - (j + 1) = m := ⟨_, rfl⟩
            have hmI : (N : Int) - 1 - (j : Int) = (m : Int) := by omega
            have hmN : m < N := by omega
            have hmw : IntKind.i64.wrap ((m : Int) - 1) = (m : Int) - 1 := IntWalk.i64_in _ (by omega)
            have hm1 : (N : Int) - 1 - ((j + 1 : Nat) : Int) = (m : Int) - 1 := by omega
            have hmNI : (m : Int) < N := by omega
            have hoG := HG.out.1.kept hg (.inr (fun e => hGB (Option.some.inj e)))
            obtain ⟨g1, _⟩ := lsAt hoG hmN
            obtain ⟨y, hy⟩ : ∃ y, lev N (adj g.es) k N m = y := ⟨_, rfl⟩
            rw [hy] at g1
            rw [hmI]
            obtain ⟨g2, g3⟩ := lsAt hU hlt
            by_cases hyp : 0 ≤ y
            · have hlo : lo (lev N (adj g.es) k N) N (j + 1) = m := by rw [lo, hm, hy, if_pos hyp]
              have hU2 := lsPut hU k (m : Int)
              have hcg : lsF N (fun a => if a = k then (m : Int) else (fun u => if u < k then lf u else if u = k then (lo (lev N (adj g.es) k N) N j : Int) else 0) a) = lsF N (fun u => if u < k then lf u else if u = k then (lo (lev N (adj g.es) k N) N (j + 1) : Int) else 0) := lsF_cong fun u _ => by
                rw [hlo]
                by_cases h1 : u = k
                · subst h1; simp
                · simp [h1]
              rw [hcg] at hU2
              have hyd : decide (0 ≤ y) = true := by simp [hyp]
              have HY := Lib.hid (And.intro hU2 (And.intro (hg.trans (grown_put k (.int .i64 (m : Int)))) hm1))
              clear hU hU2 hg hcg hlo hoG hy hm hm1 hmI
              go_wp2
              exact ⟨⟨j + 1, by omega, by rw [HY.out.2.2], HY.out.1, HY.out.2.1⟩, by simp only [intOf]; omega⟩
            · have hlo : lo (lev N (adj g.es) k N) N (j + 1) = lo (lev N (adj g.es) k N) N j := by rw [lo, hm, hy, if_neg hyp]
              rw [← hlo] at hU
              have hyd : decide (0 ≤ y) = false := by simp; omega
              have HY := Lib.hid (And.intro hU (And.intro hg hm1))
              clear hU hg hlo hoG hy hm hm1 hmI g2
              go_wp2
              exact ⟨⟨j + 1, by omega, by rw [HY.out.2.2], HY.out.1, HY.out.2.1⟩, by simp only [intOf]; omega⟩
          · have hjN : j = N := by omega
            clear hj hlt2
            subst hjN
            have hneg : ¬ (0 : Int) ≤ (j : Int) - 1 - (j : Int) := by omega
            have hnd : decide ((0 : Int) ≤ (j : Int) - 1 - (j : Int)) = false := by simp; omega
            have hcg : lsF j (fun u => if u < k then lf u else if u = k then (lo (lev j (adj g.es) k j) j j : Int) else 0) = lsF j (fun u => if u < k + 1 then lf u else 0) := lsF_cong fun u _ => by
              by_cases h1 : u < k
              · rw [if_pos h1, if_pos (by omega)]
              · rw [if_neg h1]
                by_cases h2 : u = k
                · subst h2; rw [if_pos rfl, if_pos (by omega), HLF.out]
                · rw [if_neg h2, if_neg (by omega)]
            rw [hcg] at hU
            have HY := Lib.hid (And.intro hU ((HK.out.2.2.1.trans (grown_below HG.out.2 _)).trans hg))
            clear hU hg hcg
            go_wp2
            exact ⟨⟨k + 1, by omega, by go_num, HY.out.1, HY.out.2⟩, by simp [intOf]; omega⟩
      · obtain rfl : k = N := by omega
        have hcg : lsF k (fun u => if u < k then lf u else 0) = partsL k g.es := lsF_cong fun u hu => by rw [if_pos hu, HLF.out]
        rw [hcg] at hU
        have hpl : (partsL k g.es).length = k := lsF_len _ _
        have K81 := ofR_calls (some ⟨B, 0, none⟩) k (partsL k g.es) wr (hU.toInts (by rw [hpl]; unfold maxLen; omega))
        rw [hpl, H.out.2.2.2.2] at K81
        have HQ := Lib.hid (And.intro K81 hbw)
        clear K81 hU hg hcg hpl hbw
        go_wp2_with (go_at_call 81; refine HQ.out.1.mono ?_; rintro e w5 ⟨a5, c5, rfl, q1, q2⟩; have HZ := Lib.hid (And.intro q1 (HQ.out.2.trans (q2.mono HQ.out.2.size))); clear q1 q2)
        go_ret2
        exact ⟨a5, c5, rfl, HZ.out.1, HZ.out.2⟩
  · rw [if_pos (by simpa using hE0)] at hz
    subst hz
    have hEn : (E != 0) = true := by simp [hE0]
    rw [hN0, hL, hM] at K28 hW1 hx1 ⊢
    have H := Lib.hid (And.intro K28 (And.intro hbw1 hR))
    have HW := Lib.hid hW1
    obtain ⟨x0, x1, x2⟩ := hx1
    clear K28 K80 hbw1 hb1 hW1 hE hN0 hL hM he hc hR hE0
    go_enter Tryz.func33, Tryz.ntmps33
    go_upto_region 1 with (fail)
    rw [← HW.out]
    try rw [H.out.2.2]
    go_wp2_with (go_at_call 28; refine H.out.1.mono ?_; rintro e w3 ⟨rfl, hw3⟩; have HA := Lib.hid hw3; clear hw3)
    go_ret2
    exact ⟨none, 0, rfl, Rows.empty, H.out.2.1.trans (HA.out.mono H.out.2.1.size)⟩
end Go.Proofs.YtifkieopaoooeaaGreatDoor
