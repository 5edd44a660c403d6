/- CanonGroups: the law's walk. -/
import Derived.Test.YtjjjohmppehejaaGreatAwakeC
import Derived.Test.YtjjjohmppehejaaGreatSameC
import Derived.Test.YtjjjohmppehejaaGreatManyR
set_option linter.unusedSimpArgs false
set_option linter.unusedVariables false
namespace Go.Proofs.YtjjjohmppehejaaGreat
open Go.RowKit Plain PlainG PlainX PlainT
theorem grp_len (g : Gr) : (grpA g).1.reps.length ≤ 1000 := by
  unfold grpA
  by_cases h : ckA [g] = 0
  · obtain ⟨h1, h2⟩ := ck_one h
    rw [if_neg (by simp [h])]; simp [repsA]; omega
  · rw [if_pos h]; simp
set_option maxRecDepth 100000 in
set_option maxHeartbeats 2000000 in
theorem groupsW {w : World} {g : Gr} {ea ca : Option Addr} {c0 d0 : Nat} (he : Edg w ea g.es) (hc : Ints w ca g.cs) :
    Calls Tryz.prog 3 #[.agg #[.int .i64 g.n, .slice ea g.es.length c0, .slice ca g.cs.length d0]] w fun e w' => e = .returned (.bool true) ∧ Below w.heap.size w w' := by
  obtain ⟨X, hX⟩ : ∃ X, w.heap.size = X := ⟨_, rfl⟩
  have hb1 : Below w.heap.size w (w.alloc (.cells #[.int .i64 g.n, .slice ea g.es.length c0, .slice ca g.cs.length d0] 25)) := alloc_b (Below.refl _ _) _
  obtain ⟨W1, hW1⟩ : ∃ W1, w.alloc (.cells #[.int .i64 g.n, .slice ea g.es.length c0, .slice ca g.cs.length d0] 25) = W1 := ⟨_, rfl⟩
  rw [hW1] at hb1
  have hgW : ∀ W, Below W1.heap.size W1 W → Edg W ea g.es ∧ Ints W ca g.cs := fun W k => ⟨(he.below hb1).below k, (hc.below hb1).below k⟩
  have K8 := large_calls (.int .i64 g.n) ea ca g.es.length g.cs.length c0 d0 W1
  have K10 := fun (W : World) (k : Below W1.heap.size W1 W) => Group_calls (ec := c0) (cc := d0) (hgW W k).1 (hgW W k).2
  have K11 := fun (W : World) (k : Below W1.heap.size W1 W) => grpR_calls (ec := c0) (cc := d0) (hgW W k).1 (hgW W k).2
  have K12 := fun (W : World) (k : Below W1.heap.size W1 W) => Many_calls (ec := c0) (cc := d0) (hgW W k).1 (hgW W k).2
  have K13 := fun (W : World) (k : Below W1.heap.size W1 W) => manyR_calls (ec := c0) (cc := d0) (hgW W k).1 (hgW W k).2
  have hrl := grp_len g
  have K14 := fun (W : World) (oa ra ob rb : Option Addr) (oc rc od rd : Nat) (h1 : Rows W oa (grpA g).1.orbs) (h2 : Rows2 W ra (grpA g).1.reps) (h3 : Rows W ob (grpA g).1.orbs) (h4 : Rows2 W rb (grpA g).1.reps) => sameChain_calls (oc := oc) (rc := rc) (od := od) (rd := rd) h1 h2 h3 h4 hrl
  unfold ChnRes at K10 K11
  obtain ⟨r, hr⟩ : ∃ r, grpA g = r := ⟨_, rfl⟩
  rw [hr] at K10 K11 K14
  obtain ⟨⟨dg, orbs, reps⟩, err⟩ := r
  simp only at K10 K11 K14
  obtain ⟨N, hN⟩ : ∃ N, orbs.length = N := ⟨_, rfl⟩
  obtain ⟨R, hR⟩ : ∃ N, reps.length = N := ⟨_, rfl⟩
  simp only [hN, hR] at K10 K11 K14
  obtain ⟨many, merr, hm⟩ : ∃ a b, manyA g = (a, b) := ⟨_, _, rfl⟩
  rw [hm] at K12 K13
  simp only at K12 K13
  obtain ⟨n, hn⟩ : ∃ n, g.n = n := ⟨_, rfl⟩
  obtain ⟨L, hL⟩ : ∃ L, g.es.length = L := ⟨_, rfl⟩
  obtain ⟨M, hM⟩ : ∃ M, g.cs.length = M := ⟨_, rfl⟩
  rw [hn, hL, hM] at K8 K10 K11 K12 K13 hW1 ⊢
  have x0 : W1.cell? ⟨X, 0, none⟩ = some (.int .i64 n) := by rw [← hW1, ← hX]; simp
  have x1 : W1.cell? ⟨X, 1, none⟩ = some (.slice ea L c0) := by rw [← hW1, ← hX]; simp
  have x2 : W1.cell? ⟨X, 2, none⟩ = some (.slice ca M d0) := by rw [← hW1, ← hX]; simp
  have hxW : ∀ W, Below W1.heap.size W1 W → W.cell? ⟨X, 0, none⟩ = some (.int .i64 n) ∧ W.cell? ⟨X, 1, none⟩ = some (.slice ea L c0) ∧ W.cell? ⟨X, 2, none⟩ = some (.slice ca M d0) := fun W k =>
    ⟨(k.cell (block_lt_of_cell x0)).trans x0, (k.cell (block_lt_of_cell x1)).trans x1, (k.cell (block_lt_of_cell x2)).trans x2⟩
  obtain ⟨big, hbig⟩ : ∃ b, (decide (400 < L) || decide (40 < M)) = b := ⟨_, rfl⟩
  rw [hbig] at K8
  have HK := Lib.hid (And.intro K8 (And.intro K10 (And.intro K11 (And.intro K12 (And.intro K13 K14)))))
  have H := Lib.hid (And.intro hb1 hxW)
  clear K8 K10 K11 K12 K13 K14 hb1 hxW hgW he hc hr hN hR hm hn hL hM hbig hrl
  cases big with
  | true =>
    go_enter Tryz.func3, Tryz.ntmps3
    go_wp2_with (first
      | (go_at_call 8; refine HK.out.1.mono ?_; rintro e w2 ⟨rfl, hw2⟩; have H2 := Lib.hid hw2; clear hw2 hW1 x0 x1 x2)
      | (go_at_call 9; refine (awake_calls _).mono ?_; rintro e w3 ⟨rfl, hw3⟩; have H3 := Lib.hid (below_two H2.out hw3); clear hw3))
    go_ret
    exact ⟨rfl, below_two H.out.1 H3.out⟩
  | false =>
    go_enter Tryz.func3, Tryz.ntmps3
    go_wp2_with fail
    refine HK.out.1.mono ?_
    rintro e w2 ⟨rfl, hw2⟩
    have h := H.out.2 w2 hw2
    obtain ⟨y0, y1, y2⟩ := h
    have H2 := Lib.hid hw2
    clear hw2 hW1 x0 x1 x2
    go_wp2_with fail
    refine (HK.out.2.1 w2 H2.out).mono ?_
    rintro e w3 ⟨a1, c1, b1, d1, rfl, h1, h2, hw3⟩
    obtain ⟨A, hA⟩ : ∃ A, w3.heap.size = A := ⟨_, rfl⟩
    have hal : Below w3.heap.size w3 (w3.alloc (.cells #[.int .i64 dg, .slice a1 N c1, .slice b1 R d1] 31)) := alloc_b (Below.refl _ _) _
    have k3 := below_two H2.out (below_two hw3 hal)
    have hA3 := World.alloc_heap_new w3 (.cells #[.int .i64 dg, .slice a1 N c1, .slice b1 R d1] 31)
    rw [hA] at hA3
    have h := H.out.2 _ k3
    obtain ⟨z0, z1, z2⟩ := h
    have H3 := Lib.hid (And.intro (h1.below hal) (And.intro (h2.below hal) (And.intro k3 hA3)))
    clear h1 h2 hw3 hal k3 hA3 y0 y1 y2
    go_wp2_with fail
    refine (HK.out.2.2.1 _ H3.out.2.2.1).mono ?_
    rintro e w5 ⟨a2, c2, b2, d2, rfl, h3, h4, hw5⟩
    obtain ⟨B, hB⟩ : ∃ B, w5.heap.size = B := ⟨_, rfl⟩
    have hal : Below w5.heap.size w5 (w5.alloc (.cells #[.int .i64 dg, .slice a2 N c2, .slice b2 R d2] 31)) := alloc_b (Below.refl _ _) _
    have k35 := below_two hw5 hal
    have k5 := below_two H3.out.2.2.1 k35
    have hB5 := World.alloc_heap_new w5 (.cells #[.int .i64 dg, .slice a2 N c2, .slice b2 R d2] 31)
    rw [hB] at hB5
    have hA5 := (k35.block A (Array.getElem?_eq_some_iff.1 H3.out.2.2.2).1).trans H3.out.2.2.2
    have h := H.out.2 _ k5
    obtain ⟨u0, u1, u2⟩ := h
    have H5 := Lib.hid (And.intro (h3.below hal) (And.intro (h4.below hal) (And.intro (H3.out.1.below k35) (And.intro (H3.out.2.1.below k35) (And.intro k5 (And.intro hA5 hB5))))))
    clear h3 h4 hw5 hal k35 k5 hA5 hB5 z0 z1 z2
    go_wp2_with fail
    refine (HK.out.2.2.2.1 _ H5.out.2.2.2.2.1).mono ?_
    rintro e w6 ⟨rfl, hw6⟩
    have k6 := below_two H5.out.2.2.2.2.1 hw6
    have h := H.out.2 _ k6
    obtain ⟨p0, p1, p2⟩ := h
    have H6 := Lib.hid (And.intro hw6 k6)
    clear hw6 k6 u0 u1 u2
    go_wp2_with fail
    refine (HK.out.2.2.2.2.1 _ H6.out.2).mono ?_
    rintro e w7 ⟨rfl, hw7⟩
    have k57 := below_two H6.out.1 hw7
    have k7 := below_two H6.out.2 hw7
    have hA7 := (k57.block A (Array.getElem?_eq_some_iff.1 H5.out.2.2.2.2.2.1).1).trans H5.out.2.2.2.2.2.1
    have hB7 := (k57.block B (Array.getElem?_eq_some_iff.1 H5.out.2.2.2.2.2.2).1).trans H5.out.2.2.2.2.2.2
    have bc := box_cells hA7
    obtain ⟨r0, r1, r2, _, _, _⟩ := bc
    have bc := box_cells hB7
    obtain ⟨s0, s1, s2, _, _, _⟩ := bc
    have H7 := Lib.hid (And.intro k57 k7)
    clear hw7 k57 k7 hA7 hB7 p0 p1 p2
    go_wp2_with fail
    refine (HK.out.2.2.2.2.2 w7 a1 b1 a2 b2 c1 d1 c2 d2 (H5.out.2.2.1.below H7.out.1) (H5.out.2.2.2.1.below H7.out.1) (H5.out.1.below H7.out.1) (H5.out.2.1.below H7.out.1)).mono ?_
    rintro e w8 ⟨rfl, hw8⟩
    have H8 := Lib.hid (below_two H7.out.2 hw8)
    clear hw8 r0 r1 r2 s0 s1 s2
    go_wp2_with fail
    refine (awake_calls _).mono ?_
    rintro e w9 ⟨rfl, hw9⟩
    have H9 := Lib.hid (below_two H8.out hw9)
    clear hw9
    go_wp2
    go_ret
    exact ⟨rfl, below_two H.out.1 H9.out⟩
end Go.Proofs.YtjjjohmppehejaaGreat
