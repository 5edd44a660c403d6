/- CanonMaps: the law's walk. -/
import Derived.Test.YtjjjohmppehejaaGreatAwakeC
import Derived.Test.YtjjjohmppehejaaGreatManyR
set_option linter.unusedSimpArgs false
set_option linter.unusedVariables false
namespace Go.Proofs.YtjjjohmppehejaaGreat
open Go.RowKit Plain PlainG PlainX PlainT
set_option maxRecDepth 100000 in
set_option maxHeartbeats 2000000 in
theorem mapsW {w : World} {g h : Gr} {ea ca eb cb : Option Addr} {c0 d0 c1 d1 : Nat} (he : Edg w ea g.es) (hc : Ints w ca g.cs) (he2 : Edg w eb h.es) (hc2 : Ints w cb h.cs) :
    Calls Tryz.prog 5 #[.agg #[.int .i64 g.n, .slice ea g.es.length c0, .slice ca g.cs.length d0], .agg #[.int .i64 h.n, .slice eb h.es.length c1, .slice cb h.cs.length d1]] w fun e w' => e = .returned (.bool true) ∧ Below w.heap.size w w' := by
  obtain ⟨X, hX⟩ : ∃ X, w.heap.size = X := ⟨_, rfl⟩
  have hb1 : Below w.heap.size w ((w.alloc (.cells #[.int .i64 g.n, .slice ea g.es.length c0, .slice ca g.cs.length d0] 25)).alloc (.cells #[.int .i64 h.n, .slice eb h.es.length c1, .slice cb h.cs.length d1] 25)) := alloc_b (alloc_b (Below.refl _ _) _) _
  obtain ⟨W1, hW1⟩ : ∃ W1, (w.alloc (.cells #[.int .i64 g.n, .slice ea g.es.length c0, .slice ca g.cs.length d0] 25)).alloc (.cells #[.int .i64 h.n, .slice eb h.es.length c1, .slice cb h.cs.length d1] 25) = W1 := ⟨_, rfl⟩
  rw [hW1] at hb1
  have hgW : ∀ W, Below W1.heap.size W1 W → (Edg W ea g.es ∧ Ints W ca g.cs) ∧ (Edg W eb h.es ∧ Ints W cb h.cs) := fun W k => ⟨⟨(he.below hb1).below k, (hc.below hb1).below k⟩, ⟨(he2.below hb1).below k, (hc2.below hb1).below k⟩⟩
  have K8 := fun W => large_calls (.int .i64 g.n) ea ca g.es.length g.cs.length c0 d0 W
  have K82 := fun W => large_calls (.int .i64 h.n) eb cb h.es.length h.cs.length c1 d1 W
  have K25 := fun (W : World) (k : Below W1.heap.size W1 W) => Map_calls (ec := c0) (cc := d0) (ed := c1) (cd := d1) (hgW W k).1.1 (hgW W k).1.2 (hgW W k).2.1 (hgW W k).2.2
  have K26 := fun (W : World) (k : Below W1.heap.size W1 W) => mapR_calls (ec := c0) (cc := d0) (ed := c1) (cd := d1) (hgW W k).1.1 (hgW W k).1.2 (hgW W k).2.1 (hgW W k).2.2
  obtain ⟨q, err, hm⟩ : ∃ a b, mapA g h = (a, b) := ⟨_, _, rfl⟩
  rw [hm] at K25 K26
  simp only at K25 K26
  obtain ⟨Q, hQ⟩ : ∃ Q, q.length = Q := ⟨_, rfl⟩
  simp only [hQ] at K25 K26
  obtain ⟨n, hn⟩ : ∃ n, g.n = n := ⟨_, rfl⟩
  obtain ⟨L, hL⟩ : ∃ L, g.es.length = L := ⟨_, rfl⟩
  obtain ⟨M, hM⟩ : ∃ M, g.cs.length = M := ⟨_, rfl⟩
  obtain ⟨n2, hn2⟩ : ∃ n, h.n = n := ⟨_, rfl⟩
  obtain ⟨L2, hL2⟩ : ∃ L, h.es.length = L := ⟨_, rfl⟩
  obtain ⟨M2, hM2⟩ : ∃ M, h.cs.length = M := ⟨_, rfl⟩
  simp only [hn, hL, hM, hn2, hL2, hM2] at K8 K82 K25 K26
  rw [hn, hL, hM, hn2, hL2, hM2] at hW1
  rw [hn, hL, hM, hn2, hL2, hM2]
  have x0 : W1.cell? ⟨X, 0, none⟩ = some (.int .i64 n) := by rw [← hW1, ← hX]; simp
  have x1 : W1.cell? ⟨X, 1, none⟩ = some (.slice ea L c0) := by rw [← hW1, ← hX]; simp
  have x2 : W1.cell? ⟨X, 2, none⟩ = some (.slice ca M d0) := by rw [← hW1, ← hX]; simp
  have y0 : W1.cell? ⟨X + 1, 0, none⟩ = some (.int .i64 n2) := by rw [← hW1, ← hX]; simp
  have y1 : W1.cell? ⟨X + 1, 1, none⟩ = some (.slice eb L2 c1) := by rw [← hW1, ← hX]; simp
  have y2 : W1.cell? ⟨X + 1, 2, none⟩ = some (.slice cb M2 d1) := by rw [← hW1, ← hX]; simp
  have hxW : ∀ W, Below W1.heap.size W1 W → W.cell? ⟨X, 0, none⟩ = some (.int .i64 n) ∧ W.cell? ⟨X, 1, none⟩ = some (.slice ea L c0) ∧ W.cell? ⟨X, 2, none⟩ = some (.slice ca M d0) ∧ W.cell? ⟨X + 1, 0, none⟩ = some (.int .i64 n2) ∧ W.cell? ⟨X + 1, 1, none⟩ = some (.slice eb L2 c1) ∧ W.cell? ⟨X + 1, 2, none⟩ = some (.slice cb M2 d1) := fun W k =>
    ⟨(k.cell (block_lt_of_cell x0)).trans x0, (k.cell (block_lt_of_cell x1)).trans x1, (k.cell (block_lt_of_cell x2)).trans x2, (k.cell (block_lt_of_cell y0)).trans y0, (k.cell (block_lt_of_cell y1)).trans y1, (k.cell (block_lt_of_cell y2)).trans y2⟩
  obtain ⟨big, hbig⟩ : ∃ b, (decide (400 < L) || decide (40 < M)) = b := ⟨_, rfl⟩
  obtain ⟨big2, hbig2⟩ : ∃ b, (decide (400 < L2) || decide (40 < M2)) = b := ⟨_, rfl⟩
  simp only [hbig] at K8
  simp only [hbig2] at K82
  have HK := Lib.hid (And.intro K8 (And.intro K82 (And.intro K25 (And.intro K26 hQ))))
  have H := Lib.hid (And.intro hb1 hxW)
  clear K8 K82 K25 K26 hb1 hxW hgW he hc he2 hc2 hQ hm hn hL hM hn2 hL2 hM2 hbig hbig2
  cases big with
  | true =>
    go_enter Tryz.func5, Tryz.ntmps5
    go_wp2_with fail
    refine (HK.out.1 _).mono ?_
    rintro e w2 ⟨rfl, hw2⟩
    have H2 := Lib.hid hw2
    clear hw2 hW1 x0 x1 x2 y0 y1 y2
    go_wp2_with fail
    refine (awake_calls _).mono ?_
    rintro e w3 ⟨rfl, hw3⟩
    have H3 := Lib.hid (below_two H2.out hw3)
    clear hw3
    go_wp2
    go_ret
    exact ⟨rfl, below_two H.out.1 H3.out⟩
  | false =>
    go_enter Tryz.func5, Tryz.ntmps5
    go_wp2_with fail
    refine (HK.out.1 _).mono ?_
    rintro e w2 ⟨rfl, hw2⟩
    have h := H.out.2 w2 hw2
    obtain ⟨z0, z1, z2, z3, z4, z5⟩ := h
    have H2 := Lib.hid hw2
    clear hw2 hW1 x0 x1 x2 y0 y1 y2
    go_wp2_with fail
    refine (HK.out.2.1 _).mono ?_
    rintro e w3 ⟨rfl, hw3⟩
    have k3 := below_two H2.out hw3
    have h := H.out.2 w3 k3
    obtain ⟨u0, u1, u2, u3, u4, u5⟩ := h
    have H3 := Lib.hid k3
    clear hw3 k3 z0 z1 z2 z3 z4 z5
    cases big2 with
    | true =>
      go_wp2_with fail
      refine (awake_calls _).mono ?_
      rintro e w4 ⟨rfl, hw4⟩
      have H4 := Lib.hid (below_two H3.out hw4)
      clear hw4
      go_wp2
      go_ret
      exact ⟨rfl, below_two H.out.1 H4.out⟩
    | false =>
      go_wp2_with fail
      refine (HK.out.2.2.1 _ H3.out).mono ?_
      rintro e w4 ⟨a1, c1, rfl, hi, hw4⟩
      have k4 := below_two H3.out hw4
      have h := H.out.2 w4 k4
      obtain ⟨p0, p1, p2, p3, p4, p5⟩ := h
      have H4 := Lib.hid (And.intro hi k4)
      clear hi hw4 k4 u0 u1 u2 u3 u4 u5
      go_wp2_with fail
      refine (HK.out.2.2.2.1 _ H4.out.2).mono ?_
      rintro e w5 ⟨a2, c2, rfl, hi, hw5⟩
      have H5 := Lib.hid (And.intro hi (And.intro (H4.out.1.below hw5) (below_two H4.out.2 hw5)))
      clear hi hw5 p0 p1 p2 p3 p4 p5
      go_wp2_with fail
      refine (sameI_true a1 a2 c1 c2 Q q w5 HK.out.2.2.2.2 H5.out.2.1 H5.out.1).mono ?_
      rintro e w6 ⟨rfl, hw6⟩
      have H6 := Lib.hid (below_two H5.out.2.2 hw6)
      clear hw6
      go_wp2_with fail
      refine (awake_calls _).mono ?_
      rintro e w7 ⟨rfl, hw7⟩
      have H7 := Lib.hid (below_two H6.out hw7)
      clear hw7
      go_wp2
      go_ret
      exact ⟨rfl, below_two H.out.1 H7.out⟩
end Go.Proofs.YtjjjohmppehejaaGreat
