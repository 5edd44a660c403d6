/- CanonApart: the law's walk. -/
import Derived.Test.YtjjjohmppehejaaGreatFirstW
import Derived.Test.YtjjjohmppehejaaGreatAwakeC
set_option linter.unusedSimpArgs false
set_option linter.unusedVariables false
namespace Go.Proofs.YtjjjohmppehejaaGreat
open Go.RowKit Plain PlainG PlainX PlainT
set_option maxRecDepth 100000 in
set_option maxHeartbeats 2000000 in
theorem apartW {w : World} {z : Int} {a b : Option Addr} {l1 l2 : List Int} {c0 c1 : Nat} (h1 : Ints w a l1) (h2 : Ints w b l2) :
    Calls Tryz.prog 6 #[.int .i64 z, .slice a l1.length c0, .slice b l2.length c1] w fun e w' => e = .returned (.bool true) ∧ Below w.heap.size w w' := by
  have hbr := bel_range (n := z) (k := 6) (by omega)
  obtain ⟨n, hn⟩ : ∃ n : Nat, bel z 6 = n := ⟨(bel z 6).toNat, by omega⟩
  have hn5 : n ≤ 5 := by omega
  have K15 := below_calls z 6 w (by omega)
  rw [hn] at K15 hbr
  have K16 := fun W (k : Below w.heap.size w W) => drawn_calls (n := n) c0 (h1.below k) (by omega)
  have K162 := fun W (k : Below w.heap.size w W) => drawn_calls (n := n) c1 (h2.below k) (by omega)
  obtain ⟨m1, hm1⟩ : ∃ m, l1.length = m := ⟨_, rfl⟩
  obtain ⟨m2, hm2⟩ : ∃ m, l2.length = m := ⟨_, rfl⟩
  simp only [hm1] at K16
  simp only [hm2] at K162
  rw [hm1, hm2]
  have HK := Lib.hid (And.intro K15 (And.intro K16 K162))
  clear K15 K16 K162 h1 h2 hm1 hm2 hn hbr
  go_enter Tryz.func6, Tryz.ntmps6
  go_wp2_with fail
  refine HK.out.1.mono ?_
  rintro e w2 ⟨rfl, rfl⟩
  go_wp2_with fail
  refine (HK.out.2.1 _ (Below.refl _ _)).mono ?_
  rintro e w3 ⟨ea, ec, ca, cc, g, rfl, hgn, hgc, he, hc, hw3⟩
  have hg : Vg n g := ⟨hgc, hgn⟩
  have hcl := hg.cl
  obtain ⟨L, hL⟩ : ∃ L, g.es.length = L := ⟨_, rfl⟩
  rw [hL, hcl]
  have H3 := Lib.hid (And.intro hg (And.intro he (And.intro hc (And.intro hw3 (And.intro hL hcl)))))
  clear hgn hgc he hc hw3 hg hL hcl
  go_wp2_with fail
  refine (HK.out.2.2 _ H3.out.2.2.2.1).mono ?_
  rintro e w4 ⟨eb, ed, cb, cd, h, rfl, hhn, hhc, he, hc, hw4⟩
  have hh : Vg n h := ⟨hhc, hhn⟩
  have hcl := hh.cl
  obtain ⟨M, hM⟩ : ∃ L, h.es.length = L := ⟨_, rfl⟩
  rw [hM, hcl]
  have H4 := Lib.hid (And.intro hh (And.intro he (And.intro hc (And.intro hw4 (And.intro hM hcl)))))
  clear hhn hhc he hc hw4 hh hM hcl
  have hg := H3.out.1
  have hh := H4.out.1
  have hb34 := H4.out.2.2.2.1
  obtain ⟨X, hX⟩ : ∃ X, w4.heap.size = X := ⟨_, rfl⟩
  obtain ⟨W1, hW1⟩ : ∃ W1, (w4.alloc (.cells #[.int .i64 (n : Int), .slice ea L ec, .slice ca n cc] 25)).alloc (.cells #[.int .i64 (n : Int), .slice eb M ed, .slice cb n cd] 25) = W1 := ⟨_, rfl⟩
  have hb41 : Below w4.heap.size w4 W1 := by rw [← hW1]; exact alloc_b (alloc_b (Below.refl _ _) _) _
  have x0 : W1.cell? ⟨X, 0, none⟩ = some (.int .i64 (n : Int)) := by rw [← hW1, ← hX]; simp
  have x1 : W1.cell? ⟨X, 1, none⟩ = some (.slice ea L ec) := by rw [← hW1, ← hX]; simp
  have x2 : W1.cell? ⟨X, 2, none⟩ = some (.slice ca n cc) := by rw [← hW1, ← hX]; simp
  have y0 : W1.cell? ⟨X + 1, 0, none⟩ = some (.int .i64 (n : Int)) := by rw [← hW1, ← hX]; simp
  have y1 : W1.cell? ⟨X + 1, 1, none⟩ = some (.slice eb M ed) := by rw [← hW1, ← hX]; simp
  have y2 : W1.cell? ⟨X + 1, 2, none⟩ = some (.slice cb n cd) := by rw [← hW1, ← hX]; simp
  have hs1 : W1.heap.size = X + 2 := by rw [← hW1, ← hX]; simp
  have hxW : ∀ W, Below W1.heap.size W1 W → W.cell? ⟨X, 0, none⟩ = some (.int .i64 (n : Int)) ∧ W.cell? ⟨X, 1, none⟩ = some (.slice ea L ec) ∧ W.cell? ⟨X, 2, none⟩ = some (.slice ca n cc) ∧ W.cell? ⟨X + 1, 0, none⟩ = some (.int .i64 (n : Int)) ∧ W.cell? ⟨X + 1, 1, none⟩ = some (.slice eb M ed) ∧ W.cell? ⟨X + 1, 2, none⟩ = some (.slice cb n cd) := fun W k =>
    ⟨(k.cell (block_lt_of_cell x0)).trans x0, (k.cell (block_lt_of_cell x1)).trans x1, (k.cell (block_lt_of_cell x2)).trans x2, (k.cell (block_lt_of_cell y0)).trans y0, (k.cell (block_lt_of_cell y1)).trans y1, (k.cell (block_lt_of_cell y2)).trans y2⟩
  have hgW : ∀ W, Below W1.heap.size W1 W → (Edg W ea g.es ∧ Ints W ca g.cs) ∧ (Edg W eb h.es ∧ Ints W cb h.cs) := fun W k =>
    ⟨⟨((H3.out.2.1.below hb34).below hb41).below k, ((H3.out.2.2.1.below hb34).below hb41).below k⟩, ⟨(H4.out.2.1.below hb41).below k, (H4.out.2.2.1.below hb41).below k⟩⟩
  have K17 := fun W (k : Below W1.heap.size W1 W) => first_calls (c0 := ec) (d0 := cc) (c1 := ed) (d1 := cd) hn5 hg hh (hgW W k).1.1 (hgW W k).1.2 (hgW W k).2.1 (hgW W k).2.2
  have K27 := fun W (k : Below W1.heap.size W1 W) => form_calls (g := g) (ec := ec) (cc := cc) (hgW W k).1.1 (hgW W k).1.2
  have K272 := fun W (k : Below W1.heap.size W1 W) => form_calls (g := h) (ec := ed) (cc := cd) (hgW W k).2.1 (hgW W k).2.2
  have K25 := fun W (k : Below W1.heap.size W1 W) => Map_calls (ec := ec) (cc := cc) (ed := ed) (cd := cd) (hgW W k).1.1 (hgW W k).1.2 (hgW W k).2.1 (hgW W k).2.2
  have hfg := form_vg hg
  have hfh := form_vg hh
  have hsf := same_form hg hh hn5
  have hfm := first_many (n := n) (g := g) (h := h)
  have K21 := fun (W : World) (a1 b1 a2 b2 : Option Addr) (q1 d1 q2 d2 : Nat) (e1 : Edg W a1 (formT n g).es) (i1 : Ints W b1 (formT n g).cs) (e2 : Edg W a2 (formT n h).es) (i2 : Ints W b2 (formT n h).cs) => sameGraph_calls (c1 := q1) (d1 := d1) (c2 := q2) (d2 := d2) e1 i1 e2 i2
  simp only [hfg.num, hfh.num, hfg.cl, hfh.cl, hsf] at K21
  unfold MakeResO at K27 K272
  simp only [form_vgG hg (by omega), hg.num, hfg.num, hfg.cl, H3.out.2.2.2.2.1, H3.out.2.2.2.2.2] at K27
  simp only [form_vgG hh (by omega), hh.num, hfh.num, hfh.cl, H4.out.2.2.2.2.1, H4.out.2.2.2.2.2] at K272
  simp only [map_vg hg hh hn5, hg.num, hh.num, H3.out.2.2.2.2.1, H3.out.2.2.2.2.2, H4.out.2.2.2.2.1, H4.out.2.2.2.2.2] at K25
  simp only [H3.out.2.2.2.2.1, H4.out.2.2.2.2.1] at K17
  obtain ⟨F, hF⟩ : ∃ F, formT n g = F := ⟨_, rfl⟩
  obtain ⟨F2, hF2⟩ : ∃ F, formT n h = F := ⟨_, rfl⟩
  rw [hF] at K27
  rw [hF2] at K272
  rw [hF, hF2] at K21
  obtain ⟨P, hP⟩ : ∃ P, (optN (firstP n g h)).1 = P := ⟨_, rfl⟩
  obtain ⟨E, hE⟩ : ∃ E, (optN (firstP n g h)).2 = E := ⟨_, rfl⟩
  simp only [hP, hE] at K17 K25
  obtain ⟨m, hm⟩ : ∃ m, manyP n g h = m := ⟨_, rfl⟩
  rw [hm] at hfm
  simp only [hm] at K17 K21
  have hm120 : m ≤ 120 := by
    rw [← hm]
    unfold manyP
    exact Nat.le_trans (List.length_filter_le _ _) (chain_facts hn5).2
  have hcase : (m = 0 ∧ P = [] ∧ E = 18) ∨ (0 < m ∧ E = 0) := by
    cases hf : firstP n g h with
    | none => left; rw [hf] at hP hE hfm; exact ⟨hfm.1 rfl, hP.symm, hE.symm⟩
    | some q => right; rw [hf] at hP hE hfm; exact ⟨Nat.pos_of_ne_zero (fun e => by have := hfm.2 e; cases this), hE.symm⟩
  obtain ⟨Q, hQ⟩ : ∃ Q, P.length = Q := ⟨_, rfl⟩
  obtain ⟨FL, hFL⟩ : ∃ L, F.es.length = L := ⟨_, rfl⟩
  obtain ⟨FM, hFM⟩ : ∃ L, F2.es.length = L := ⟨_, rfl⟩
  simp only [hQ] at K17 K25
  simp only [hFL] at K27
  simp only [hFM] at K272
  simp only [hFL, hFM] at K21
  have HC := Lib.hid (And.intro K17 (And.intro K27 (And.intro K272 (And.intro K25 K21))))
  have HB := Lib.hid (And.intro (below_two (below_two H3.out.2.2.2.1 hb34) hb41) hxW)
  have HQ := Lib.hid hQ
  have Hcase := Lib.hid hcase
  clear K17 K27 K272 K25 K21 hfg hfh hsf hfm hgW hxW hg hh hb34 hb41 hcase hQ hFL hFM hF hF2 hP hE hm HK
  go_wp2_with fail
  clear hW1
  refine (HC.out.1 _ (Below.refl _ _)).mono ?_
  rintro e w5 ⟨p1, pc1, rfl, hi5, hw5⟩
  have H5 := Lib.hid (And.intro hi5 hw5)
  clear x0 x1 x2 y0 y1 y2
  obtain ⟨x0, x1, x2, y0, y1, y2⟩ := HB.out.2 _ hw5
  clear hi5 hw5
  go_wp2_with fail
  refine (HC.out.2.1 _ H5.out.2).mono ?_
  rintro e w6 ⟨fa, fc, fb, fd, rfl, he6, hi6, hw6, -, -⟩
  obtain ⟨A, hA⟩ : ∃ A, w6.heap.size = A := ⟨_, rfl⟩
  obtain ⟨W6, hW6⟩ : ∃ W6, w6.alloc (.cells #[.int .i64 (n : Int), .slice fa FL fc, .slice fb n fd] 25) = W6 := ⟨_, rfl⟩
  have hal : Below w6.heap.size w6 W6 := by rw [← hW6]; exact alloc_b (Below.refl _ _) _
  have k56 := below_two hw6 hal
  have k6 := below_two H5.out.2 k56
  have z0 : W6.cell? ⟨A, 0, none⟩ = some (.int .i64 (n : Int)) := by rw [← hW6, ← hA]; simp
  have z1 : W6.cell? ⟨A, 1, none⟩ = some (.slice fa FL fc) := by rw [← hW6, ← hA]; simp
  have z2 : W6.cell? ⟨A, 2, none⟩ = some (.slice fb n fd) := by rw [← hW6, ← hA]; simp
  have hzW : ∀ W, Below W6.heap.size W6 W → W.cell? ⟨A, 0, none⟩ = some (.int .i64 (n : Int)) ∧ W.cell? ⟨A, 1, none⟩ = some (.slice fa FL fc) ∧ W.cell? ⟨A, 2, none⟩ = some (.slice fb n fd) := fun W k =>
    ⟨(k.cell (block_lt_of_cell z0)).trans z0, (k.cell (block_lt_of_cell z1)).trans z1, (k.cell (block_lt_of_cell z2)).trans z2⟩
  have H6 := Lib.hid (And.intro (he6.below hal) (And.intro (hi6.below hal) (And.intro (H5.out.1.below k56) (And.intro k6 hzW))))
  clear x0 x1 x2 y0 y1 y2 z0 z1 z2 he6 hi6 hw6 hal k56 hzW
  obtain ⟨x0, x1, x2, y0, y1, y2⟩ := HB.out.2 _ k6
  clear k6
  go_wp2_with fail
  clear hW6 hA
  refine (HC.out.2.2.1 _ H6.out.2.2.2.1).mono ?_
  rintro e w7 ⟨ga, gc, gb, gd, rfl, he7, hi7, hw7, -, -⟩
  obtain ⟨B, hB⟩ : ∃ A, w7.heap.size = A := ⟨_, rfl⟩
  obtain ⟨W7, hW7⟩ : ∃ W7, w7.alloc (.cells #[.int .i64 (n : Int), .slice ga FM gc, .slice gb n gd] 25) = W7 := ⟨_, rfl⟩
  have hal : Below w7.heap.size w7 W7 := by rw [← hW7]; exact alloc_b (Below.refl _ _) _
  have k67 := below_two hw7 hal
  have k7 := below_two H6.out.2.2.2.1 k67
  have z0 : W7.cell? ⟨B, 0, none⟩ = some (.int .i64 (n : Int)) := by rw [← hW7, ← hB]; simp
  have z1 : W7.cell? ⟨B, 1, none⟩ = some (.slice ga FM gc) := by rw [← hW7, ← hB]; simp
  have z2 : W7.cell? ⟨B, 2, none⟩ = some (.slice gb n gd) := by rw [← hW7, ← hB]; simp
  have hzW : ∀ W, Below W7.heap.size W7 W → W.cell? ⟨B, 0, none⟩ = some (.int .i64 (n : Int)) ∧ W.cell? ⟨B, 1, none⟩ = some (.slice ga FM gc) ∧ W.cell? ⟨B, 2, none⟩ = some (.slice gb n gd) := fun W k =>
    ⟨(k.cell (block_lt_of_cell z0)).trans z0, (k.cell (block_lt_of_cell z1)).trans z1, (k.cell (block_lt_of_cell z2)).trans z2⟩
  have H7 := Lib.hid (And.intro (he7.below hal) (And.intro (hi7.below hal) (And.intro (H6.out.1.below k67) (And.intro (H6.out.2.1.below k67) (And.intro (H6.out.2.2.1.below k67) (And.intro k7 (And.intro hzW k67)))))))
  clear x0 x1 x2 y0 y1 y2 z0 z1 z2 he7 hi7 hw7 hal k67 hzW
  obtain ⟨x0, x1, x2, y0, y1, y2⟩ := HB.out.2 _ k7
  clear k7
  go_wp2_with fail
  clear hW7 hB
  refine (HC.out.2.2.2.1 _ H7.out.2.2.2.2.2.1).mono ?_
  rintro e w8 ⟨qa, qc, rfl, hi8, hw8⟩
  have k8 := below_two H7.out.2.2.2.2.2.1 hw8
  have k68 := below_two H7.out.2.2.2.2.2.2.2 hw8
  have hz := H6.out.2.2.2.2 _ k68
  have hy := H7.out.2.2.2.2.2.2.1 _ hw8
  have H8 := Lib.hid (And.intro hi8 (And.intro (H7.out.1.below hw8) (And.intro (H7.out.2.1.below hw8) (And.intro (H7.out.2.2.1.below hw8) (And.intro (H7.out.2.2.2.1.below hw8) (And.intro (H7.out.2.2.2.2.1.below hw8) k8))))))
  clear x0 x1 x2 y0 y1 y2 hi8 hw8 k8 k68
  obtain ⟨x0, x1, x2⟩ := hz
  obtain ⟨y0, y1, y2⟩ := hy
  have hpos : decide ((m : Int) > 0) = decide (0 < m) := by
    rw [Bool.eq_iff_iff]; simp
  go_wp2_with fail
  refine (HC.out.2.2.2.2 _ _ _ _ _ _ _ _ _ H8.out.2.2.2.1 H8.out.2.2.2.2.1 H8.out.2.1 H8.out.2.2.1).mono ?_
  rintro e w9 ⟨rfl, hw9⟩
  have H9 := Lib.hid (And.intro (H8.out.1.below hw9) (And.intro (H8.out.2.2.2.2.2.1.below hw9) (below_two HB.out.1 (below_two H8.out.2.2.2.2.2.2 hw9))))
  clear hw9 x0 x1 x2 y0 y1 y2
  rcases Hcase.out with ⟨rfl, hP, hE⟩ | ⟨hm0, hE⟩
  · subst hE
    have hQ0 : Q = 0 := by rw [← HQ.out, hP]; rfl
    clear hP
    subst hQ0
    go_wp2_with fail
    refine (awake_calls _).mono ?_
    rintro e w10 ⟨rfl, hw10⟩
    have H10 := Lib.hid (below_two H9.out.2.2 hw10)
    clear hw10
    go_wp2
    go_ret
    exact ⟨rfl, H10.out⟩
  · subst hE
    have hd : decide (0 < m) = true := by simp; omega
    have hmi : (0 : Int) < m := by omega
    have hme : ((m : Int) == 0) = false := by simp; omega
    rw [hd]
    go_wp2_with fail
    refine (sameI_true p1 qa pc1 qc Q P w9 HQ.out H9.out.2.1 H9.out.1).mono ?_
    rintro e w10 ⟨rfl, hw10⟩
    have H10 := Lib.hid (below_two H9.out.2.2 hw10)
    clear hw10
    go_wp2_with fail
    refine (awake_calls _).mono ?_
    rintro e w11 ⟨rfl, hw11⟩
    have H11 := Lib.hid (below_two H10.out hw11)
    clear hw11
    go_wp2
    go_ret
    exact ⟨rfl, H11.out⟩
end Go.Proofs.YtjjjohmppehejaaGreat
