/- Many and Map: the reference's. -/
import Derived.Test.YtjjjohmppehejaaGreatGroupR
import Derived.Test.YtjjjohmppehejaaGreatMapP
import Derived.Test.YtjjjohmppehejaaGreatPlainT
set_option linter.unusedSimpArgs false
set_option linter.unusedVariables false
namespace Go.Proofs.YtjjjohmppehejaaGreat
open Go.RowKit Plain PlainG PlainX PlainT
theorem grpA_many (g : Gr) : manyA g = if (grpA g).2 ≠ 0 then (0, (grpA g).2) else ((prodN (grpA g).1.orbs : Int), 0) := by
  unfold manyA grpA
  by_cases h : ckA [g] = 0
  · simp [h]
  · simp [h]
set_option maxRecDepth 100000 in
set_option maxHeartbeats 2000000 in
theorem manyR_calls {w : World} {g : Gr} {ea ca : Option Addr} {ec cc : Nat} (he : Edg w ea g.es) (hc : Ints w ca g.cs) :
    Calls Tryz.prog 13 #[.agg #[.int .i64 g.n, .slice ea g.es.length ec, .slice ca g.cs.length cc]] w fun e w' => e = .returned (.tuple #[.int .i64 (manyA g).1, .int .i64 (manyA g).2]) ∧ Below w.heap.size w w' := by
  rw [grpA_many]
  have hb1 : Below w.heap.size w (w.alloc (.cells #[.int .i64 g.n, .slice ea g.es.length ec, .slice ca g.cs.length cc] 25)) := alloc_b (Below.refl _ _) _
  have K11 := grpR_calls (ec := ec) (cc := cc) (he.below hb1) (hc.below hb1)
  have hbd : (grpA g).2 = 0 → ∀ k, k ≤ (grpA g).1.orbs.length → prodN ((grpA g).1.orbs.take k) ≤ 10000000000 := fun h0 k hk => by
    have hck : ckA [g] = 0 := by
      unfold grpA at h0
      by_cases h : ckA [g] = 0
      · exact h
      · rw [if_pos h] at h0; exact h0
    obtain ⟨h1, h2⟩ := ck_one hck
    have hg : (grpA g).1.orbs = orbsA (adj g.es) g.cs g.n.toNat g.n.toNat := by unfold grpA; rw [if_neg (by simp [hck])]
    rw [hg] at hk ⊢
    exact prod_bound (by omega) k (by simpa [orbsA] using hk)
  have hol : (grpA g).1.orbs.length ≤ 1000 := by
    unfold grpA
    by_cases h : ckA [g] = 0
    · obtain ⟨h1, h2⟩ := ck_one h
      rw [if_neg (by simp [h])]; simp [orbsA]; omega
    · rw [if_pos h]; simp
  unfold ChnRes at K11
  obtain ⟨r, hr⟩ : ∃ r, grpA g = r := ⟨_, rfl⟩
  rw [hr] at K11 hbd hol ⊢
  obtain ⟨⟨d, orbs, reps⟩, err⟩ := r
  simp only at K11 hbd hol ⊢
  obtain ⟨X, hX⟩ : ∃ X, w.heap.size = X := ⟨_, rfl⟩
  obtain ⟨n, hn⟩ : ∃ n, g.n = n := ⟨_, rfl⟩
  obtain ⟨L, hL⟩ : ∃ L, g.es.length = L := ⟨_, rfl⟩
  obtain ⟨M, hM⟩ : ∃ M, g.cs.length = M := ⟨_, rfl⟩
  rw [hn, hL, hM] at K11 hb1 ⊢
  obtain ⟨N, hN⟩ : ∃ N, orbs.length = N := ⟨_, rfl⟩
  obtain ⟨R, hR⟩ : ∃ N, reps.length = N := ⟨_, rfl⟩
  simp only [hN, hR] at K11
  have HK := Lib.hid (And.intro K11 (And.intro hb1 hX))
  have H0 := Lib.hid (And.intro hbd (And.intro hN hol))
  rw [hN] at hol
  clear K11 hb1 hr hn hL hM hbd hN hR he hc
  by_cases h0 : err = 0
  · subst h0
    rw [if_neg (by simp)]
    go_enter Tryz.func13, Tryz.ntmps13
    go_wp2_with (go_at_call 11; refine HK.out.1.mono ?_; rintro e w3 ⟨a, c, b, dd, rfl, hr1, hr2, hw3⟩; obtain ⟨C, hC⟩ : ∃ C, w3.heap.size = C := ⟨_, rfl⟩; have H3 := Lib.hid (And.intro hr1 (And.intro hw3 hC)); clear hr1 hw3 hr2)
    obtain ⟨W4, hW4⟩ : ∃ W4, W4 = w3.alloc (.cells #[.int .i64 d, .slice a N c, .slice b R dd] 31) := ⟨_, rfl⟩
    have hC4 : W4.heap[C]? = some (.cells #[.int .i64 d, .slice a N c, .slice b R dd] 31) := by
      rw [hW4, ← H3.out.2.2]; exact World.alloc_heap_new w3 _
    obtain ⟨c0, c1, c2, _, _, _⟩ := box_cells hC4
    have hb4 : Below w3.heap.size w3 W4 := by rw [hW4]; exact alloc_b (Below.refl _ _) _
    have hr4 := H3.out.1.below hb4
    have H4 := Lib.hid (And.intro hr4 hb4)
    try rw [← hW4]
    clear hW4 hr4 hb4
    go_loopw [6, 7] (fun p i wr => ∃ k : Nat, k ≤ N ∧ i = .int .i64 (k : Int) ∧ p = .int .i64 (prodN (orbs.take k) : Int) ∧ wr = W4) (fun _ i _ => N - (intOf i).toNat)
    case atStart => exact ⟨0, by omega, rfl, rfl, rfl⟩
    case round =>
      obtain ⟨k, hk, rfl, rfl, rfl⟩ := hrel
      by_cases hlt : k < N
      · obtain ⟨g1, o1, b1, d1, e1, _, cc1, _⟩ := H4.out.1.at_ (k := k) (by rw [H0.out.2.1]; exact hlt)
        cases e1
        obtain ⟨l, hl⟩ : ∃ l, (orbs[k]?.getD []).length = l := ⟨_, rfl⟩
        rw [hl] at cc1
        have hkO : k < orbs.length := by rw [H0.out.2.1]; exact hlt
        have hnx : prodN (orbs.take (k + 1)) = prodN (orbs.take k) * l := by
          rw [List.take_add_one, List.getElem?_eq_getElem hkO]
          show prodN (orbs.take k ++ [orbs[k]]) = _
          rw [prodN_snoc, ← hl, List.getElem?_eq_getElem hkO]; rfl
        have hbd := H0.out.1 (by trivial) (k + 1) (by omega)
        obtain ⟨P, hP⟩ : ∃ P, prodN (orbs.take k) = P := ⟨_, rfl⟩
        rw [hP] at hnx ⊢
        rw [hnx] at hbd
        have hwr : IntKind.i64.wrap ((P : Int) * (l : Int)) = ((P * l : Nat) : Int) := by
          rw [IntKind.wrap_i64]
          have : (P : Int) * (l : Int) = ((P * l : Nat) : Int) := by simp
          rw [this]; omega
        have HN := Lib.hid (And.intro hnx hwr)
        clear hnx hbd hP hl hkO
        go_wp2
        exact ⟨⟨k + 1, by omega, by go_num, by rw [HN.out.1]; simp, trivial⟩, by simp [intOf]; omega⟩
      · obtain rfl : k = N := by omega
        go_wp2
        go_ret2
        refine ⟨by rw [List.take_of_length_le (by rw [H0.out.2.1]; omega)]; rfl, ?_⟩
        exact below_two HK.out.2.1 (below_two H3.out.2.1 H4.out.2)
  · have h0b : (err != 0) = true := by simpa using h0
    rw [if_pos h0]
    go_enter Tryz.func13, Tryz.ntmps13
    go_wp2_with (go_at_call 11; refine HK.out.1.mono ?_; rintro e w3 ⟨a, c, b, dd, rfl, hr1, hr2, hw3⟩; have H3 := Lib.hid hw3; clear hr1 hw3 hr2)
    go_ret2
    exact ⟨rfl, below_two HK.out.2.1 (below_two H3.out (alloc_b (Below.refl _ _) _))⟩
theorem ckA_two (g h : Gr) : ckA [g, h] = if chkGr g ≠ 0 then chkGr g else if chkGr h ≠ 0 then chkGr h else if 10 < g.n ∨ 10 < h.n then 5 else 0 := by
  unfold ckA chkL bigL
  by_cases h1 : chkGr g = 0 <;> by_cases h2 : chkGr h = 0 <;> simp [h1, h2, chkL]
/-- With no images forced the reference's answer is Map's. -/
theorem iso_map {g h : Gr} {n m : Nat} (hg : Vg n g) (hh : Vg m h) : optN (isoA n m (adj g.es) (adj h.es) g.cs h.cs []) = if g.n = h.n ∧ g.es.length = h.es.length then optN (extA (adj g.es) (adj h.es) g.cs h.cs g.n.toNat []) else ([], 18) := by
  have hgn := hg.num
  have hhn := hh.num
  unfold isoA
  by_cases e : n = m
  · subst e
    rw [if_pos rfl, ref_ext (by simp) (by simp), hgn]
    simp only [Int.toNat_natCast]
    by_cases hl : g.es.length = h.es.length
    · rw [if_pos ⟨by omega, hl⟩]
    · rw [if_neg (by rintro ⟨_, e⟩; exact hl e)]
      cases ho : extA (adj g.es) (adj h.es) g.cs h.cs n [] with
      | none => rfl
      | some q => exact absurd (iso_edges hg hh (ext_iso (by simp) (by simp) ho)) hl
  · rw [if_neg e, if_neg (by rintro ⟨e2, _⟩; omega)]; rfl
set_option maxRecDepth 100000 in
set_option maxHeartbeats 2000000 in
theorem mapR_calls {w : World} {g h : Gr} {ea ca eb cb : Option Addr} {ec cc ed cd : Nat} (he : Edg w ea g.es) (hc : Ints w ca g.cs) (he2 : Edg w eb h.es) (hc2 : Ints w cb h.cs) :
    Calls Tryz.prog 26 #[.agg #[.int .i64 g.n, .slice ea g.es.length ec, .slice ca g.cs.length cc], .agg #[.int .i64 h.n, .slice eb h.es.length ed, .slice cb h.cs.length cd]] w fun e w' =>
      ∃ a c, e = .returned (.tuple #[.slice a (mapA g h).1.length c, .int .i64 (mapA g h).2]) ∧ Ints w' a (mapA g h).1 ∧ Below w.heap.size w w' := by
  obtain ⟨X, hX⟩ : ∃ X, w.heap.size = X := ⟨_, rfl⟩
  obtain ⟨n, hn⟩ : ∃ n, g.n = n := ⟨_, rfl⟩
  obtain ⟨L, hL⟩ : ∃ L, g.es.length = L := ⟨_, rfl⟩
  obtain ⟨M, hM⟩ : ∃ M, g.cs.length = M := ⟨_, rfl⟩
  obtain ⟨n2, hn2⟩ : ∃ n, h.n = n := ⟨_, rfl⟩
  obtain ⟨L2, hL2⟩ : ∃ L, h.es.length = L := ⟨_, rfl⟩
  obtain ⟨M2, hM2⟩ : ∃ M, h.cs.length = M := ⟨_, rfl⟩
  obtain ⟨W1, hW1⟩ : ∃ W1, (w.alloc (.cells #[.int .i64 n, .slice ea L ec, .slice ca M cc] 25)).alloc (.cells #[.int .i64 n2, .slice eb L2 ed, .slice cb M2 cd] 25) = W1 := ⟨_, rfl⟩
  have hs1 : W1.heap.size = X + 2 := by rw [← hW1, ← hX]; simp
  have hb1 : Below w.heap.size w W1 := by rw [← hW1]; exact alloc_b (alloc_b (Below.refl _ _) _) _
  have x0 : W1.cell? ⟨X, 0, none⟩ = some (.int .i64 n) := by rw [← hW1, ← hX]; simp
  have x1 : W1.cell? ⟨X, 1, none⟩ = some (.slice ea L ec) := by rw [← hW1, ← hX]; simp
  have x2 : W1.cell? ⟨X, 2, none⟩ = some (.slice ca M cc) := by rw [← hW1, ← hX]; simp
  have y0 : W1.cell? ⟨X + 1, 0, none⟩ = some (.int .i64 n2) := by rw [← hW1, ← hX]; simp
  have y1 : W1.cell? ⟨X + 1, 1, none⟩ = some (.slice eb L2 ed) := by rw [← hW1, ← hX]; simp
  have y2 : W1.cell? ⟨X + 1, 2, none⟩ = some (.slice cb M2 cd) := by rw [← hW1, ← hX]; simp
  have K1 := gcheckR_calls (g := g) (c := ec) (d := cc) (he.below hb1) (hc.below hb1)
  have K2 := fun (W : World) (k : Below W1.heap.size W1 W) => gcheckR_calls (g := h) (c := ed) (d := cd) ((he2.below hb1).below k) ((hc2.below hb1).below k)
  have hck := ckA_two g h
  rw [hn, hL, hM] at K1
  rw [hn2, hL2, hM2] at K2
  rw [hn, hn2] at hck
  rw [hn, hL, hM, hn2, hL2, hM2]
  have H := Lib.hid (And.intro hb1 (And.intro hs1 hX))
  by_cases e1 : chkGr g = 0
  · by_cases e2 : chkGr h = 0
    · have g1 := chkGr_ok.1 e1
      have g2 := chkGr_ok.1 e2
      obtain ⟨N, hN⟩ : ∃ N, g.n.toNat = N := ⟨_, rfl⟩
      obtain ⟨N2, hN2⟩ : ∃ N, h.n.toNat = N := ⟨_, rfl⟩
      have hnN : n = (N : Int) := by omega
      have hMN : M = N := by omega
      have hnN2 : n2 = (N2 : Int) := by omega
      have hMN2 : M2 = N2 := by omega
      subst hnN
      subst hMN
      subst hnN2
      subst hMN2
      have hvg : Vg M g := ⟨e1, hn⟩
      have hvh : Vg M2 h := ⟨e2, hn2⟩
      rw [e1] at K1
      simp only [e2] at K2
      by_cases hbig : 10 < M ∨ 10 < M2
      · have hres : mapA g h = ([], 5) := by
          have : ckA [g, h] = 5 := by rw [hck, if_neg (by simp [e1]), if_neg (by simp [e2]), if_pos (by omega)]
          unfold mapA; rw [if_pos (by rw [this]; decide), this]
        rw [hres]
        have HK := Lib.hid (And.intro K1 K2)
        clear K1 K2 hck hres hn hL hM hn2 hL2 hM2 e1 e2 g1 g2 hN hN2 hvg hvh he hc he2 hc2
        have go2 : ∀ b1 b2 : Bool, decide (10 < M) = b1 → decide (10 < M2) = b2 → (b1 || b2) = true →
            Calls Tryz.prog 26 #[.agg #[.int .i64 (M : Int), .slice ea L ec, .slice ca M cc], .agg #[.int .i64 (M2 : Int), .slice eb L2 ed, .slice cb M2 cd]] w fun e w' => ∃ a c, e = .returned (.tuple #[.slice a ([] : List Int).length c, .int .i64 5]) ∧ Ints w' a [] ∧ Below w.heap.size w w' := by
          intro b1 b2 d1 d2 hor
          have d1' : decide ((10 : Int) < (M : Int)) = b1 := by rw [← d1, decide_eq_decide]; omega
          have d2' : decide ((10 : Int) < (M2 : Int)) = b2 := by rw [← d2, decide_eq_decide]; omega
          go_enter Tryz.func26, Tryz.ntmps26
          cases b1 with
          | true =>
            go_wp2_with (first
              | (go_at_call 40; (with_reducible refine HK.out.1.mono ?_); rintro e w3 ⟨rfl, hw3⟩; have z0 := (hw3.cell (block_lt_of_cell x0)).trans x0; have z1 := (hw3.cell (block_lt_of_cell x1)).trans x1; have z2 := (hw3.cell (block_lt_of_cell x2)).trans x2; have z3 := (hw3.cell (block_lt_of_cell y0)).trans y0; have z4 := (hw3.cell (block_lt_of_cell y1)).trans y1; have z5 := (hw3.cell (block_lt_of_cell y2)).trans y2; have H3 := Lib.hid hw3; clear hw3 x0 x1 x2 y0 y1 y2 hW1)
              | (go_at_call 40; (with_reducible refine (HK.out.2 _ H3.out).mono ?_); rintro e w4 ⟨rfl, hw4⟩; have u0 := (hw4.cell (block_lt_of_cell z0)).trans z0; have u3 := (hw4.cell (block_lt_of_cell z3)).trans z3; have H4 := Lib.hid (below_two H3.out hw4); clear hw4 z0 z1 z2 z3 z4 z5))
            go_ret2
            exact ⟨none, 0, rfl, Row.nil, below_two H.out.1 H4.out⟩
          | false =>
            cases b2 with
            | false => cases hor
            | true =>
              go_wp2_with (first
                | (go_at_call 40; (with_reducible refine HK.out.1.mono ?_); rintro e w3 ⟨rfl, hw3⟩; have z0 := (hw3.cell (block_lt_of_cell x0)).trans x0; have z1 := (hw3.cell (block_lt_of_cell x1)).trans x1; have z2 := (hw3.cell (block_lt_of_cell x2)).trans x2; have z3 := (hw3.cell (block_lt_of_cell y0)).trans y0; have z4 := (hw3.cell (block_lt_of_cell y1)).trans y1; have z5 := (hw3.cell (block_lt_of_cell y2)).trans y2; have H3 := Lib.hid hw3; clear hw3 x0 x1 x2 y0 y1 y2 hW1)
                | (go_at_call 40; (with_reducible refine (HK.out.2 _ H3.out).mono ?_); rintro e w4 ⟨rfl, hw4⟩; have u0 := (hw4.cell (block_lt_of_cell z0)).trans z0; have u3 := (hw4.cell (block_lt_of_cell z3)).trans z3; have H4 := Lib.hid (below_two H3.out hw4); clear hw4 z0 z1 z2 z3 z4 z5))
              go_ret2
              exact ⟨none, 0, rfl, Row.nil, below_two H.out.1 H4.out⟩
        exact go2 _ _ rfl rfl (by rcases hbig with h | h <;> simp [h])
      · have hck0 : ckA [g, h] = 0 := by rw [hck, if_neg (by simp [e1]), if_neg (by simp [e2]), if_neg (by omega)]
        have hres : mapA g h = optN (isoA M M2 (adj g.es) (adj h.es) g.cs h.cs []) := by
          rw [iso_map hvg hvh]
          unfold mapA; rw [if_neg (by simp [hck0])]
        rw [hres]
        have hM10 : M ≤ 10 := by omega
        have K35 := fun (W : World) (k : Below W1.heap.size W1 W) (F : Nat) (hf : Ints W (some ⟨F, 0, none⟩) (List.replicate M (-1))) =>
          (iso_calls (w := W) (n := M) (m := M2) (fs := []) (fc := M) (gc := ec) (gd := cc) (hc := ed) (hd := cd) ((he.below hb1).below k) ((hc.below hb1).below k) ((he2.below hb1).below k) ((hc2.below hb1).below k) (fun x hx => by have := hvg.ed x hx; omega) (fun x hx => by have := hvh.ed x hx; omega) hvg.cl hvh.cl (by omega) (by simp) (by simpa [frcL, nts] using hf)).mono
            (R' := fun e w' => TryRes W (isoA M M2 (adj g.es) (adj h.es) g.cs h.cs []) e w' ∧ Below W1.heap.size W1 w' ∧ Below W.heap.size W w') fun e w' h => ⟨h.1, below_two k h.2, h.2⟩
        rw [hL, hL2] at K35
        cases ho : isoA M M2 (adj g.es) (adj h.es) g.cs h.cs [] with
        | none =>
          rw [ho] at K35
          have HK := Lib.hid (And.intro K1 (And.intro K2 K35))
          clear K1 K2 K35 hck hck0 hres hn hL hM hn2 hL2 hM2 e1 e2 g1 g2 hN hN2 hvg hvh he hc he2 hc2 ho
          have d1 : decide ((10 : Int) < (M : Int)) = false := by simp; omega
          have d2 : decide ((10 : Int) < (M2 : Int)) = false := by simp; omega
          go_enter Tryz.func26, Tryz.ntmps26
          go_wp2_with (first
            | (go_at_call 40; (with_reducible refine HK.out.1.mono ?_); rintro e w3 ⟨rfl, hw3⟩; have z0 := (hw3.cell (block_lt_of_cell x0)).trans x0; have z1 := (hw3.cell (block_lt_of_cell x1)).trans x1; have z2 := (hw3.cell (block_lt_of_cell x2)).trans x2; have z3 := (hw3.cell (block_lt_of_cell y0)).trans y0; have z4 := (hw3.cell (block_lt_of_cell y1)).trans y1; have z5 := (hw3.cell (block_lt_of_cell y2)).trans y2; have H3 := Lib.hid hw3; clear hw3 x0 x1 x2 y0 y1 y2 hW1)
            | (go_at_call 40; (with_reducible refine (HK.out.2.1 _ H3.out).mono ?_); rintro e w4 ⟨rfl, hw4⟩; have u0 := (hw4.cell (block_lt_of_cell z0)).trans z0; have u1 := (hw4.cell (block_lt_of_cell z1)).trans z1; have u2 := (hw4.cell (block_lt_of_cell z2)).trans z2; have u3 := (hw4.cell (block_lt_of_cell z3)).trans z3; have u4 := (hw4.cell (block_lt_of_cell z4)).trans z4; have u5 := (hw4.cell (block_lt_of_cell z5)).trans z5; have H4 := Lib.hid (below_two H3.out hw4); clear hw4 z0 z1 z2 z3 z4 z5))
          have hx0 := And.intro u0 (And.intro u1 (And.intro u2 (And.intro u3 (And.intro u4 (And.intro u5 H4.out)))))
          go_region_held3 (fun W => W.cell? ⟨X, 0, none⟩ = some (.int .i64 (M : Int)) ∧ W.cell? ⟨X, 1, none⟩ = some (.slice ea L ec) ∧ W.cell? ⟨X, 2, none⟩ = some (.slice ca M cc) ∧ W.cell? ⟨X + 1, 0, none⟩ = some (.int .i64 (M2 : Int)) ∧ W.cell? ⟨X + 1, 1, none⟩ = some (.slice eb L2 ed) ∧ W.cell? ⟨X + 1, 2, none⟩ = some (.slice cb M2 cd) ∧ Below W1.heap.size W1 W)
            (first
              | assumption
              | exact hx0
              | exact keepG (Nat.le_refl _) (by assumption) (by first | assumption | exact below_self_drewN _ _)
              | exact keepG (Nat.le_refl _) hx0 (by first | assumption | exact below_self_drewN _ _))
            (first
              | (go_at_call 34; (with_reducible refine (none_calls M (by omega) _).mono ?_); rintro e w5 ⟨rfl, hof, hw5⟩; have hfi : Ints w5 (some ⟨w4.heap.size, 0, none⟩) (List.replicate M (-1)) := hof.toInts (by simp; unfold maxLen; omega); clear hof)
              | (go_at_call 35; (with_reducible refine (HK.out.2.2 _ (keepG_last (by assumption)) _ hfi).mono ?_); rintro e w7 ⟨he, hb7, hw7⟩; subst he; have HZ := Lib.hid hb7; clear hb7))
          all_goals go_wp2
          all_goals go_ret2
          all_goals exact ⟨none, 0, rfl, Row.nil, below_two H.out.1 HZ.out⟩
        | some q =>
          rw [ho] at K35
          have hql : q.length = M := by
            unfold isoA at ho
            split at ho
            · have := refF_len ho; simpa using this
            · cases ho
          have HQ := Lib.hid hql
          have HK := Lib.hid (And.intro K1 (And.intro K2 K35))
          clear K1 K2 K35 hck hck0 hres hn hL hM hn2 hL2 hM2 e1 e2 g1 g2 hN hN2 hvg hvh he hc he2 hc2 ho hql
          have d1 : decide ((10 : Int) < (M : Int)) = false := by simp; omega
          have d2 : decide ((10 : Int) < (M2 : Int)) = false := by simp; omega
          go_enter Tryz.func26, Tryz.ntmps26
          go_wp2_with (first
            | (go_at_call 40; (with_reducible refine HK.out.1.mono ?_); rintro e w3 ⟨rfl, hw3⟩; have z0 := (hw3.cell (block_lt_of_cell x0)).trans x0; have z1 := (hw3.cell (block_lt_of_cell x1)).trans x1; have z2 := (hw3.cell (block_lt_of_cell x2)).trans x2; have z3 := (hw3.cell (block_lt_of_cell y0)).trans y0; have z4 := (hw3.cell (block_lt_of_cell y1)).trans y1; have z5 := (hw3.cell (block_lt_of_cell y2)).trans y2; have H3 := Lib.hid hw3; clear hw3 x0 x1 x2 y0 y1 y2 hW1)
            | (go_at_call 40; (with_reducible refine (HK.out.2.1 _ H3.out).mono ?_); rintro e w4 ⟨rfl, hw4⟩; have u0 := (hw4.cell (block_lt_of_cell z0)).trans z0; have u1 := (hw4.cell (block_lt_of_cell z1)).trans z1; have u2 := (hw4.cell (block_lt_of_cell z2)).trans z2; have u3 := (hw4.cell (block_lt_of_cell z3)).trans z3; have u4 := (hw4.cell (block_lt_of_cell z4)).trans z4; have u5 := (hw4.cell (block_lt_of_cell z5)).trans z5; have H4 := Lib.hid (below_two H3.out hw4); clear hw4 z0 z1 z2 z3 z4 z5))
          have hx0 := And.intro u0 (And.intro u1 (And.intro u2 (And.intro u3 (And.intro u4 (And.intro u5 H4.out)))))
          go_region_held3 (fun W => W.cell? ⟨X, 0, none⟩ = some (.int .i64 (M : Int)) ∧ W.cell? ⟨X, 1, none⟩ = some (.slice ea L ec) ∧ W.cell? ⟨X, 2, none⟩ = some (.slice ca M cc) ∧ W.cell? ⟨X + 1, 0, none⟩ = some (.int .i64 (M2 : Int)) ∧ W.cell? ⟨X + 1, 1, none⟩ = some (.slice eb L2 ed) ∧ W.cell? ⟨X + 1, 2, none⟩ = some (.slice cb M2 cd) ∧ Below W1.heap.size W1 W)
            (first
              | assumption
              | exact hx0
              | exact keepG (Nat.le_refl _) (by assumption) (by first | assumption | exact below_self_drewN _ _)
              | exact keepG (Nat.le_refl _) hx0 (by first | assumption | exact below_self_drewN _ _))
            (first
              | (go_at_call 34; (with_reducible refine (none_calls M (by omega) _).mono ?_); rintro e w5 ⟨rfl, hof, hw5⟩; have hfi : Ints w5 (some ⟨w4.heap.size, 0, none⟩) (List.replicate M (-1)) := hof.toInts (by simp; unfold maxLen; omega); clear hof)
              | (go_at_call 35; (with_reducible refine (HK.out.2.2 _ (keepG_last (by assumption)) _ hfi).mono ?_); rintro e w7 ⟨he, hb7, hw7⟩; obtain ⟨r, rfl, hr⟩ := he; have HZ := Lib.hid (And.intro hr hb7); clear hb7 hr))
          all_goals go_wp2
          all_goals go_ret2
          all_goals
            obtain ⟨a, c, e, hi⟩ := HZ.out.1.ints (by rw [nts_len, HQ.out]; unfold maxLen; omega)
            exact ⟨a, c, by rw [e]; rfl, hi, below_two H.out.1 HZ.out.2⟩
    · have hres : mapA g h = ([], chkGr h) := by
        have : ckA [g, h] = chkGr h := by rw [hck, if_neg (by simp [e1]), if_pos e2]
        unfold mapA; rw [if_pos (by rw [this]; exact e2), this]
      rw [hres]
      obtain ⟨E, hE⟩ : ∃ E, chkGr h = E := ⟨_, rfl⟩
      rw [e1] at K1
      simp only [hE] at K2
      rw [hE] at e2 ⊢
      have hE1 : (E != 0) = true := by simpa using e2
      have HK := Lib.hid (And.intro K1 K2)
      clear K1 K2 hck hres hn hL hM hn2 hL2 hM2 e1 he hc he2 hc2 hE e2
      go_enter Tryz.func26, Tryz.ntmps26
      go_wp2_with (first
        | (go_at_call 40; (with_reducible refine HK.out.1.mono ?_); rintro e w3 ⟨rfl, hw3⟩; have z3 := (hw3.cell (block_lt_of_cell y0)).trans y0; have z4 := (hw3.cell (block_lt_of_cell y1)).trans y1; have z5 := (hw3.cell (block_lt_of_cell y2)).trans y2; have H3 := Lib.hid hw3; clear hw3 x0 x1 x2 y0 y1 y2 hW1)
        | (go_at_call 40; (with_reducible refine (HK.out.2 _ H3.out).mono ?_); rintro e w4 ⟨rfl, hw4⟩; have H4 := Lib.hid (below_two H3.out hw4); clear hw4 z3 z4 z5))
      go_ret2
      exact ⟨none, 0, rfl, Row.nil, below_two H.out.1 H4.out⟩
  · have hres : mapA g h = ([], chkGr g) := by
      have : ckA [g, h] = chkGr g := by rw [hck, if_pos e1]
      unfold mapA; rw [if_pos (by rw [this]; exact e1), this]
    rw [hres]
    obtain ⟨E, hE⟩ : ∃ E, chkGr g = E := ⟨_, rfl⟩
    rw [hE] at K1 e1 ⊢
    have hE1 : (E != 0) = true := by simpa using e1
    have HK := Lib.hid K1
    clear K1 K2 hck hres hn hL hM hn2 hL2 hM2 e1 he hc he2 hc2 hE
    go_enter Tryz.func26, Tryz.ntmps26
    go_wp2_with (go_at_call 40; (with_reducible refine HK.out.mono ?_); rintro e w3 ⟨rfl, hw3⟩; have H3 := Lib.hid hw3; clear hw3 x0 x1 x2 y0 y1 y2 hW1)
    go_ret2
    exact ⟨none, 0, rfl, Row.nil, below_two H.out.1 H3.out⟩
end Go.Proofs.YtjjjohmppehejaaGreat
