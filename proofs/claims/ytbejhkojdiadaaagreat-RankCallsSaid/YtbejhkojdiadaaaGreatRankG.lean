/- Unrank on both sides. -/
import Derived.Test.YtbejhkojdiadaaaGreatRankF
set_option linter.unusedSimpArgs false
set_option linter.unusedVariables false
namespace Go.Proofs.YtbejhkojdiadaaaGreat
open Go.RowKit PlainPm
theorem sz_ints {w : World} {g n : Nat} {O : Nat → List Nat} (h : SzW w g n O) (hn : n ≤ 64) : Ints w (some ⟨g, 0, none⟩) (szP O n 0) := by
  refine ⟨by rw [List.length_map, szP_len]; unfold maxLen; omega, fun i u hu => ?_⟩
  have hi : i < n + 1 := by have := (List.getElem?_eq_some_iff.1 hu).1; rw [List.length_map, szP_len] at this; exact this
  refine ⟨g, 0, rfl, h.1, ?_⟩
  rw [Nat.zero_add, h.2 i (by omega), ← hu, List.getElem?_map]
  unfold szP
  rw [List.getElem?_map, List.getElem?_range hi]
  simp
theorem keep5 {V A B : World} {p1 p2 p3 p4 p5 : Addr} {u1 u2 u3 u4 u5 : Value} (h : A.cell? p1 = some u1 ∧ A.cell? p2 = some u2 ∧ A.cell? p3 = some u3 ∧ A.cell? p4 = some u4 ∧ A.cell? p5 = some u5 ∧ Below V.heap.size V A) (k : Below A.heap.size A B) :
    B.cell? p1 = some u1 ∧ B.cell? p2 = some u2 ∧ B.cell? p3 = some u3 ∧ B.cell? p4 = some u4 ∧ B.cell? p5 = some u5 ∧ Below V.heap.size V B :=
  ⟨(k.cell (block_lt_of_cell h.1)).trans h.1, (k.cell (block_lt_of_cell h.2.1)).trans h.2.1, (k.cell (block_lt_of_cell h.2.2.1)).trans h.2.2.1, (k.cell (block_lt_of_cell h.2.2.2.1)).trans h.2.2.2.1, (k.cell (block_lt_of_cell h.2.2.2.2.1)).trans h.2.2.2.2.1, below_trans h.2.2.2.2.2 k⟩
set_option maxRecDepth 100000 in
set_option maxHeartbeats 1000000 in
theorem unrank17 {w : World} {v : Value} {d : Int} {os : List (List Int)} {rs : List (List (List Int))} {K : Int} (h : ChV w v d os rs) (hc : CapV w v) (hd : ¬ (8 < d ∧ d ≤ 64)) :
    Calls Tryz.prog 17 #[v, .int .i64 K] w fun e w' => (∃ a1 c1, e = .returned (.tuple #[.slice a1 (unrL d os rs K).length c1, .int .i64 (unrE d os rs K)]) ∧ Ints w' a1 (unrL d os rs K)) ∧ Below w.heap.size w w' := by
  obtain ⟨E, hE⟩ : ∃ E, chkE d os rs = E := ⟨_, rfl⟩
  have hchk := fun (W : World) (hb : Below w.heap.size w W) => chk56 (h.below hb)
  rw [hE] at hchk
  by_cases hE0 : E = 0
  · subst hE0
    have hE1 := hE
    obtain ⟨hd1, hd2, hv⟩ := chkE_zero hE1
    obtain ⟨n, rfl⟩ : ∃ n : Nat, d = n := ⟨d.toNat, by omega⟩
    have hn0 : 0 < n := by omega
    have hn : n ≤ 8 := by omega
    rw [Int.toNat_natCast] at hv
    obtain ⟨ab, ao, c, bb, bo, e, rfl, hl⟩ := lev_of h hc hv (by omega) (by omega)
    have hG := hv.chG
    obtain ⟨O, hO⟩ : ∃ O, orbV n os rs = O := ⟨_, rfl⟩
    obtain ⟨R, hR⟩ : ∃ R, repV n os rs = R := ⟨_, rfl⟩
    have hN0 : sizeN n os rs = szF O n 0 := by unfold sizeN; rw [if_pos hE, Int.toNat_natCast, hO]
    have hN : unrL n os rs K = if 0 ≤ K ∧ K < (szF O n 0 : Nat) then (unF O R n 0 (PlainPm.one n) K.toNat).l else [] := by
      unfold unrL; rw [hN0, Int.toNat_natCast, hO, hR]; simp [hE]
    have hNE : unrE n os rs K = if 0 ≤ K ∧ K < (szF O n 0 : Nat) then 0 else 2 := by unfold unrE; rw [if_pos hE, hN0]
    rw [hO, hR] at hl hG
    rw [hN, hNE]
    obtain ⟨X, hX⟩ : ∃ X, w.heap.size = X := ⟨_, rfl⟩
    have hB0 := BoxW.start w X n ab ao c bb bo e hX
    obtain ⟨W1, hW1⟩ : ∃ W1, W1 = w.alloc (.cells #[.int .i64 (n : Int), .slice (some ⟨ab, ao, none⟩) n c, .slice (some ⟨bb, bo, none⟩) n e] 25) := ⟨_, rfl⟩
    rw [← hW1] at hB0
    have hwW : Below w.heap.size w W1 := by rw [hX]; exact hB0.bel
    have hchk1 := hchk W1 hwW
    have H := Lib.hid (And.intro hchk1 (And.intro hB0 (And.intro hwW (And.intro hX (And.intro hl hG)))))
    obtain ⟨z0, z1, z2⟩ : W1.cell? ⟨X, 0, none⟩ = some (.int .i64 (n : Int)) ∧ W1.cell? ⟨X, 1, none⟩ = some (.slice (some ⟨ab, ao, none⟩) n c) ∧ W1.cell? ⟨X, 2, none⟩ = some (.slice (some ⟨bb, bo, none⟩) n e) := ⟨hB0.c0, hB0.c1, hB0.c2⟩
    clear hchk1 hB0 hwW hl hG hchk h hc hd hd1 hd2 hv hO hR hE hE1 hN hNE hN0
    by_cases hK : 0 ≤ K ∧ K < (szF O n 0 : Nat)
    case neg =>
      rw [if_neg hK, if_neg hK]
      by_cases hK0 : K < 0
      · have g1 : decide (K < 0) = true := by simp [hK0]
        clear hK
        go_enter Tryz.func17, Tryz.ntmps17
        try rw [hX]
        go_wp2_with (first
          | (go_at_call 57; refine (siz57 hn0 hn H.out.2.2.2.2.2 (H.out.2.2.2.2.1.below H2.out.2)).mono ?_; rintro e1 w3 ⟨g, cap, rfl, k1, k3⟩; have H3 := Lib.hid (And.intro k1 (below_trans H2.out.2 k3)); clear k1 k3)
          | (go_at_call 56; (try rw [← hW1]); clear hW1 z0 z1 z2; (with_reducible refine H.out.1.mono ?_); rintro e1 w2 ⟨rfl, k2⟩; have hB2 := H.out.2.1.below (k2.mono H.out.2.1.lt); have b0 := hB2.c0; have b1 := hB2.c1; have b2 := hB2.c2; have hw2 := below_trans H.out.2.2.1 k2; have H2 := Lib.hid (And.intro hB2 hw2); clear hB2 hw2 k2))
        refine bodyPost_ret (v := .tuple #[.slice none 0 0, .int .i64 2]) (by simp [results, Tryz.results17, go_sem]) rfl ?_
        have hb3 := H3.out.2
        rw [H.out.2.2.2.1] at hb3
        exact ⟨⟨_, _, rfl, ⟨Nat.zero_le _, fun i u hu => by simp at hu⟩⟩, hb3⟩
      · have g1 : decide (K < 0) = false := by simp; omega
        have hKs : ((szF O n 0 : Nat) : Int) ≤ K := by omega
        obtain ⟨SZ, hSZ⟩ : ∃ s, szF O n 0 = s := ⟨_, rfl⟩
        rw [hSZ] at hKs
        have g2 : decide ((SZ : Int) ≤ K) = true := by simp [hKs]
        clear hK
        go_enter Tryz.func17, Tryz.ntmps17
        try rw [hX]
        go_wp2_with (first
          | (go_at_call 57; refine (siz57 hn0 hn H.out.2.2.2.2.2 (H.out.2.2.2.2.1.below H2.out.2)).mono ?_; rintro e1 w3 ⟨g, cap, rfl, k1, k3⟩; have d0 := k1.2 0 (by omega); rw [Nat.sub_zero, hSZ] at d0; have H3 := Lib.hid (And.intro k1 (below_trans H2.out.2 k3)); clear k1 k3)
          | (go_at_call 56; (try rw [← hW1]); clear hW1 z0 z1 z2; (with_reducible refine H.out.1.mono ?_); rintro e1 w2 ⟨rfl, k2⟩; have hB2 := H.out.2.1.below (k2.mono H.out.2.1.lt); have b0 := hB2.c0; have b1 := hB2.c1; have b2 := hB2.c2; have hw2 := below_trans H.out.2.2.1 k2; have H2 := Lib.hid (And.intro hB2 hw2); clear hB2 hw2 k2))
        refine bodyPost_ret (v := .tuple #[.slice none 0 0, .int .i64 2]) (by simp [results, Tryz.results17, go_sem]) rfl ?_
        have hb3 := H3.out.2
        rw [H.out.2.2.2.1] at hb3
        exact ⟨⟨_, _, rfl, ⟨Nat.zero_le _, fun i u hu => by simp at hu⟩⟩, hb3⟩
    rw [if_pos hK, if_pos hK]
    obtain ⟨K0, rfl⟩ : ∃ K0 : Nat, K = K0 := ⟨K.toNat, by omega⟩
    rw [Int.toNat_natCast]
    have hKs : K0 < szF O n 0 := by have := hK.2; omega
    obtain ⟨SZ, hSZ⟩ : ∃ s, szF O n 0 = s := ⟨_, rfl⟩
    have g1 : decide ((K0 : Int) < 0) = false := by simp
    have g2 : decide ((SZ : Int) ≤ (K0 : Int)) = false := by simp; omega
    have g3 : ¬ SZ ≤ K0 := by omega
    obtain ⟨U, hU⟩ : ∃ U, unF O R n 0 (PlainPm.one n) K0 = U := ⟨_, rfl⟩
    rw [hU]
    have HU := Lib.hid (And.intro hU hKs)
    clear hK hU hKs
    go_enter Tryz.func17, Tryz.ntmps17
    try rw [hX]
    go_wp2_with (first
      | (go_at_call 66; refine (unrank66 (lc := cap) hn0 hn H.out.2.2.2.2.2 (H.out.2.2.2.2.1.below H3.out.2) (sz_ints H3.out.1 (by omega)) HU.out.2).mono ?_; rintro e1 w4 ⟨v4, rfl, k1, k2⟩; have H4 := Lib.hid (And.intro k1 k2); clear k1 k2)
      | (go_at_call 57; refine (siz57 hn0 hn H.out.2.2.2.2.2 (H.out.2.2.2.2.1.below H2.out.2)).mono ?_; rintro e1 w3 ⟨g, cap, rfl, k1, k3⟩; have d0 := k1.2 0 (by omega); rw [Nat.sub_zero, hSZ] at d0; have hB3 := H2.out.1.below (k3.mono H2.out.1.lt); have f0 := hB3.c0; have f1 := hB3.c1; have f2 := hB3.c2; have H3 := Lib.hid (And.intro k1 (below_trans H2.out.2 k3)); clear k1 k3 hB3)
      | (go_at_call 56; (try rw [← hW1]); clear hW1 z0 z1 z2; (with_reducible refine H.out.1.mono ?_); rintro e1 w2 ⟨rfl, k2⟩; have hB2 := H.out.2.1.below (k2.mono H.out.2.1.lt); have b0 := hB2.c0; have b1 := hB2.c1; have b2 := hB2.c2; have hw2 := below_trans H.out.2.2.1 k2; have H2 := Lib.hid (And.intro hB2 hw2); clear hB2 hw2 k2))
    obtain ⟨a4, c4, rfl, hi4⟩ := H4.out.1.ints (by omega)
    rw [HU.out.1] at hi4 ⊢
    refine bodyPost_ret (v := .tuple #[.slice a4 U.l.length c4, .int .i64 0]) (by simp [results, Tryz.results17, go_sem]) rfl ?_
    have hb4 := below_trans H3.out.2 H4.out.2
    rw [H.out.2.2.2.1] at hb4
    exact ⟨⟨a4, c4, rfl, hi4⟩, hb4⟩
  · obtain ⟨a1, c1, b1, e1, rfl, h1, h2⟩ := h
    have hN : unrL d os rs K = [] := by unfold unrL; rw [if_neg (by rw [hE]; exact fun h => hE0 h.1)]
    have hNE : unrE d os rs K = E := by unfold unrE; rw [if_neg (by rw [hE]; exact hE0), hE]
    rw [hN, hNE]
    have hx : (E != 0) = true := by simp [hE0]
    obtain ⟨lo, hlo⟩ : ∃ l, os.length = l := ⟨_, rfl⟩
    obtain ⟨lr, hlr⟩ : ∃ l, rs.length = l := ⟨_, rfl⟩
    rw [hlo, hlr] at hchk ⊢
    have HC := Lib.hid hchk
    clear hchk h1 h2 hlo hlr hc hd hE hE0 hN hNE
    go_enter Tryz.func17, Tryz.ntmps17
    go_wp2_with (go_at_call 56; refine (HC.out _ (alloc_b (Below.refl _ _) _)).mono ?_; rintro e w2 ⟨rfl, k2⟩; have H2 := Lib.hid (below_trans (alloc_b (Below.refl _ _) _) k2); clear k2)
    refine bodyPost_ret (v := .tuple #[.slice none 0 0, .int .i64 E]) (by simp [results, Tryz.results17, go_sem]) rfl ?_
    exact ⟨⟨_, _, rfl, ⟨Nat.zero_le _, fun i u hu => by simp at hu⟩⟩, H2.out⟩
set_option maxRecDepth 100000 in
set_option maxHeartbeats 1000000 in
theorem unrank16 {w : World} {v : Value} {d : Int} {os : List (List Int)} {rs : List (List (List Int))} {K : Int} (h : ChV w v d os rs) (hc : CapV w v) (hd : ¬ (8 < d ∧ d ≤ 64)) :
    Calls Tryz.prog 16 #[v, .int .i64 K] w fun e w' => (∃ a1 c1, e = .returned (.tuple #[.slice a1 (unrL d os rs K).length c1, .int .i64 (unrE d os rs K)]) ∧ Ints w' a1 (unrL d os rs K)) ∧ Below w.heap.size w w' := by
  obtain ⟨E, hE⟩ : ∃ E, chkE d os rs = E := ⟨_, rfl⟩
  have hchk := fun (W : World) (hb : Below w.heap.size w W) => chk54 (h.below hb)
  rw [hE] at hchk
  by_cases hE0 : E = 0
  · subst hE0
    have hE1 := hE
    obtain ⟨hd1, hd2, hv⟩ := chkE_zero hE1
    obtain ⟨n, rfl⟩ : ∃ n : Nat, d = n := ⟨d.toNat, by omega⟩
    have hn0 : 0 < n := by omega
    have hn : n ≤ 8 := by omega
    rw [Int.toNat_natCast] at hv
    obtain ⟨ab, ao, c, bb, bo, e, rfl, hl⟩ := lev_of h hc hv (by omega) (by omega)
    have hG := hv.chG
    obtain ⟨O, hO⟩ : ∃ O, orbV n os rs = O := ⟨_, rfl⟩
    obtain ⟨R, hR⟩ : ∃ R, repV n os rs = R := ⟨_, rfl⟩
    have hN0 : sizeN n os rs = szF O n 0 := by unfold sizeN; rw [if_pos hE, Int.toNat_natCast, hO]
    have hN : unrL n os rs K = if 0 ≤ K ∧ K < (szF O n 0 : Nat) then (unF O R n 0 (PlainPm.one n) K.toNat).l else [] := by
      unfold unrL; rw [hN0, Int.toNat_natCast, hO, hR]; simp [hE]
    have hNE : unrE n os rs K = if 0 ≤ K ∧ K < (szF O n 0 : Nat) then 0 else 2 := by unfold unrE; rw [if_pos hE, hN0]
    rw [hO, hR] at hl hG
    rw [hN, hNE]
    obtain ⟨X, hX⟩ : ∃ X, w.heap.size = X := ⟨_, rfl⟩
    have hB0 := BoxW.start w X n ab ao c bb bo e hX
    obtain ⟨W1, hW1⟩ : ∃ W1, W1 = w.alloc (.cells #[.int .i64 (n : Int), .slice (some ⟨ab, ao, none⟩) n c, .slice (some ⟨bb, bo, none⟩) n e] 25) := ⟨_, rfl⟩
    rw [← hW1] at hB0
    have hwW : Below w.heap.size w W1 := by rw [hX]; exact hB0.bel
    have hchk1 := hchk W1 hwW
    have H := Lib.hid (And.intro hchk1 (And.intro hB0 (And.intro hwW (And.intro hX (And.intro hl hG)))))
    obtain ⟨z0, z1, z2⟩ : W1.cell? ⟨X, 0, none⟩ = some (.int .i64 (n : Int)) ∧ W1.cell? ⟨X, 1, none⟩ = some (.slice (some ⟨ab, ao, none⟩) n c) ∧ W1.cell? ⟨X, 2, none⟩ = some (.slice (some ⟨bb, bo, none⟩) n e) := ⟨hB0.c0, hB0.c1, hB0.c2⟩
    clear hchk1 hB0 hwW hl hG hchk h hc hd hd1 hd2 hv hO hR hE hE1 hN hNE hN0
    by_cases hK : 0 ≤ K ∧ K < (szF O n 0 : Nat)
    case neg =>
      rw [if_neg hK, if_neg hK]
      by_cases hK0 : K < 0
      · have g1 : decide (K < 0) = true := by simp [hK0]
        clear hK
        go_enter Tryz.func16, Tryz.ntmps16
        try rw [hX]
        go_wp2_with (first
          | (go_at_call 55; refine (siz55 hn0 hn H.out.2.2.2.2.2 (H.out.2.2.2.2.1.below H2.out.2)).mono ?_; rintro e1 w3 ⟨g, cap, rfl, k1, k3⟩; have H3 := Lib.hid (And.intro k1 (below_trans H2.out.2 k3)); clear k1 k3)
          | (go_at_call 54; (try rw [← hW1]); clear hW1 z0 z1 z2; (with_reducible refine H.out.1.mono ?_); rintro e1 w2 ⟨rfl, k2⟩; have hB2 := H.out.2.1.below (k2.mono H.out.2.1.lt); have b0 := hB2.c0; have b1 := hB2.c1; have b2 := hB2.c2; have hw2 := below_trans H.out.2.2.1 k2; have H2 := Lib.hid (And.intro hB2 hw2); clear hB2 hw2 k2))
        refine bodyPost_ret (v := .tuple #[.slice none 0 0, .int .i64 2]) (by simp [results, Tryz.results16, go_sem]) rfl ?_
        have hb3 := H3.out.2
        rw [H.out.2.2.2.1] at hb3
        exact ⟨⟨_, _, rfl, ⟨Nat.zero_le _, fun i u hu => by simp at hu⟩⟩, hb3⟩
      · have g1 : decide (K < 0) = false := by simp; omega
        have hKs : ((szF O n 0 : Nat) : Int) ≤ K := by omega
        obtain ⟨SZ, hSZ⟩ : ∃ s, szF O n 0 = s := ⟨_, rfl⟩
        rw [hSZ] at hKs
        have g2 : decide ((SZ : Int) ≤ K) = true := by simp [hKs]
        clear hK
        go_enter Tryz.func16, Tryz.ntmps16
        try rw [hX]
        go_wp2_with (first
          | (go_at_call 55; refine (siz55 hn0 hn H.out.2.2.2.2.2 (H.out.2.2.2.2.1.below H2.out.2)).mono ?_; rintro e1 w3 ⟨g, cap, rfl, k1, k3⟩; have d0 := k1.2 0 (by omega); rw [Nat.sub_zero, hSZ] at d0; have H3 := Lib.hid (And.intro k1 (below_trans H2.out.2 k3)); clear k1 k3)
          | (go_at_call 54; (try rw [← hW1]); clear hW1 z0 z1 z2; (with_reducible refine H.out.1.mono ?_); rintro e1 w2 ⟨rfl, k2⟩; have hB2 := H.out.2.1.below (k2.mono H.out.2.1.lt); have b0 := hB2.c0; have b1 := hB2.c1; have b2 := hB2.c2; have hw2 := below_trans H.out.2.2.1 k2; have H2 := Lib.hid (And.intro hB2 hw2); clear hB2 hw2 k2))
        refine bodyPost_ret (v := .tuple #[.slice none 0 0, .int .i64 2]) (by simp [results, Tryz.results16, go_sem]) rfl ?_
        have hb3 := H3.out.2
        rw [H.out.2.2.2.1] at hb3
        exact ⟨⟨_, _, rfl, ⟨Nat.zero_le _, fun i u hu => by simp at hu⟩⟩, hb3⟩
    rw [if_pos hK, if_pos hK]
    obtain ⟨K0, rfl⟩ : ∃ K0 : Nat, K = K0 := ⟨K.toNat, by omega⟩
    rw [Int.toNat_natCast]
    have hKs : K0 < szF O n 0 := by have := hK.2; omega
    obtain ⟨SZ, hSZ⟩ : ∃ s, szF O n 0 = s := ⟨_, rfl⟩
    have g1 : decide ((K0 : Int) < 0) = false := by simp
    have g2 : decide ((SZ : Int) ≤ (K0 : Int)) = false := by simp; omega
    have g3 : ¬ SZ ≤ K0 := by omega
    obtain ⟨U, hU⟩ : ∃ U, unF O R n 0 (PlainPm.one n) K0 = U := ⟨_, rfl⟩
    rw [hU]
    have HU := Lib.hid (And.intro hU hKs)
    clear hK hU hKs
    go_enter Tryz.func16, Tryz.ntmps16
    try rw [hX]
    go_wp2_with (first
      | (go_at_call 59; refine (one59 (by omega)).mono ?_; rintro e1 w4 ⟨v4, rfl, k1, k2⟩; have hB4 := H3.out.2.1.below (k2.mono H3.out.2.1.lt); have e0 := hB4.c0; have e1 := hB4.c1; have e2 := hB4.c2; have H4 := Lib.hid (And.intro k1 (And.intro hB4 (H3.out.1.below k2))); clear k1 k2 hB4)
      | (go_at_call 55; refine (siz55 hn0 hn H.out.2.2.2.2.2 (H.out.2.2.2.2.1.below H2.out.2)).mono ?_; rintro e1 w3 ⟨g, cap, rfl, k1, k3⟩; have d0 := k1.2 0 (by omega); rw [Nat.sub_zero, hSZ] at d0; have hB3 := H2.out.1.below (k3.mono H2.out.1.lt); have f0 := hB3.c0; have f1 := hB3.c1; have f2 := hB3.c2; have H3 := Lib.hid (And.intro k1 (And.intro hB3 (below_trans H2.out.2 k3))); clear k1 k3 hB3)
      | (go_at_call 54; (try rw [← hW1]); clear hW1 z0 z1 z2; (with_reducible refine H.out.1.mono ?_); rintro e1 w2 ⟨rfl, k2⟩; have hB2 := H.out.2.1.below (k2.mono H.out.2.1.lt); have b0 := hB2.c0; have b1 := hB2.c1; have b2 := hB2.c2; have hw2 := below_trans H.out.2.2.1 k2; have H2 := Lib.hid (And.intro hB2 hw2); clear hB2 hw2 k2))
    clear b0 b1 b2 f0 f1 f2 e0 e1 e2 d0
    go_loopw [1, 9, 10, 11, 38] (fun kv yv _ _ i wr => ∃ (k K' : Nat) (z : Pm n), k ≤ n ∧ i = .int .i64 (k : Int) ∧ kv = .int .i64 (K' : Int) ∧ K' < szF O (n - k) k ∧ BoxW w X n ab ao c bb bo e wr ∧ PmV wr [] yv z ∧ SzW wr g n O ∧ unF O R (n - k) k z K' = U) (fun _ _ _ _ i _ => n - (intOf i).toNat)
    case atStart => exact ⟨0, K0, PlainPm.one n, by omega, rfl, rfl, by rw [Nat.sub_zero]; exact HU.out.2, H4.out.2.1, H4.out.1.pm (by simp), H4.out.2.2, by rw [Nat.sub_zero]; exact HU.out.1⟩
    case round =>
      obtain ⟨k, K', z, hk, rfl, rfl, hKs, hb, hz, hs, he⟩ := hrel
      have hwr : Below w.heap.size w wr := by have h1 := hb.bel; rwa [← H.out.2.2.2.1] at h1
      by_cases hkn : k < n
      · have q0 := hb.c0
        have q1 := hb.c1
        have q2 := hb.c2
        have hlt := H.out.2.2.2.2.2.lt k hkn
        have hnd := H.out.2.2.2.2.2.nd k hkn
        have hsh := H.out.2.2.2.2.2.short hkn
        have y4 := hs.2 (k + 1) (by omega)
        have hZp := H.out.2.2.2.2.2.sz_pos (f := n - (k + 1)) (i := k + 1) (by omega)
        have hZl := H.out.2.2.2.2.2.sz_le (m := 8) hn (f := n - (k + 1)) (i := k + 1) (by omega)
        have hZl2 : szF O (n - (k + 1)) (k + 1) ≤ 16777216 := Nat.le_trans hZl (Nat.le_trans (Nat.pow_le_pow_right (by omega) (show n - (k + 1) ≤ 8 by omega)) (by decide))
        obtain ⟨Z, hZ⟩ : ∃ Z, szF O (n - (k + 1)) (k + 1) = Z := ⟨_, rfl⟩
        rw [show n - k = n - (k + 1) + 1 by omega, szF, hZ] at hKs
        rw [hZ] at y4 hZp hZl2
        have hqs : K' / Z < (O k).length := Nat.div_lt_of_lt_mul (by rw [Nat.mul_comm]; exact hKs)
        have hrs : K' % Z < Z := Nat.mod_lt _ hZp
        have hsel := sel_sorted (y := z) hlt hnd (m := srtI (nts ((O k).map z.at))) (by
          refine (srtI_perm _).trans ?_
          unfold nts; rw [List.map_map]; exact List.Perm.refl _) (srtI_sorted _) (s := K' / Z) hqs
        obtain ⟨qq, hqq⟩ : ∃ q, selQ z (O k) (K' / Z) = q := ⟨_, rfl⟩
        rw [hqq] at hsel
        have hnx : unF O R (n - (k + 1)) (k + 1) ((R k qq).mul z) (K' % Z) = U := by
          rw [← he, show n - k = n - (k + 1) + 1 by omega, unF, hZ, hqq]
        obtain ⟨L, hL⟩ : ∃ L, (srtI (nts ((O k).map z.at))).length = L := ⟨_, rfl⟩
        have hLl : (ints (srtI (nts ((O k).map z.at)))).length = L := by rw [ints_len, hL]
        have hLO : L = (O k).length := by rw [← hL, srtI_len, nts_len, List.length_map]
        obtain ⟨zv, hzv⟩ : ∃ v, z.at qq = v := ⟨_, rfl⟩
        have hsm := hsel.2.2
        rw [hzv] at hsm
        obtain ⟨SK, hSK⟩ : ∃ s, K' / Z = s := ⟨_, rfl⟩
        rw [hSK] at hqs hsm
        have hch := fun (V : World) (hV : Below wr.heap.size wr V) => (choices61 (c := c) (e := e) hkn hlt (H.out.2.2.2.2.1.below (below_trans hwr hV)) (hz.below hV)).mono (fun e1 w6 h6 => (show ∃ g6 c6, e1 = .returned (.slice (some ⟨g6, 0, none⟩) L c6) ∧ w6.cell? ⟨g6, SK, none⟩ = some (.int .i64 (zv : Int)) ∧ Below V.heap.size V w6 from by
          obtain ⟨v6, rfl, k1, k2⟩ := h6
          obtain ⟨g6, c6, rfl, _⟩ := k1.form (by rw [hLl]; omega)
          rw [hLl] at k1 ⊢
          refine ⟨g6, c6, rfl, ?_, k2⟩
          rw [k1.cell SK (by rw [hLl]; omega), ints_get (by rw [hL]; omega), hsm]; rfl))
        have hst := fun (V : World) (hV : Below wr.heap.size wr V) => (step62 (c := c) (e := e) (by omega) hkn hlt hsel.1 (H.out.2.2.2.2.1.below (below_trans hwr hV)) (hz.below hV)).mono (fun e1 w6 h6 => (show ∃ v, e1 = .returned v ∧ PmV w6 [] v ((R k qq).mul z) ∧ Below wr.heap.size wr w6 ∧ w6.cell? ⟨g, k + 1, none⟩ = some (.int .i64 (Z : Int)) ∧ Below V.heap.size V w6 from by
          obtain ⟨v6, rfl, k1, k2⟩ := h6
          have k3 := below_trans hV k2
          exact ⟨v6, rfl, k1.pm (by simp), k3, (k3.cell (p := ⟨g, k + 1, none⟩) hs.1).trans y4, k2⟩))
        rw [hzv] at hst
        have hqi : ((K' : Int) / (Z : Int)) = (SK : Int) := by rw [← hSK]; exact (Int.natCast_ediv K' Z).symm
        have hZn : ¬ Z = 0 := by omega
        have hZb : ((Z : Int) == 0) = false := by simp; omega
        obtain ⟨RK, hRK⟩ : ∃ r, K' % Z = r := ⟨_, rfl⟩
        have hri : ((K' : Int) % (Z : Int)) = (RK : Int) := by rw [← hRK]; exact (Int.natCast_emod K' Z).symm
        have hZ0 : ¬ (Z : Int) = 0 := by omega
        rw [hRK] at hrs hnx
        have hRb : RK < 16777216 := by omega
        have hKb : K' < 1073741824 := Nat.lt_of_lt_of_le hKs (Nat.le_trans (Nat.mul_le_mul (Nat.le_trans hsh (by omega : n ≤ 64)) hZl2) (by decide))
        have hSL : SK < L := by omega
        have hL8 : L ≤ 8 := by omega
        obtain ⟨zb, zo, zc, hze, _⟩ := id hz
        subst hze
        have HC := Lib.hid (And.intro hch (And.intro hst (And.intro hb (And.intro hs (And.intro hwr (And.intro hnx (And.intro hrs hZ)))))))
        have hk1 : (k : Int) < n := by omega
        have hwk : IntKind.i64.wrap ((k : Int) + 1) = (k : Int) + 1 := IntWalk.i64_in _ (by omega)
        have hwk1 : (0 : Int) ≤ (k : Int) + 1 := by omega
        have hwk2 : (k : Int) + 1 < ((n + 1 : Nat) : Int) := by omega
        have hwk3 : ((k : Int) + 1).toNat = k + 1 := by omega
        have hwk4 : ¬ ((k : Int) + 1 < 0) := by omega
        have hws : IntKind.i64.wrap (SK : Int) = (SK : Int) := IntWalk.i64_in _ (by omega)
        have hws1 : (SK : Int) < (L : Int) := by omega
        clear hch hst hb hs hwr hnx hrs hZ hz he hlt hnd hsh hZl hZl2 hKs hqs hsel hqq hL hLl hLO hzv hsm hSK hRK
        go_wp2_with (go_at_call 61; (with_reducible refine (HC.out.1 _ (Below.refl _ _)).mono ?_); rintro e1 w6 ⟨g6, c6, rfl, k1, k2⟩; have r0 := (k2.cell (block_lt_of_cell q0)).trans q0; have r1 := (k2.cell (block_lt_of_cell q1)).trans q1; have r2 := (k2.cell (block_lt_of_cell q2)).trans q2; have r3 := (k2.cell (block_lt_of_cell y4)).trans y4; have H6 := Lib.hid k2; clear k2)
        go_region_held3 (fun V => V.cell? ⟨X, 0, none⟩ = some (.int .i64 (n : Int)) ∧ V.cell? ⟨X, 1, none⟩ = some (.slice (some ⟨ab, ao, none⟩) n c) ∧ V.cell? ⟨X, 2, none⟩ = some (.slice (some ⟨bb, bo, none⟩) n e) ∧ V.cell? ⟨g, k + 1, none⟩ = some (.int .i64 (Z : Int)) ∧ V.cell? ⟨g6, SK, none⟩ = some (.int .i64 (zv : Int)) ∧ Below wr.heap.size wr V)
          (first
            | assumption
            | exact ⟨r0, r1, r2, r3, k1, H6.out⟩
            | exact ⟨r0, r1, r2, r3, k1, below_drew H6.out⟩
            | exact ⟨r0, r1, r2, r3, k1, below_drewN H6.out _⟩
            | exact keep5 (by first | assumption | exact ⟨r0, r1, r2, r3, k1, H6.out⟩ | exact ⟨r0, r1, r2, r3, k1, below_drew H6.out⟩ | exact ⟨r0, r1, r2, r3, k1, below_drewN H6.out _⟩) (by assumption))
          (first
            | (go_at_call 62; (with_reducible refine (HC.out.2.1 _ (by first | exact H6.out | exact below_drew H6.out | exact below_drewN H6.out _ | assumption)).mono ?_); rintro e1 w8 ⟨v8, rfl, k3, k4, k5, k6⟩; have t0 := (k4.cell (block_lt_of_cell q0)).trans q0; have t1 := (k4.cell (block_lt_of_cell q1)).trans q1; have t2 := (k4.cell (block_lt_of_cell q2)).trans q2; have H8 := Lib.hid (And.intro k3 k4); clear k3))
        go_wp2_with fail
        have hbx := HC.out.2.2.1.lt
        refine ⟨⟨k + 1, RK, (R k qq).mul z, by omega, by go_num, by rw [hri], by rw [HC.out.2.2.2.2.2.2.2]; exact HC.out.2.2.2.2.2.2.1, HC.out.2.2.1.below (H8.out.2.mono hbx), H8.out.1, HC.out.2.2.2.1.below H8.out.2, HC.out.2.2.2.2.2.1⟩, by simp [intOf]; omega⟩
      · obtain rfl : k = n := by omega
        have hk1 : ¬ (k : Int) < k := by omega
        rw [Nat.sub_self] at he
        obtain ⟨a4, c4, hve, hi4⟩ := hz.ints (by omega)
        have hUz : z = U := he
        subst hUz
        have HC := Lib.hid (And.intro hi4 (And.intro hb hve))
        clear hb hwr he hz hs hi4 hKs
        go_wp2_with fail
        refine bodyPost_ret (v := .tuple #[.slice a4 z.l.length c4, .int .i64 0]) (by simp [results, Tryz.results16, go_sem]) rfl ?_
        exact ⟨⟨a4, ⟨c4, rfl⟩, HC.out.1⟩, HC.out.2.1.bel⟩
  · obtain ⟨a1, c1, b1, e1, rfl, h1, h2⟩ := h
    have hN : unrL d os rs K = [] := by unfold unrL; rw [if_neg (by rw [hE]; exact fun h => hE0 h.1)]
    have hNE : unrE d os rs K = E := by unfold unrE; rw [if_neg (by rw [hE]; exact hE0), hE]
    rw [hN, hNE]
    have hx : (E != 0) = true := by simp [hE0]
    obtain ⟨lo, hlo⟩ : ∃ l, os.length = l := ⟨_, rfl⟩
    obtain ⟨lr, hlr⟩ : ∃ l, rs.length = l := ⟨_, rfl⟩
    rw [hlo, hlr] at hchk ⊢
    have HC := Lib.hid hchk
    clear hchk h1 h2 hlo hlr hc hd hE hE0 hN hNE
    go_enter Tryz.func16, Tryz.ntmps16
    go_wp2_with (go_at_call 54; refine (HC.out _ (alloc_b (Below.refl _ _) _)).mono ?_; rintro e w2 ⟨rfl, k2⟩; have H2 := Lib.hid (below_trans (alloc_b (Below.refl _ _) _) k2); clear k2)
    refine bodyPost_ret (v := .tuple #[.slice none 0 0, .int .i64 E]) (by simp [results, Tryz.results16, go_sem]) rfl ?_
    exact ⟨⟨_, _, rfl, ⟨Nat.zero_le _, fun i u hu => by simp at hu⟩⟩, H2.out⟩
end Go.Proofs.YtbejhkojdiadaaaGreat
