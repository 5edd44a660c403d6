/- Size, Least and In: the chain's levels out of its value. -/
import Derived.Test.YtbejhkojdiadaaaGreatRankD
import Derived.Test.YtbejhkojdiadaaaGreatMembR
import Derived.Test.YtbejhkojdiadaaaGreatPlainVal
set_option linter.unusedSimpArgs false
set_option linter.unusedVariables false
namespace Go.Proofs.YtbejhkojdiadaaaGreat
open Go.RowKit PlainPm
/-- The slices that a chain's lists hold are not longer than their rows. -/
def CapV (w : World) (v : Value) : Prop := ∀ d a lo c b lr e, v = .agg #[.int .i64 d, .slice a lo c, .slice b lr e] →
  (∀ ad, a = some ad → ∀ i, i < lo → ∀ x l k, w.cell? (ad.add i) = some (.slice x l k) → l ≤ k) ∧
  (∀ ad, b = some ad → ∀ i, i < lr → ∀ x l k, w.cell? (ad.add i) = some (.slice x l k) → l ≤ k)
theorem pm_of_ints {n : Nat} (hn : 0 < n) {w : World} {a : Option Addr} {c : Nat} {x : Pm n} (h : Ints w a x.l) : PmV w [] (.slice a n c) x := by
  have hl := x.ok.1
  obtain ⟨b, o, rfl, hb, _⟩ := h.at_ (k := 0) (by omega)
  refine ⟨b, o, c, rfl, by simp, hb, fun i hi => ?_⟩
  obtain ⟨b', o', he, _, hc⟩ := h.at_ (k := i) (by omega)
  cases he
  rw [hc, x.get hi]; rfl
theorem lev_of {w : World} {v : Value} {n : Nat} {os : List (List Int)} {rs : List (List (List Int))} (h : ChV w v n os rs) (hc : CapV w v) (hv : Valid n os rs) (hn0 : 1 ≤ n) (hn : n ≤ 64) :
    ∃ ab ao c bb bo e, v = cv n ab ao c bb bo e ∧ LvW n w (orbV n os rs) (repV n os rs) ab ao bb bo := by
  obtain ⟨a, c, b, e, rfl, h1, h2⟩ := h
  obtain ⟨lo, lr⟩ := hv.len
  have hG := hv.chG
  obtain ⟨hc1, hc2⟩ := hc _ _ _ _ _ _ _ rfl
  obtain ⟨ab, ao, _, _, rfl, _, _, _⟩ := h1.at_ (k := 0) (by omega)
  obtain ⟨bb, bo, _, _, rfl, _, _, _⟩ := h2.at_ (k := 0) (by omega)
  rw [lo, lr]
  refine ⟨ab, ao, c, bb, bo, e, rfl, fun i hi => ?_, fun i hi => ?_⟩
  · obtain ⟨g, o, x, k, he, hg, hcell, hints⟩ := h1.at_ (k := i) (by omega)
    cases he
    rw [hv.orbAt hi, Option.getD_some] at hcell hints
    rw [nts_len] at hcell
    have hpos := hG.pos hi
    have hcap := hc1 _ rfl i (by omega) _ _ _ (by rw [add_zero_addr]; exact hcell)
    obtain ⟨g2, o2, rfl, hg2, _⟩ := hints.at_ (k := 0) (by rw [nts_len]; exact hpos)
    refine ⟨_, hcell, g2, o2, k, rfl, hg2, Nat.le_trans (hG.short hi) hn, hcap, fun j q hq => ?_⟩
    have hj := (List.getElem?_eq_some_iff.1 hq).1
    obtain ⟨g3, o3, he3, _, hc3⟩ := hints.at_ (k := j) (by rw [nts_len]; exact hj)
    cases he3
    rw [hc3, nts_get hj, hq]; rfl
  · obtain ⟨g, o, x, k, he, hg, hcell, hrows⟩ := h2.at_ (k := i) (by omega)
    cases he
    rw [hv.repAt hi, Option.getD_some] at hcell hrows
    rw [List.length_map] at hcell
    have hpos := hG.pos hi
    have hcap := hc2 _ rfl i (by omega) _ _ _ (by rw [add_zero_addr]; exact hcell)
    obtain ⟨g2, o2, _, _, rfl, hg2, _, _⟩ := hrows.at_ (k := 0) (by rw [List.length_map]; exact hpos)
    refine ⟨_, hcell, g2, o2, k, by rw [List.length_map], hg2, by rw [List.length_map]; exact Nat.le_trans (hG.short hi) hn, by rw [List.length_map]; exact hcap, fun j y hy => ?_⟩
    rw [List.getElem?_map, Option.map_eq_some_iff] at hy
    obtain ⟨q, hq, rfl⟩ := hy
    have hj := (List.getElem?_eq_some_iff.1 hq).1
    obtain ⟨g3, o3, xa, xc, he3, _, hc3, hi3⟩ := hrows.at_ (k := j) (by rw [List.length_map]; exact hj)
    cases he3
    rw [List.getElem?_map, hq] at hc3 hi3
    simp only [Option.map_some, Option.getD_some] at hc3 hi3
    rw [(repV n os rs i q).ok.1] at hc3
    exact ⟨_, hc3, pm_of_ints (by omega) hi3⟩
theorem CapV.below {w w' : World} {v : Value} {d : Int} {os : List (List Int)} {rs : List (List (List Int))} (hch : ChV w v d os rs) (h : CapV w v) (k : Below w.heap.size w w') : CapV w' v := by
  obtain ⟨a0, c0, b0, e0, rfl, h1, h2⟩ := hch
  intro d a lo c b lr e he
  have hh := h d a lo c b lr e he
  simp only [Value.agg.injEq, Array.mk.injEq, List.cons.injEq, Value.int.injEq, Value.slice.injEq, and_true, true_and] at he
  obtain ⟨_, ⟨rfl, rfl, rfl⟩, rfl, rfl, rfl⟩ := he
  refine ⟨fun ad ea i hi x l k' hc => hh.1 ad ea i hi x l k' ?_, fun ad ea i hi x l k' hc => hh.2 ad ea i hi x l k' ?_⟩
  · subst ea
    obtain ⟨g, o, _, _, he, hg, _, _⟩ := h1.at_ hi
    cases he
    rw [add_zero_addr] at hc ⊢
    rw [← hc]; exact (k.cell (p := ⟨g, o + i, none⟩) hg).symm
  · subst ea
    obtain ⟨g, o, _, _, he, hg, _, _⟩ := h2.at_ hi
    cases he
    rw [add_zero_addr] at hc ⊢
    rw [← hc]; exact (k.cell (p := ⟨g, o + i, none⟩) hg).symm
theorem chk54 {w : World} {v : Value} {d : Int} {os : List (List Int)} {rs : List (List (List Int))} (h : ChV w v d os rs) : Calls Tryz.prog 54 #[v] w fun e w' => e = .returned (.int .i64 (chkE d os rs)) ∧ Below w.heap.size w w' :=
  (check54 h).mono fun _ _ ⟨⟨E, he, hr⟩, hb⟩ => ⟨by rw [he, chkR_iff.1 hr], hb⟩
theorem chk56 {w : World} {v : Value} {d : Int} {os : List (List Int)} {rs : List (List (List Int))} (h : ChV w v d os rs) : Calls Tryz.prog 56 #[v] w fun e w' => e = .returned (.int .i64 (chkE d os rs)) ∧ Below w.heap.size w w' :=
  (check56 h).mono fun _ _ ⟨⟨E, he, hr⟩, hb⟩ => ⟨by rw [he, chkR_iff.1 hr], hb⟩
section
variable {w : World} {v : Value} {d : Int} {os : List (List Int)} {rs : List (List (List Int))} {a : Option Addr} {c : Nat} {p : List Int}
theorem mem58 (h : ChV w v d os rs) (hp : Ints w a p) : Calls Tryz.prog 58 #[v, .slice a p.length c] w fun e w' => e = .returned (.int .i64 (memE d os rs p)) ∧ Below w.heap.size w w' :=
  (member58 h hp).mono fun _ _ ⟨⟨E, he, hr⟩, hb⟩ => ⟨by rw [he, memR_iff.1 hr], hb⟩
theorem mem63 (h : ChV w v d os rs) (hp : Ints w a p) : Calls Tryz.prog 63 #[v, .slice a p.length c] w fun e w' => e = .returned (.int .i64 (memE d os rs p)) ∧ Below w.heap.size w w' :=
  (member63 h hp).mono fun _ _ ⟨⟨E, he, hr⟩, hb⟩ => ⟨by rw [he, memR_iff.1 hr], hb⟩
theorem mem111 (h : ChV w v d os rs) (hp : Ints w a p) : Calls Tryz.prog 111 #[v, .slice a p.length c] w fun e w' => e = .returned (.int .i64 (memE d os rs p)) ∧ Below w.heap.size w w' :=
  (member111 h hp).mono fun _ _ ⟨⟨E, he, hr⟩, hb⟩ => ⟨by rw [he, memR_iff.1 hr], hb⟩
end
/-- A row of the sizes. -/
def SzW (w : World) (g n : Nat) (O : Nat → List Nat) : Prop := g < w.heap.size ∧ ∀ t, t ≤ n → w.cell? ⟨g, t, none⟩ = some (.int .i64 (szF O (n - t) t : Int))
theorem SzW.below {w w' : World} {g n : Nat} {O : Nat → List Nat} (h : SzW w g n O) (k : Below w.heap.size w w') : SzW w' g n O :=
  ⟨Nat.lt_of_lt_of_le h.1 k.size, fun t ht => (k.cell (p := ⟨g, t, none⟩) h.1).trans (h.2 t ht)⟩
theorem szw_of {w : World} {B n : Nat} {v : Value} {O : Nat → List Nat} (h : Own w B v 3 (ints (szP O n 0))) : ∃ g cap, v = .slice (some ⟨g, 0, none⟩) (n + 1) cap ∧ SzW w g n O := by
  have hl : (ints (szP O n 0)).length = n + 1 := by rw [ints_len, szP_len]
  obtain ⟨g, cap, rfl, _, h2, _, _⟩ := h.form (by rw [hl]; omega)
  rw [hl] at h ⊢
  refine ⟨g, cap, rfl, h2, fun t ht => ?_⟩
  rw [h.cell t (by rw [hl]; omega), ints_get (by rw [szP_len]; omega), szP_get ht (Nat.zero_le _)]
section
variable {n ab ao c bb bo e : Nat} {G : Pm n → Prop} {O : Nat → List Nat} {R : Nat → Nat → Pm n} {w : World}
theorem siz55 (hn0 : 0 < n) (hn : n ≤ 8) (hG : ChG G O R) (h : LvW n w O R ab ao bb bo) : Calls Tryz.prog 55 #[cv n ab ao c bb bo e] w fun e w' => ∃ g cap, e = .returned (.tuple #[.slice (some ⟨g, 0, none⟩) (n + 1) cap, .bool true]) ∧ SzW w' g n O ∧ Below w.heap.size w w' :=
  (sizes55 hn0 hn hG h).mono fun _ _ ⟨v, he, ho, hb⟩ => by
    obtain ⟨g, cap, rfl, hs⟩ := szw_of ho
    exact ⟨g, cap, he, hs, hb⟩
theorem siz57 (hn0 : 0 < n) (hn : n ≤ 8) (hG : ChG G O R) (h : LvW n w O R ab ao bb bo) : Calls Tryz.prog 57 #[cv n ab ao c bb bo e] w fun e w' => ∃ g cap, e = .returned (.tuple #[.slice (some ⟨g, 0, none⟩) (n + 1) cap, .bool true]) ∧ SzW w' g n O ∧ Below w.heap.size w w' :=
  (sizes57 hn0 hn hG h).mono fun _ _ ⟨v, he, ho, hb⟩ => by
    obtain ⟨g, cap, rfl, hs⟩ := szw_of ho
    exact ⟨g, cap, he, hs, hb⟩
end
--WALKS
set_option maxRecDepth 100000 in
set_option maxHeartbeats 1000000 in
theorem in64 {w : World} {v : Value} {d : Int} {os : List (List Int)} {rs : List (List (List Int))} {a0 : Option Addr} {c0 : Nat} {p : List Int} (h : ChV w v d os rs) (hc : CapV w v) (hE : memE d os rs p = 0) (hp : Ints w a0 p) :
    Calls Tryz.prog 64 #[v, .slice a0 p.length c0] w fun e w' => e = .returned (.tuple #[.bool (decide (sfG (orbV d.toNat os rs) (repV d.toNat os rs) d.toNat 0 (toPm d.toNat p) = d.toNat)), .int .i64 0]) ∧ Below w.heap.size w w' := by
    have hchk := fun (W : World) (hb : Below w.heap.size w W) => mem111 (c := c0) (h.below hb) (hp.below hb)
    rw [hE] at hchk
    obtain ⟨hE1, _, _⟩ := memE_zero hE
    obtain ⟨hpl, hpn⟩ := mem_pm hE
    obtain ⟨hd1, hd2, hv⟩ := chkE_zero hE1
    obtain ⟨n, rfl⟩ : ∃ n : Nat, d = n := ⟨d.toNat, by omega⟩
    have hn0 : 0 < n := by omega
    have hn : n ≤ 64 := by omega
    rw [Int.toNat_natCast] at hv
    obtain ⟨ab, ao, c, bb, bo, e, rfl, hl⟩ := lev_of h hc hv (by omega) (by omega)
    have hG := hv.chG
    obtain ⟨O, hO⟩ : ∃ O, orbV n os rs = O := ⟨_, rfl⟩
    obtain ⟨R, hR⟩ : ∃ R, repV n os rs = R := ⟨_, rfl⟩
    rw [Int.toNat_natCast] at hpl hpn
    obtain ⟨x, hx⟩ : ∃ x : Pm n, toPm n p = x := ⟨_, rfl⟩
    rw [hx] at hpl
    rw [Int.toNat_natCast, hO, hR, hx]
    rw [hO, hR] at hl hG
    obtain ⟨X, hX⟩ : ∃ X, w.heap.size = X := ⟨_, rfl⟩
    have hB0 := BoxW.start w X n ab ao c bb bo e hX
    obtain ⟨W1, hW1⟩ : ∃ W1, W1 = w.alloc (.cells #[.int .i64 (n : Int), .slice (some ⟨ab, ao, none⟩) n c, .slice (some ⟨bb, bo, none⟩) n e] 25) := ⟨_, rfl⟩
    rw [← hW1] at hB0
    have hwW : Below w.heap.size w W1 := by rw [hX]; exact hB0.bel
    have hchk1 := hchk W1 hwW
    subst hpl
    have hpw := pm_of_ints (c := c0) hn0 hp
    rw [hpn] at hchk1 ⊢
    have HPW := Lib.hid hpw
    obtain ⟨pb, po, pc, hpe, _⟩ := id hpw
    cases hpe
    clear hpw
    have H := Lib.hid (And.intro hchk1 (And.intro hB0 (And.intro hwW (And.intro hX (And.intro hl hG)))))
    obtain ⟨z0, z1, z2⟩ : W1.cell? ⟨X, 0, none⟩ = some (.int .i64 (n : Int)) ∧ W1.cell? ⟨X, 1, none⟩ = some (.slice (some ⟨ab, ao, none⟩) n c) ∧ W1.cell? ⟨X, 2, none⟩ = some (.slice (some ⟨bb, bo, none⟩) n e) := ⟨hB0.c0, hB0.c1, hB0.c2⟩
    clear hchk1 hB0 hwW hl hG hchk h hc hd1 hd2 hv hO hR hE hE1 hp hpn hx
    go_enter Tryz.func64, Tryz.ntmps64
    try rw [hX]
    go_wp2_with (first
      | (go_at_call 112; refine (sift112 hn0 hn H.out.2.2.2.2.2 (H.out.2.2.2.2.1.below H2.out.2) (HPW.out.below H2.out.2)).mono ?_; rintro e1 w3 ⟨v3, rfl, k3⟩; have hB3 := H2.out.1.below (k3.mono H2.out.1.lt); have d0 := hB3.c0; have H3 := Lib.hid (below_trans H2.out.2 k3); clear k3 hB3)
      | (go_at_call 111; (try rw [← hW1]); clear hW1 z0 z1 z2; (with_reducible refine H.out.1.mono ?_); rintro e1 w2 ⟨rfl, k2⟩; have hB2 := H.out.2.1.below (k2.mono H.out.2.1.lt); have b0 := hB2.c0; have b1 := hB2.c1; have b2 := hB2.c2; have hw2 := below_trans H.out.2.2.1 k2; have H2 := Lib.hid (And.intro hB2 hw2); clear hB2 hw2 k2))
    refine bodyPost_ret (v := .tuple #[.bool (((sfG O R n 0 x : Nat) : Int) == (n : Int)), .int .i64 0]) (by simp [results, Tryz.results64, go_sem]) rfl ?_
    have hb4 := H3.out
    rw [H.out.2.2.2.1] at hb4
    have he : (((sfG O R n 0 x : Nat) : Int) == (n : Int)) = decide (sfG O R n 0 x = n) := by
      rw [Bool.eq_iff_iff, beq_iff_eq, decide_eq_true_iff]; omega
    rw [he]
    exact ⟨rfl, hb4⟩
set_option maxRecDepth 100000 in
set_option maxHeartbeats 1000000 in
theorem size12 {w : World} {v : Value} {d : Int} {os : List (List Int)} {rs : List (List (List Int))} (h : ChV w v d os rs) (hc : CapV w v) (hd : ¬ (8 < d ∧ d ≤ 64)) :
    Calls Tryz.prog 12 #[v] w fun e w' => e = .returned (.tuple #[.int .i64 (sizeN d os rs : Int), .int .i64 (chkE d os rs)]) ∧ Below w.heap.size w w' := by
  obtain ⟨E, hE⟩ : ∃ E, chkE d os rs = E := ⟨_, rfl⟩
  have hchk := fun (W : World) (hb : Below w.heap.size w W) => chk54 (h.below hb)
  rw [hE] at hchk
  by_cases hE0 : E = 0
  · subst hE0
    have hE1 := hE
    obtain ⟨hd1, hd2, hv⟩ := chkE_zero hE1
    obtain ⟨n, rfl⟩ : ∃ n : Nat, d = n := ⟨d.toNat, by omega⟩
    have hn0 : 0 < n := by omega
    have hn : n ≤ 8 := by omega
    rw [Int.toNat_natCast] at hv
    obtain ⟨ab, ao, c, bb, bo, e, rfl, hl⟩ := lev_of h hc hv (by omega) (by omega)
    have hG := hv.chG
    obtain ⟨O, hO⟩ : ∃ O, orbV n os rs = O := ⟨_, rfl⟩
    obtain ⟨R, hR⟩ : ∃ R, repV n os rs = R := ⟨_, rfl⟩
    have hN : sizeN n os rs = szF O n 0 := by unfold sizeN; rw [if_pos hE, Int.toNat_natCast, hO]
    rw [hO, hR] at hl hG
    rw [hN, hE]
    obtain ⟨X, hX⟩ : ∃ X, w.heap.size = X := ⟨_, rfl⟩
    have hB0 := BoxW.start w X n ab ao c bb bo e hX
    obtain ⟨W1, hW1⟩ : ∃ W1, W1 = w.alloc (.cells #[.int .i64 (n : Int), .slice (some ⟨ab, ao, none⟩) n c, .slice (some ⟨bb, bo, none⟩) n e] 25) := ⟨_, rfl⟩
    rw [← hW1] at hB0
    have hwW : Below w.heap.size w W1 := by rw [hX]; exact hB0.bel
    have hchk1 := hchk W1 hwW
    have H := Lib.hid (And.intro hchk1 (And.intro hB0 (And.intro hwW (And.intro hX (And.intro hl hG)))))
    obtain ⟨z0, z1, z2⟩ : W1.cell? ⟨X, 0, none⟩ = some (.int .i64 (n : Int)) ∧ W1.cell? ⟨X, 1, none⟩ = some (.slice (some ⟨ab, ao, none⟩) n c) ∧ W1.cell? ⟨X, 2, none⟩ = some (.slice (some ⟨bb, bo, none⟩) n e) := ⟨hB0.c0, hB0.c1, hB0.c2⟩
    clear hchk1 hB0 hwW hl hG hchk h hc hd hd1 hd2 hv hO hR hE hE1 hN
    go_enter Tryz.func12, Tryz.ntmps12
    try rw [hX]
    go_wp2_with (first
      | (go_at_call 55; refine (siz55 hn0 hn H.out.2.2.2.2.2 (H.out.2.2.2.2.1.below H2.out.2)).mono ?_; rintro e1 w3 ⟨g, cap, rfl, k1, k3⟩; have d0 := k1.2 0 (by omega); rw [Nat.sub_zero] at d0; have H3 := Lib.hid (And.intro k1 (below_trans H2.out.2 k3)); clear k1 k3)
      | (go_at_call 54; (try rw [← hW1]); clear hW1 z0 z1 z2; (with_reducible refine H.out.1.mono ?_); rintro e1 w2 ⟨rfl, k2⟩; have hB2 := H.out.2.1.below (k2.mono H.out.2.1.lt); have b0 := hB2.c0; have b1 := hB2.c1; have b2 := hB2.c2; have hw2 := below_trans H.out.2.2.1 k2; have H2 := Lib.hid (And.intro hB2 hw2); clear hB2 hw2 k2))
    refine bodyPost_ret (v := .tuple #[.int .i64 (szF O n 0 : Int), .int .i64 0]) (by simp [results, Tryz.results12, go_sem]) rfl ?_
    have hb3 := H3.out.2
    rw [H.out.2.2.2.1] at hb3
    exact ⟨rfl, hb3⟩
  · obtain ⟨a1, c1, b1, e1, rfl, h1, h2⟩ := h
    have hN : sizeN d os rs = 0 := by unfold sizeN; rw [if_neg (by rw [hE]; exact hE0)]
    rw [hN, hE]
    have hx : (E != 0) = true := by simp [hE0]
    obtain ⟨lo, hlo⟩ : ∃ l, os.length = l := ⟨_, rfl⟩
    obtain ⟨lr, hlr⟩ : ∃ l, rs.length = l := ⟨_, rfl⟩
    rw [hlo, hlr] at hchk ⊢
    have HC := Lib.hid hchk
    clear hchk h1 h2 hlo hlr hc hd hE hE0 hN
    go_enter Tryz.func12, Tryz.ntmps12
    go_wp2_with (go_at_call 54; refine (HC.out _ (alloc_b (Below.refl _ _) _)).mono ?_; rintro e w2 ⟨rfl, k2⟩; have H2 := Lib.hid (below_trans (alloc_b (Below.refl _ _) _) k2); clear k2)
    refine bodyPost_ret (v := .tuple #[.int .i64 0, .int .i64 E]) (by simp [results, Tryz.results12, go_sem]) rfl ?_
    exact ⟨rfl, H2.out⟩
set_option maxRecDepth 100000 in
set_option maxHeartbeats 1000000 in
theorem size13 {w : World} {v : Value} {d : Int} {os : List (List Int)} {rs : List (List (List Int))} (h : ChV w v d os rs) (hc : CapV w v) (hd : ¬ (8 < d ∧ d ≤ 64)) :
    Calls Tryz.prog 13 #[v] w fun e w' => e = .returned (.tuple #[.int .i64 (sizeN d os rs : Int), .int .i64 (chkE d os rs)]) ∧ Below w.heap.size w w' := by
  obtain ⟨E, hE⟩ : ∃ E, chkE d os rs = E := ⟨_, rfl⟩
  have hchk := fun (W : World) (hb : Below w.heap.size w W) => chk56 (h.below hb)
  rw [hE] at hchk
  by_cases hE0 : E = 0
  · subst hE0
    have hE1 := hE
    obtain ⟨hd1, hd2, hv⟩ := chkE_zero hE1
    obtain ⟨n, rfl⟩ : ∃ n : Nat, d = n := ⟨d.toNat, by omega⟩
    have hn0 : 0 < n := by omega
    have hn : n ≤ 8 := by omega
    rw [Int.toNat_natCast] at hv
    obtain ⟨ab, ao, c, bb, bo, e, rfl, hl⟩ := lev_of h hc hv (by omega) (by omega)
    have hG := hv.chG
    obtain ⟨O, hO⟩ : ∃ O, orbV n os rs = O := ⟨_, rfl⟩
    obtain ⟨R, hR⟩ : ∃ R, repV n os rs = R := ⟨_, rfl⟩
    have hN : sizeN n os rs = szF O n 0 := by unfold sizeN; rw [if_pos hE, Int.toNat_natCast, hO]
    rw [hO, hR] at hl hG
    rw [hN, hE]
    obtain ⟨X, hX⟩ : ∃ X, w.heap.size = X := ⟨_, rfl⟩
    have hB0 := BoxW.start w X n ab ao c bb bo e hX
    obtain ⟨W1, hW1⟩ : ∃ W1, W1 = w.alloc (.cells #[.int .i64 (n : Int), .slice (some ⟨ab, ao, none⟩) n c, .slice (some ⟨bb, bo, none⟩) n e] 25) := ⟨_, rfl⟩
    rw [← hW1] at hB0
    have hwW : Below w.heap.size w W1 := by rw [hX]; exact hB0.bel
    have hchk1 := hchk W1 hwW
    have H := Lib.hid (And.intro hchk1 (And.intro hB0 (And.intro hwW (And.intro hX (And.intro hl hG)))))
    obtain ⟨z0, z1, z2⟩ : W1.cell? ⟨X, 0, none⟩ = some (.int .i64 (n : Int)) ∧ W1.cell? ⟨X, 1, none⟩ = some (.slice (some ⟨ab, ao, none⟩) n c) ∧ W1.cell? ⟨X, 2, none⟩ = some (.slice (some ⟨bb, bo, none⟩) n e) := ⟨hB0.c0, hB0.c1, hB0.c2⟩
    clear hchk1 hB0 hwW hl hG hchk h hc hd hd1 hd2 hv hO hR hE hE1 hN
    go_enter Tryz.func13, Tryz.ntmps13
    try rw [hX]
    go_wp2_with (first
      | (go_at_call 57; refine (siz57 hn0 hn H.out.2.2.2.2.2 (H.out.2.2.2.2.1.below H2.out.2)).mono ?_; rintro e1 w3 ⟨g, cap, rfl, k1, k3⟩; have d0 := k1.2 0 (by omega); rw [Nat.sub_zero] at d0; have H3 := Lib.hid (And.intro k1 (below_trans H2.out.2 k3)); clear k1 k3)
      | (go_at_call 56; (try rw [← hW1]); clear hW1 z0 z1 z2; (with_reducible refine H.out.1.mono ?_); rintro e1 w2 ⟨rfl, k2⟩; have hB2 := H.out.2.1.below (k2.mono H.out.2.1.lt); have b0 := hB2.c0; have b1 := hB2.c1; have b2 := hB2.c2; have hw2 := below_trans H.out.2.2.1 k2; have H2 := Lib.hid (And.intro hB2 hw2); clear hB2 hw2 k2))
    refine bodyPost_ret (v := .tuple #[.int .i64 (szF O n 0 : Int), .int .i64 0]) (by simp [results, Tryz.results13, go_sem]) rfl ?_
    have hb3 := H3.out.2
    rw [H.out.2.2.2.1] at hb3
    exact ⟨rfl, hb3⟩
  · obtain ⟨a1, c1, b1, e1, rfl, h1, h2⟩ := h
    have hN : sizeN d os rs = 0 := by unfold sizeN; rw [if_neg (by rw [hE]; exact hE0)]
    rw [hN, hE]
    have hx : (E != 0) = true := by simp [hE0]
    obtain ⟨lo, hlo⟩ : ∃ l, os.length = l := ⟨_, rfl⟩
    obtain ⟨lr, hlr⟩ : ∃ l, rs.length = l := ⟨_, rfl⟩
    rw [hlo, hlr] at hchk ⊢
    have HC := Lib.hid hchk
    clear hchk h1 h2 hlo hlr hc hd hE hE0 hN
    go_enter Tryz.func13, Tryz.ntmps13
    go_wp2_with (go_at_call 56; refine (HC.out _ (alloc_b (Below.refl _ _) _)).mono ?_; rintro e w2 ⟨rfl, k2⟩; have H2 := Lib.hid (below_trans (alloc_b (Below.refl _ _) _) k2); clear k2)
    refine bodyPost_ret (v := .tuple #[.int .i64 0, .int .i64 E]) (by simp [results, Tryz.results13, go_sem]) rfl ?_
    exact ⟨rfl, H2.out⟩
set_option maxRecDepth 100000 in
set_option maxHeartbeats 1000000 in
theorem least18 {w : World} {v : Value} {d : Int} {os : List (List Int)} {rs : List (List (List Int))} {a0 : Option Addr} {c0 : Nat} {p : List Int} (h : ChV w v d os rs) (hc : CapV w v) (hd : ¬ (8 < d ∧ d ≤ 64)) (hp : Ints w a0 p) :
    Calls Tryz.prog 18 #[v, .slice a0 p.length c0] w fun e w' => (∃ a1 c1, e = .returned (.tuple #[.slice a1 (lstL d os rs p).length c1, .int .i64 (memE d os rs p)]) ∧ Ints w' a1 (lstL d os rs p)) ∧ Below w.heap.size w w' := by
  obtain ⟨E, hE⟩ : ∃ E, memE d os rs p = E := ⟨_, rfl⟩
  have hchk := fun (W : World) (hb : Below w.heap.size w W) => mem58 (c := c0) (h.below hb) (hp.below hb)
  rw [hE] at hchk
  by_cases hE0 : E = 0
  · subst hE0
    obtain ⟨hE1, _, _⟩ := memE_zero hE
    obtain ⟨hpl, hpn⟩ := mem_pm hE
    obtain ⟨hd1, hd2, hv⟩ := chkE_zero hE1
    obtain ⟨n, rfl⟩ : ∃ n : Nat, d = n := ⟨d.toNat, by omega⟩
    have hn0 : 0 < n := by omega
    have hn : n ≤ 8 := by omega
    rw [Int.toNat_natCast] at hv
    obtain ⟨ab, ao, c, bb, bo, e, rfl, hl⟩ := lev_of h hc hv (by omega) (by omega)
    have hG := hv.chG
    obtain ⟨O, hO⟩ : ∃ O, orbV n os rs = O := ⟨_, rfl⟩
    obtain ⟨R, hR⟩ : ∃ R, repV n os rs = R := ⟨_, rfl⟩
    rw [Int.toNat_natCast] at hpl hpn
    have hN : lstL n os rs p = (lstF O R n 0 (toPm n p)).l := by unfold lstL; rw [if_pos hE, Int.toNat_natCast, hO, hR]
    obtain ⟨x, hx⟩ : ∃ x : Pm n, toPm n p = x := ⟨_, rfl⟩
    rw [hx] at hN hpl
    rw [hO, hR] at hl hG
    rw [hN, hE]
    obtain ⟨X, hX⟩ : ∃ X, w.heap.size = X := ⟨_, rfl⟩
    have hB0 := BoxW.start w X n ab ao c bb bo e hX
    obtain ⟨W1, hW1⟩ : ∃ W1, W1 = w.alloc (.cells #[.int .i64 (n : Int), .slice (some ⟨ab, ao, none⟩) n c, .slice (some ⟨bb, bo, none⟩) n e] 25) := ⟨_, rfl⟩
    rw [← hW1] at hB0
    have hwW : Below w.heap.size w W1 := by rw [hX]; exact hB0.bel
    have hchk1 := hchk W1 hwW
    subst hpl
    have hpw := pm_of_ints (c := c0) hn0 hp
    rw [hpn] at hchk1 ⊢
    have HPW := Lib.hid hpw
    obtain ⟨pb, po, pc, hpe, _⟩ := id hpw
    cases hpe
    clear hpw
    have H := Lib.hid (And.intro hchk1 (And.intro hB0 (And.intro hwW (And.intro hX (And.intro hl hG)))))
    obtain ⟨z0, z1, z2⟩ : W1.cell? ⟨X, 0, none⟩ = some (.int .i64 (n : Int)) ∧ W1.cell? ⟨X, 1, none⟩ = some (.slice (some ⟨ab, ao, none⟩) n c) ∧ W1.cell? ⟨X, 2, none⟩ = some (.slice (some ⟨bb, bo, none⟩) n e) := ⟨hB0.c0, hB0.c1, hB0.c2⟩
    clear hchk1 hB0 hwW hl hG hchk h hc hd hd1 hd2 hv hO hR hE hE1 hN hp hpn hx
    go_enter Tryz.func18, Tryz.ntmps18
    try rw [hX]
    go_wp2_with (first
      | (go_at_call 67; (with_reducible refine H3.out.1.mono ?_); rintro e1 w4 ⟨v4, rfl, k1, k2⟩; have H4 := Lib.hid (And.intro k1 k2); clear k1 k2)
      | (go_at_call 68; refine (least68 hn0 (by omega) H.out.2.2.2.2.2 (H.out.2.2.2.2.1.below H2.out.2) (HPW.out.below H2.out.2)).mono ?_; rintro e1 w3 ⟨v3, rfl, k1, k3⟩; obtain ⟨ra, rc, hre, hri⟩ := k1.ints (by omega); have hrl := (lstF O R n 0 x).ok.1; rw [hrl] at hre; cases hre; have hcl := clone67 ra rc _ w3 hri (by rw [hrl]; omega); rw [hrl] at hcl; have H3 := Lib.hid (And.intro hcl (below_trans H2.out.2 k3)); clear k1 k3 hcl hri hrl)
      | (go_at_call 58; (try rw [← hW1]); clear hW1 z0 z1 z2; (with_reducible refine H.out.1.mono ?_); rintro e1 w2 ⟨rfl, k2⟩; have hB2 := H.out.2.1.below (k2.mono H.out.2.1.lt); have b0 := hB2.c0; have b1 := hB2.c1; have b2 := hB2.c2; have hw2 := below_trans H.out.2.2.1 k2; have H2 := Lib.hid (And.intro hB2 hw2); clear hB2 hw2 k2))
    obtain ⟨a4, c4, rfl, hi4⟩ := H4.out.1.ints (by rw [(lstF O R n 0 x).ok.1]; unfold maxLen; omega)
    refine bodyPost_ret (v := .tuple #[.slice a4 (lstF O R n 0 x).l.length c4, .int .i64 0]) (by simp [results, Tryz.results18, go_sem]) rfl ?_
    have hb4 := below_trans H3.out.2 H4.out.2
    rw [H.out.2.2.2.1] at hb4
    exact ⟨⟨a4, c4, rfl, hi4⟩, hb4⟩
  · obtain ⟨a1, c1, b1, e1, rfl, h1, h2⟩ := h
    have hN : lstL d os rs p = [] := by unfold lstL; rw [if_neg (by rw [hE]; exact hE0)]
    obtain ⟨lp, hlp⟩ : ∃ l, p.length = l := ⟨_, rfl⟩
    rw [hlp] at hchk ⊢
    rw [hN, hE]
    have hx : (E != 0) = true := by simp [hE0]
    obtain ⟨lo, hlo⟩ : ∃ l, os.length = l := ⟨_, rfl⟩
    obtain ⟨lr, hlr⟩ : ∃ l, rs.length = l := ⟨_, rfl⟩
    rw [hlo, hlr] at hchk ⊢
    have HC := Lib.hid hchk
    clear hchk h1 h2 hlo hlr hc hd hE hE0 hN hp hlp
    go_enter Tryz.func18, Tryz.ntmps18
    go_wp2_with (go_at_call 58; refine (HC.out _ (alloc_b (Below.refl _ _) _)).mono ?_; rintro e w2 ⟨rfl, k2⟩; have H2 := Lib.hid (below_trans (alloc_b (Below.refl _ _) _) k2); clear k2)
    refine bodyPost_ret (v := .tuple #[.slice none 0 0, .int .i64 E]) (by simp [results, Tryz.results18, go_sem]) rfl ?_
    exact ⟨⟨_, _, rfl, ⟨Nat.zero_le _, fun i u hu => by simp at hu⟩⟩, H2.out⟩
set_option maxRecDepth 100000 in
set_option maxHeartbeats 1000000 in
theorem least19 {w : World} {v : Value} {d : Int} {os : List (List Int)} {rs : List (List (List Int))} {a0 : Option Addr} {c0 : Nat} {p : List Int} (h : ChV w v d os rs) (hc : CapV w v) (hd : ¬ (8 < d ∧ d ≤ 64)) (hp : Ints w a0 p) :
    Calls Tryz.prog 19 #[v, .slice a0 p.length c0] w fun e w' => (∃ a1 c1, e = .returned (.tuple #[.slice a1 (lstL d os rs p).length c1, .int .i64 (memE d os rs p)]) ∧ Ints w' a1 (lstL d os rs p)) ∧ Below w.heap.size w w' := by
  obtain ⟨E, hE⟩ : ∃ E, memE d os rs p = E := ⟨_, rfl⟩
  have hchk := fun (W : World) (hb : Below w.heap.size w W) => mem63 (c := c0) (h.below hb) (hp.below hb)
  rw [hE] at hchk
  by_cases hE0 : E = 0
  · subst hE0
    obtain ⟨hE1, _, _⟩ := memE_zero hE
    obtain ⟨hpl, hpn⟩ := mem_pm hE
    obtain ⟨hd1, hd2, hv⟩ := chkE_zero hE1
    obtain ⟨n, rfl⟩ : ∃ n : Nat, d = n := ⟨d.toNat, by omega⟩
    have hn0 : 0 < n := by omega
    have hn : n ≤ 8 := by omega
    rw [Int.toNat_natCast] at hv
    obtain ⟨ab, ao, c, bb, bo, e, rfl, hl⟩ := lev_of h hc hv (by omega) (by omega)
    have hG := hv.chG
    obtain ⟨O, hO⟩ : ∃ O, orbV n os rs = O := ⟨_, rfl⟩
    obtain ⟨R, hR⟩ : ∃ R, repV n os rs = R := ⟨_, rfl⟩
    rw [Int.toNat_natCast] at hpl hpn
    have hN : lstL n os rs p = (lstF O R n 0 (toPm n p)).l := by unfold lstL; rw [if_pos hE, Int.toNat_natCast, hO, hR]
    obtain ⟨x, hx⟩ : ∃ x : Pm n, toPm n p = x := ⟨_, rfl⟩
    rw [hx] at hN hpl
    rw [hO, hR] at hl hG
    rw [hN, hE]
    obtain ⟨X, hX⟩ : ∃ X, w.heap.size = X := ⟨_, rfl⟩
    have hB0 := BoxW.start w X n ab ao c bb bo e hX
    obtain ⟨W1, hW1⟩ : ∃ W1, W1 = w.alloc (.cells #[.int .i64 (n : Int), .slice (some ⟨ab, ao, none⟩) n c, .slice (some ⟨bb, bo, none⟩) n e] 25) := ⟨_, rfl⟩
    rw [← hW1] at hB0
    have hwW : Below w.heap.size w W1 := by rw [hX]; exact hB0.bel
    have hchk1 := hchk W1 hwW
    subst hpl
    have hpw := pm_of_ints (c := c0) hn0 hp
    rw [hpn] at hchk1 ⊢
    have HPW := Lib.hid hpw
    obtain ⟨pb, po, pc, hpe, _⟩ := id hpw
    cases hpe
    clear hpw
    have H := Lib.hid (And.intro hchk1 (And.intro hB0 (And.intro hwW (And.intro hX (And.intro hl hG)))))
    obtain ⟨z0, z1, z2⟩ : W1.cell? ⟨X, 0, none⟩ = some (.int .i64 (n : Int)) ∧ W1.cell? ⟨X, 1, none⟩ = some (.slice (some ⟨ab, ao, none⟩) n c) ∧ W1.cell? ⟨X, 2, none⟩ = some (.slice (some ⟨bb, bo, none⟩) n e) := ⟨hB0.c0, hB0.c1, hB0.c2⟩
    clear hchk1 hB0 hwW hl hG hchk h hc hd hd1 hd2 hv hO hR hE hE1 hN hp hpn hx
    go_enter Tryz.func19, Tryz.ntmps19
    try rw [hX]
    go_wp2_with (first
      | (go_at_call 69; refine (least69 hn0 (by omega) H.out.2.2.2.2.2 (H.out.2.2.2.2.1.below H2.out.2) (HPW.out.below H2.out.2)).mono ?_; rintro e1 w3 ⟨v3, rfl, k1, k3⟩; have H3 := Lib.hid (And.intro k1 (below_trans H2.out.2 k3)); clear k1 k3)
      | (go_at_call 63; (try rw [← hW1]); clear hW1 z0 z1 z2; (with_reducible refine H.out.1.mono ?_); rintro e1 w2 ⟨rfl, k2⟩; have hB2 := H.out.2.1.below (k2.mono H.out.2.1.lt); have b0 := hB2.c0; have b1 := hB2.c1; have b2 := hB2.c2; have hw2 := below_trans H.out.2.2.1 k2; have H2 := Lib.hid (And.intro hB2 hw2); clear hB2 hw2 k2))
    obtain ⟨a4, c4, rfl, hi4⟩ := H3.out.1.ints (by omega)
    refine bodyPost_ret (v := .tuple #[.slice a4 (lstF O R n 0 x).l.length c4, .int .i64 0]) (by simp [results, Tryz.results19, go_sem]) rfl ?_
    have hb4 := H3.out.2
    rw [H.out.2.2.2.1] at hb4
    exact ⟨⟨a4, c4, rfl, hi4⟩, hb4⟩
  · obtain ⟨a1, c1, b1, e1, rfl, h1, h2⟩ := h
    have hN : lstL d os rs p = [] := by unfold lstL; rw [if_neg (by rw [hE]; exact hE0)]
    obtain ⟨lp, hlp⟩ : ∃ l, p.length = l := ⟨_, rfl⟩
    rw [hlp] at hchk ⊢
    rw [hN, hE]
    have hx : (E != 0) = true := by simp [hE0]
    obtain ⟨lo, hlo⟩ : ∃ l, os.length = l := ⟨_, rfl⟩
    obtain ⟨lr, hlr⟩ : ∃ l, rs.length = l := ⟨_, rfl⟩
    rw [hlo, hlr] at hchk ⊢
    have HC := Lib.hid hchk
    clear hchk h1 h2 hlo hlr hc hd hE hE0 hN hp hlp
    go_enter Tryz.func19, Tryz.ntmps19
    go_wp2_with (go_at_call 63; refine (HC.out _ (alloc_b (Below.refl _ _) _)).mono ?_; rintro e w2 ⟨rfl, k2⟩; have H2 := Lib.hid (below_trans (alloc_b (Below.refl _ _) _) k2); clear k2)
    refine bodyPost_ret (v := .tuple #[.slice none 0 0, .int .i64 E]) (by simp [results, Tryz.results19, go_sem]) rfl ?_
    exact ⟨⟨_, _, rfl, ⟨Nat.zero_le _, fun i u hu => by simp at hu⟩⟩, H2.out⟩
end Go.Proofs.YtbejhkojdiadaaaGreat
