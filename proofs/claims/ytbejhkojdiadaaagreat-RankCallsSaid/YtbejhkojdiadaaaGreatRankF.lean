/- Rank and Unrank on both sides. -/
import Derived.Test.YtbejhkojdiadaaaGreatRankE
set_option linter.unusedSimpArgs false
set_option linter.unusedVariables false
namespace Go.Proofs.YtbejhkojdiadaaaGreat
open Go.RowKit PlainPm
theorem srtI_perm (l : List Int) : (srtI l).Perm l := List.mergeSort_perm _ _
theorem srtI_sorted (l : List Int) : (srtI l).Pairwise (· ≤ ·) := by
  have := List.pairwise_mergeSort (le := fun x y : Int => decide (x ≤ y)) (fun a b c h1 h2 => by simp at *; omega) (fun a b => by simp; omega) l
  exact this.imp (by simp)
theorem bs_rank {n c g : Nat} {z : Pm n} {l : List Nat} (hl : ∀ p ∈ l, p < n) {V : World} (hV : ∀ j u, (ints (srtI (nts (l.map z.at))))[j]? = some u → V.cell? ⟨g, j, none⟩ = some u) (h64 : l.length ≤ 64) {t C0 : Nat} {B0 : Bool} (hC : cnt z l t = C0) (hB : decide (z.inv.at t ∈ l) = B0) (ht : t < n) :
    Calls Tryz.prog 60 #[.slice (some ⟨g, 0, none⟩) (srtI (nts (l.map z.at))).length c, .int .i64 (t : Int)] V fun e w' => e = .returned (.tuple #[.int .i64 (C0 : Int), .bool B0]) ∧ ∃ q, w' = V.drewN q := by
  have hlen : (srtI (nts (l.map z.at))).length = l.length := by rw [srtI_len, nts_len, List.length_map]
  refine (bs60 (c := c) (x := (t : Int)) (by rw [hlen]; exact h64) (fun j hj => hV j _ ?_) (srtI_sorted _)).mono ?_
  · rw [ints_get hj, List.getD_eq_getElem?_getD]
  · rintro e w' ⟨rfl, hq⟩
    refine ⟨?_, hq⟩
    have h1 : (srtI (nts (l.map z.at))).countP (fun v => decide (v < (t : Int))) = C0 := by
      rw [(srtI_perm _).countP_eq, ← hC]
      unfold cnt nts
      rw [List.map_map, List.countP_map]
      congr 1
      funext q
      simp
    have h2 : (srtI (nts (l.map z.at))).contains (t : Int) = B0 := by
      rw [← hB, Bool.eq_iff_iff, decide_eq_true_iff, List.contains_iff_mem, (srtI_perm _).mem_iff]
      unfold nts
      rw [List.map_map, List.mem_map]
      constructor
      · rintro ⟨q, hq, he⟩
        have he' : z.at q = t := by simp at he; omega
        have : z.inv.at t = q := by rw [← he']; exact z.inv_of (hl q hq)
        rw [this]; exact hq
      · intro hm
        exact ⟨_, hm, by simp [(z.inv_at ht).2]⟩
    rw [h1, h2]
set_option maxRecDepth 100000 in
set_option maxHeartbeats 1000000 in
theorem rank14 {w : World} {v : Value} {d : Int} {os : List (List Int)} {rs : List (List (List Int))} {a0 : Option Addr} {c0 : Nat} {p : List Int} (h : ChV w v d os rs) (hc : CapV w v) (hd : ¬ (8 < d ∧ d ≤ 64)) (hp : Ints w a0 p) :
    Calls Tryz.prog 14 #[v, .slice a0 p.length c0] w fun e w' => e = .returned (.tuple #[.int .i64 (rankN d os rs p : Int), .int .i64 (rankE d os rs p)]) ∧ Below w.heap.size w w' := by
  obtain ⟨E, hE⟩ : ∃ E, memE d os rs p = E := ⟨_, rfl⟩
  have hchk := fun (W : World) (hb : Below w.heap.size w W) => mem58 (c := c0) (h.below hb) (hp.below hb)
  rw [hE] at hchk
  by_cases hE0 : E = 0
  · subst hE0
    obtain ⟨hE1, _, _⟩ := memE_zero hE
    obtain ⟨hpl, hpn⟩ := mem_pm hE
    obtain ⟨hd1, hd2, hv⟩ := chkE_zero hE1
    obtain ⟨n, rfl⟩ : ∃ n : Nat, d = n := ⟨d.toNat, by omega⟩
    have hn0 : 0 < n := by omega
    have hn : n ≤ 8 := by omega
    rw [Int.toNat_natCast] at hv
    obtain ⟨ab, ao, c, bb, bo, e, rfl, hl⟩ := lev_of h hc hv (by omega) (by omega)
    have hG := hv.chG
    obtain ⟨O, hO⟩ : ∃ O, orbV n os rs = O := ⟨_, rfl⟩
    obtain ⟨R, hR⟩ : ∃ R, repV n os rs = R := ⟨_, rfl⟩
    rw [Int.toNat_natCast] at hpl hpn
    obtain ⟨x, hx⟩ : ∃ x : Pm n, toPm n p = x := ⟨_, rfl⟩
    have hN0 : rankO n os rs p = rkF O R x n 0 (PlainPm.one n) 0 := by unfold rankO; rw [Int.toNat_natCast, hO, hR, hx]
    have hN : rankN n os rs p = (rkF O R x n 0 (PlainPm.one n) 0).getD 0 := by unfold rankN; rw [if_pos hE, hN0]
    have hNE : rankE n os rs p = if (rkF O R x n 0 (PlainPm.one n) 0).isSome then 0 else 18 := by unfold rankE; rw [if_pos hE, hN0]
    rw [hx] at hpl
    rw [hO, hR] at hl hG
    rw [hN, hNE]
    obtain ⟨X, hX⟩ : ∃ X, w.heap.size = X := ⟨_, rfl⟩
    have hB0 := BoxW.start w X n ab ao c bb bo e hX
    obtain ⟨W1, hW1⟩ : ∃ W1, W1 = w.alloc (.cells #[.int .i64 (n : Int), .slice (some ⟨ab, ao, none⟩) n c, .slice (some ⟨bb, bo, none⟩) n e] 25) := ⟨_, rfl⟩
    rw [← hW1] at hB0
    have hwW : Below w.heap.size w W1 := by rw [hX]; exact hB0.bel
    have hchk1 := hchk W1 hwW
    subst hpl
    have hpw := pm_of_ints (c := c0) hn0 hp
    rw [hpn] at hchk1 ⊢
    have HPW := Lib.hid hpw
    obtain ⟨pb, po, pc, hpe, _⟩ := id hpw
    cases hpe
    clear hpw
    obtain ⟨NN, hNN⟩ : ∃ N, (rkF O R x n 0 (PlainPm.one n) 0).getD 0 = N := ⟨_, rfl⟩
    obtain ⟨EE, hEE⟩ : ∃ E : Int, (if (rkF O R x n 0 (PlainPm.one n) 0).isSome = true then 0 else 18) = E := ⟨_, rfl⟩
    rw [hNN, hEE]
    have HF := Lib.hid (And.intro hNN hEE)
    clear hNN hEE
    have H := Lib.hid (And.intro hchk1 (And.intro hB0 (And.intro hwW (And.intro hX (And.intro hl hG)))))
    obtain ⟨z0, z1, z2⟩ : W1.cell? ⟨X, 0, none⟩ = some (.int .i64 (n : Int)) ∧ W1.cell? ⟨X, 1, none⟩ = some (.slice (some ⟨ab, ao, none⟩) n c) ∧ W1.cell? ⟨X, 2, none⟩ = some (.slice (some ⟨bb, bo, none⟩) n e) := ⟨hB0.c0, hB0.c1, hB0.c2⟩
    clear hchk1 hB0 hwW hl hG hchk h hc hd hd1 hd2 hv hO hR hE hE1 hN hNE hN0 hp hpn hx
    go_enter Tryz.func14, Tryz.ntmps14
    try rw [hX]
    go_wp2_with (first
      | (go_at_call 59; refine (one59 (by omega)).mono ?_; rintro e1 w4 ⟨v4, rfl, k1, k2⟩; have hB4 := H3.out.2.1.below (k2.mono H3.out.2.1.lt); have d0 := hB4.c0; have d1 := hB4.c1; have d2 := hB4.c2; have H4 := Lib.hid (And.intro k1 (And.intro hB4 (H3.out.1.below k2))); clear k1 k2 hB4)
      | (go_at_call 55; refine (siz55 hn0 hn H.out.2.2.2.2.2 (H.out.2.2.2.2.1.below H2.out.2)).mono ?_; rintro e1 w3 ⟨g, cap, rfl, k1, k3⟩; have hB3 := H2.out.1.below (k3.mono H2.out.1.lt); have f0 := hB3.c0; have f1 := hB3.c1; have f2 := hB3.c2; have H3 := Lib.hid (And.intro k1 (And.intro hB3 (below_trans H2.out.2 k3))); clear k1 k3 hB3)
      | (go_at_call 58; (try rw [← hW1]); clear hW1 z0 z1 z2; (with_reducible refine H.out.1.mono ?_); rintro e1 w2 ⟨rfl, k2⟩; have hB2 := H.out.2.1.below (k2.mono H.out.2.1.lt); have b0 := hB2.c0; have b1 := hB2.c1; have b2 := hB2.c2; have hw2 := below_trans H.out.2.2.1 k2; have H2 := Lib.hid (And.intro hB2 hw2); clear hB2 hw2 k2))
    go_loopw [9, 10, 11, 12, 13, 32] (fun acc yv _ _ _ i wr => ∃ (k A : Nat) (z : Pm n), k ≤ n ∧ i = .int .i64 (k : Int) ∧ acc = .int .i64 (A : Int) ∧ A ≤ k * 134217728 ∧ BoxW w X n ab ao c bb bo e wr ∧ PmV wr [] yv z ∧ SzW wr g n O ∧ rkF O R x (n - k) k z A = rkF O R x n 0 (PlainPm.one n) 0) (fun _ _ _ _ _ i _ => n - (intOf i).toNat)
    case atStart => exact ⟨0, 0, PlainPm.one n, by omega, rfl, rfl, by omega, H4.out.2.1, H4.out.1.pm (by simp), H4.out.2.2, rfl⟩
    case round =>
      obtain ⟨k, A, z, hk, rfl, rfl, hA, hb, hz, hs, he⟩ := hrel
      have hwr : Below w.heap.size w wr := by have h1 := hb.bel; rwa [← H.out.2.2.2.1] at h1
      by_cases hkn : k < n
      · have q0 := hb.c0
        have q1 := hb.c1
        have q2 := hb.c2
        obtain ⟨t, ht⟩ : ∃ t, x.at k = t := ⟨_, rfl⟩
        have htn : t < n := by rw [← ht]; exact x.lt hkn
        have q3 : wr.cell? ⟨pb, po + k, none⟩ = some (.int .i64 (t : Int)) := by
          obtain ⟨b', o', c', he', _, _, hc'⟩ := HPW.out.below hwr
          cases he'
          rw [← ht]; exact hc' k hkn
        have hlt := H.out.2.2.2.2.2.lt k hkn
        have hnd := H.out.2.2.2.2.2.nd k hkn
        have hsh := H.out.2.2.2.2.2.short hkn
        obtain ⟨L, hL⟩ : ∃ L, (srtI (nts ((O k).map z.at))).length = L := ⟨_, rfl⟩
        have hLl : (ints (srtI (nts ((O k).map z.at)))).length = L := by rw [ints_len, hL]
        have hL0 : 0 < L := by rw [← hL, srtI_len, nts_len, List.length_map]; exact H.out.2.2.2.2.2.pos hkn
        have hch := fun (V : World) (hV : Below wr.heap.size wr V) => (choices61 (c := c) (e := e) hkn hlt (H.out.2.2.2.2.1.below (below_trans hwr hV)) (hz.below hV)).mono (fun e1 w6 h6 => (show ∃ g6 c6, e1 = .returned (.slice (some ⟨g6, 0, none⟩) L c6) ∧ (∀ (j : Nat) u, (ints (srtI (nts ((O k).map z.at))))[j]? = some u → w6.cell? ⟨g6, j, none⟩ = some u) ∧ Below V.heap.size V w6 from by
          obtain ⟨v6, rfl, k1, k2⟩ := h6
          obtain ⟨g6, c6, rfl, _⟩ := k1.form (by rw [hLl]; exact hL0)
          rw [hLl] at k1 ⊢
          exact ⟨g6, c6, rfl, fun j u hu => (k1.cell j (List.getElem?_eq_some_iff.1 hu).1).trans hu, k2⟩))
        obtain ⟨C0, hC0⟩ : ∃ C, cnt z (O k) t = C := ⟨_, rfl⟩
        obtain ⟨q, hq⟩ : ∃ q, z.inv.at t = q := ⟨_, rfl⟩
        obtain ⟨B0, hB0⟩ : ∃ B, decide (q ∈ O k) = B := ⟨_, rfl⟩
        have hzq : z.at q = t := by rw [← hq]; exact (z.inv_at htn).2
        have hbs := fun (V : World) (g2 cap2 : Nat) (hV : ∀ j u, (ints (srtI (nts ((O k).map z.at))))[j]? = some u → V.cell? ⟨g2, j, none⟩ = some u) => bs_rank (c := cap2) (C0 := C0) (B0 := B0) hlt hV (Nat.le_trans hsh (by omega)) hC0 (by rw [hq]; exact hB0) htn
        obtain ⟨Z, hZ⟩ : ∃ Z, szF O (n - (k + 1)) (k + 1) = Z := ⟨_, rfl⟩
        have hZl2 : Z ≤ 16777216 := by
          have hZl := H.out.2.2.2.2.2.sz_le (m := 8) hn (f := n - (k + 1)) (i := k + 1) (by omega)
          rw [hZ] at hZl
          exact Nat.le_trans hZl (Nat.le_trans (Nat.pow_le_pow_right (by omega) (show n - (k + 1) ≤ 8 by omega)) (by decide))
        have q4 := hs.2 (k + 1) (by omega)
        rw [hZ] at q4
        have hC8 : C0 ≤ 8 := by have := cnt_le z (O k) t; omega
        have hCZ : C0 * Z ≤ 8 * 16777216 := Nat.mul_le_mul hC8 hZl2
        have hst := fun (hm : q ∈ O k) (V : World) (hV : Below wr.heap.size wr V) => step62 (c := c) (e := e) (by omega) hkn hlt hm (H.out.2.2.2.2.1.below (below_trans hwr hV)) (hz.below hV)
        rw [hzq] at hst
        have hnx : rkF O R x n 0 (PlainPm.one n) 0 = if q ∈ O k then rkF O R x (n - (k + 1)) (k + 1) ((R k q).mul z) (A + C0 * Z) else none := by
          rw [← he, show n - k = n - (k + 1) + 1 by omega, rkF, ht, hq, hC0, hZ]
        rw [hL] at hbs
        obtain ⟨zb, zo, zc, hze, _⟩ := id hz
        subst hze
        have HC := Lib.hid (And.intro hch (And.intro hbs (And.intro hst (And.intro hnx (And.intro hb (And.intro hs (And.intro hwr hB0)))))))
        have hA9 : A ≤ 1073741824 := by omega
        have hk1 : (k : Int) < n := by omega
        clear hch hbs hst hnx hb hs hwr hB0 hLl hL0 hL hz he hlt hnd hsh hC0 hq hzq hZ ht hC8
        go_wp2_with fail
        go_region_held3 (fun V => V.cell? ⟨X, 0, none⟩ = some (.int .i64 (n : Int)) ∧ V.cell? ⟨X, 1, none⟩ = some (.slice (some ⟨ab, ao, none⟩) n c) ∧ V.cell? ⟨X, 2, none⟩ = some (.slice (some ⟨bb, bo, none⟩) n e) ∧ V.cell? ⟨pb, po + k, none⟩ = some (.int .i64 (t : Int)) ∧ Below wr.heap.size wr V)
          (first
            | assumption
            | exact ⟨q0, q1, q2, q3, Below.refl _ _⟩
            | exact ⟨q0, q1, q2, q3, below_drew (Below.refl _ _)⟩
            | exact ⟨q0, q1, q2, q3, below_self_drewN _ _⟩
            | exact keep4 (by first | assumption | exact ⟨q0, q1, q2, q3, Below.refl _ _⟩ | exact ⟨q0, q1, q2, q3, below_drew (Below.refl _ _)⟩ | exact ⟨q0, q1, q2, q3, below_self_drewN _ _⟩) (by first | assumption | exact below_self_drewN _ _))
          (first
            | (go_at_call 60; (with_reducible refine (HC.out.2.1 _ _ _ (by exact H6.out.2)).mono ?_); rintro e1 w7 ⟨rfl, nd, rfl⟩)
            | (go_at_call 61; (with_reducible refine (HC.out.1 _ (by first | exact Below.refl _ _ | exact below_drew (Below.refl _ _) | exact below_self_drewN _ _ | assumption)).mono ?_); rintro e1 w6 ⟨g6, c6, rfl, k1, k2⟩; have H6 := Lib.hid (And.intro k2 k1); clear k1))
        have hh : (w6.drewN nd).cell? ⟨X, 0, none⟩ = some (.int .i64 (n : Int)) ∧ (w6.drewN nd).cell? ⟨X, 1, none⟩ = some (.slice (some ⟨ab, ao, none⟩) n c) ∧ (w6.drewN nd).cell? ⟨X, 2, none⟩ = some (.slice (some ⟨bb, bo, none⟩) n e) ∧ (w6.drewN nd).cell? ⟨pb, po + k, none⟩ = some (.int .i64 (t : Int)) ∧ Below wr.heap.size wr (w6.drewN nd) := by assumption
        obtain ⟨V5, hV5⟩ : ∃ V5, V5 = w6.drewN nd := ⟨_, rfl⟩
        rw [← hV5] at hh ⊢
        obtain ⟨r0, r1, r2, r3, rb⟩ := hh
        have hbx := HC.out.2.2.2.2.1.lt
        have s4 : V5.cell? ⟨g, k + 1, none⟩ = some (.int .i64 (Z : Int)) := (rb.cell (p := ⟨g, k + 1, none⟩) HC.out.2.2.2.2.2.1.1).trans q4
        clear hV5
        by_cases hm : q ∈ O k
        · have hBt : B0 = true := by rw [← HC.out.2.2.2.2.2.2.2]; simp [hm]
          subst hBt
          have hCZi : (C0 : Int) * (Z : Int) ≤ 134217728 := by rw [← Int.natCast_mul]; omega
          have hCZ0 : 0 ≤ (C0 : Int) * (Z : Int) := by rw [← Int.natCast_mul]; omega
          have hw1 : IntKind.i64.wrap ((C0 : Int) * (Z : Int)) = (C0 : Int) * (Z : Int) := IntWalk.i64_in _ (by omega)
          have hw2 : IntKind.i64.wrap ((A : Int) + (C0 : Int) * (Z : Int)) = (A : Int) + (C0 : Int) * (Z : Int) := IntWalk.i64_in _ (by omega)
          have hst := HC.out.2.2.1 hm
          have HS := Lib.hid (And.intro hst (And.intro rb hm))
          clear hst hm hCZi hCZ0 q0 q1 q2 q3 q4
          go_wp2_with fail
          go_region_held3 (fun V => V.cell? ⟨X, 0, none⟩ = some (.int .i64 (n : Int)) ∧ V.cell? ⟨X, 1, none⟩ = some (.slice (some ⟨ab, ao, none⟩) n c) ∧ V.cell? ⟨X, 2, none⟩ = some (.slice (some ⟨bb, bo, none⟩) n e) ∧ V.cell? ⟨pb, po + k, none⟩ = some (.int .i64 (t : Int)) ∧ Below wr.heap.size wr V)
            (first
              | assumption
              | exact ⟨r0, r1, r2, r3, HS.out.2.1⟩
              | exact ⟨r0, r1, r2, r3, below_drew HS.out.2.1⟩
              | exact ⟨r0, r1, r2, r3, below_drewN HS.out.2.1 _⟩
              | exact keep4 (by first | assumption | exact ⟨r0, r1, r2, r3, HS.out.2.1⟩ | exact ⟨r0, r1, r2, r3, below_drew HS.out.2.1⟩ | exact ⟨r0, r1, r2, r3, below_drewN HS.out.2.1 _⟩) (by first | assumption | exact below_self_drewN _ _))
            (first
              | (go_at_call 62; (with_reducible refine (HS.out.1 _ (by first | exact HS.out.2.1 | exact below_drew HS.out.2.1 | exact below_drewN HS.out.2.1 _ | assumption)).mono ?_); rintro e1 w8 ⟨v8, rfl, k1, k2⟩; have H8 := Lib.hid (And.intro k1 k2); clear k1))
          go_wp2_with fail
          have hb8 := below_trans (below_drew HS.out.2.1) H8.out.2
          have hCZn : ((A : Int) + (C0 : Int) * (Z : Int)) = ((A + C0 * Z : Nat) : Int) := by rw [Int.natCast_add, Int.natCast_mul]
          refine ⟨⟨k + 1, A + C0 * Z, (R k q).mul z, by omega, by go_num, by rw [hCZn], by omega, HC.out.2.2.2.2.1.below (hb8.mono hbx), H8.out.1.pm (by simp), HC.out.2.2.2.2.2.1.below hb8, ?_⟩, by simp [intOf]; omega⟩
          rw [HC.out.2.2.2.1, if_pos HS.out.2.2]
        · have hBt : B0 = false := by rw [← HC.out.2.2.2.2.2.2.2]; simp [hm]
          subst hBt
          have HS := Lib.hid (And.intro rb hm)
          clear hm
          go_wp2_with fail
          refine bodyPost_ret (v := .tuple #[.int .i64 0, .int .i64 18]) (by simp [results, Tryz.results14, go_sem]) rfl ?_
          have hf : rkF O R x n 0 (PlainPm.one n) 0 = none := by rw [HC.out.2.2.2.1, if_neg HS.out.2]
          have hN1 : NN = 0 := by rw [← HF.out.1, hf]; rfl
          have hE1 : EE = 18 := by rw [← HF.out.2, hf]; rfl
          have hb8 := below_trans HC.out.2.2.2.2.2.2.1 HS.out.1
          rw [H.out.2.2.2.1] at hb8
          rw [hN1, hE1]
          exact ⟨rfl, hb8⟩
      · obtain rfl : k = n := by omega
        have hk1 : ¬ (k : Int) < k := by omega
        rw [Nat.sub_self] at he
        have HC := Lib.hid (And.intro hb he)
        clear hb hwr he hz hs
        go_wp2_with fail
        refine bodyPost_ret (v := .tuple #[.int .i64 (A : Int), .int .i64 0]) (by simp [results, Tryz.results14, go_sem]) rfl ?_
        have hf : rkF O R x k 0 (PlainPm.one k) 0 = some A := by rw [← HC.out.2]; rfl
        have hN1 : NN = A := by rw [← HF.out.1, hf]; rfl
        have hE1 : EE = 0 := by rw [← HF.out.2, hf]; rfl
        rw [hN1, hE1]
        exact ⟨rfl, HC.out.1.bel⟩
  · obtain ⟨a1, c1, b1, e1, rfl, h1, h2⟩ := h
    have hN : rankN d os rs p = 0 := by unfold rankN; rw [if_neg (by rw [hE]; exact hE0)]
    have hNE : rankE d os rs p = E := by unfold rankE; rw [if_neg (by rw [hE]; exact hE0), hE]
    obtain ⟨lp, hlp⟩ : ∃ l, p.length = l := ⟨_, rfl⟩
    rw [hlp] at hchk ⊢
    rw [hN, hNE]
    have hx : (E != 0) = true := by simp [hE0]
    obtain ⟨lo, hlo⟩ : ∃ l, os.length = l := ⟨_, rfl⟩
    obtain ⟨lr, hlr⟩ : ∃ l, rs.length = l := ⟨_, rfl⟩
    rw [hlo, hlr] at hchk ⊢
    have HC := Lib.hid hchk
    clear hchk h1 h2 hlo hlr hc hd hE hE0 hN hNE hp hlp
    go_enter Tryz.func14, Tryz.ntmps14
    go_wp2_with (go_at_call 58; refine (HC.out _ (alloc_b (Below.refl _ _) _)).mono ?_; rintro e w2 ⟨rfl, k2⟩; have H2 := Lib.hid (below_trans (alloc_b (Below.refl _ _) _) k2); clear k2)
    refine bodyPost_ret (v := .tuple #[.int .i64 0, .int .i64 E]) (by simp [results, Tryz.results14, go_sem]) rfl ?_
    exact ⟨rfl, H2.out⟩
set_option maxRecDepth 100000 in
set_option maxHeartbeats 1000000 in
theorem rank15 {w : World} {v : Value} {d : Int} {os : List (List Int)} {rs : List (List (List Int))} {a0 : Option Addr} {c0 : Nat} {p : List Int} (h : ChV w v d os rs) (hc : CapV w v) (hd : ¬ (8 < d ∧ d ≤ 64)) (hp : Ints w a0 p) :
    Calls Tryz.prog 15 #[v, .slice a0 p.length c0] w fun e w' => e = .returned (.tuple #[.int .i64 (rankN d os rs p : Int), .int .i64 (rankE d os rs p)]) ∧ Below w.heap.size w w' := by
  obtain ⟨E, hE⟩ : ∃ E, memE d os rs p = E := ⟨_, rfl⟩
  have hchk := fun (W : World) (hb : Below w.heap.size w W) => mem63 (c := c0) (h.below hb) (hp.below hb)
  rw [hE] at hchk
  by_cases hE0 : E = 0
  · subst hE0
    obtain ⟨hE1, _, _⟩ := memE_zero hE
    obtain ⟨hpl, hpn⟩ := mem_pm hE
    obtain ⟨hd1, hd2, hv⟩ := chkE_zero hE1
    obtain ⟨n, rfl⟩ : ∃ n : Nat, d = n := ⟨d.toNat, by omega⟩
    have hn0 : 0 < n := by omega
    have hn : n ≤ 8 := by omega
    rw [Int.toNat_natCast] at hv
    obtain ⟨ab, ao, c, bb, bo, e, rfl, hl⟩ := lev_of h hc hv (by omega) (by omega)
    have hG := hv.chG
    obtain ⟨O, hO⟩ : ∃ O, orbV n os rs = O := ⟨_, rfl⟩
    obtain ⟨R, hR⟩ : ∃ R, repV n os rs = R := ⟨_, rfl⟩
    rw [Int.toNat_natCast] at hpl hpn
    obtain ⟨x, hx⟩ : ∃ x : Pm n, toPm n p = x := ⟨_, rfl⟩
    have hN0 : rankO n os rs p = rkF O R x n 0 (PlainPm.one n) 0 := by unfold rankO; rw [Int.toNat_natCast, hO, hR, hx]
    have hN : rankN n os rs p = (rkF O R x n 0 (PlainPm.one n) 0).getD 0 := by unfold rankN; rw [if_pos hE, hN0]
    have hNE : rankE n os rs p = if (rkF O R x n 0 (PlainPm.one n) 0).isSome then 0 else 18 := by unfold rankE; rw [if_pos hE, hN0]
    rw [hx] at hpl
    rw [hO, hR] at hl hG
    rw [hN, hNE]
    obtain ⟨X, hX⟩ : ∃ X, w.heap.size = X := ⟨_, rfl⟩
    have hB0 := BoxW.start w X n ab ao c bb bo e hX
    obtain ⟨W1, hW1⟩ : ∃ W1, W1 = w.alloc (.cells #[.int .i64 (n : Int), .slice (some ⟨ab, ao, none⟩) n c, .slice (some ⟨bb, bo, none⟩) n e] 25) := ⟨_, rfl⟩
    rw [← hW1] at hB0
    have hwW : Below w.heap.size w W1 := by rw [hX]; exact hB0.bel
    have hchk1 := hchk W1 hwW
    have hin := fun (W : World) (hb : Below w.heap.size w W) => in64 (c0 := c0) (h.below hb) (CapV.below h hc hb) hE (hp.below hb)
    simp only [Int.toNat_natCast, hO, hR, hx] at hin
    subst hpl
    have hpw := pm_of_ints (c := c0) hn0 hp
    rw [hpn] at hchk1 ⊢
    have HPW := Lib.hid hpw
    obtain ⟨pb, po, pc, hpe, _⟩ := id hpw
    cases hpe
    clear hpw
    rw [hpn] at hin
    have hsf := (hG.sf_iff (f := n) (i := 0) (x := x) (by omega) (fun j hj => by omega)).trans (hG.rk_some (x := x) (f := n) (i := 0) (a := 0) (y := PlainPm.one n) (by omega) hG.isG.one (fun j hj => by omega)).symm
    obtain ⟨BI, hBI⟩ : ∃ B, decide (sfG O R n 0 x = n) = B := ⟨_, rfl⟩
    rw [hBI] at hin
    have hBS : BI = (rkF O R x n 0 (PlainPm.one n) 0).isSome := by
      rw [← hBI, Bool.eq_iff_iff, decide_eq_true_iff]; exact hsf
    obtain ⟨NN, hNN⟩ : ∃ N, (rkF O R x n 0 (PlainPm.one n) 0).getD 0 = N := ⟨_, rfl⟩
    obtain ⟨EE, hEE⟩ : ∃ E : Int, (if (rkF O R x n 0 (PlainPm.one n) 0).isSome = true then 0 else 18) = E := ⟨_, rfl⟩
    rw [hNN, hEE]
    have HF := Lib.hid (And.intro hNN (And.intro hEE hBS))
    have HIN := Lib.hid hin
    clear hNN hEE hin hBI hsf hBS
    have H := Lib.hid (And.intro hchk1 (And.intro hB0 (And.intro hwW (And.intro hX (And.intro hl hG)))))
    obtain ⟨z0, z1, z2⟩ : W1.cell? ⟨X, 0, none⟩ = some (.int .i64 (n : Int)) ∧ W1.cell? ⟨X, 1, none⟩ = some (.slice (some ⟨ab, ao, none⟩) n c) ∧ W1.cell? ⟨X, 2, none⟩ = some (.slice (some ⟨bb, bo, none⟩) n e) := ⟨hB0.c0, hB0.c1, hB0.c2⟩
    clear hchk1 hB0 hwW hl hG hchk h hc hd hd1 hd2 hv hO hR hE hE1 hN hNE hN0 hp hpn hx
    go_enter Tryz.func15, Tryz.ntmps15
    try rw [hX]
    cases BI with
    | false =>
      go_wp2_with (first
        | (go_at_call 64; refine (HIN.out _ H3.out.2.2).mono ?_; rintro e1 w4 ⟨rfl, k2⟩; have H4 := Lib.hid (below_trans H3.out.2.2 k2); clear k2)
        | (go_at_call 57; refine (siz57 hn0 hn H.out.2.2.2.2.2 (H.out.2.2.2.2.1.below H2.out.2)).mono ?_; rintro e1 w3 ⟨g, cap, rfl, k1, k3⟩; have hB3 := H2.out.1.below (k3.mono H2.out.1.lt); have f0 := hB3.c0; have f1 := hB3.c1; have f2 := hB3.c2; have H3 := Lib.hid (And.intro k1 (And.intro hB3 (below_trans H2.out.2 k3))); clear k1 k3 hB3)
        | (go_at_call 63; (try rw [← hW1]); clear hW1 z0 z1 z2; (with_reducible refine H.out.1.mono ?_); rintro e1 w2 ⟨rfl, k2⟩; have hB2 := H.out.2.1.below (k2.mono H.out.2.1.lt); have b0 := hB2.c0; have b1 := hB2.c1; have b2 := hB2.c2; have hw2 := below_trans H.out.2.2.1 k2; have H2 := Lib.hid (And.intro hB2 hw2); clear hB2 hw2 k2))
      refine bodyPost_ret (v := .tuple #[.int .i64 0, .int .i64 18]) (by simp [results, Tryz.results15, go_sem]) rfl ?_
      have hf : rkF O R x n 0 (PlainPm.one n) 0 = none := by
        have h1 := HF.out.2.2
        cases ho : rkF O R x n 0 (PlainPm.one n) 0 with
        | none => rfl
        | some r => rw [ho] at h1; cases h1
      have hN1 : NN = 0 := by rw [← HF.out.1, hf]; rfl
      have hE1 : EE = 18 := by rw [← HF.out.2.1, hf]; rfl
      have hb8 := H4.out
      rw [H.out.2.2.2.1] at hb8
      rw [hN1, hE1]
      exact ⟨rfl, hb8⟩
    | true =>
      go_wp2_with (first
        | (go_at_call 65; refine (one65 (by omega) hn0).mono ?_; rintro e1 w5 ⟨v5, rfl, k1, k2⟩; have hB5 := H4.out.2.1.below (k2.mono H4.out.2.1.lt); have h0 := hB5.c0; have h1 := hB5.c1; have h2 := hB5.c2; have H5 := Lib.hid (And.intro k1 (And.intro hB5 (H4.out.1.below k2))); clear k1 k2 hB5)
        | (go_at_call 64; refine (HIN.out _ H3.out.2.2).mono ?_; rintro e1 w4 ⟨rfl, k2⟩; have hB4 := H3.out.2.1.below (k2.mono H3.out.2.1.lt); have d0 := hB4.c0; have d1 := hB4.c1; have d2 := hB4.c2; have H4 := Lib.hid (And.intro (H3.out.1.below k2) (And.intro hB4 (below_trans H3.out.2.2 k2))); clear k2 hB4)
        | (go_at_call 57; refine (siz57 hn0 hn H.out.2.2.2.2.2 (H.out.2.2.2.2.1.below H2.out.2)).mono ?_; rintro e1 w3 ⟨g, cap, rfl, k1, k3⟩; have hB3 := H2.out.1.below (k3.mono H2.out.1.lt); have f0 := hB3.c0; have f1 := hB3.c1; have f2 := hB3.c2; have H3 := Lib.hid (And.intro k1 (And.intro hB3 (below_trans H2.out.2 k3))); clear k1 k3 hB3)
        | (go_at_call 63; (try rw [← hW1]); clear hW1 z0 z1 z2; (with_reducible refine H.out.1.mono ?_); rintro e1 w2 ⟨rfl, k2⟩; have hB2 := H.out.2.1.below (k2.mono H.out.2.1.lt); have b0 := hB2.c0; have b1 := hB2.c1; have b2 := hB2.c2; have hw2 := below_trans H.out.2.2.1 k2; have H2 := Lib.hid (And.intro hB2 hw2); clear hB2 hw2 k2))
      clear b0 b1 b2 d0 d1 d2 f0 f1 f2 h0 h1 h2
      go_loopw [11, 12, 13, 14, 15, 16] (fun acc yv i _ _ _ wr => ∃ (k A : Nat) (z : Pm n), k ≤ n ∧ i = .int .i64 (k : Int) ∧ acc = .int .i64 (A : Int) ∧ A ≤ k * 134217728 ∧ BoxW w X n ab ao c bb bo e wr ∧ PmV wr [] yv z ∧ SzW wr g n O ∧ rkF O R x (n - k) k z A = rkF O R x n 0 (PlainPm.one n) 0) (fun _ _ i _ _ _ _ => n - (intOf i).toNat)
      case atStart => exact ⟨0, 0, PlainPm.one n, by omega, rfl, rfl, by omega, H5.out.2.1, H5.out.1.pm (by simp), H5.out.2.2, rfl⟩
      case round =>
        obtain ⟨k, A, z, hk, rfl, rfl, hA, hb, hz, hs, he⟩ := hrel
        have hwr : Below w.heap.size w wr := by have h1 := hb.bel; rwa [← H.out.2.2.2.1] at h1
        have x0 := hb.c0
        have x1 := hb.c1
        have x2 := hb.c2
        by_cases hkn : k < n
        · obtain ⟨go, oo, oc, gr, ro, rc, y1, y2, y3⟩ := H.out.2.2.2.2.1.at_ hwr hkn
          obtain ⟨t, ht⟩ : ∃ t, x.at k = t := ⟨_, rfl⟩
          have htn : t < n := by rw [← ht]; exact x.lt hkn
          have q3 : wr.cell? ⟨pb, po + k, none⟩ = some (.int .i64 (t : Int)) := by
            obtain ⟨b', o', c', he', _, _, hc'⟩ := HPW.out.below hwr
            cases he'
            rw [← ht]; exact hc' k hkn
          have hlt := H.out.2.2.2.2.2.lt k hkn
          have hsh := H.out.2.2.2.2.2.short hkn
          obtain ⟨q, hq⟩ : ∃ q, z.inv.at t = q := ⟨_, rfl⟩
          have hzq : z.at q = t := by rw [← hq]; exact (z.inv_at htn).2
          obtain ⟨Z, hZ⟩ : ∃ Z, szF O (n - (k + 1)) (k + 1) = Z := ⟨_, rfl⟩
          have hZl2 : Z ≤ 16777216 := by
            have hZl := H.out.2.2.2.2.2.sz_le (m := 8) hn (f := n - (k + 1)) (i := k + 1) (by omega)
            rw [hZ] at hZl
            exact Nat.le_trans hZl (Nat.le_trans (Nat.pow_le_pow_right (by omega) (show n - (k + 1) ≤ 8 by omega)) (by decide))
          have q4 := hs.2 (k + 1) (by omega)
          rw [hZ] at q4
          have hnx : rkF O R x n 0 (PlainPm.one n) 0 = if q ∈ O k then rkF O R x (n - (k + 1)) (k + 1) ((R k q).mul z) (A + cnt z (O k) t * Z) else none := by
            rw [← he, show n - k = n - (k + 1) + 1 by omega, rkF, ht, hq, hZ]
          have hqm : q ∈ O k := by
            by_cases hm : q ∈ O k
            · exact hm
            · rw [if_neg hm] at hnx
              have h1 := HF.out.2.2
              rw [hnx] at h1; cases h1
          rw [if_pos hqm] at hnx
          have hinj : ∀ p ∈ O k, z.at p = t → p = q := fun p hp hpt => by
            rw [← hq, ← hpt]; exact (z.inv_of (hlt p hp)).symm
          obtain ⟨L, hL⟩ : ∃ L, (O k).length = L := ⟨_, rfl⟩
          have hL8 : L ≤ 8 := by omega
          rw [hL] at y1 y2
          obtain ⟨zb, zo, zc, hze, _, hzb, hzc⟩ := id hz
          subst hze
          have HC := Lib.hid (And.intro hb (And.intro hz (And.intro hs (And.intro hwr (And.intro y3 (And.intro hzc (And.intro hlt (And.intro hL (And.intro hnx (And.intro hqm (And.intro hinj hzq)))))))))))
          have hA9 : A ≤ 1073741824 := by omega
          have hk1 : (k : Int) < n := by omega
          clear hb hz hs hwr y3 hzc hlt hL hnx hqm hinj hzq he hsh hq hZ ht
          go_wp2_with fail
          obtain ⟨wo, rfl⟩ : ∃ wo : World, wo = wr := ⟨_, rfl⟩
          go_loopw [11, 14, 15, 16] (fun acc b j _ wi => ∃ (s ai : Nat), s ≤ L ∧ j = .int .i64 (s : Int) ∧ b = .int .i64 (ai : Int) ∧ acc = .int .i64 ((A + cnt z ((O k).take s) t * Z : Nat) : Int) ∧ wi = wo ∧ ∀ s', s' < s → (O k)[s']? = some q → (O k)[ai]? = some q) (fun _ _ j _ _ => L - (intOf j).toNat)
          case atStart => exact ⟨0, 0, by omega, rfl, rfl, by simp [cnt], rfl, fun s hs => by omega⟩
          case round =>
            obtain ⟨s, ai, hsL, rfl, rfl, rfl, rfl, hai⟩ := hrel
            obtain ⟨C, hC⟩ : ∃ C, cnt z ((O k).take s) t = C := ⟨_, rfl⟩
            have hCr : C ≤ 8 := by rw [← hC]; have h1 := cnt_le z ((O k).take s) t; rw [List.length_take, HC.out.2.2.2.2.2.2.2.1] at h1; omega
            have hCZ : C * Z ≤ 8 * 16777216 := Nat.mul_le_mul hCr hZl2
            rw [hC]
            obtain ⟨M, hM⟩ : ∃ M, A + C * Z = M := ⟨_, rfl⟩
            have hM9 : M ≤ 1207959552 := by omega
            rw [hM]
            by_cases hsl : s < L
            · obtain ⟨p, hp⟩ : ∃ p, (O k)[s]? = some p := ⟨_, List.getElem?_eq_getElem (by rw [HC.out.2.2.2.2.2.2.2.1]; exact hsl)⟩
              have hpn := HC.out.2.2.2.2.2.2.1 _ (List.mem_of_getElem? hp)
              obtain ⟨z8, -⟩ := HC.out.2.2.2.2.1 wr HC.out.2.2.2.1 s p hp
              have z9 := HC.out.2.2.2.2.2.1 p hpn
              obtain ⟨pv, hpv⟩ : ∃ v, z.at p = v := ⟨_, rfl⟩
              rw [hpv] at z9
              have hnc : cnt z ((O k).take (s + 1)) t = if pv < t then C + 1 else C := by rw [List.take_add_one, hp, Option.toList_some, cnt_snoc, hC, hpv]
              have hpq : pv = t → p = q := fun h => HC.out.2.2.2.2.2.2.2.2.2.2.1 p (List.mem_of_getElem? hp) (by rw [hpv, h])
              have hqp : p = q → pv = t := fun h => by rw [← hpv, h]; exact HC.out.2.2.2.2.2.2.2.2.2.2.2
              have HN := Lib.hid (And.intro hai (And.intro hp (And.intro hnc (And.intro hpq (And.intro hqp hM)))))
              have hs1 : (s : Int) < L := by omega
              clear hai hp hpv hnc hpq hqp hC hM hCZ hCr
              have keep : ¬ pv = t → ∀ s', s' < s + 1 → (O k)[s']? = some q → (O k)[ai]? = some q := fun hne s' hs' hq' => by
                by_cases es : s' = s
                · subst es
                  rw [HN.out.2.1] at hq'
                  exact absurd (HN.out.2.2.2.2.1 (Option.some.inj hq')) hne
                · exact HN.out.1 s' (by omega) hq'
              have HK := Lib.hid keep
              clear keep
              by_cases hlt : pv < t
              · have hne : ¬ pv = t := by omega
                have g1 : (pv : Int) < (t : Int) := by omega
                have g2 : ((pv : Int) == (t : Int)) = false := by simp; omega
                have Hne := Lib.hid hne
                clear hne
                go_wp2_with fail
                refine ⟨⟨s + 1, ai, by omega, by go_num, rfl, ?_, trivial, HK.out Hne.out⟩, by simp [intOf]; omega⟩
                rw [HN.out.2.2.1, if_pos hlt, ← HN.out.2.2.2.2.2, Nat.succ_mul]
                go_num
              · have g1 : ¬ (pv : Int) < (t : Int) := by omega
                by_cases hpt : pv = t
                · subst hpt
                  have g2 : ((pv : Int) == (pv : Int)) = true := by simp
                  go_wp2_with fail
                  refine ⟨⟨s + 1, s, by omega, by go_num, rfl, ?_, trivial, fun s' hs' hq' => ?_⟩, by simp [intOf]; omega⟩
                  · rw [HN.out.2.2.1, if_neg hlt, HN.out.2.2.2.2.2]
                  · rw [← HN.out.2.2.2.1 rfl]; exact HN.out.2.1
                · have g2 : ((pv : Int) == (t : Int)) = false := by simp; omega
                  have Hne := Lib.hid hpt
                  clear hpt
                  go_wp2_with fail
                  refine ⟨⟨s + 1, ai, by omega, by go_num, rfl, ?_, trivial, HK.out Hne.out⟩, by simp [intOf]; omega⟩
                  rw [HN.out.2.2.1, if_neg hlt, HN.out.2.2.2.2.2]
            · obtain rfl : s = L := by omega
              have hs1 : ¬ (s : Int) < s := by omega
              have hb0 : (O k)[ai]? = some q := by
                obtain ⟨s', hs'⟩ := List.mem_iff_getElem?.1 HC.out.2.2.2.2.2.2.2.2.2.1
                have hsl' := (List.getElem?_eq_some_iff.1 hs').1
                rw [HC.out.2.2.2.2.2.2.2.1] at hsl'
                exact hai s' hsl' hs'
              have hbL : ai < s := by rw [← HC.out.2.2.2.2.2.2.2.1]; exact (List.getElem?_eq_some_iff.1 hb0).1
              obtain ⟨z5, u, z6, hu⟩ := HC.out.2.2.2.2.1 wr HC.out.2.2.2.1 ai _ hb0
              obtain ⟨ub, uo, uc, rfl, _⟩ := id hu
              have hmul := mul49 (by omega) hn0 hu HC.out.2.1
              have hCC : cnt z (O k) t = C := by rw [← hC, List.take_of_length_le (by rw [HC.out.2.2.2.2.2.2.2.1]; exact Nat.le_refl _)]
              have HM := Lib.hid (And.intro hmul (And.intro hCC (And.intro hM hCZ)))
              clear hmul hu hb0 hai hC hCC hM hCZ
              go_wp2_with (go_at_call 49; (with_reducible refine HM.out.1.mono ?_); rintro e1 w7 ⟨v7, rfl, k1, k2⟩; have H7 := Lib.hid (And.intro k1 k2); clear k1 k2)
              have hb7 := H7.out.2
              have hbx := HC.out.1.lt
              refine ⟨⟨k + 1, M, (R k q).mul z, by omega, by go_num, rfl, ?_, HC.out.1.below (hb7.mono hbx), H7.out.1.pm (by simp), HC.out.2.2.1.below hb7, ?_⟩, by simp [intOf]; omega⟩
              · have h1 := HM.out.2.2.1; have h2 := HM.out.2.2.2; omega
              · rw [HC.out.2.2.2.2.2.2.2.2.1, HM.out.2.1, HM.out.2.2.1]
        · obtain rfl : k = n := by omega
          have hk1 : ¬ (k : Int) < k := by omega
          rw [Nat.sub_self] at he
          have HC := Lib.hid (And.intro hb he)
          clear hb hwr he hz hs
          go_wp2_with fail
          refine bodyPost_ret (v := .tuple #[.int .i64 (A : Int), .int .i64 0]) (by simp [results, Tryz.results15, go_sem]) rfl ?_
          have hf : rkF O R x k 0 (PlainPm.one k) 0 = some A := by rw [← HC.out.2]; rfl
          have hN1 : NN = A := by rw [← HF.out.1, hf]; rfl
          have hE1 : EE = 0 := by rw [← HF.out.2.1, hf]; rfl
          rw [hN1, hE1]
          exact ⟨rfl, HC.out.1.bel⟩
  · obtain ⟨a1, c1, b1, e1, rfl, h1, h2⟩ := h
    have hN : rankN d os rs p = 0 := by unfold rankN; rw [if_neg (by rw [hE]; exact hE0)]
    have hNE : rankE d os rs p = E := by unfold rankE; rw [if_neg (by rw [hE]; exact hE0), hE]
    obtain ⟨lp, hlp⟩ : ∃ l, p.length = l := ⟨_, rfl⟩
    rw [hlp] at hchk ⊢
    rw [hN, hNE]
    have hx : (E != 0) = true := by simp [hE0]
    obtain ⟨lo, hlo⟩ : ∃ l, os.length = l := ⟨_, rfl⟩
    obtain ⟨lr, hlr⟩ : ∃ l, rs.length = l := ⟨_, rfl⟩
    rw [hlo, hlr] at hchk ⊢
    have HC := Lib.hid hchk
    clear hchk h1 h2 hlo hlr hc hd hE hE0 hN hNE hp hlp
    go_enter Tryz.func15, Tryz.ntmps15
    go_wp2_with (go_at_call 63; refine (HC.out _ (alloc_b (Below.refl _ _) _)).mono ?_; rintro e w2 ⟨rfl, k2⟩; have H2 := Lib.hid (below_trans (alloc_b (Below.refl _ _) _) k2); clear k2)
    refine bodyPost_ret (v := .tuple #[.int .i64 0, .int .i64 E]) (by simp [results, Tryz.results15, go_sem]) rfl ?_
    exact ⟨rfl, H2.out⟩
end Go.Proofs.YtbejhkojdiadaaaGreat
