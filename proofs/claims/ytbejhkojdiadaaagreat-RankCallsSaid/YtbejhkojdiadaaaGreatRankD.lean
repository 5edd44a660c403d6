/- The reference's sifting, least elements and elements by rank. -/
import Derived.Test.YtbejhkojdiadaaaGreatRankC
import Derived.Test.YtbejhkojdiadaaaGreatLeastR
set_option linter.unusedSimpArgs false
set_option linter.unusedVariables false
namespace Go.Proofs.YtbejhkojdiadaaaGreat
open Go.RowKit PlainPm
theorem keep1 {V A B : World} {p1 : Addr} {u1 : Value} (h : A.cell? p1 = some u1 ∧ Below V.heap.size V A) (k : Below A.heap.size A B) : B.cell? p1 = some u1 ∧ Below V.heap.size V B :=
  ⟨(k.cell (block_lt_of_cell h.1)).trans h.1, below_trans h.2 k⟩
theorem own_pm {n : Nat} (hn : 0 < n) {w : World} {B : Nat} {v : Value} {x : Pm n} (h : Own w B v 3 (ints x.l)) : PmV w [] v x := by
  have hl : (ints x.l).length = n := by rw [ints_len, x.ok.1]
  obtain ⟨g, cap, rfl, h1, h2, h3, h4⟩ := h.form (by rw [hl]; exact hn)
  rw [hl] at h ⊢
  refine ⟨g, 0, cap, rfl, by simp, h2, fun i hi => ?_⟩
  rw [Nat.zero_add, h.cell i (by rw [hl]; exact hi), ints_get (by rw [x.ok.1]; exact hi), x.get hi]; rfl
theorem LvW.at_ {n ab ao bb bo : Nat} {w w' : World} {O : Nat → List Nat} {R : Nat → Nat → Pm n} (h : LvW n w O R ab ao bb bo) (hb : Below w.heap.size w w') {i : Nat} (hi : i < n) :
    ∃ go oo oc gr ro rc, w'.cell? ⟨ab, ao + i, none⟩ = some (.slice (some ⟨go, oo, none⟩) (O i).length oc) ∧ w'.cell? ⟨bb, bo + i, none⟩ = some (.slice (some ⟨gr, ro, none⟩) (O i).length rc) ∧
      (∀ V, Below w.heap.size w V → ∀ (k q : Nat), (O i)[k]? = some q → V.cell? ⟨go, oo + k, none⟩ = some (.int .i64 (q : Int)) ∧ ∃ u, V.cell? ⟨gr, ro + k, none⟩ = some u ∧ PmV V [] u (R i q)) := by
  obtain ⟨vo, h1, go, oo, oc, rfl, h2, _, _, h3⟩ := h.orb i hi
  obtain ⟨vr, k1, gr, ro, rc, rfl, k2, _, _, k3⟩ := h.rep i hi
  rw [List.length_map] at k1
  refine ⟨go, oo, oc, gr, ro, rc, (hb.cell (block_lt_of_cell h1)).trans h1, (hb.cell (block_lt_of_cell k1)).trans k1, fun V hV k q hq => ⟨(hV.cell (p := ⟨go, oo + k, none⟩) h2).trans (h3 k q hq), ?_⟩⟩
  obtain ⟨u, k4, k5⟩ := k3 k (R i q) (by rw [List.getElem?_map, hq]; rfl)
  exact ⟨u, (hV.cell (p := ⟨gr, ro + k, none⟩) k2).trans k4, k5.below hV⟩
set_option maxRecDepth 100000 in
set_option maxHeartbeats 2000000 in
theorem sift112 {n ab ao c bb bo e : Nat} {G : Pm n → Prop} {O : Nat → List Nat} {R : Nat → Nat → Pm n} (hn0 : 0 < n) (hn : n ≤ 64) (hG : ChG G O R) {x : Pm n} {va : Value} {w : World} (h : LvW n w O R ab ao bb bo) (hx : PmV w [] va x) :
    Calls Tryz.prog 112 #[cv n ab ao c bb bo e, va] w fun e w' => ∃ v, e = .returned (.tuple #[v, .int .i64 (sfG O R n 0 x : Int)]) ∧ Below w.heap.size w w' := by
  obtain ⟨X, hX⟩ : ∃ X, w.heap.size = X := ⟨_, rfl⟩
  have hB0 := BoxW.start w X n ab ao c bb bo e hX
  obtain ⟨W1, hW1⟩ : ∃ W1, W1 = w.alloc (.cells #[.int .i64 (n : Int), .slice (some ⟨ab, ao, none⟩) n c, .slice (some ⟨bb, bo, none⟩) n e] 25) := ⟨_, rfl⟩
  rw [← hW1] at hB0
  have hwW : Below w.heap.size w W1 := by rw [hX]; exact hB0.bel
  have H := Lib.hid (And.intro h (And.intro (hx.below hwW) (And.intro hB0 (And.intro hX (And.intro hwW hG)))))
  clear h hx hwW hG hB0
  obtain ⟨b, o, c', rfl, _⟩ := id H.out.2.1
  go_enter Tryz.func112, Tryz.ntmps112
  try rw [hX]
  go_wp2_with fail
  try rw [← hW1]
  clear hW1
  go_loopw [1, 6, 7] (fun v i _ wr => ∃ (k : Nat) (z : Pm n), k ≤ n ∧ i = .int .i64 (k : Int) ∧ BoxW w X n ab ao c bb bo e wr ∧ PmV wr [] v z ∧ sfG O R (n - k) k z = sfG O R n 0 x) (fun _ i _ _ => n - (intOf i).toNat)
  case atStart => exact ⟨0, x, by omega, rfl, H.out.2.2.1, H.out.2.1, rfl⟩
  case round =>
    obtain ⟨k, z, hk, rfl, hb, hz, he⟩ := hrel
    have x0 := hb.c0
    have x1 := hb.c1
    have x2 := hb.c2
    have hwr : Below w.heap.size w wr := by rw [hX]; exact hb.bel
    obtain ⟨zb, zo, zc, hu1, _, hzb, hzc⟩ := id hz
    subst hu1
    obtain ⟨zi, zic, hzi1, hzi2⟩ := hz.ints (by omega)
    have hzl := z.ok.1
    rw [hzl] at hzi1
    cases hzi1
    have hown := fun (V : World) (hv : Below wr.heap.size wr V) => own115 (c := zc) (hzi2.below hv) hzl hn
    by_cases hkn : k < n
    · obtain ⟨go, oo, oc, gr, ro, rc, y1, y2, y3⟩ := H.out.1.at_ hwr hkn
      have y4 := hzc k hkn
      have hlt := H.out.2.2.2.2.2.lt k hkn
      obtain ⟨L, hL⟩ : ∃ L, (O k).length = L := ⟨_, rfl⟩
      have hL64 : L ≤ 64 := by rw [← hL]; exact Nat.le_trans (H.out.2.2.2.2.2.short hkn) hn
      rw [hL] at y1 y2
      have HC := Lib.hid (And.intro hb (And.intro hz (And.intro he (And.intro hwr (And.intro y3 (And.intro hown (And.intro hlt hL)))))))
      obtain ⟨t, ht⟩ : ∃ t, z.at k = t := ⟨_, rfl⟩
      rw [ht] at y4
      have HT := Lib.hid ht
      have hk1 : (k : Int) < n := by omega
      clear hb hz he hwr y3 hown hlt hL ht hzc hzi2
      go_wp2_with fail
      obtain ⟨wo, rfl⟩ : ∃ wo : World, wo = wr := ⟨_, rfl⟩
      go_loopw [7] (fun j wi => ∃ (q m : Nat), q ≤ L ∧ j = .int .i64 (q : Int) ∧ wi = wo.drewN m ∧ ∀ (s p : Nat), s < q → (O k)[s]? = some p → p ≠ t) (fun j _ => L - (intOf j).toNat)
      case atStart => exact ⟨0, 0, by omega, rfl, rfl, fun s p hs => by omega⟩
      case round =>
        obtain ⟨q, m, hq, rfl, rfl, hno⟩ := hrel
        by_cases hqL : q < L
        · obtain ⟨p, hp⟩ : ∃ p, (O k)[q]? = some p := ⟨_, List.getElem?_eq_getElem (by rw [HC.out.2.2.2.2.2.2.2]; exact hqL)⟩
          obtain ⟨z5, u, z6, hu⟩ := HC.out.2.2.2.2.1 wo HC.out.2.2.2.1 q p hp
          have HN := Lib.hid (And.intro hno (And.intro hp hu))
          have g1 : decide (q < L) = true := by simp [hqL]
          have g2 : decide ((q : Int) < (L : Int)) = true := by simp; omega
          clear hno hp hu
          by_cases hpt : p = t
          · subst hpt
            have g3 : ((p : Int) != (p : Int)) = false := by simp
            have g4 : ((q : Int) == (L : Int)) = false := by simp; omega
            have hu := HN.out.2.2
            obtain ⟨ub, uo, uc, rfl, _⟩ := id hu
            have hinv := fun (V : World) (hv : Below wo.heap.size wo V) => inv50 hn (hu.below hv)
            have hmul := fun (V V' : World) (v : Value) (hv : Below wo.heap.size wo V) (hv' : Below V.heap.size V V') (h : NewPm V V' v (R k p).inv) => mul49 hn hn0 (HC.out.2.1.below (below_trans hv hv')) (h.pm (M := []) (by simp))
            have HM := Lib.hid (And.intro hinv (And.intro hmul hqL))
            clear hinv hmul hu
            go_wp2_with fail
            go_quiet (fail)
            go_wp2_with (first
              | (go_at_call 49; refine (HM.out.2.1 _ _ _ (below_self_drewN _ _) H6.out.2 H6.out.1).mono ?_; rintro e1 w7 ⟨v7, rfl, k1, k2⟩; have H7 := Lib.hid (And.intro k1 k2); clear k1 k2)
              | (go_at_call 50; refine (HM.out.1 _ (below_self_drewN _ _)).mono ?_; rintro e1 w6 ⟨v6, rfl, k1, k2⟩; have H6 := Lib.hid (And.intro k1 k2); clear k1 k2))
            have hb7 : Below wo.heap.size wo w7 := below_trans (below_trans (below_self_drewN wo (m + nq)) H6.out.2) H7.out.2
            have hlt := HC.out.1.lt
            refine ⟨⟨k + 1, z.mul (R k p).inv, by omega, by go_num, HC.out.1.below (hb7.mono (by omega)), H7.out.1.pm (by simp), ?_⟩, by simp [intOf]; omega⟩
            rw [← HC.out.2.2.1, show n - k = n - (k + 1) + 1 by omega, sfG, HT.out, if_pos (List.mem_of_getElem? HN.out.2.1)]
          · have g3 : ((p : Int) != (t : Int)) = true := by simp; omega
            have Hpt := Lib.hid hpt
            clear hpt
            go_wp2_with fail
            go_quiet (fail)
            go_wp2_with fail
            refine ⟨⟨q + 1, m + nq, by omega, by go_num, rfl, fun s p' hs hp' => ?_⟩, by simp [intOf]; omega⟩
            by_cases es : s = q
            · subst es; rw [HN.out.2.1] at hp'; cases hp'; exact Hpt.out
            · exact HN.out.1 s p' (by omega) hp'
        · obtain rfl : q = L := by omega
          have g1 : decide (q < q) = false := by simp
          have g2 : decide ((q : Int) < (q : Int)) = false := by simp
          have g4 : ((q : Int) == (q : Int)) = true := by simp
          go_wp2_with fail
          go_quiet (fail)
          have HO := Lib.hid (HC.out.2.2.2.2.2.1 _ (below_self_drewN wo (m + nq)))
          have HN := Lib.hid hno
          clear hno
          go_wp2_with (go_at_call 115; (with_reducible refine HO.out.mono ?_); rintro e w6 ⟨v6, rfl, k1, k2⟩; have H6 := Lib.hid (And.intro k1 k2); clear k1 k2)
          refine bodyPost_ret (v := .tuple #[v6, .int .i64 (k : Int)]) (by simp [results, Tryz.results112, go_sem]) rfl ?_
          have hno' : ¬ z.at k ∈ O k := fun hm => by
            obtain ⟨s, hs⟩ := List.mem_iff_getElem?.1 hm
            have hsl := (List.getElem?_eq_some_iff.1 hs).1
            exact HN.out s _ (by rw [← HC.out.2.2.2.2.2.2.2]; exact hsl) hs HT.out
          have hk9 : sfG O R n 0 x = k := by rw [← HC.out.2.2.1, show n - k = n - (k + 1) + 1 by omega, sfG, if_neg hno']
          rw [hk9]
          have hb9 := below_trans (below_trans HC.out.2.2.2.1 (below_self_drewN wo (m + nq))) H6.out.2
          rw [H.out.2.2.2.1] at hb9
          exact ⟨v6, rfl, hb9⟩
    · obtain rfl : k = n := by omega
      have hk1 : ¬ (k : Int) < k := by omega
      rw [Nat.sub_self] at he
      have HC := Lib.hid (And.intro hb (And.intro hwr (And.intro hown he)))
      clear hb hwr hown he hz hzc hzi2
      go_wp2_with fail
      go_region_held3 (fun V => V.cell? ⟨X, 0, none⟩ = some (.int .i64 (k : Int)) ∧ Below wr.heap.size wr V)
        (first
          | assumption
          | exact ⟨x0, Below.refl _ _⟩
          | exact ⟨x0, below_drew (Below.refl _ _)⟩
          | exact ⟨x0, below_self_drewN _ _⟩
          | exact keep1 (by first | assumption | exact ⟨x0, Below.refl _ _⟩ | exact ⟨x0, below_drew (Below.refl _ _)⟩ | exact ⟨x0, below_self_drewN _ _⟩) (by assumption))
        (first
          | (go_at_call 115; (with_reducible refine (HC.out.2.2.1 _ (by first | exact Below.refl _ _ | exact below_drew (Below.refl _ _) | exact below_self_drewN _ _ | assumption)).mono ?_); rintro e w6 ⟨v6, rfl, k1, k2⟩; have H6 := Lib.hid (And.intro k1 k2); clear k1))
      go_wp2_with fail
      refine bodyPost_ret (v := .tuple #[v6, .int .i64 (k : Int)]) (by simp [results, Tryz.results112, go_sem]) rfl ?_
      have hk9 : sfG O R k 0 x = k := HC.out.2.2.2.symm
      rw [hk9]
      have hb9 := below_trans (below_trans HC.out.2.1 (below_drew (Below.refl _ _))) H6.out.2
      rw [H.out.2.2.2.1] at hb9
      exact ⟨v6, rfl, hb9⟩
set_option maxRecDepth 100000 in
set_option maxHeartbeats 2000000 in
theorem least69 {n ab ao c bb bo e : Nat} {G : Pm n → Prop} {O : Nat → List Nat} {R : Nat → Nat → Pm n} (hn0 : 0 < n) (hn : n ≤ 64) (hG : ChG G O R) {x : Pm n} {va : Value} {w : World} (h : LvW n w O R ab ao bb bo) (hx : PmV w [] va x) :
    Calls Tryz.prog 69 #[cv n ab ao c bb bo e, va] w fun e w' => ∃ v, e = .returned v ∧ PmV w' [] v (lstF O R n 0 x) ∧ Below w.heap.size w w' := by
  obtain ⟨X, hX⟩ : ∃ X, w.heap.size = X := ⟨_, rfl⟩
  have hB0 := BoxW.start w X n ab ao c bb bo e hX
  obtain ⟨W1, hW1⟩ : ∃ W1, W1 = w.alloc (.cells #[.int .i64 (n : Int), .slice (some ⟨ab, ao, none⟩) n c, .slice (some ⟨bb, bo, none⟩) n e] 25) := ⟨_, rfl⟩
  rw [← hW1] at hB0
  have hwW : Below w.heap.size w W1 := by rw [hX]; exact hB0.bel
  have hx1 := hx.below hwW
  obtain ⟨xi, xic, hxi1, hxi2⟩ := hx1.ints (by omega)
  have hxl := x.ok.1
  rw [hxl] at hxi1
  subst hxi1
  obtain ⟨xb, xo, xc, hxe, _⟩ := id hx
  cases hxe
  have hown := own115 (c := xic) hxi2 hxl hn
  have H := Lib.hid (And.intro h (And.intro hown (And.intro hB0 (And.intro hX (And.intro hwW hG)))))
  clear h hx hwW hG hB0 hown hx1 hxi2 hxl
  go_enter Tryz.func69, Tryz.ntmps69
  try rw [hX]
  go_wp2_with (go_at_call 115; (try rw [← hW1]); clear hW1; (with_reducible refine H.out.2.1.mono ?_); rintro e w2 ⟨v2, rfl, k1, k2⟩; have H2 := Lib.hid (And.intro k1 k2); clear k1 k2)
  have hx2 : PmV w2 [] v2 x := by
    exact own_pm hn0 H2.out.1
  go_loopw [1, 5, 6, 7] (fun v i _ _ wr => ∃ (k : Nat) (z : Pm n), k ≤ n ∧ i = .int .i64 (k : Int) ∧ BoxW w X n ab ao c bb bo e wr ∧ PmV wr [] v z ∧ lstF O R (n - k) k z = lstF O R n 0 x) (fun _ i _ _ _ => n - (intOf i).toNat)
  case atStart => exact ⟨0, x, by omega, rfl, H.out.2.2.1.below (H2.out.2.mono H.out.2.2.1.lt), hx2, rfl⟩
  case round =>
    obtain ⟨k, z, hk, rfl, hb, hz, he⟩ := hrel
    have x0 := hb.c0
    have x1 := hb.c1
    have x2 := hb.c2
    have hwr : Below w.heap.size w wr := by rw [hX]; exact hb.bel
    obtain ⟨zb, zo, zc, hu1, _, hzb, hzc⟩ := id hz
    subst hu1
    by_cases hkn : k < n
    · obtain ⟨go, oo, oc, gr, ro, rc, y1, y2, y3⟩ := H.out.1.at_ hwr hkn
      have hlt := H.out.2.2.2.2.2.lt k hkn
      have hpos := H.out.2.2.2.2.2.pos hkn
      obtain ⟨L, hL⟩ : ∃ L, (O k).length = L := ⟨_, rfl⟩
      have hL64 : L ≤ 64 := by rw [← hL]; exact Nat.le_trans (H.out.2.2.2.2.2.short hkn) hn
      rw [hL] at y1 y2 hpos
      have hh0 : (O k)[0]? = some ((O k).headD 0) := by
        cases ho : O k with
        | nil => rw [ho] at hL; simp at hL; omega
        | cons a r => simp
      have HC := Lib.hid (And.intro hb (And.intro hz (And.intro he (And.intro hwr (And.intro y3 (And.intro hzc (And.intro hlt (And.intro hL hh0))))))))
      have hk1 : (k : Int) < n := by omega
      clear hb hz he hwr y3 hlt hL hzc hh0
      go_wp2_with fail
      obtain ⟨wo, rfl⟩ : ∃ wo : World, wo = wr := ⟨_, rfl⟩
      go_loopw [6, 7] (fun b j wi => ∃ (q m bi : Nat), q ≤ L ∧ j = .int .i64 (q : Int) ∧ b = .int .i64 (bi : Int) ∧ wi = wo.drewN m ∧ (O k)[bi]? = some (best z ((O k).take q) ((O k).headD 0))) (fun _ j _ => L - (intOf j).toNat)
      case atStart => exact ⟨0, 0, 0, by omega, rfl, rfl, rfl, HC.out.2.2.2.2.2.2.2.2⟩
      case round =>
        obtain ⟨q, m, bi, hq, rfl, rfl, rfl, hbi⟩ := hrel
        obtain ⟨z5, u, z6, hu⟩ := HC.out.2.2.2.2.1 wo HC.out.2.2.2.1 bi _ hbi
        have hbL : bi < L := by rw [← HC.out.2.2.2.2.2.2.2.1]; exact (List.getElem?_eq_some_iff.1 hbi).1
        have hbn := HC.out.2.2.2.2.2.2.1 _ (List.mem_of_getElem? hbi)
        have z7 := HC.out.2.2.2.2.2.1 _ hbn
        obtain ⟨B, hB⟩ : ∃ B, best z ((O k).take q) ((O k).headD 0) = B := ⟨_, rfl⟩
        rw [hB] at z5 hu hbn z7 hbi
        obtain ⟨bv, hbv⟩ : ∃ v, z.at B = v := ⟨_, rfl⟩
        rw [hbv] at z7
        by_cases hqL : q < L
        · obtain ⟨p, hp⟩ : ∃ p, (O k)[q]? = some p := ⟨_, List.getElem?_eq_getElem (by rw [HC.out.2.2.2.2.2.2.2.1]; exact hqL)⟩
          have hpn := HC.out.2.2.2.2.2.2.1 _ (List.mem_of_getElem? hp)
          obtain ⟨z8, -⟩ := HC.out.2.2.2.2.1 wo HC.out.2.2.2.1 q p hp
          have z9 := HC.out.2.2.2.2.2.1 p hpn
          obtain ⟨pv, hpv⟩ : ∃ v, z.at p = v := ⟨_, rfl⟩
          rw [hpv] at z9
          have hnx : best z ((O k).take (q + 1)) ((O k).headD 0) = if pv < bv then p else B := by rw [List.take_add_one, hp, Option.toList_some, best_snoc, hB, hpv, hbv]
          have HN := Lib.hid (And.intro hbi (And.intro hp hnx))
          have hq1 : (q : Int) < L := by omega
          clear hbi hp hu hnx hB hbv hpv
          by_cases hlt : pv < bv
          · have g1 : decide ((pv : Int) < (bv : Int)) = true := by simp; omega
            have g2 : (pv : Int) < (bv : Int) := by omega
            go_wp2_with fail
            go_quiet (fail)
            go_wp2_with fail
            refine ⟨⟨q + 1, m + nq, q, by omega, by go_num, rfl, rfl, ?_⟩, by simp [intOf]; omega⟩
            rw [HN.out.2.2, if_pos hlt]; exact HN.out.2.1
          · have g1 : decide ((pv : Int) < (bv : Int)) = false := by simp; omega
            have g2 : ¬ (pv : Int) < (bv : Int) := by omega
            go_wp2_with fail
            go_quiet (fail)
            go_wp2_with fail
            refine ⟨⟨q + 1, m + nq, bi, by omega, by go_num, rfl, rfl, ?_⟩, by simp [intOf]; omega⟩
            rw [HN.out.2.2, if_neg hlt]; exact HN.out.1
        · obtain rfl : q = L := by omega
          have hq1 : ¬ (q : Int) < q := by omega
          obtain ⟨ub, uo, uc, rfl, _⟩ := id hu
          have hmul := fun (V : World) (hv : Below wo.heap.size wo V) => mul49 hn hn0 (hu.below hv) (HC.out.2.1.below hv)
          have hbB : best z (O k) ((O k).headD 0) = B := by rw [← hB, List.take_of_length_le (by rw [HC.out.2.2.2.2.2.2.2.1]; exact Nat.le_refl _)]
          have HM := Lib.hid (And.intro hmul hbB)
          clear hmul hbB hu hB hbi hbv
          go_wp2_with (go_at_call 49; refine (HM.out.1 _ (below_self_drewN _ _)).mono ?_; rintro e1 w7 ⟨v7, rfl, k1, k2⟩; have H7 := Lib.hid (And.intro k1 k2); clear k1 k2)
          have hb7 : Below wo.heap.size wo w7 := below_trans (below_self_drewN wo m) H7.out.2
          have hlt := HC.out.1.lt
          refine ⟨⟨k + 1, (R k B).mul z, by omega, by go_num, HC.out.1.below (hb7.mono (by omega)), H7.out.1.pm (by simp), ?_⟩, by simp [intOf]; omega⟩
          rw [← HC.out.2.2.1, show n - k = n - (k + 1) + 1 by omega, lstF, HM.out.2]
    · obtain rfl : k = n := by omega
      have hk1 : ¬ (k : Int) < k := by omega
      rw [Nat.sub_self] at he
      have HC := Lib.hid (And.intro hb (And.intro hz he))
      clear hb hwr he hz hzc
      go_wp2_with fail
      go_ret
      exact ⟨_, rfl, by rw [← HC.out.2.2]; exact HC.out.2.1, HC.out.1.bel⟩
theorem cnt_snoc {n : Nat} (y : Pm n) (l : List Nat) (q v : Nat) : cnt y (l ++ [q]) v = if y.at q < v then cnt y l v + 1 else cnt y l v := by
  unfold cnt
  rw [List.countP_append]
  by_cases h : y.at q < v
  · rw [if_pos h]; simp [h]
  · rw [if_neg h]; simp [h]
set_option maxRecDepth 100000 in
set_option maxHeartbeats 4000000 in
theorem unrank66 {n ab ao c bb bo e : Nat} {G : Pm n → Prop} {O : Nat → List Nat} {R : Nat → Nat → Pm n} (hn0 : 0 < n) (hn : n ≤ 8) (hG : ChG G O R) {la : Option Addr} {lc K : Nat} {w : World} (h : LvW n w O R ab ao bb bo) (hla : Ints w la (szP O n 0)) (hK : K < szF O n 0) :
    Calls Tryz.prog 66 #[cv n ab ao c bb bo e, .slice la (n + 1) lc, .int .i64 (K : Int)] w fun e w' => ∃ v, e = .returned v ∧ PmV w' [] v (unF O R n 0 (PlainPm.one n) K) ∧ Below w.heap.size w w' := by
  obtain ⟨X, hX⟩ : ∃ X, w.heap.size = X := ⟨_, rfl⟩
  have hB0 := BoxW.start w X n ab ao c bb bo e hX
  obtain ⟨W1, hW1⟩ : ∃ W1, W1 = w.alloc (.cells #[.int .i64 (n : Int), .slice (some ⟨ab, ao, none⟩) n c, .slice (some ⟨bb, bo, none⟩) n e] 25) := ⟨_, rfl⟩
  rw [← hW1] at hB0
  have hwW : Below w.heap.size w W1 := by rw [hX]; exact hB0.bel
  obtain ⟨lb, lo, hle, _, _⟩ := hla.at_ (k := 0) (by rw [szP_len]; omega)
  subst hle
  have hlc : ∀ V, Below w.heap.size w V → ∀ t, t ≤ n → V.cell? ⟨lb, lo + t, none⟩ = some (.int .i64 (szF O (n - t) t : Int)) := fun V hV t ht => by
    obtain ⟨lb', lo', hle, hl2, hc⟩ := hla.at_ (k := t) (by rw [szP_len]; omega)
    cases hle
    rw [szP_get ht (Nat.zero_le _)] at hc
    exact (hV.cell (p := ⟨lb, lo + t, none⟩) hl2).trans hc
  have H := Lib.hid (And.intro h (And.intro hlc (And.intro hB0 (And.intro hX (And.intro hwW (And.intro hG hK))))))
  obtain ⟨z0, z1, z2⟩ : W1.cell? ⟨X, 0, none⟩ = some (.int .i64 (n : Int)) ∧ W1.cell? ⟨X, 1, none⟩ = some (.slice (some ⟨ab, ao, none⟩) n c) ∧ W1.cell? ⟨X, 2, none⟩ = some (.slice (some ⟨bb, bo, none⟩) n e) := ⟨hB0.c0, hB0.c1, hB0.c2⟩
  clear h hlc hwW hG hB0 hK hla
  go_enter Tryz.func66, Tryz.ntmps66
  try rw [hX]
  go_wp2_with (go_at_call 65; (try rw [← hW1]); clear hW1; refine (one65 (by omega) hn0).mono ?_; rintro e w2 ⟨v2, rfl, k1, k2⟩; have H2 := Lib.hid (And.intro k1 k2); clear k1 k2)
  clear z0 z1 z2
  go_loopw [2, 7, 8, 9, 10, 11, 12, 13] (fun kv v i _ _ _ _ _ wr => ∃ (k K' : Nat) (z : Pm n), k ≤ n ∧ i = .int .i64 (k : Int) ∧ kv = .int .i64 (K' : Int) ∧ K' < szF O (n - k) k ∧ BoxW w X n ab ao c bb bo e wr ∧ PmV wr [] v z ∧ unF O R (n - k) k z K' = unF O R n 0 (PlainPm.one n) K) (fun _ _ i _ _ _ _ _ _ => n - (intOf i).toNat)
  case atStart => exact ⟨0, K, PlainPm.one n, by omega, rfl, rfl, H.out.2.2.2.2.2.2, H.out.2.2.1.below (H2.out.2.mono H.out.2.2.1.lt), H2.out.1.pm (by simp), rfl⟩
  case round =>
    obtain ⟨k, K', z, hk, rfl, rfl, hKs, hb, hz, he⟩ := hrel
    have x0 := hb.c0
    have x1 := hb.c1
    have x2 := hb.c2
    have hwr : Below w.heap.size w wr := by rw [hX]; exact hb.bel
    obtain ⟨zb, zo, zc, hu1, _, hzb, hzc⟩ := id hz
    subst hu1
    by_cases hkn : k < n
    · obtain ⟨go, oo, oc, gr, ro, rc, y1, y2, y3⟩ := H.out.1.at_ hwr hkn
      have hlt := H.out.2.2.2.2.2.1.lt k hkn
      have hnd := H.out.2.2.2.2.2.1.nd k hkn
      have y4 := H.out.2.1 wr hwr (k + 1) (by omega)
      have hZp := H.out.2.2.2.2.2.1.sz_pos (f := n - (k + 1)) (i := k + 1) (by omega)
      have hZl := H.out.2.2.2.2.2.1.sz_le (m := 8) hn (f := n - (k + 1)) (i := k + 1) (by omega)
      have hZl2 : szF O (n - (k + 1)) (k + 1) ≤ 16777216 := Nat.le_trans hZl (Nat.le_trans (Nat.pow_le_pow_right (by omega) (show n - (k + 1) ≤ 8 by omega)) (by decide))
      obtain ⟨Z, hZ⟩ : ∃ Z, szF O (n - (k + 1)) (k + 1) = Z := ⟨_, rfl⟩
      obtain ⟨L, hL⟩ : ∃ L, (O k).length = L := ⟨_, rfl⟩
      have hL64 : L ≤ 64 := by rw [← hL]; exact Nat.le_trans (H.out.2.2.2.2.2.1.short hkn) (by omega)
      rw [show n - k = n - (k + 1) + 1 by omega, szF, hZ, hL] at hKs
      rw [hZ] at y4 hZp hZl2
      rw [hL] at y1 y2
      have hqs : K' / Z < L := Nat.div_lt_of_lt_mul (by rw [Nat.mul_comm]; exact hKs)
      have hrs : K' % Z < Z := Nat.mod_lt _ hZp
      have hsel := sel_sorted (y := z) hlt hnd (m := srtI (nts ((O k).map z.at))) (by
        refine (List.mergeSort_perm _ _).trans ?_
        unfold nts; rw [List.map_map]; exact List.Perm.refl _) (by
        have := List.pairwise_mergeSort (le := fun x y : Int => decide (x ≤ y)) (fun a b c h1 h2 => by simp at *; omega) (fun a b => by simp; omega) (nts ((O k).map z.at))
        exact this.imp (by simp)) (s := K' / Z) (by rw [hL]; exact hqs)
      obtain ⟨q0, hq0⟩ : ∃ q, selQ z (O k) (K' / Z) = q := ⟨_, rfl⟩
      rw [hq0] at hsel
      have huni : ∀ q ∈ O k, cnt z (O k) (z.at q) = K' / Z → q = q0 := fun q hq hc => by rw [← hq0, selQ_eq hlt hq hc]
      have hnx : unF O R (n - (k + 1)) (k + 1) ((R k q0).mul z) (K' % Z) = unF O R n 0 (PlainPm.one n) K := by
        rw [← he, show n - k = n - (k + 1) + 1 by omega, unF, hZ, hq0]
      obtain ⟨SK, hSK⟩ : ∃ s, K' / Z = s := ⟨_, rfl⟩
      rw [hSK] at huni hsel hqs
      have hq1 : ((K' : Int) / (Z : Int)) = (SK : Int) := by rw [← hSK]; exact (Int.natCast_ediv K' Z).symm
      have hq2 : ((K' : Int) % (Z : Int)) = ((K' % Z : Nat) : Int) := (Int.natCast_emod K' Z).symm
      have hZ0 : ¬ (Z : Int) = 0 := by omega
      have hr64 : K' % Z < 16777216 := by omega
      obtain ⟨RK, hRK⟩ : ∃ r, K' % Z = r := ⟨_, rfl⟩
      rw [hRK] at hq2 hnx hrs hr64
      have hKb : K' < 1073741824 := Nat.lt_of_lt_of_le hKs (Nat.le_trans (Nat.mul_le_mul hL64 hZl2) (by decide))
      have HC := Lib.hid (And.intro hb (And.intro hz (And.intro hwr (And.intro y3 (And.intro hzc (And.intro hlt (And.intro hL (And.intro hsel (And.intro huni (And.intro hnx (And.intro hrs hZ)))))))))))
      have hk1 : (k : Int) < n := by omega
      clear hb hz he hwr y3 hlt hL hzc hsel huni hnx hrs hZ hnd hZp hZl hZl2 hKs hSK hRK hq0
      go_wp2_with fail
      rw [hq2]
      clear hq2
      obtain ⟨wo, rfl⟩ : ∃ wo : World, wo = wr := ⟨_, rfl⟩
      go_loopw [10, 11, 12, 13] (fun b j _ _ wi => ∃ (q m bi : Nat), q ≤ L ∧ j = .int .i64 (q : Int) ∧ b = .int .i64 (bi : Int) ∧ wi = wo.drewN m ∧ ∀ s, s < q → (O k)[s]? = some q0 → (O k)[bi]? = some q0) (fun _ j _ _ _ => L - (intOf j).toNat)
      case atStart => exact ⟨0, 0, 0, by omega, rfl, rfl, rfl, fun s hs => by omega⟩
      case round =>
        obtain ⟨q, m, bi, hq, rfl, rfl, rfl, hbi⟩ := hrel
        by_cases hqL : q < L
        · obtain ⟨p, hp⟩ : ∃ p, (O k)[q]? = some p := ⟨_, List.getElem?_eq_getElem (by rw [HC.out.2.2.2.2.2.2.1]; exact hqL)⟩
          have hpn := HC.out.2.2.2.2.2.1 _ (List.mem_of_getElem? hp)
          obtain ⟨z8, -⟩ := HC.out.2.2.2.1 wo HC.out.2.2.1 q p hp
          have z9 := HC.out.2.2.2.2.1 p hpn
          obtain ⟨pv, hpv⟩ : ∃ v, z.at p = v := ⟨_, rfl⟩
          rw [hpv] at z9
          have hq1' : (q : Int) < L := by omega
          have HN := Lib.hid (And.intro hbi (And.intro hp hpv))
          clear hbi hp hpv
          go_wp2_with fail
          obtain ⟨Q0, hQ0⟩ : ∃ Q0, wo.drewN m = Q0 := ⟨_, rfl⟩
          go_loopw [12, 13] (fun b j wi => ∃ (r m2 : Nat), r ≤ L ∧ j = .int .i64 (r : Int) ∧ b = .int .i64 (cnt z ((O k).take r) pv : Int) ∧ wi = wo.drewN m2) (fun _ j _ => L - (intOf j).toNat)
          case atStart => exact ⟨0, m, by omega, rfl, rfl, rfl⟩
          case round =>
            obtain ⟨r, m2, hr, rfl, rfl, rfl⟩ := hrel
            obtain ⟨C, hC⟩ : ∃ C, cnt z ((O k).take r) pv = C := ⟨_, rfl⟩
            have hCr : C ≤ 64 := by rw [← hC]; have h1 := cnt_le z ((O k).take r) pv; rw [List.length_take, HC.out.2.2.2.2.2.2.1] at h1; omega
            rw [hC]
            by_cases hrL : r < L
            · obtain ⟨p2, hp2⟩ : ∃ p, (O k)[r]? = some p := ⟨_, List.getElem?_eq_getElem (by rw [HC.out.2.2.2.2.2.2.1]; exact hrL)⟩
              have hp2n := HC.out.2.2.2.2.2.1 _ (List.mem_of_getElem? hp2)
              obtain ⟨w8, -⟩ := HC.out.2.2.2.1 wo HC.out.2.2.1 r p2 hp2
              have w9 := HC.out.2.2.2.2.1 p2 hp2n
              obtain ⟨pv2, hpv2⟩ : ∃ v, z.at p2 = v := ⟨_, rfl⟩
              rw [hpv2] at w9
              have hnc : cnt z ((O k).take (r + 1)) pv = if pv2 < pv then C + 1 else C := by rw [List.take_add_one, hp2, Option.toList_some, cnt_snoc, hC, hpv2]
              have HN2 := Lib.hid hnc
              have hr1 : (r : Int) < L := by omega
              clear hp2 hpv2 hnc hC
              by_cases hlt : pv2 < pv
              · have g1 : decide ((pv2 : Int) < (pv : Int)) = true := by simp; omega
                have g2 : (pv2 : Int) < (pv : Int) := by omega
                go_wp2_with fail
                go_quiet (fail)
                go_wp2_with fail
                refine ⟨⟨r + 1, m2 + nq, by omega, by go_num, ?_, rfl⟩, by simp [intOf]; omega⟩
                rw [HN2.out, if_pos hlt]; go_num
              · have g1 : decide ((pv2 : Int) < (pv : Int)) = false := by simp; omega
                have g2 : ¬ (pv2 : Int) < (pv : Int) := by omega
                go_wp2_with fail
                go_quiet (fail)
                go_wp2_with fail
                refine ⟨⟨r + 1, m2 + nq, by omega, by go_num, ?_, rfl⟩, by simp [intOf]; omega⟩
                rw [HN2.out, if_neg hlt]
            · obtain rfl : r = L := by omega
              have hr1 : ¬ (r : Int) < r := by omega
              have hCC : cnt z (O k) pv = C := by rw [← hC, List.take_of_length_le (by rw [HC.out.2.2.2.2.2.2.1]; exact Nat.le_refl _)]
              have HN2 := Lib.hid hCC
              clear hCC hC
              by_cases hCS : C = SK
              · subst hCS
                have g1 : ((C : Int) == (C : Int)) = true := by simp
                go_wp2_with fail
                have hpq : p = q0 := HC.out.2.2.2.2.2.2.2.2.1 p (List.mem_of_getElem? HN.out.2.1) (by rw [HN.out.2.2, HN2.out])
                refine ⟨⟨q + 1, m2, q, by omega, by go_num, rfl, rfl, fun s hs hsq => ?_⟩, by simp [intOf]; omega⟩
                rw [← hpq]; exact HN.out.2.1
              · have g1 : ((C : Int) == (SK : Int)) = false := by simp; omega
                have HCS := Lib.hid hCS
                clear hCS
                go_wp2_with fail
                refine ⟨⟨q + 1, m2, bi, by omega, by go_num, rfl, rfl, fun s hs hsq => ?_⟩, by simp [intOf]; omega⟩
                by_cases es : s = q
                · subst es
                  rw [HN.out.2.1] at hsq; cases hsq
                  exact absurd (by rw [← HN2.out, ← HN.out.2.2]; exact HC.out.2.2.2.2.2.2.2.1.2.1) HCS.out
                · exact HN.out.1 s (by omega) hsq
        · obtain rfl : q = L := by omega
          have hq1' : ¬ (q : Int) < q := by omega
          have hb0 : (O k)[bi]? = some q0 := by
            obtain ⟨s, hs⟩ := List.mem_iff_getElem?.1 HC.out.2.2.2.2.2.2.2.1.1
            have hsl := (List.getElem?_eq_some_iff.1 hs).1
            rw [HC.out.2.2.2.2.2.2.1] at hsl
            exact hbi s hsl hs
          have hbL : bi < q := by rw [← HC.out.2.2.2.2.2.2.1]; exact (List.getElem?_eq_some_iff.1 hb0).1
          obtain ⟨z5, u, z6, hu⟩ := HC.out.2.2.2.1 wo HC.out.2.2.1 bi _ hb0
          obtain ⟨ub, uo, uc, rfl, _⟩ := id hu
          have hmul := fun (V : World) (hv : Below wo.heap.size wo V) => mul49 (by omega) hn0 (hu.below hv) (HC.out.2.1.below hv)
          have HM := Lib.hid hmul
          clear hmul hu hb0 hbi
          go_wp2_with (go_at_call 49; refine (HM.out _ (below_self_drewN _ _)).mono ?_; rintro e1 w7 ⟨v7, rfl, k1, k2⟩; have H7 := Lib.hid (And.intro k1 k2); clear k1 k2)
          have hb7 : Below wo.heap.size wo w7 := below_trans (below_self_drewN wo m) H7.out.2
          have hlt := HC.out.1.lt
          refine ⟨⟨k + 1, RK, (R k q0).mul z, by omega, by go_num, rfl, by rw [HC.out.2.2.2.2.2.2.2.2.2.2.2]; exact HC.out.2.2.2.2.2.2.2.2.2.2.1, HC.out.1.below (hb7.mono (by omega)), H7.out.1.pm (by simp), HC.out.2.2.2.2.2.2.2.2.2.1⟩, by simp [intOf]; omega⟩
    · obtain rfl : k = n := by omega
      have hk1 : ¬ (k : Int) < k := by omega
      rw [Nat.sub_self] at he
      have HC := Lib.hid (And.intro hb (And.intro hz he))
      clear hb hwr he hz hzc hKs
      go_wp2_with fail
      go_ret
      exact ⟨_, rfl, by rw [← HC.out.2.2]; exact HC.out.2.1, HC.out.1.bel⟩
end Go.Proofs.YtbejhkojdiadaaaGreat
