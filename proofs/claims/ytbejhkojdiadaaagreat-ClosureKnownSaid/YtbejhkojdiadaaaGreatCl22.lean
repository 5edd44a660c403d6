/- List: the reference's. · elements: an iterator that calls itself. -/
import Derived.Test.YtbejhkojdiadaaaGreatCl01
import Derived.Test.YtbejhkojdiadaaaGreatCl02
import Derived.Test.YtbejhkojdiadaaaGreatCl03
import Derived.Test.YtbejhkojdiadaaaGreatCl04
import Derived.Test.YtbejhkojdiadaaaGreatCl05
import Derived.Test.YtbejhkojdiadaaaGreatCl06
import Derived.Test.YtbejhkojdiadaaaGreatCl07
import Derived.Test.YtbejhkojdiadaaaGreatCl08
import Derived.Test.YtbejhkojdiadaaaGreatCl09
import Derived.Test.YtbejhkojdiadaaaGreatCl10
import Derived.Test.YtbejhkojdiadaaaGreatCl11
import Derived.Test.YtbejhkojdiadaaaGreatCl12
import Derived.Test.YtbejhkojdiadaaaGreatCl13
import Derived.Test.YtbejhkojdiadaaaGreatCl14
import Derived.Test.YtbejhkojdiadaaaGreatCl15
import Derived.Test.YtbejhkojdiadaaaGreatCl16
import Derived.Test.YtbejhkojdiadaaaGreatCl17
import Derived.Test.YtbejhkojdiadaaaGreatCl18
import Derived.Test.YtbejhkojdiadaaaGreatCl19
import Derived.Test.YtbejhkojdiadaaaGreatCl20
import Derived.Test.YtbejhkojdiadaaaGreatCl21
import Derived.Test.YtbejhkojdiadaaaGreatProg
import Derived.WalkKit
import Derived.WalkSpells
import Derived.BigQuiet
import Derived.Deep.QuietTactic
import Derived.Deep.LoopGhost
import Derived.Lib.Hide
import Derived.Maps.AppendAt
import Derived.Deep.AppendLies
import Derived.StillTailTactics
import Derived.Laws.CopyOwn
import Derived.Deep.OwnRows
import Derived.Deep.DeepCutAuto
import Derived.Laws.Cover3
import Derived.Deep.RegionHeld3
import Derived.RangeFuncRecord
import Derived.Lib.SlicesSearch
import Derived.RangeFuncBox
import Derived.RangeFuncLeaves
import Derived.RangeFuncWrites
import Derived.RangeFuncFrom
import Derived.Shelf.Abstract
import Derived.OwnWalkIn
import Derived.TacticsInMore
import Derived.LoopNIn
import Derived.LoopIn
import Derived.Shelf.GgSortFunc.Insertion
import Derived.Shelf.SlIter.Collect
import Derived.Shelf.Sort.Plain
import Derived.Deep.RegionLaw
import Derived.ControlIn
import Derived.Deep.AppendSrc
set_option linter.unusedSimpArgs false
set_option linter.unusedVariables false
namespace Go.Proofs.YtbejhkojdiadaaaGreat
open Go.RowKit PlainPm
set_option maxRecDepth 100000 in
set_option maxHeartbeats 4000000 in
theorem unrank66m {n ab ao c bb bo e : Nat} {G : Pm n → Prop} {O : Nat → List Nat} {R : Nat → Nat → Pm n} (hn0 : 0 < n) (hn : n ≤ 8) (hG : ChG G O R) {la : Option Addr} {lc K : Nat} {w : World} (h : LvW n w O R ab ao bb bo) (hla : Ints w la (szP O n 0)) (hK : K < szF O n 0) {M : List Nat} (hM : ∀ m ∈ M, m < w.heap.size) :
    Calls Tryz.prog 66 #[cv n ab ao c bb bo e, .slice la (n + 1) lc, .int .i64 (K : Int)] w fun e w' => ∃ v, e = .returned v ∧ PmV w' M v (unF O R n 0 (PlainPm.one n) K) ∧ Below w.heap.size w w' := by
  obtain ⟨X, hX⟩ : ∃ X, w.heap.size = X := ⟨_, rfl⟩
  have hB0 := BoxW.start w X n ab ao c bb bo e hX
  obtain ⟨W1, hW1⟩ : ∃ W1, W1 = w.alloc (.cells #[.int .i64 (n : Int), .slice (some ⟨ab, ao, none⟩) n c, .slice (some ⟨bb, bo, none⟩) n e] 25) := ⟨_, rfl⟩
  rw [← hW1] at hB0
  have hwW : Below w.heap.size w W1 := by rw [hX]; exact hB0.bel
  obtain ⟨lb, lo, hle, _, _⟩ := hla.at_ (k := 0) (by rw [szP_len]; omega)
  subst hle
  have hlc : ∀ V, Below w.heap.size w V → ∀ t, t ≤ n → V.cell? ⟨lb, lo + t, none⟩ = some (.int .i64 (szF O (n - t) t : Int)) := fun V hV t ht => by
    obtain ⟨lb', lo', hle, hl2, hc⟩ := hla.at_ (k := t) (by rw [szP_len]; omega)
    cases hle
    rw [szP_get ht (Nat.zero_le _)] at hc
    exact (hV.cell (p := ⟨lb, lo + t, none⟩) hl2).trans hc
  have H := Lib.hid (And.intro h (And.intro hlc (And.intro hB0 (And.intro hX (And.intro hwW (And.intro hG hK))))))
  obtain ⟨z0, z1, z2⟩ : W1.cell? ⟨X, 0, none⟩ = some (.int .i64 (n : Int)) ∧ W1.cell? ⟨X, 1, none⟩ = some (.slice (some ⟨ab, ao, none⟩) n c) ∧ W1.cell? ⟨X, 2, none⟩ = some (.slice (some ⟨bb, bo, none⟩) n e) := ⟨hB0.c0, hB0.c1, hB0.c2⟩
  clear h hlc hwW hG hB0 hK hla
  go_enter Tryz.func66, Tryz.ntmps66
  try rw [hX]
  go_wp2_with (go_at_call 65; (try rw [← hW1]); clear hW1; refine (one65 (by omega) hn0).mono ?_; rintro e w2 ⟨v2, rfl, k1, k2⟩; have H2 := Lib.hid (And.intro k1 k2); clear k1 k2)
  clear z0 z1 z2
  go_loopw [2, 7, 8, 9, 10, 11, 12, 13] (fun kv v i _ _ _ _ _ wr => ∃ (k K' : Nat) (z : Pm n), k ≤ n ∧ i = .int .i64 (k : Int) ∧ kv = .int .i64 (K' : Int) ∧ K' < szF O (n - k) k ∧ BoxW w X n ab ao c bb bo e wr ∧ PmV wr M v z ∧ unF O R (n - k) k z K' = unF O R n 0 (PlainPm.one n) K) (fun _ _ i _ _ _ _ _ _ => n - (intOf i).toNat)
  case atStart => exact ⟨0, K, PlainPm.one n, by omega, rfl, rfl, H.out.2.2.2.2.2.2, H.out.2.2.1.below (H2.out.2.mono H.out.2.2.1.lt), H2.out.1.pm (fun m hm => Nat.lt_of_lt_of_le (hM m hm) (H.out.2.2.2.2.1).size), rfl⟩
  case round =>
    obtain ⟨k, K', z, hk, rfl, rfl, hKs, hb, hz, he⟩ := hrel
    have x0 := hb.c0
    have x1 := hb.c1
    have x2 := hb.c2
    have hwr : Below w.heap.size w wr := by rw [hX]; exact hb.bel
    obtain ⟨zb, zo, zc, hu1, _, hzb, hzc⟩ := id hz
    subst hu1
    by_cases hkn : k < n
    · obtain ⟨go, oo, oc, gr, ro, rc, y1, y2, y3⟩ := H.out.1.at_ hwr hkn
      have hlt := H.out.2.2.2.2.2.1.lt k hkn
      have hnd := H.out.2.2.2.2.2.1.nd k hkn
      have y4 := H.out.2.1 wr hwr (k + 1) (by omega)
      have hZp := H.out.2.2.2.2.2.1.sz_pos (f := n - (k + 1)) (i := k + 1) (by omega)
      have hZl := H.out.2.2.2.2.2.1.sz_le (m := 8) hn (f := n - (k + 1)) (i := k + 1) (by omega)
      have hZl2 : szF O (n - (k + 1)) (k + 1) ≤ 16777216 := Nat.le_trans hZl (Nat.le_trans (Nat.pow_le_pow_right (by omega) (show n - (k + 1) ≤ 8 by omega)) (by decide))
      obtain ⟨Z, hZ⟩ : ∃ Z, szF O (n - (k + 1)) (k + 1) = Z := ⟨_, rfl⟩
      obtain ⟨L, hL⟩ : ∃ L, (O k).length = L := ⟨_, rfl⟩
      have hL64 : L ≤ 64 := by rw [← hL]; exact Nat.le_trans (H.out.2.2.2.2.2.1.short hkn) (by omega)
      rw [show n - k = n - (k + 1) + 1 by omega, szF, hZ, hL] at hKs
      rw [hZ] at y4 hZp hZl2
      rw [hL] at y1 y2
      have hqs : K' / Z < L := Nat.div_lt_of_lt_mul (by rw [Nat.mul_comm]; exact hKs)
      have hrs : K' % Z < Z := Nat.mod_lt _ hZp
      have hsel := sel_sorted (y := z) hlt hnd (m := srtI (nts ((O k).map z.at))) (by
        refine (List.mergeSort_perm _ _).trans ?_
        unfold nts; rw [List.map_map]; exact List.Perm.refl _) (by
        have := List.pairwise_mergeSort (le := fun x y : Int => decide (x ≤ y)) (fun a b c h1 h2 => by simp at *; omega) (fun a b => by simp; omega) (nts ((O k).map z.at))
        exact this.imp (by simp)) (s := K' / Z) (by rw [hL]; exact hqs)
      obtain ⟨q0, hq0⟩ : ∃ q, selQ z (O k) (K' / Z) = q := ⟨_, rfl⟩
      rw [hq0] at hsel
      have huni : ∀ q ∈ O k, cnt z (O k) (z.at q) = K' / Z → q = q0 := fun q hq hc => by rw [← hq0, selQ_eq hlt hq hc]
      have hnx : unF O R (n - (k + 1)) (k + 1) ((R k q0).mul z) (K' % Z) = unF O R n 0 (PlainPm.one n) K := by
        rw [← he, show n - k = n - (k + 1) + 1 by omega, unF, hZ, hq0]
      obtain ⟨SK, hSK⟩ : ∃ s, K' / Z = s := ⟨_, rfl⟩
      rw [hSK] at huni hsel hqs
      have hq1 : ((K' : Int) / (Z : Int)) = (SK : Int) := by rw [← hSK]; exact (Int.natCast_ediv K' Z).symm
      have hq2 : ((K' : Int) % (Z : Int)) = ((K' % Z : Nat) : Int) := (Int.natCast_emod K' Z).symm
      have hZ0 : ¬ (Z : Int) = 0 := by omega
      have hr64 : K' % Z < 16777216 := by omega
      obtain ⟨RK, hRK⟩ : ∃ r, K' % Z = r := ⟨_, rfl⟩
      rw [hRK] at hq2 hnx hrs hr64
      have hKb : K' < 1073741824 := Nat.lt_of_lt_of_le hKs (Nat.le_trans (Nat.mul_le_mul hL64 hZl2) (by decide))
      have HC := Lib.hid (And.intro hb (And.intro hz (And.intro hwr (And.intro y3 (And.intro hzc (And.intro hlt (And.intro hL (And.intro hsel (And.intro huni (And.intro hnx (And.intro hrs hZ)))))))))))
      have hk1 : (k : Int) < n := by omega
      clear hb hz he hwr y3 hlt hL hzc hsel huni hnx hrs hZ hnd hZp hZl hZl2 hKs hSK hRK hq0
      go_wp2_with fail
      rw [hq2]
      clear hq2
      obtain ⟨wo, rfl⟩ : ∃ wo : World, wo = wr := ⟨_, rfl⟩
      go_loopw [10, 11, 12, 13] (fun b j _ _ wi => ∃ (q m bi : Nat), q ≤ L ∧ j = .int .i64 (q : Int) ∧ b = .int .i64 (bi : Int) ∧ wi = wo.drewN m ∧ ∀ s, s < q → (O k)[s]? = some q0 → (O k)[bi]? = some q0) (fun _ j _ _ _ => L - (intOf j).toNat)
      case atStart => exact ⟨0, 0, 0, by omega, rfl, rfl, rfl, fun s hs => by omega⟩
      case round =>
        obtain ⟨q, m, bi, hq, rfl, rfl, rfl, hbi⟩ := hrel
        by_cases hqL : q < L
        · obtain ⟨p, hp⟩ : ∃ p, (O k)[q]? = some p := ⟨_, List.getElem?_eq_getElem (by rw [HC.out.2.2.2.2.2.2.1]; exact hqL)⟩
          have hpn := HC.out.2.2.2.2.2.1 _ (List.mem_of_getElem? hp)
          obtain ⟨z8, -⟩ := HC.out.2.2.2.1 wo HC.out.2.2.1 q p hp
          have z9 := HC.out.2.2.2.2.1 p hpn
          obtain ⟨pv, hpv⟩ : ∃ v, z.at p = v := ⟨_, rfl⟩
          rw [hpv] at z9
          have hq1' : (q : Int) < L := by omega
          have HN := Lib.hid (And.intro hbi (And.intro hp hpv))
          clear hbi hp hpv
          go_wp2_with fail
          obtain ⟨Q0, hQ0⟩ : ∃ Q0, wo.drewN m = Q0 := ⟨_, rfl⟩
          go_loopw [12, 13] (fun b j wi => ∃ (r m2 : Nat), r ≤ L ∧ j = .int .i64 (r : Int) ∧ b = .int .i64 (cnt z ((O k).take r) pv : Int) ∧ wi = wo.drewN m2) (fun _ j _ => L - (intOf j).toNat)
          case atStart => exact ⟨0, m, by omega, rfl, rfl, rfl⟩
          case round =>
            obtain ⟨r, m2, hr, rfl, rfl, rfl⟩ := hrel
            obtain ⟨C, hC⟩ : ∃ C, cnt z ((O k).take r) pv = C := ⟨_, rfl⟩
            have hCr : C ≤ 64 := by rw [← hC]; have h1 := cnt_le z ((O k).take r) pv; rw [List.length_take, HC.out.2.2.2.2.2.2.1] at h1; omega
            rw [hC]
            by_cases hrL : r < L
            · obtain ⟨p2, hp2⟩ : ∃ p, (O k)[r]? = some p := ⟨_, List.getElem?_eq_getElem (by rw [HC.out.2.2.2.2.2.2.1]; exact hrL)⟩
              have hp2n := HC.out.2.2.2.2.2.1 _ (List.mem_of_getElem? hp2)
              obtain ⟨w8, -⟩ := HC.out.2.2.2.1 wo HC.out.2.2.1 r p2 hp2
              have w9 := HC.out.2.2.2.2.1 p2 hp2n
              obtain ⟨pv2, hpv2⟩ : ∃ v, z.at p2 = v := ⟨_, rfl⟩
              rw [hpv2] at w9
              have hnc : cnt z ((O k).take (r + 1)) pv = if pv2 < pv then C + 1 else C := by rw [List.take_add_one, hp2, Option.toList_some, cnt_snoc, hC, hpv2]
              have HN2 := Lib.hid hnc
              have hr1 : (r : Int) < L := by omega
              clear hp2 hpv2 hnc hC
              by_cases hlt : pv2 < pv
              · have g1 : decide ((pv2 : Int) < (pv : Int)) = true := by simp; omega
                have g2 : (pv2 : Int) < (pv : Int) := by omega
                go_wp2_with fail
                go_quiet (fail)
                go_wp2_with fail
                refine ⟨⟨r + 1, m2 + nq, by omega, by go_num, ?_, rfl⟩, by simp [intOf]; omega⟩
                rw [HN2.out, if_pos hlt]; go_num
              · have g1 : decide ((pv2 : Int) < (pv : Int)) = false := by simp; omega
                have g2 : ¬ (pv2 : Int) < (pv : Int) := by omega
                go_wp2_with fail
                go_quiet (fail)
                go_wp2_with fail
                refine ⟨⟨r + 1, m2 + nq, by omega, by go_num, ?_, rfl⟩, by simp [intOf]; omega⟩
                rw [HN2.out, if_neg hlt]
            · obtain rfl : r = L := by omega
              have hr1 : ¬ (r : Int) < r := by omega
              have hCC : cnt z (O k) pv = C := by rw [← hC, List.take_of_length_le (by rw [HC.out.2.2.2.2.2.2.1]; exact Nat.le_refl _)]
              have HN2 := Lib.hid hCC
              clear hCC hC
              by_cases hCS : C = SK
              · subst hCS
                have g1 : ((C : Int) == (C : Int)) = true := by simp
                go_wp2_with fail
                have hpq : p = q0 := HC.out.2.2.2.2.2.2.2.2.1 p (List.mem_of_getElem? HN.out.2.1) (by rw [HN.out.2.2, HN2.out])
                refine ⟨⟨q + 1, m2, q, by omega, by go_num, rfl, rfl, fun s hs hsq => ?_⟩, by simp [intOf]; omega⟩
                rw [← hpq]; exact HN.out.2.1
              · have g1 : ((C : Int) == (SK : Int)) = false := by simp; omega
                have HCS := Lib.hid hCS
                clear hCS
                go_wp2_with fail
                refine ⟨⟨q + 1, m2, bi, by omega, by go_num, rfl, rfl, fun s hs hsq => ?_⟩, by simp [intOf]; omega⟩
                by_cases es : s = q
                · subst es
                  rw [HN.out.2.1] at hsq; cases hsq
                  exact absurd (by rw [← HN2.out, ← HN.out.2.2]; exact HC.out.2.2.2.2.2.2.2.1.2.1) HCS.out
                · exact HN.out.1 s (by omega) hsq
        · obtain rfl : q = L := by omega
          have hq1' : ¬ (q : Int) < q := by omega
          have hb0 : (O k)[bi]? = some q0 := by
            obtain ⟨s, hs⟩ := List.mem_iff_getElem?.1 HC.out.2.2.2.2.2.2.2.1.1
            have hsl := (List.getElem?_eq_some_iff.1 hs).1
            rw [HC.out.2.2.2.2.2.2.1] at hsl
            exact hbi s hsl hs
          have hbL : bi < q := by rw [← HC.out.2.2.2.2.2.2.1]; exact (List.getElem?_eq_some_iff.1 hb0).1
          obtain ⟨z5, u, z6, hu⟩ := HC.out.2.2.2.1 wo HC.out.2.2.1 bi _ hb0
          obtain ⟨ub, uo, uc, rfl, _⟩ := id hu
          have hmul := fun (V : World) (hv : Below wo.heap.size wo V) => mul49 (by omega) hn0 (hu.below hv) (HC.out.2.1.weak.below hv)
          have HM := Lib.hid hmul
          clear hmul hu hb0 hbi
          go_wp2_with (go_at_call 49; refine (HM.out _ (below_self_drewN _ _)).mono ?_; rintro e1 w7 ⟨v7, rfl, k1, k2⟩; have H7 := Lib.hid (And.intro k1 k2); clear k1 k2)
          have hb7 : Below wo.heap.size wo w7 := below_trans (below_self_drewN wo m) H7.out.2
          have hlt := HC.out.1.lt
          refine ⟨⟨k + 1, RK, (R k q0).mul z, by omega, by go_num, rfl, by rw [HC.out.2.2.2.2.2.2.2.2.2.2.2]; exact HC.out.2.2.2.2.2.2.2.2.2.2.1, HC.out.1.below (hb7.mono (by omega)), H7.out.1.pm (fun m hm => Nat.lt_of_lt_of_le (hM m hm) HC.out.2.2.1.size), HC.out.2.2.2.2.2.2.2.2.2.1⟩, by simp [intOf]; omega⟩
    · obtain rfl : k = n := by omega
      have hk1 : ¬ (k : Int) < k := by omega
      rw [Nat.sub_self] at he
      have HC := Lib.hid (And.intro hb (And.intro hz he))
      clear hb hwr he hz hzc hKs
      go_wp2_with fail
      go_ret
      exact ⟨_, rfl, by rw [← HC.out.2.2]; exact HC.out.2.1, HC.out.1.bel⟩
section
variable {n : Nat}
set_option maxRecDepth 100000 in
set_option maxHeartbeats 4000000 in
theorem list87 (hn' : 0 < n ∧ n ≤ 8) {w : World} {v1 : Value} {G : Pm n → Prop} (hG : IsG G) (h1 : GrG w v1 G) :
    ∃ O R, ChG G O R ∧ (szF O n 0 ≤ 5040 → Calls Tryz.prog 87 #[v1] w fun e w' => ∃ v us, e = .returned (.tuple #[v, .int .i64 0]) ∧ Own w' w.heap.size v 27 us ∧ PmL w' v.ownBlock.toList us (elsF O R n 0 (PlainPm.one n)) ∧ Below w.heap.size w w') := by
  have hn : 0 < n ∧ n ≤ 64 := ⟨hn'.1, by omega⟩
  obtain ⟨os, rs, hch, hc0⟩ := h1.chk hn hG
  have hck := fun (V : World) (hV : Below w.heap.size w V) => chk56 (hch.below hV)
  simp only [hc0] at hck
  obtain ⟨T1, t1, ab, ao, c, bb, bo, e, hv1, hl1⟩ := h1.lev hG ⟨hn.1, hn.2⟩
  subst hv1
  have hC := t1.chG hG
  obtain ⟨O, hO⟩ : ∃ O, orbO T1 = O := ⟨_, rfl⟩
  obtain ⟨R, hR⟩ : ∃ R, PlainPm.repT T1 = R := ⟨_, rfl⟩
  have hC' : ChG G O R := by rw [← hO, ← hR]; exact hC
  rw [hO, hR] at hl1
  refine ⟨O, R, hC', fun hsz => ?_⟩
  have hel := els_un hC' (f := n) (i := 0) (y := PlainPm.one n) (Nat.zero_add n)
  obtain ⟨F, hF⟩ : ∃ F, elsF O R n 0 (PlainPm.one n) = F := ⟨_, rfl⟩
  rw [hF] at hel ⊢
  obtain ⟨Z, hZ⟩ : ∃ Z, szF O n 0 = Z := ⟨_, rfl⟩
  rw [hZ] at hsz hel
  have hs57 := fun (V : World) (hV : Below w.heap.size w V) => siz57 (c := c) (e := e) hn'.1 hn'.2 hC' (hl1.below hV)
  obtain ⟨i27, hi27, hz27, hs27, hb27⟩ := info_parts Tryz.info27
  have I27 := Lib.hid (And.intro hi27 (And.intro hz27 (And.intro hs27 hb27)))
  clear hi27 hz27 hs27 hb27
  obtain ⟨X, hX⟩ : ∃ X, w.heap.size = X := ⟨_, rfl⟩
  obtain ⟨W1, hW1⟩ : ∃ W1, w.alloc (.cells #[.int .i64 (n : Int), .slice (some ⟨ab, ao, none⟩) n c, .slice (some ⟨bb, bo, none⟩) n e] 25) = W1 := ⟨_, rfl⟩
  have hszw : W1.heap.size = X + 1 := by rw [← hW1]; simp [hX]
  have hwW : Below w.heap.size w W1 := hW1 ▸ alloc_b (Below.refl _ _) _
  have k0 : W1.heap[X]? = some (.cells #[.int .i64 (n : Int), .slice (some ⟨ab, ao, none⟩) n c, .slice (some ⟨bb, bo, none⟩) n e] 25) := by
    rw [← hW1]
    exact box_al25 hX _ _ _
  obtain ⟨x0, x1, x2, _⟩ := box_cells k0
  have hx0 := And.intro x0 (And.intro x1 (And.intro x2 (Below.refl W1.heap.size W1)))
  have HC := Lib.hid (And.intro hck (And.intro hs57 (And.intro hC' (And.intro hl1 (And.intro hel (And.intro hZ hwW))))))
  clear hck hs57 hC' hl1 hel hC hO hR hF hwW k0 h1 hch t1
  go_enter Tryz.func87, Tryz.ntmps87
  try simp only [hX]
  go_wp2_with (first
    | (go_at_call 57; (with_reducible refine (HC.out.2.1 _ (below_trans HC.out.2.2.2.2.2.2 H2.out)).mono ?_); rintro e3 w3 ⟨gs, sc, rfl, k1, k2⟩
       have b3 : Below W1.heap.size W1 w3 := below_trans H2.out k2
       obtain ⟨y0, y1, y2, _⟩ := keep3b hx0 b3
       have s0 : w3.cell? ⟨gs, 0, none⟩ = some (.int .i64 (Z : Int)) := by have := k1.2 0 (Nat.zero_le _); rw [Nat.sub_zero, HC.out.2.2.2.2.2.1] at this; exact this
       have hz2 : decide ((5040 : Int) < (Z : Int)) = false := by simp; omega
       have hz3 : ((Z : Int) > 5040) = False := by simp; omega
       have hn1 : (0 : Int) < (n : Int) + 1 := by omega
       have H3 := Lib.hid (And.intro k1 b3)
       clear k1 k2 b3)
    | (go_at_call 56; (with_reducible refine (HC.out.1 _ HC.out.2.2.2.2.2.2).mono ?_); rintro e2 w2 ⟨rfl, k⟩; obtain ⟨z0, z1, z2, _⟩ := keep3b hx0 k; have H2 := Lib.hid k; clear k))
  have hFl : F.length = Z := by rw [HC.out.2.2.2.2.1]; simp
  have hw3 : Below w.heap.size w w3 := below_trans HC.out.2.2.2.2.2.2 H3.out.2
  have HP := Lib.hid (And.intro hFl hw3)
  have hZ63 : Z ≤ 9223372036854775807 := by omega
  clear hFl hw3
  go_loopw [7, 8] (fun v i wr => ∃ (k : Nat) (us : List Value), k ≤ Z ∧ i = .int .i64 (k : Int) ∧ GrowL [] wr w3.heap.size v us (F.take k) ∧ Below w3.heap.size w3 wr) (fun _ i _ => Z - (intOf i).toNat)
  case atStart => exact ⟨0, [], Nat.zero_le _, rfl, GrowL.nil _ (by simp), Below.refl _ _⟩
  case round =>
    obtain ⟨k, us, hk, rfl, hgl, hbr⟩ := hrel
    have s0r := (hbr.cell (block_lt_of_cell s0)).trans s0
    have y0r := (hbr.cell (block_lt_of_cell y0)).trans y0
    have y1r := (hbr.cell (block_lt_of_cell y1)).trans y1
    have y2r := (hbr.cell (block_lt_of_cell y2)).trans y2
    by_cases hka : k < Z
    · have hk1 : (k : Int) < Z := by omega
      have hsw := H3.out.1.below hbr
      have hla : Ints wr (some ⟨gs, 0, none⟩) (szP O n 0) := ⟨by simp [szP_len]; unfold maxLen; omega, fun i u hu => ⟨gs, 0, rfl, hsw.1, by
        rw [List.getElem?_map] at hu
        cases hg : (szP O n 0)[i]? with
        | none => rw [hg] at hu; cases hu
        | some z =>
          rw [hg] at hu
          cases hu
          have hi : i ≤ n := by have := (List.getElem?_eq_some_iff.1 hg).1; rw [szP_len] at this; omega
          have e1 := szP_get (O := O) (n := n) (m := 0) hi (Nat.zero_le _)
          rw [hg] at e1
          rw [Nat.zero_add, hsw.2 i hi]
          simp only [Option.getD_some] at e1
          rw [e1]⟩⟩
      have hu66 := unrank66m (c := c) (e := e) (lc := sc) (K := k) hn'.1 hn'.2 HC.out.2.2.1 (HC.out.2.2.2.1.below (below_trans HP.out.2 hbr)) hla (by rw [HC.out.2.2.2.2.2.1]; exact hka) (M := u7.ownBlock.toList) (fun m hm => (hgl.1.block_lt (mem_ob.1 hm)).1)
      obtain ⟨z, hz⟩ : ∃ z, F[k]? = some z := ⟨_, List.getElem?_eq_getElem (by rw [HP.out.1]; exact hka)⟩
      have hzu : unF O R n 0 (PlainPm.one n) k = z := by
        have h := hz
        rw [HC.out.2.2.2.2.1, List.getElem?_map, List.getElem?_range hka] at h
        exact Option.some.inj h
      rw [hzu] at hu66
      have hlu : us.length < 1099511627776 := by have h1 := hgl.len; rw [List.length_take] at h1; omega
      have hD : w3.heap.size ≤ wr.heap.size := hbr.size
      have HY := Lib.hid (And.intro hu66 (And.intro hgl (And.intro hbr hz)))
      clear hu66 hgl hbr hz hzu hla hsw
      go_wp2_with (first
        | (at_builtin; refine app1 rfl (.tmp 34) (.tmp 39) 44 27 rfl i27 (.slice none 0 0) 24 Tryz.underlying44 I27.out.1 I27.out.2.1 I27.out.2.2.1 I27.out.2.2.2 rfl (by omega) w3.heap.size (.slice (some ⟨vb, vo, none⟩) n vc) _ us rfl (HY.out.2.1.below H6.out.1).1 rfl rfl hlu (Nat.le_trans hD H6.out.1.size) ?_; intro v8 w8 k1 k2 k3; have H8 := Lib.hid (And.intro k1 (And.intro k2 k3)); clear k1 k2 k3)
        | (go_at_call 66; (with_reducible refine HY.out.1.mono ?_); rintro e6 w6 ⟨v6, rfl, k1, k2⟩
           obtain ⟨vb, vo, vc, rfl, _⟩ := id k1
           have H6 := Lib.hid (And.intro k2 k1)
           clear k1 k2))
      refine ⟨⟨k + 1, us ++ [.slice (some ⟨vb, vo, none⟩) n vc], by omega, by go_num, ?_, ?_⟩, by simp [intOf]; omega⟩
      · have := (HY.out.2.1.below H6.out.1).app (by rw [List.append_nil]; exact H6.out.2) H8.out.1 H8.out.2.1 H8.out.2.2
        rw [List.take_add_one, HY.out.2.2.2]
        exact this
      · exact (HY.out.2.2.1.trans (H6.out.1.mono HY.out.2.2.1.size)).grown H8.out.2.1 (Nat.le_trans HY.out.2.2.1.size H6.out.1.size) (fun g e => (HY.out.2.1.1.block_lt e).2)
    · have hk1 : ¬ (k : Int) < Z := by omega
      have hkN : k = F.length := by rw [HP.out.1]; omega
      have hgl' := hgl
      rw [hkN, List.take_length] at hgl'
      have HK := Lib.hid (And.intro hgl' hbr)
      clear hgl hgl' hbr
      go_wp2_with fail
      go_ret2
      have hb := below_trans HP.out.2 HK.out.2
      refine ⟨_, rfl, us, HK.out.1.1.mono (by have := HP.out.2.size; omega), by have := HK.out.1.2.1; rwa [List.append_nil] at this, by rwa [hX] at hb⟩
end
end Go.Proofs.YtbejhkojdiadaaaGreat
namespace Go.Proofs.YtbejhkojdiadaaaGreat
open Go.RowKit PlainPm
attribute [local go_sem] Oper.semAt_some
section
variable {n : Nat}
theorem els151 {w : World} {ab ao c bb bo e : Nat} {a : Option Addr} {l cc : Nat} {i : Int} :
    Calls Tryz.prog 151 #[cv n ab ao c bb bo e, .slice a l cc, .int .i64 i] w fun r w' => ∃ I C P, r = .returned (.func (.func 172) #[] #[.pointer (some ⟨I, 0, none⟩), .pointer (some ⟨C, 0, none⟩), .pointer (some ⟨P, 0, none⟩)]) ∧
      w'.cell? ⟨I, 0, none⟩ = some (.int .i64 i) ∧ w'.heap[C]? = some (.cells #[.int .i64 (n : Int), .slice (some ⟨ab, ao, none⟩) n c, .slice (some ⟨bb, bo, none⟩) n e] 25) ∧ w'.cell? ⟨P, 0, none⟩ = some (.slice a l cc) ∧
      w.heap.size ≤ I ∧ w.heap.size ≤ C ∧ w.heap.size ≤ P ∧ Below w.heap.size w w' := by
  obtain ⟨X, hX⟩ : ∃ X, w.heap.size = X := ⟨_, rfl⟩
  go_enter Tryz.func151, Tryz.ntmps151
  try simp only [hX]
  go_wp2
  go_ret
  refine ⟨_, _, _, rfl, ?_, ?_, ?_, ?_, ?_, ?_, ?_⟩
  · rw [World.cell?_alloc_at _ _ _ _ (by simp [hX])]; rfl
  · exact ((alloc_b (alloc_b (Below.refl _ _) (.cells #[.slice a l cc] 27)) (.cells #[.int .i64 i] 3)).block X (by simp; omega)).trans (box_al25 hX _ _ _)
  · rw [World.cell?_alloc_past _ _ _ (by simp [hX]), World.cell?_alloc_at _ _ _ _ (by simp [hX])]; rfl
  · omega
  · omega
  · omega
  · rw [← hX]; exact alloc_b (alloc_b (alloc_b (Below.refl _ _) _) _) _
def elCore (s : List (Pm n)) (M : List Nat) (A : World) : Prop := True
def elGood (F s : List (Pm n)) (M : List Nat) (q : Value × Pm n) (A : World) : Prop := PmV A M q.1 q.2 ∧ s ++ [q.2] <+: F
def elNx (s : List (Pm n)) (q : Value × Pm n) (s' : List (Pm n)) : Prop := s' = s ++ [q.2]
theorem Stp.grown {W A B : World} {M0 M : List Nat} {row : Option Nat} (h : Stp W M0 A M) (g : A.grownBy B row) (hr : ∀ r, row = some r → W.heap.size ≤ r) : Stp W M0 B M :=
  ⟨⟨g.os.trans h.kept.os, g.tape.trans h.kept.tape, g.output.trans h.kept.output, Nat.le_trans h.kept.size g.size, fun k hk hn =>
    (g.block k (Nat.lt_of_lt_of_le hk h.kept.size) (fun e => by have := hr k e.symm; omega)).trans (h.kept.block k hk hn)⟩, h.new⟩
theorem Kept.grown {W A B : World} {M0 : List Nat} {row : Option Nat} (h : Kept W A M0) (g : A.grownBy B row) (hr : ∀ r, row = some r → W.heap.size ≤ r) : Kept W B M0 :=
  ⟨g.os.trans h.os, g.tape.trans h.tape, g.output.trans h.output, Nat.le_trans h.size g.size, fun k hk hn =>
    (g.block k (Nat.lt_of_lt_of_le hk h.size) (fun e => by have := hr k e.symm; omega)).trans (h.block k hk hn)⟩
theorem leaves_marks {F : Fence} {m : Nat} {P : Program} {fn : Func} {tmps : Array Value} {R : Ending → World → Prop} {u : FrameMode} (hu : u ≠ .run) :
    ∀ (Ds : List Nat) (w : World), Ds.Nodup → (∀ D ∈ Ds, w.heap[D]? = some (.deferred (some []))) → LeavesIn F m P fn tmps R [] u (Ds.foldl (fun W D => W.putObj D (.deferred none)) w) →
      LeavesInM F m P fn tmps R (Ds.map fun D => { target := .collected D, args := #[] }) u w
  | [], w, _, _, h => h
  | D :: Ds, w, hn, hD, h => by
    refine ⟨hu, .inl ⟨_, _, rfl, run_takeDeferred (hD D (List.mem_cons_self ..)), leaves_marks hu Ds _ (List.nodup_cons.1 hn).2 (fun D' h' => ?_) h⟩⟩
    rw [World.putObj_heap_other (fun e => (List.nodup_cons.1 hn).1 (by rw [← e]; exact h'))]
    exact hD D' (List.mem_cons_of_mem _ h')
theorem putAll {I : World → Prop} {B : Nat} (hI : OwnFromW B I) : ∀ (Ds : List Nat) (w : World), (∀ D ∈ Ds, B ≤ D ∧ ∃ o : Obj, w.heap[D]? = some o ∧ o.isCells = false) → I w → I (Ds.foldl (fun W D => W.putObj D (.deferred none)) w)
  | [], w, _, h => h
  | D :: Ds, w, hD, h => by
    obtain ⟨h1, o, h2, h3⟩ := hD D (List.mem_cons_self ..)
    refine putAll hI Ds _ (fun D' h' => ?_) (OwnFrom.putObj hI (s := ()) _ h h1 h2 h3)
    obtain ⟨h4, o', h5, h6⟩ := hD D' (List.mem_cons_of_mem _ h')
    refine ⟨h4, ?_⟩
    by_cases e : D' = D
    · subst e; exact ⟨_, World.putObj_heap_same (Array.getElem?_eq_some_iff.1 h2).1, rfl⟩
    · exact ⟨o', (World.putObj_heap_other e).trans h5, h6⟩
set_option maxRecDepth 100000 in
set_option maxHeartbeats 4000000 in
theorem els172a (hn : 0 < n ∧ n ≤ 64) {O : Nat → List Nat} {R : Nat → Nat → Pm n} {ab ao c bb bo e : Nat} {F : List (Pm n)} {w : World} {I C P : Nat} {vy : Value} {y : Pm n} {M0 : List Nat} {s0 : List (Pm n)}
    (hI : w.cell? ⟨I, 0, none⟩ = some (.int .i64 (n : Int))) (hC : w.heap[C]? = some (.cells #[.int .i64 (n : Int), .slice (some ⟨ab, ao, none⟩) n c, .slice (some ⟨bb, bo, none⟩) n e] 25)) (hP : w.cell? ⟨P, 0, none⟩ = some vy)
    (hy : PmV w M0 vy y) (hF : s0 ++ [y] <+: F) :
    SeqY Tryz.prog 172 #[.pointer (some ⟨I, 0, none⟩), .pointer (some ⟨C, 0, none⟩), .pointer (some ⟨P, 0, none⟩)] Prod.fst elCore (elGood F) elNx (fun s => s = s0 ++ [y]) s0 M0 w := by
  intro lp J Jx W hW _ hl2 hJ hJx hCo hY h0
  obtain ⟨yb, yo, yc, rfl, _⟩ := id hy
  obtain ⟨c0, c1, c2, _⟩ := box_cells hC
  have cI := (hW.cell (p := ⟨I, 0, none⟩) (block_lt_of_cell hI)).trans hI
  have cC := (hW.cell (p := ⟨C, 0, none⟩) (block_lt_of_cell c0)).trans c0
  have cP := (hW.cell (p := ⟨P, 0, none⟩) (block_lt_of_cell hP)).trans hP
  obtain ⟨W1, hW1⟩ : ∃ W1, W.alloc (.cells #[.func (.yield lp) #[] #[]] 90) = W1 := ⟨_, rfl⟩
  have hb1 : Below W.heap.size W W1 := hW1 ▸ alloc_b (Below.refl _ _) _
  have hyy := hY 8 s0 M0 (.slice (some ⟨yb, yo, none⟩) n yc, y) W1 (ownS_below hJ h0 hb1) ⟨(hy.below hW).below hb1, hF⟩
  obtain ⟨fn, tmps, assign, body, hyr, hR⟩ := hyy
  dsimp only at hyr
  have dI := (hb1.cell (p := ⟨I, 0, none⟩) (block_lt_of_cell cI)).trans cI
  have dC := (hb1.cell (p := ⟨C, 0, none⟩) (block_lt_of_cell cC)).trans cC
  have dP := (hb1.cell (p := ⟨P, 0, none⟩) (block_lt_of_cell cP)).trans cP
  have dY : W1.cell? ⟨W.heap.size, 0, none⟩ = some (.func (.yield lp) #[] #[]) := by rw [← hW1]; exact World.cell?_alloc_at _ _ _ _ rfl
  have H := Lib.hid (And.intro hb1 hW1)
  clear hY hW hI hC hP hy hF hb1 c0 c1 c2 h0 hCo hJ hJx cI cC cP
  refine (callsIn_wide (n := 9)).1 ?_
  have wd : Fence.wide.depth = none := rfl
  refine callsIn_of_wp Tryz.func172 rfl trivial ?_ rfl
  simp only [Tryz.ntmps172, List.size_toArray, List.length_cons, List.length_nil, Nat.reduceAdd, Nat.reduceSub, Array.replicate_succ, Array.replicate_zero, List.push_toArray, List.append_toArray, List.nil_append, List.cons_append]
  gi_wp2
  refine hR.mono ?_
  rintro e W4 (⟨rfl, s', M', hnx, hj, hst⟩ | ⟨rfl, hjx, hkx⟩)
  · have H4 := Lib.hid (And.intro hnx (And.intro hj ((Stp.below H.out.1).trans hst)))
    clear hnx hj hst hR hyr
    gi_wp2
    refine bodyPost_ret (results_none rfl _ _ _) rfl ?_
    exact ⟨⟨_, rfl⟩, .inl ⟨s', M', H4.out.1, H4.out.2.1, H4.out.2.2⟩⟩
  · have H4 := Lib.hid (And.intro hjx ((Kept.ofBelow H.out.1).trans hkx))
    clear hjx hkx hR hyr
    gi_wp2
    refine bodyPost_ret (results_none rfl _ _ _) rfl ?_
    exact ⟨⟨_, rfl⟩, .inr H4.out⟩
theorem wrap_s {i : Nat} (h : i < 64) : Value.int .i64 (IntKind.i64.wrap ((i : Int) + 1)) = .int .i64 ((i + 1 : Nat) : Int) := by
  rw [IntWalk.i64_in _ (by omega)]; rfl
def ElSeq (O : Nat → List Nat) (R : Nat → Nat → Pm n) (ab ao c bb bo e : Nat) (F : List (Pm n)) (f i : Nat) : Prop :=
  ∀ {w : World} {I C P : Nat} {vy : Value} {y : Pm n} {M0 : List Nat} {s0 : List (Pm n)}, w.cell? ⟨I, 0, none⟩ = some (.int .i64 (i : Int)) →
    w.heap[C]? = some (.cells #[.int .i64 (n : Int), .slice (some ⟨ab, ao, none⟩) n c, .slice (some ⟨bb, bo, none⟩) n e] 25) → w.cell? ⟨P, 0, none⟩ = some vy → I ∉ M0 → C ∉ M0 → P ∉ M0 → PmV w M0 vy y →
    (∀ W', Kept w W' M0 → LvW n W' O R ab ao bb bo) → s0 ++ elsF O R f i y <+: F →
      SeqY Tryz.prog 172 #[.pointer (some ⟨I, 0, none⟩), .pointer (some ⟨C, 0, none⟩), .pointer (some ⟨P, 0, none⟩)] Prod.fst elCore (elGood F) elNx (fun s => s = s0 ++ elsF O R f i y) s0 M0 w
structure ElC (I C P n ab ao c bb bo e yb yo yc i : Nat) (W V : World) : Prop where
  i : V.cell? ⟨I, 0, none⟩ = some (.int .i64 (i : Int))
  c0 : V.cell? ⟨C, 0, none⟩ = some (.int .i64 (n : Int))
  c1 : V.cell? ⟨C, 1, none⟩ = some (.slice (some ⟨ab, ao, none⟩) n c)
  c2 : V.cell? ⟨C, 2, none⟩ = some (.slice (some ⟨bb, bo, none⟩) n e)
  p : V.cell? ⟨P, 0, none⟩ = some (.slice (some ⟨yb, yo, none⟩) n yc)
  b : Below W.heap.size W V
theorem ElC.below {I C P n ab ao c bb bo e yb yo yc i : Nat} {W A B : World} (h : ElC I C P n ab ao c bb bo e yb yo yc i W A) (k : Below A.heap.size A B) : ElC I C P n ab ao c bb bo e yb yo yc i W B :=
  ⟨(k.cell (block_lt_of_cell h.i)).trans h.i, (k.cell (block_lt_of_cell h.c0)).trans h.c0, (k.cell (block_lt_of_cell h.c1)).trans h.c1, (k.cell (block_lt_of_cell h.c2)).trans h.c2, (k.cell (block_lt_of_cell h.p)).trans h.p, below_trans h.b k⟩
theorem ElC.all {I C P n ab ao c bb bo e yb yo yc i : Nat} {W V : World} (h : ElC I C P n ab ao c bb bo e yb yo yc i W V) :
    V.cell? ⟨I, 0, none⟩ = some (.int .i64 (i : Int)) ∧ V.cell? ⟨C, 0, none⟩ = some (.int .i64 (n : Int)) ∧ V.cell? ⟨C, 1, none⟩ = some (.slice (some ⟨ab, ao, none⟩) n c) ∧ V.cell? ⟨C, 2, none⟩ = some (.slice (some ⟨bb, bo, none⟩) n e) ∧ V.cell? ⟨P, 0, none⟩ = some (.slice (some ⟨yb, yo, none⟩) n yc) ∧ Below W.heap.size W V :=
  ⟨h.i, h.c0, h.c1, h.c2, h.p, h.b⟩
set_option maxRecDepth 100000 in
set_option maxHeartbeats 4000000 in
theorem els172b (hn : 0 < n ∧ n ≤ 64) {G : Pm n → Prop} {O : Nat → List Nat} {R : Nat → Nat → Pm n} (hG : ChG G O R) {ab ao c bb bo e : Nat} {F : List (Pm n)} {f i : Nat} (hi : i + (f + 1) = n) (ih : ElSeq O R ab ao c bb bo e F f (i + 1)) : ElSeq O R ab ao c bb bo e F (f + 1) i := by
  intro w I C P vy y M0 s0 hI hC hP nI nC nP hy hlv hF
  intro lp J Jx W hW hl1 hl2 hJ hJx hCo hY h0
  have hin : i < n := by omega
  obtain ⟨yb, yo, yc, rfl, _⟩ := id hy
  obtain ⟨c0, c1, c2, _⟩ := box_cells hC
  have cI := (hW.cell (p := ⟨I, 0, none⟩) (block_lt_of_cell hI)).trans hI
  have cC := (hW.cell (p := ⟨C, 0, none⟩) (block_lt_of_cell c0)).trans c0
  have cC1 := (hW.cell (p := ⟨C, 1, none⟩) (block_lt_of_cell c1)).trans c1
  have cC2 := (hW.cell (p := ⟨C, 2, none⟩) (block_lt_of_cell c2)).trans c2
  have cP := (hW.cell (p := ⟨P, 0, none⟩) (block_lt_of_cell hP)).trans hP
  have hlt := hG.lt i hin
  have hnd := hG.nd i hin
  obtain ⟨W1, hW1⟩ : ∃ W1, W.alloc (.cells #[.func (.yield lp) #[] #[]] 90) = W1 := ⟨_, rfl⟩
  have hb1 : Below W.heap.size W W1 := hW1 ▸ alloc_b (Below.refl _ _) _
  have dI := (hb1.cell (p := ⟨I, 0, none⟩) (block_lt_of_cell cI)).trans cI
  have dC := (hb1.cell (p := ⟨C, 0, none⟩) (block_lt_of_cell cC)).trans cC
  have dC1 := (hb1.cell (p := ⟨C, 1, none⟩) (block_lt_of_cell cC1)).trans cC1
  have dC2 := (hb1.cell (p := ⟨C, 2, none⟩) (block_lt_of_cell cC2)).trans cC2
  have dP := (hb1.cell (p := ⟨P, 0, none⟩) (block_lt_of_cell cP)).trans cP
  have dY : W1.cell? ⟨W.heap.size, 0, none⟩ = some (.func (.yield lp) #[] #[]) := by rw [← hW1]; exact World.cell?_alloc_at _ _ _ _ rfl
  have k61 := choices61 (c := c) (e := e) hin hlt (hlv W1 ((Kept.ofBelow hW).trans (Kept.ofBelow hb1))) ((hy.below hW).below hb1).weak
  have hsl : (srtI (nts ((O i).map y.at))).length = (O i).length := by rw [srtI_len]; unfold nts; simp
  obtain ⟨L, hL⟩ : ∃ L, (O i).length = L := ⟨_, rfl⟩
  have hL64 : L ≤ 64 := by rw [← hL]; exact Nat.le_trans (hG.short hin) hn.2
  have hix : ((i : Int) == (n : Int)) = false := by simp; omega
  have HA := Lib.hid (And.intro hW (And.intro hJ (And.intro hJx (And.intro hCo (And.intro hY (And.intro h0 (And.intro hb1 hW1)))))))
  have HB := Lib.hid (And.intro hI (And.intro hC (And.intro hP (And.intro nI (And.intro nC (And.intro nP (And.intro hy (And.intro hlv hF))))))))
  have HC := Lib.hid (And.intro k61 (And.intro hlt (And.intro hnd (And.intro hsl hL))))
  clear hW hJ hJx hCo hY h0 hb1 hI hC hP nI nC nP hy hlv hF k61 hlt hnd hsl hL cI cC cC1 cC2 cP c0 c1 c2
  refine (callsIn_wide (n := 9)).1 ?_
  have w61 : Fence.wide.fn 61 := trivial
  have w62 : Fence.wide.fn 62 := trivial
  have w151 : Fence.wide.fn 151 := trivial
  have wd : Fence.wide.depth = none := rfl
  refine callsIn_of_wp_marks Tryz.func172 rfl trivial ?_ rfl
  simp only [Tryz.ntmps172, List.size_toArray, List.length_cons, List.length_nil, Nat.reduceAdd, Nat.reduceSub, Array.replicate_succ, Array.replicate_zero, List.push_toArray, List.append_toArray, List.nil_append, List.cons_append]
  gi_wp2_with (gi_at_call 61; (with_reducible refine (callsIn_wide.2 HC.out.1).mono ?_); rintro e2 w2 ⟨v2, rfl, k1, k2⟩
               have k3 : (ints (srtI (nts ((O i).map y.at)))).length = L := by rw [ints_len, HC.out.2.2.2.1, HC.out.2.2.2.2]
               obtain ⟨a2, c2, k5, k4⟩ := k1.row (by rw [k3]; unfold maxLen; omega)
               rw [k3] at k5
               subst k5
               have k6 := k1.intsB (by rw [HC.out.2.2.2.1, HC.out.2.2.2.2]; unfold maxLen; omega)
               have H2 := Lib.hid (And.intro k6 k2)
               clear k1 k2 k3 k4 k6)
  have hW2 : Below W.heap.size W w2 := below_trans HA.out.2.2.2.2.2.2.1 H2.out.2
  have hww2 : Below w.heap.size w w2 := below_trans HA.out.1 hW2
  have hM0 := (HA.out.2.2.2.1 _ _ _ HA.out.2.2.2.2.2.1).2
  have hs1 : W1.heap.size = W.heap.size + 1 := by rw [← HA.out.2.2.2.2.2.2.2]; simp
  have s12 := H2.out.2.size
  have lI := block_lt_of_cell HB.out.1
  have lC := (Array.getElem?_eq_some_iff.1 HB.out.2.1).1
  have lP := block_lt_of_cell HB.out.2.2.1
  have sw := HA.out.1.size
  have eI := (hww2.cell (p := ⟨I, 0, none⟩) lI).trans HB.out.1
  have eC := (hww2.block C lC).trans HB.out.2.1
  have eP := (hww2.cell (p := ⟨P, 0, none⟩) lP).trans HB.out.2.2.1
  have eY := (H2.out.2.cell (p := ⟨W.heap.size, 0, none⟩) (block_lt_of_cell dY)).trans dY
  have lI2 : I < w2.heap.size := Nat.lt_of_lt_of_le (show I < w.heap.size from lI) hww2.size
  have lC2 : C < w2.heap.size := Nat.lt_of_lt_of_le lC hww2.size
  have lP2 : P < w2.heap.size := Nat.lt_of_lt_of_le (show P < w.heap.size from lP) hww2.size
  have lY2 : W.heap.size < w2.heap.size := by omega
  have nY : W.heap.size ∉ M0 := fun hm => by have := hM0 _ hm; omega
  have HD := Lib.hid (And.intro hW2 (And.intro hww2 (And.intro hM0 (And.intro eI (And.intro eC (And.intro eP (And.intro eY nY)))))))
  clear hW2 hww2 hM0 eI eC eP eY nY
  refine wpIn_loop (fun a' wr => ∃ (u6 u20 u21 u22 u23 u24 u25 u26 u27 u28 u29 u30 u31 u32 u38 : Value) (ds : List Deferred),
    (∃ (k : Nat) (s : List (Pm n)) (M : List Nat) (Ds : List Nat), u20 = .int .i64 (k : Int) ∧ k ≤ L ∧ s = s0 ++ (List.range k).flatMap (fun t => elsF O R f (i + 1) ((R i (selQ y (O i) t)).mul y)) ∧ J s M wr ∧ Stp w2 M0 wr M ∧
      ds = Ds.map (fun D => { target := .collected D, args := #[] }) ∧ Ds.Nodup ∧ ∀ D ∈ Ds, w2.heap.size ≤ D ∧ D ∉ M ∧ wr.heap[D]? = some (.deferred (some []))) ∧
    a' = { tmps := #[.func (.yield lp) #[] #[], .pointer (some ⟨I, 0, none⟩), .pointer (some ⟨C, 0, none⟩), .pointer (some ⟨P, 0, none⟩), .pointer (some ⟨W.heap.size, 0, none⟩), undef, u6, undef, .int .i64 (i : Int), .pointer (some ⟨C, 0, none⟩), .int .i64 (n : Int), .bool false, undef, undef, undef,
      .agg #[.int .i64 (n : Int), .slice (some ⟨ab, ao, none⟩) n c, .slice (some ⟨bb, bo, none⟩) n e], .slice (some ⟨yb, yo, none⟩) n yc, .int .i64 (i : Int), .slice a2 L c2, .int .i64 (L : Int), u20, u21, u22, u23, u24, u25, u26, u27, u28, u29, u30, u31, u32, undef, undef, undef, undef, undef, u38], defers := ds })
    (fun a' _ => L - (intOf (a'.tmps.getD 20 undef)).toNat) ?start ?round
  case start =>
    exact ⟨_, _, _, _, _, _, _, _, _, _, _, _, _, _, _, _, ⟨0, s0, M0, [], rfl, Nat.zero_le _, by simp, ownS_below HA.out.2.1 HA.out.2.2.2.2.2.1 HD.out.1, Stp.refl _ _, rfl, List.nodup_nil, fun D h => by cases h⟩, rfl⟩
  case round =>
    rintro a' wr ⟨u6, u20, u21, u22, u23, u24, u25, u26, u27, u28, u29, u30, u31, u32, u38, ds, ⟨k, s, M, Ds, rfl, hk, hs, hj, hst, rfl, hDn, hD⟩, rfl⟩
    have hlvr := HB.out.2.2.2.2.2.2.2.1 wr ((Kept.ofBelow HD.out.2.1).trans hst.kept)
    have sr := hst.kept.size
    have sW2 := HD.out.1.size
    have fI := (hst.kept.cell (p := ⟨I, 0, none⟩) lI2 HB.out.2.2.2.1).trans HD.out.2.2.2.1
    have fC := (hst.kept.block C lC2 HB.out.2.2.2.2.1).trans HD.out.2.2.2.2.1
    have fP := (hst.kept.cell (p := ⟨P, 0, none⟩) lP2 HB.out.2.2.2.2.2.1).trans HD.out.2.2.2.2.2.1
    have fY := (hst.kept.cell (p := ⟨W.heap.size, 0, none⟩) lY2 HD.out.2.2.2.2.2.2.2).trans HD.out.2.2.2.2.2.2.1
    obtain ⟨fc0, fc1, fc2, _⟩ := box_cells fC
    have fy : PmV wr M (.slice (some ⟨yb, yo, none⟩) n yc) y := (HB.out.2.2.2.2.2.2.1.below HD.out.2.1).stp hst
    by_cases hkL : k < L
    · have hsel := sel_sorted (y := y) HC.out.2.1 HC.out.2.2.1 (m := srtI (nts ((O i).map y.at))) (by
          refine (srtI_perm _).trans ?_
          unfold nts; rw [List.map_map]; exact List.Perm.refl _) (srtI_sorted _) (s := k) (by rw [HC.out.2.2.2.2]; exact hkL)
      obtain ⟨q, hq⟩ : ∃ q, selQ y (O i) k = q := ⟨_, rfl⟩
      rw [hq] at hsel
      obtain ⟨g2, o2, rfl, hg2, hc2⟩ := H2.out.1.1.2 k (.int .i64 (y.at q : Int)) (by rw [List.getElem?_map, hsel.2.2]; rfl)
      have hg2M : g2 ∉ M := fun hm => by
        have h1 := H2.out.1.2 _ rfl (by rw [HC.out.2.2.2.1, HC.out.2.2.2.2]; omega)
        rcases hst.new _ hm with h | h
        · have h2 := HD.out.2.2.1 _ h
          have h3 : W1.heap.size ≤ g2 := h1
          omega
        · omega
      have hg2M0 : g2 ∉ M0 := fun hm => by
        have h2 := HD.out.2.2.1 _ hm
        have h3 : W1.heap.size ≤ g2 := H2.out.1.2 _ rfl (by rw [HC.out.2.2.2.1, HC.out.2.2.2.2]; omega)
        omega
      have fq := (hst.kept.cell (p := ⟨g2, o2 + k, none⟩) hg2 hg2M0).trans hc2
      obtain ⟨aq, haq⟩ : ∃ aq, y.at q = aq := ⟨_, rfl⟩
      have k62 := fun (V : World) (hV : Below wr.heap.size wr V) => step62 (c := c) (e := e) hn.2 hin HC.out.2.1 hsel.1 (hlvr.below hV) (fy.below hV).weak
      rw [haq] at fq
      simp only [haq] at k62
      have hk1 : (k : Int) < L := by omega
      have HR := Lib.hid (And.intro hs (And.intro hj (And.intro hst (And.intro hDn (And.intro hD (And.intro k62 (And.intro hq (And.intro hlvr fy))))))))
      clear hs hj hst hDn hD k62 hq hlvr fy hsel hc2 hg2 hg2M hg2M0 haq fC
      gi_wp2_with fail
      have hz0 := ElC.mk fI fc0 fc1 fc2 fP (Below.refl wr.heap.size wr)
      refine wpIn_wide.2 ?_
      go_region_held3 (fun V => V.cell? ⟨I, 0, none⟩ = some (.int .i64 (i : Int)) ∧ V.cell? ⟨C, 0, none⟩ = some (.int .i64 (n : Int)) ∧ V.cell? ⟨C, 1, none⟩ = some (.slice (some ⟨ab, ao, none⟩) n c) ∧ V.cell? ⟨C, 2, none⟩ = some (.slice (some ⟨bb, bo, none⟩) n e) ∧ V.cell? ⟨P, 0, none⟩ = some (.slice (some ⟨yb, yo, none⟩) n yc) ∧ Below wr.heap.size wr V)
        (first
          | with_reducible assumption
          | with_reducible exact hz0.all
          | (refine (hz0.below ?_).all; (repeat' (first | exact Below.refl _ _ | exact b8 | exact b7 | apply below_drw)); done)
          | fail)
        (first
        | (go_at_call 151; (with_reducible refine els151.mono ?_); rintro e8 w8 ⟨I2, C2, P2, rfl, k1, k2, k3, k4, k5, k6, k7⟩
           have b8 : Below wr.heap.size wr w8 := below_trans (by (repeat' (first | exact b7 | apply below_drw))) k7
           obtain ⟨iI, ic0, ic1, ic2, iP, _⟩ := hz0.below b8
           have H8 := Lib.hid (And.intro k1 (And.intro k2 (And.intro k3 (And.intro k4 (And.intro k5 (And.intro k6 k7)))))); clear k1 k2 k3 k4 k5 k6 k7)
        | (go_at_call 62; (with_reducible refine (HR.out.2.2.2.2.2.1 _ ?_).mono ?_); (repeat' (first | exact Below.refl _ _ | apply below_drw)); rintro e7 w7 ⟨v7, rfl, k1, k2⟩; obtain ⟨xb, xc, rfl, k3⟩ := id k1
           have b7 : Below wr.heap.size wr w7 := below_trans (by (repeat' (first | exact Below.refl _ _ | apply below_drw))) k2
           obtain ⟨gI, gc0, gc1, gc2, gP, _⟩ := hz0.below b7
           have H7 := Lib.hid (And.intro k1 k2); clear k1 k2 k3))
      gi_wp2
      obtain ⟨hs, hj, hst, hDn, hD, -, hq, hlvr, fy⟩ := HR.out
      have hMr := (HA.out.2.2.2.1 _ _ _ hj).2
      have s8 := b8.size
      have s7 := b7.size
      have hst8 : Stp W1 M0 w8 M := ((Stp.below H2.out.2).trans hst).trans (Stp.below b8)
      have hMM : ∀ m ∈ lp :: M, m < wr.heap.size := fun m hm => by
        rcases List.mem_cons.1 hm with h | h
        · omega
        · exact hMr m h
      have hi64 : (i : Int) < 64 := by omega
      have hw1 : Value.int .i64 (IntKind.i64.wrap ((i : Int) + 1)) = .int .i64 ((i + 1 : Nat) : Int) := wrap_s (by omega)
      obtain ⟨z31, hz31⟩ : ∃ z, Value.int .i64 (IntKind.i64.wrap ((i : Int) + 1)) = z := ⟨_, rfl⟩
      rw [hz31] at hw1 H8 ⊢
      clear hz31
      have hsnx : s ++ elsF O R f (i + 1) ((R i q).mul y) = s0 ++ (List.range (k + 1)).flatMap (fun t => elsF O R f (i + 1) ((R i (selQ y (O i) t)).mul y)) := by
        rw [hs, List.range_succ, List.flatMap_append, List.flatMap_cons, List.flatMap_nil, List.append_nil, hq, List.append_assoc]
      have hpre : s ++ elsF O R f (i + 1) ((R i q).mul y) <+: F := by
        refine List.IsPrefix.trans ?_ HB.out.2.2.2.2.2.2.2.2
        rw [hsnx]
        refine List.prefix_append_right_inj _ |>.2 ?_
        show _ <+: (List.range (O i).length).flatMap _
        rw [HC.out.2.2.2.2]
        obtain ⟨r, hr⟩ : ∃ r, L = (k + 1) + r := ⟨L - (k + 1), by omega⟩
        have e1 : List.range L = List.range (k + 1) ++ (List.range r).map (k + 1 + ·) := by rw [hr, List.range_add]
        rw [e1, List.flatMap_append]
        exact List.prefix_append _ _
      have hseq := ih (w := w8) (I := I2) (C := C2) (P := P2) (vy := .slice (some ⟨xb, 0, none⟩) n xc) (y := (R i q).mul y) (M0 := lp :: M) (s0 := s) (by rw [← hw1]; exact H8.out.1) H8.out.2.1 H8.out.2.2.1
        (fun hm => by have h1 := hMM _ hm; have h2 := H8.out.2.2.2.1; omega) (fun hm => by have h1 := hMM _ hm; have h2 := H8.out.2.2.2.2.1; omega) (fun hm => by have h1 := hMM _ hm; have h2 := H8.out.2.2.2.2.2.1; omega)
        ((H7.out.1.pm hMM).below H8.out.2.2.2.2.2.2)
        (fun W' hk => HB.out.2.2.2.2.2.2.2.1 W' ((((Kept.ofBelow HD.out.2.1).trans hst.kept).trans (Kept.ofBelow b8)).transW hk (fun m hm => by
          rcases List.mem_cons.1 hm with h | h
          · right; omega
          · rcases hst.new m h with h | h
            · exact .inl h
            · right; omega))) hpre
      have HS := Lib.hid (And.intro hj (And.intro hst (And.intro hDn (And.intro hD (And.intro hst8 (And.intro hMM hsnx))))))
      clear hj hst hDn hD hst8 hMM hsnx hpre hlvr fy hs hMr hq hw1
      refine wpIn_rangeYD (gf := 172) (lb := #[.pointer (some ⟨I2, 0, none⟩), .pointer (some ⟨C2, 0, none⟩), .pointer (some ⟨P2, 0, none⟩)]) rfl (enters_of Tryz.func172 (by kernel_rfl) rfl)
        (Prod.fst : Value × Pm n → Value) rfl (lp :: M) (fun m hm => Nat.lt_of_lt_of_le (HS.out.2.2.2.2.2.1 m hm) s8)
        (fun s' M' A => ∃ M2, M' = lp :: M2 ∧ J s' M2 A ∧ Stp W1 M0 A M2) (fun A => Jx A ∧ Kept W1 A (lp :: M0)) elCore (elGood F) elNx (fun s' => s' = s ++ elsF O R f (i + 1) ((R i q).mul y)) s hseq ?own ?ownx ?good ?core ⟨M, rfl, ownS_below HA.out.2.1 HS.out.1 b8, HS.out.2.2.2.2.1⟩
        (fun q => { tmps := #[.func (.yield lp) #[] #[], .pointer (some ⟨I, 0, none⟩), .pointer (some ⟨C, 0, none⟩), .pointer (some ⟨P, 0, none⟩), .pointer (some ⟨W.heap.size, 0, none⟩), undef, .int .i64 (aq : Int), q.1, .int .i64 (i : Int), .pointer (some ⟨C, 0, none⟩), .int .i64 (n : Int), .bool false, undef, undef, undef,
          .agg #[.int .i64 (n : Int), .slice (some ⟨ab, ao, none⟩) n c, .slice (some ⟨bb, bo, none⟩) n e], .slice (some ⟨yb, yo, none⟩) n yc, .int .i64 (i : Int), .slice (some ⟨g2, o2, none⟩) L c2, .int .i64 (L : Int), .int .i64 (k : Int), .bool true, .pointer (some ⟨g2, o2 + k, none⟩), .int .i64 (aq : Int),
          .agg #[.int .i64 (n : Int), .slice (some ⟨ab, ao, none⟩) n c, .slice (some ⟨bb, bo, none⟩) n e], .agg #[.int .i64 (n : Int), .slice (some ⟨ab, ao, none⟩) n c, .slice (some ⟨bb, bo, none⟩) n e], .slice (some ⟨yb, yo, none⟩) n yc, .int .i64 (i : Int), .int .i64 (aq : Int), .slice (some ⟨xb, 0, none⟩) n xc, .int .i64 (i : Int), z31,
          .func (.func 172) #[] #[.pointer (some ⟨I2, 0, none⟩), .pointer (some ⟨C2, 0, none⟩), .pointer (some ⟨P2, 0, none⟩)], q.1, undef, undef, undef, undef, u38], defers := [] }) ?assign ?body ?done ?stop
      case own =>
        rintro ⟨s', M'⟩ A B row ⟨M2, h1, h2, h3⟩ hAB hr
        exact ⟨M2, h1, HA.out.2.1 (s', M2) A B row h2 hAB (fun r e => ⟨by have := (hr r e).1; omega, (hr r e).2⟩), h3.grown hAB (fun r e => by have := (hr r e).1; omega)⟩
      case ownx =>
        rintro u A B row ⟨h1, h2⟩ hAB hr
        exact ⟨HA.out.2.2.1 u A B row h1 hAB (fun r e => ⟨by have := (hr r e).1; omega, (hr r e).2⟩), h2.grown hAB (fun r e => by have := (hr r e).1; omega)⟩
      case good =>
        intro s' M' q' A B row h hg hr
        exact ⟨h.1.up (Turn.up ⟨hg, fun r e => (hr r e).2⟩), h.2⟩
      case core =>
        rintro s' M' A ⟨M2, rfl, h2, h3⟩
        refine ⟨trivial, fun m hm => ?_⟩
        rcases List.mem_cons.1 hm with h | h
        · have := h3.kept.size; omega
        · exact (HA.out.2.2.2.1 _ _ _ h2).2 m h
      case assign =>
        intro nn l x A K hK
        gi_wp2
        exact hK
      case body =>
        rintro nn l s' M' ⟨vx, x⟩ A ⟨M2, rfl, h2, h3⟩ ⟨hpm, hpx⟩ hst
        dsimp only at hpm hpx ⊢
        have hyy := HA.out.2.2.2.2.1 (nn - 1) s' M2 (vx, x) A h2 ⟨hpm.ext (fun m hm => .inl (List.mem_cons_of_mem _ hm)), hpx⟩
        obtain ⟨xb', xo', xc', rfl, _⟩ := id hpm
        obtain ⟨fn, tmps, assign, body, hyr, hR⟩ := hyy
        dsimp only at hyr
        have lY1 : W.heap.size < W1.heap.size := by omega
        have nY := HD.out.2.2.2.2.2.2.2
        have aY := (h3.kept.cell (p := ⟨W.heap.size, 0, none⟩) lY1 nY).trans dY
        have HQ := Lib.hid h3
        clear h2 h3 hpm hpx hst hseq nY
        gi_wp2
        have hR' : RoundIn (Fence.wide.inRound l) (nn - 1) Tryz.prog lp fn tmps assign body A _ := hR
        refine hR'.mono ?_
        rintro e W4 (⟨rfl, s4, M4, hnx, hj4, hst4⟩ | ⟨rfl, hjx, hkx⟩)
        · have H4 := Lib.hid (And.intro hnx (And.intro hj4 hst4))
          clear hnx hj4 hst4 hR hyr
          gi_wp2
          refine ⟨s4, lp :: M4, H4.out.1, ⟨M4, rfl, H4.out.2.1, HQ.out.trans H4.out.2.2⟩, ⟨H4.out.2.2.kept.mono (fun m hm => List.mem_cons_of_mem _ hm), fun m hm => ?_⟩⟩
          rcases List.mem_cons.1 hm with h | h
          · exact .inl (h ▸ List.mem_cons_self ..)
          · rcases H4.out.2.2.new m h with h | h
            · exact .inl (List.mem_cons_of_mem _ h)
            · exact .inr h
        · have H4 := Lib.hid (And.intro hjx hkx)
          clear hjx hkx hR hyr
          gi_wp2
          refine ⟨⟨H4.out.1, (HQ.out.kept.mono (S' := lp :: M0) (fun m hm => List.mem_cons_of_mem _ hm)).transW H4.out.2 (fun m hm => ?_)⟩, H4.out.2⟩
          rcases List.mem_cons.1 hm with h | h
          · exact .inl (h ▸ List.mem_cons_self ..)
          · rcases HQ.out.new m h with h | h
            · exact .inl (List.mem_cons_of_mem _ h)
            · exact .inr h
      case done =>
        rintro D9 s' M' W5 hD9 hfin ⟨M2, rfl, h2, h3⟩ hst hdef hnD
        have HQ := Lib.hid (And.intro hD9 (And.intro hfin (And.intro h2 (And.intro h3 (And.intro hst (And.intro hdef hnD))))))
        clear hD9 hfin h2 h3 hst hdef hnD hseq
        gi_wp2
        have h9 := HQ.out.1
        have hs2 : ∀ m ∈ M2, m ∈ M0 ∨ w2.heap.size ≤ m := fun m hm => by
          rcases HQ.out.2.2.2.2.1.new m (List.mem_cons_of_mem _ hm) with h | h
          · rcases List.mem_cons.1 h with h | h
            · rcases HQ.out.2.2.2.1.new m hm with h' | h'
              · exact .inl h'
              · omega
            · exact HS.out.2.1.new m h
          · right; omega
        have hst5 : Stp w2 M0 W5 M2 := ⟨⟨HQ.out.2.2.2.2.1.kept.os.trans (b8.os.trans HS.out.2.1.kept.os), HQ.out.2.2.2.2.1.kept.tape.trans (b8.tape.trans HS.out.2.1.kept.tape), HQ.out.2.2.2.2.1.kept.output.trans (b8.output.trans HS.out.2.1.kept.output), by have := HQ.out.2.2.2.2.1.kept.size; omega, fun m hm hn0 => by
          by_cases e : m = lp
          · have h1 := HQ.out.2.2.2.1.kept.block m (by omega) hn0
            exact h1.trans (H2.out.2.block m (by omega)).symm
          · refine (HQ.out.2.2.2.2.1.kept.block m (by omega) (fun h => ?_)).trans ((b8.block m (by omega)).trans (HS.out.2.1.kept.block m hm hn0))
            rcases List.mem_cons.1 h with h | h
            · exact e h
            · rcases HS.out.2.1.new m h with h | h
              · exact hn0 h
              · omega⟩, hs2⟩
        refine ⟨⟨_, _, _, _, _, _, _, _, _, _, _, _, _, _, _, _, ⟨k + 1, s', M2, D9 :: Ds, by go_num, by omega, HQ.out.2.1.trans HS.out.2.2.2.2.2.2, HQ.out.2.2.1, hst5, rfl, List.nodup_cons.2 ⟨fun h => ?_, HS.out.2.2.1⟩, fun D hD => ?_⟩, rfl⟩, by simp [intOf]; omega⟩
        · obtain ⟨h1, h2, h3⟩ := HS.out.2.2.2.1 D9 h
          have h4 := (Array.getElem?_eq_some_iff.1 h3).1
          omega
        · rcases List.mem_cons.1 hD with h | h
          · subst h
            exact ⟨by omega, fun hm => HQ.out.2.2.2.2.2.2 (List.mem_cons_of_mem _ hm), HQ.out.2.2.2.2.2.1⟩
          · obtain ⟨h1, h2, h3⟩ := HS.out.2.2.2.1 D h
            have h4 := (Array.getElem?_eq_some_iff.1 h3).1
            have hno : D ∉ lp :: M := fun hm => by
              rcases List.mem_cons.1 hm with h | h
              · omega
              · exact h2 h
            refine ⟨h1, fun hm => ?_, (HQ.out.2.2.2.2.1.kept.block D (by omega) hno).trans ((b8.block D h4).trans h3)⟩
            rcases HQ.out.2.2.2.2.1.new D (List.mem_cons_of_mem _ hm) with h | h
            · exact hno h
            · omega
      case stop =>
        rintro D9 W5 hD9 ⟨hjx, hkx⟩ hk hdef
        have HQ := Lib.hid (And.intro hD9 (And.intro hjx (And.intro hkx (And.intro hk hdef))))
        clear hD9 hjx hkx hk hdef hseq
        gi_wp2
        have hDs : ∀ D ∈ D9 :: Ds, w2.heap.size ≤ D ∧ W5.heap[D]? = some (.deferred (some [])) := fun D hD => by
          have h9 := HQ.out.1
          rcases List.mem_cons.1 hD with h | h
          · subst h; exact ⟨by omega, HQ.out.2.2.2.2⟩
          · obtain ⟨h1, h2, h3⟩ := HS.out.2.2.2.1 D h
            have h4 := (Array.getElem?_eq_some_iff.1 h3).1
            refine ⟨h1, (HQ.out.2.2.2.1.block D (by omega) (fun hm => ?_)).trans ((b8.block D h4).trans h3)⟩
            rcases List.mem_cons.1 hm with h | h
            · omega
            · exact h2 h
        refine leaves_marks (u := .returning) (by simp) (D9 :: Ds) W5 (List.nodup_cons.2 ⟨fun h => ?_, HS.out.2.2.1⟩) (fun D hD => (hDs D hD).2) ?_
        · obtain ⟨h1, h2, h3⟩ := HS.out.2.2.2.1 D9 h
          have h4 := (Array.getElem?_eq_some_iff.1 h3).1
          have h9 := HQ.out.1
          omega
        · refine ⟨_, results_none rfl _ _ _, ⟨_, rfl⟩, .inr ?_⟩
          have := putAll (I := fun A => Jx A ∧ Kept W1 A (lp :: M0)) (B := w2.heap.size) (fun u A B row h hAB hr => ⟨HA.out.2.2.1 u A B row h.1 hAB (fun r e => ⟨by have := (hr r e).1; omega, (hr r e).2⟩), h.2.grown hAB (fun r e => by have := (hr r e).1; omega)⟩)
            (D9 :: Ds) W5 (fun D hD => ⟨(hDs D hD).1, _, (hDs D hD).2, rfl⟩) ⟨HQ.out.2.1, HQ.out.2.2.1⟩
          exact ⟨this.1, (Kept.ofBelow HA.out.2.2.2.2.2.2.1).trans this.2⟩
    · have hkl : k = L := by omega
      have HQ := Lib.hid (And.intro hs (And.intro hj (And.intro hst (And.intro hDn (And.intro hD hkl)))))
      clear hs hj hst hDn hD hkl hlvr fy fC
      have hk1 : ¬ (k : Int) < L := by omega
      gi_wp2
      have hDs := HQ.out.2.2.2.2.1
      refine leaves_marks (u := .returning) (by simp) Ds wr HQ.out.2.2.2.1 (fun D hD => (hDs D hD).2.2) ?_
      have hse : s0 ++ elsF O R (f + 1) i y = s := by
        show s0 ++ (List.range (O i).length).flatMap _ = s
        rw [HC.out.2.2.2.2, ← HQ.out.2.2.2.2.2]
        exact HQ.out.1.symm
      rw [hse]
      have := putAll (I := fun A => J s M A ∧ Stp w2 M0 A M) (B := w2.heap.size) (fun u A B row h hAB hr => ⟨HA.out.2.1 (s, M) A B row h.1 hAB (fun r e => ⟨by have := (hr r e).1; omega, (hr r e).2⟩), h.2.grown hAB (fun r e => (hr r e).1)⟩)
          Ds wr (fun D hD => ⟨(hDs D hD).1, _, (hDs D hD).2.2, rfl⟩) ⟨HQ.out.2.1, HQ.out.2.2.1⟩
      exact ⟨_, results_none rfl _ _ _, ⟨_, rfl⟩, .inl ⟨M, this.1, (Stp.below HD.out.1).trans this.2⟩⟩
theorem els172 (hn : 0 < n ∧ n ≤ 64) {G : Pm n → Prop} {O : Nat → List Nat} {R : Nat → Nat → Pm n} (hG : ChG G O R) {ab ao c bb bo e : Nat} {F : List (Pm n)} (f : Nat) : ∀ i : Nat, i + f = n → ElSeq O R ab ao c bb bo e F f i := by
  induction f with
  | zero =>
    intro i hi
    intro w I C P vy y M0 s0 hI hC hP nI nC nP hy hlv hF
    have hin : i = n := by omega
    rw [hin] at hI
    exact els172a (O := O) (R := R) hn hI hC hP hy hF
  | succ f ih =>
    intro i hi
    exact els172b hn hG hi (ih (i + 1) (by omega))
end
end Go.Proofs.YtbejhkojdiadaaaGreat
