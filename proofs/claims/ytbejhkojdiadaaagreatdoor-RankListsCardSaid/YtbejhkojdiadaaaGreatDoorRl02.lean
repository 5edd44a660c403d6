/- List: the reference's. · The reference's Below walked; the kit's strong generators as a list. · Below on both sides where a pair of chains fails its checks. · Plain: numbers as strings of digits. · The reference's Times walked. · The reference's Ratio walked. -/
import Derived.Test.YtbejhkojdiadaaaGreatDoorRk01
import Derived.Test.YtbejhkojdiadaaaGreatDoorRk02
import Derived.Test.YtbejhkojdiadaaaGreatDoorRk03
import Derived.Test.YtbejhkojdiadaaaGreatDoorRk04
import Derived.Test.YtbejhkojdiadaaaGreatDoorRk05
import Derived.Test.YtbejhkojdiadaaaGreatDoorRk06
import Derived.Test.YtbejhkojdiadaaaGreatDoorRk07
import Derived.Test.YtbejhkojdiadaaaGreatDoorRk08
import Derived.Test.YtbejhkojdiadaaaGreatDoorRk09
import Derived.Test.YtbejhkojdiadaaaGreatDoorRk10
import Derived.Test.YtbejhkojdiadaaaGreatDoorRk11
import Derived.Test.YtbejhkojdiadaaaGreatDoorRk12
import Derived.Test.YtbejhkojdiadaaaGreatDoorRk13
import Derived.Test.YtbejhkojdiadaaaGreatDoorRk14
import Derived.Test.YtbejhkojdiadaaaGreatDoorRk15
import Derived.Test.YtbejhkojdiadaaaGreatDoorRk16
import Derived.Test.YtbejhkojdiadaaaGreatDoorRk17
import Derived.Test.YtbejhkojdiadaaaGreatDoorRk18
import Derived.Test.YtbejhkojdiadaaaGreatDoorRk19
import Derived.Test.YtbejhkojdiadaaaGreatDoorRk20
import Derived.Test.YtbejhkojdiadaaaGreatDoorRl01
import Derived.Test.YtbejhkojdiadaaaGreatDoorProg
import Derived.WalkKit
import Derived.WalkSpells
import Derived.BigQuiet
import Derived.Deep.QuietTactic
import Derived.Deep.LoopGhost
import Derived.Lib.Hide
import Derived.Maps.AppendAt
import Derived.Deep.AppendLies
import Derived.StillTailTactics
import Derived.Laws.CopyOwn
import Derived.Deep.OwnRows
import Derived.Deep.DeepCutAuto
import Derived.Laws.Cover3
import Derived.Deep.RegionHeld3
import Derived.RangeFuncRecord
import Derived.Lib.SlicesSearch
import Derived.RangeFuncBox
import Derived.RangeFuncLeaves
import Derived.RangeFuncWrites
import Derived.RangeFuncFrom
import Derived.Shelf.Abstract
import Derived.OwnWalkIn
import Derived.TacticsInMore
import Derived.LoopNIn
import Derived.LoopIn
import Derived.Shelf.GgSortFunc.Insertion
import Derived.Shelf.SlIter.Collect
import Derived.Shelf.Sort.Plain
import Derived.Deep.RegionLaw
import Derived.ControlIn
import Derived.Deep.AppendSrc
import Derived.Sort.BigQuietIn
import Derived.Laws.BytesArg
import Derived.Laws.IdiomStrings
set_option linter.unusedSimpArgs false
set_option linter.unusedVariables false
namespace Go.Proofs.YtbejhkojdiadaaaGreatDoor
open Go.RowKit PlainPm
set_option maxRecDepth 100000 in
set_option maxHeartbeats 4000000 in
theorem unrank66m {n ab ao c bb bo e : Nat} {G : Pm n → Prop} {O : Nat → List Nat} {R : Nat → Nat → Pm n} (hn0 : 0 < n) (hn : n ≤ 8) (hG : ChG G O R) {la : Option Addr} {lc K : Nat} {w : World} (h : LvW n w O R ab ao bb bo) (hla : Ints w la (szP O n 0)) (hK : K < szF O n 0) {M : List Nat} (hM : ∀ m ∈ M, m < w.heap.size) :
    Calls Tryz.prog 43 #[cv n ab ao c bb bo e, .slice la (n + 1) lc, .int .i64 (K : Int)] w fun e w' => ∃ v, e = .returned v ∧ PmV w' M v (unF O R n 0 (PlainPm.one n) K) ∧ Below w.heap.size w w' := by
  obtain ⟨X, hX⟩ : ∃ X, w.heap.size = X := ⟨_, rfl⟩
  have hB0 := BoxW.start w X n ab ao c bb bo e hX
  obtain ⟨W1, hW1⟩ : ∃ W1, W1 = w.alloc (.cells #[.int .i64 (n : Int), .slice (some ⟨ab, ao, none⟩) n c, .slice (some ⟨bb, bo, none⟩) n e] 25) := ⟨_, rfl⟩
  rw [← hW1] at hB0
  have hwW : Below w.heap.size w W1 := by rw [hX]; exact hB0.bel
  obtain ⟨lb, lo, hle, _, _⟩ := hla.at_ (k := 0) (by rw [szP_len]; omega)
  subst hle
  have hlc : ∀ V, Below w.heap.size w V → ∀ t, t ≤ n → V.cell? ⟨lb, lo + t, none⟩ = some (.int .i64 (szF O (n - t) t : Int)) := fun V hV t ht => by
    obtain ⟨lb', lo', hle, hl2, hc⟩ := hla.at_ (k := t) (by rw [szP_len]; omega)
    cases hle
    rw [szP_get ht (Nat.zero_le _)] at hc
    exact (hV.cell (p := ⟨lb, lo + t, none⟩) hl2).trans hc
  have H := Lib.hid (And.intro h (And.intro hlc (And.intro hB0 (And.intro hX (And.intro hwW (And.intro hG hK))))))
  obtain ⟨z0, z1, z2⟩ : W1.cell? ⟨X, 0, none⟩ = some (.int .i64 (n : Int)) ∧ W1.cell? ⟨X, 1, none⟩ = some (.slice (some ⟨ab, ao, none⟩) n c) ∧ W1.cell? ⟨X, 2, none⟩ = some (.slice (some ⟨bb, bo, none⟩) n e) := ⟨hB0.c0, hB0.c1, hB0.c2⟩
  clear h hlc hwW hG hB0 hK hla
  go_enter Tryz.func43, Tryz.ntmps43
  try rw [hX]
  go_wp2_with (go_at_call 26; (try rw [← hW1]); clear hW1; refine (one65 (by omega) hn0).mono ?_; rintro e w2 ⟨v2, rfl, k1, k2⟩; have H2 := Lib.hid (And.intro k1 k2); clear k1 k2)
  clear z0 z1 z2
  go_loopw [2, 7, 8, 9, 10, 11, 12, 13] (fun kv v i _ _ _ _ _ wr => ∃ (k K' : Nat) (z : Pm n), k ≤ n ∧ i = .int .i64 (k : Int) ∧ kv = .int .i64 (K' : Int) ∧ K' < szF O (n - k) k ∧ BoxW w X n ab ao c bb bo e wr ∧ PmV wr M v z ∧ unF O R (n - k) k z K' = unF O R n 0 (PlainPm.one n) K) (fun _ _ i _ _ _ _ _ _ => n - (intOf i).toNat)
  case atStart => exact ⟨0, K, PlainPm.one n, by omega, rfl, rfl, H.out.2.2.2.2.2.2, H.out.2.2.1.below (H2.out.2.mono H.out.2.2.1.lt), H2.out.1.pm (fun m hm => Nat.lt_of_lt_of_le (hM m hm) (H.out.2.2.2.2.1).size), rfl⟩
  case round =>
    obtain ⟨k, K', z, hk, rfl, rfl, hKs, hb, hz, he⟩ := hrel
    have x0 := hb.c0
    have x1 := hb.c1
    have x2 := hb.c2
    have hwr : Below w.heap.size w wr := by rw [hX]; exact hb.bel
    obtain ⟨zb, zo, zc, hu1, _, hzb, hzc⟩ := id hz
    subst hu1
    by_cases hkn : k < n
    · obtain ⟨go, oo, oc, gr, ro, rc, y1, y2, y3⟩ := H.out.1.at_ hwr hkn
      have hlt := H.out.2.2.2.2.2.1.lt k hkn
      have hnd := H.out.2.2.2.2.2.1.nd k hkn
      have y4 := H.out.2.1 wr hwr (k + 1) (by omega)
      have hZp := H.out.2.2.2.2.2.1.sz_pos (f := n - (k + 1)) (i := k + 1) (by omega)
      have hZl := H.out.2.2.2.2.2.1.sz_le (m := 8) hn (f := n - (k + 1)) (i := k + 1) (by omega)
      have hZl2 : szF O (n - (k + 1)) (k + 1) ≤ 16777216 := Nat.le_trans hZl (Nat.le_trans (Nat.pow_le_pow_right (by omega) (show n - (k + 1) ≤ 8 by omega)) (by decide))
      obtain ⟨Z, hZ⟩ : ∃ Z, szF O (n - (k + 1)) (k + 1) = Z := ⟨_, rfl⟩
      obtain ⟨L, hL⟩ : ∃ L, (O k).length = L := ⟨_, rfl⟩
      have hL64 : L ≤ 64 := by rw [← hL]; exact Nat.le_trans (H.out.2.2.2.2.2.1.short hkn) (by omega)
      rw [show n - k = n - (k + 1) + 1 by omega, szF, hZ, hL] at hKs
      rw [hZ] at y4 hZp hZl2
      rw [hL] at y1 y2
      have hqs : K' / Z < L := Nat.div_lt_of_lt_mul (by rw [Nat.mul_comm]; exact hKs)
      have hrs : K' % Z < Z := Nat.mod_lt _ hZp
      have hsel := sel_sorted (y := z) hlt hnd (m := srtI (nts ((O k).map z.at))) (by
        refine (List.mergeSort_perm _ _).trans ?_
        unfold nts; rw [List.map_map]; exact List.Perm.refl _) (by
        have := List.pairwise_mergeSort (le := fun x y : Int => decide (x ≤ y)) (fun a b c h1 h2 => by simp at *; omega) (fun a b => by simp; omega) (nts ((O k).map z.at))
        exact this.imp (by simp)) (s := K' / Z) (by rw [hL]; exact hqs)
      obtain ⟨q0, hq0⟩ : ∃ q, selQ z (O k) (K' / Z) = q := ⟨_, rfl⟩
      rw [hq0] at hsel
      have huni : ∀ q ∈ O k, cnt z (O k) (z.at q) = K' / Z → q = q0 := fun q hq hc => by rw [← hq0, selQ_eq hlt hq hc]
      have hnx : unF O R (n - (k + 1)) (k + 1) ((R k q0).mul z) (K' % Z) = unF O R n 0 (PlainPm.one n) K := by
        rw [← he, show n - k = n - (k + 1) + 1 by omega, unF, hZ, hq0]
      obtain ⟨SK, hSK⟩ : ∃ s, K' / Z = s := ⟨_, rfl⟩
      rw [hSK] at huni hsel hqs
      have hq1 : ((K' : Int) / (Z : Int)) = (SK : Int) := by rw [← hSK]; exact (Int.natCast_ediv K' Z).symm
      have hq2 : ((K' : Int) % (Z : Int)) = ((K' % Z : Nat) : Int) := (Int.natCast_emod K' Z).symm
      have hZ0 : ¬ (Z : Int) = 0 := by omega
      have hr64 : K' % Z < 16777216 := by omega
      obtain ⟨RK, hRK⟩ : ∃ r, K' % Z = r := ⟨_, rfl⟩
      rw [hRK] at hq2 hnx hrs hr64
      have hKb : K' < 1073741824 := Nat.lt_of_lt_of_le hKs (Nat.le_trans (Nat.mul_le_mul hL64 hZl2) (by decide))
      have HC := Lib.hid (And.intro hb (And.intro hz (And.intro hwr (And.intro y3 (And.intro hzc (And.intro hlt (And.intro hL (And.intro hsel (And.intro huni (And.intro hnx (And.intro hrs hZ)))))))))))
      have hk1 : (k : Int) < n := by omega
      clear hb hz he hwr y3 hlt hL hzc hsel huni hnx hrs hZ hnd hZp hZl hZl2 hKs hSK hRK hq0
      go_wp2_with fail
      rw [hq2]
      clear hq2
      obtain ⟨wo, rfl⟩ : ∃ wo : World, wo = wr := ⟨_, rfl⟩
      go_loopw [10, 11, 12, 13] (fun b j _ _ wi => ∃ (q m bi : Nat), q ≤ L ∧ j = .int .i64 (q : Int) ∧ b = .int .i64 (bi : Int) ∧ wi = wo.drewN m ∧ ∀ s, s < q → (O k)[s]? = some q0 → (O k)[bi]? = some q0) (fun _ j _ _ _ => L - (intOf j).toNat)
      case atStart => exact ⟨0, 0, 0, by omega, rfl, rfl, rfl, fun s hs => by omega⟩
      case round =>
        obtain ⟨q, m, bi, hq, rfl, rfl, rfl, hbi⟩ := hrel
        by_cases hqL : q < L
        · obtain ⟨p, hp⟩ : ∃ p, (O k)[q]? = some p := ⟨_, List.getElem?_eq_getElem (by rw [HC.out.2.2.2.2.2.2.1]; exact hqL)⟩
          have hpn := HC.out.2.2.2.2.2.1 _ (List.mem_of_getElem? hp)
          obtain ⟨z8, -⟩ := HC.out.2.2.2.1 wo HC.out.2.2.1 q p hp
          have z9 := HC.out.2.2.2.2.1 p hpn
          obtain ⟨pv, hpv⟩ : ∃ v, z.at p = v := ⟨_, rfl⟩
          rw [hpv] at z9
          have hq1' : (q : Int) < L := by omega
          have HN := Lib.hid (And.intro hbi (And.intro hp hpv))
          clear hbi hp hpv
          go_wp2_with fail
          obtain ⟨Q0, hQ0⟩ : ∃ Q0, wo.drewN m = Q0 := ⟨_, rfl⟩
          go_loopw [12, 13] (fun b j wi => ∃ (r m2 : Nat), r ≤ L ∧ j = .int .i64 (r : Int) ∧ b = .int .i64 (cnt z ((O k).take r) pv : Int) ∧ wi = wo.drewN m2) (fun _ j _ => L - (intOf j).toNat)
          case atStart => exact ⟨0, m, by omega, rfl, rfl, rfl⟩
          case round =>
            obtain ⟨r, m2, hr, rfl, rfl, rfl⟩ := hrel
            obtain ⟨C, hC⟩ : ∃ C, cnt z ((O k).take r) pv = C := ⟨_, rfl⟩
            have hCr : C ≤ 64 := by rw [← hC]; have h1 := cnt_le z ((O k).take r) pv; rw [List.length_take, HC.out.2.2.2.2.2.2.1] at h1; omega
            rw [hC]
            by_cases hrL : r < L
            · obtain ⟨p2, hp2⟩ : ∃ p, (O k)[r]? = some p := ⟨_, List.getElem?_eq_getElem (by rw [HC.out.2.2.2.2.2.2.1]; exact hrL)⟩
              have hp2n := HC.out.2.2.2.2.2.1 _ (List.mem_of_getElem? hp2)
              obtain ⟨w8, -⟩ := HC.out.2.2.2.1 wo HC.out.2.2.1 r p2 hp2
              have w9 := HC.out.2.2.2.2.1 p2 hp2n
              obtain ⟨pv2, hpv2⟩ : ∃ v, z.at p2 = v := ⟨_, rfl⟩
              rw [hpv2] at w9
              have hnc : cnt z ((O k).take (r + 1)) pv = if pv2 < pv then C + 1 else C := by rw [List.take_add_one, hp2, Option.toList_some, cnt_snoc, hC, hpv2]
              have HN2 := Lib.hid hnc
              have hr1 : (r : Int) < L := by omega
              clear hp2 hpv2 hnc hC
              by_cases hlt : pv2 < pv
              · have g1 : decide ((pv2 : Int) < (pv : Int)) = true := by simp; omega
                have g2 : (pv2 : Int) < (pv : Int) := by omega
                go_wp2_with fail
                go_quiet (fail)
                go_wp2_with fail
                refine ⟨⟨r + 1, m2 + nq, by omega, by go_num, ?_, rfl⟩, by simp [intOf]; omega⟩
                rw [HN2.out, if_pos hlt]; go_num
              · have g1 : decide ((pv2 : Int) < (pv : Int)) = false := by simp; omega
                have g2 : ¬ (pv2 : Int) < (pv : Int) := by omega
                go_wp2_with fail
                go_quiet (fail)
                go_wp2_with fail
                refine ⟨⟨r + 1, m2 + nq, by omega, by go_num, ?_, rfl⟩, by simp [intOf]; omega⟩
                rw [HN2.out, if_neg hlt]
            · obtain rfl : r = L := by omega
              have hr1 : ¬ (r : Int) < r := by omega
              have hCC : cnt z (O k) pv = C := by rw [← hC, List.take_of_length_le (by rw [HC.out.2.2.2.2.2.2.1]; exact Nat.le_refl _)]
              have HN2 := Lib.hid hCC
              clear hCC hC
              by_cases hCS : C = SK
              · subst hCS
                have g1 : ((C : Int) == (C : Int)) = true := by simp
                go_wp2_with fail
                have hpq : p = q0 := HC.out.2.2.2.2.2.2.2.2.1 p (List.mem_of_getElem? HN.out.2.1) (by rw [HN.out.2.2, HN2.out])
                refine ⟨⟨q + 1, m2, q, by omega, by go_num, rfl, rfl, fun s hs hsq => ?_⟩, by simp [intOf]; omega⟩
                rw [← hpq]; exact HN.out.2.1
              · have g1 : ((C : Int) == (SK : Int)) = false := by simp; omega
                have HCS := Lib.hid hCS
                clear hCS
                go_wp2_with fail
                refine ⟨⟨q + 1, m2, bi, by omega, by go_num, rfl, rfl, fun s hs hsq => ?_⟩, by simp [intOf]; omega⟩
                by_cases es : s = q
                · subst es
                  rw [HN.out.2.1] at hsq; cases hsq
                  exact absurd (by rw [← HN2.out, ← HN.out.2.2]; exact HC.out.2.2.2.2.2.2.2.1.2.1) HCS.out
                · exact HN.out.1 s (by omega) hsq
        · obtain rfl : q = L := by omega
          have hq1' : ¬ (q : Int) < q := by omega
          have hb0 : (O k)[bi]? = some q0 := by
            obtain ⟨s, hs⟩ := List.mem_iff_getElem?.1 HC.out.2.2.2.2.2.2.2.1.1
            have hsl := (List.getElem?_eq_some_iff.1 hs).1
            rw [HC.out.2.2.2.2.2.2.1] at hsl
            exact hbi s hsl hs
          have hbL : bi < q := by rw [← HC.out.2.2.2.2.2.2.1]; exact (List.getElem?_eq_some_iff.1 hb0).1
          obtain ⟨z5, u, z6, hu⟩ := HC.out.2.2.2.1 wo HC.out.2.2.1 bi _ hb0
          obtain ⟨ub, uo, uc, rfl, _⟩ := id hu
          have hmul := fun (V : World) (hv : Below wo.heap.size wo V) => mul49 (by omega) hn0 (hu.below hv) (HC.out.2.1.weak.below hv)
          have HM := Lib.hid hmul
          clear hmul hu hb0 hbi
          go_wp2_with (go_at_call 28; refine (HM.out _ (below_self_drewN _ _)).mono ?_; rintro e1 w7 ⟨v7, rfl, k1, k2⟩; have H7 := Lib.hid (And.intro k1 k2); clear k1 k2)
          have hb7 : Below wo.heap.size wo w7 := below_trans (below_self_drewN wo m) H7.out.2
          have hlt := HC.out.1.lt
          refine ⟨⟨k + 1, RK, (R k q0).mul z, by omega, by go_num, rfl, by rw [HC.out.2.2.2.2.2.2.2.2.2.2.2]; exact HC.out.2.2.2.2.2.2.2.2.2.2.1, HC.out.1.below (hb7.mono (by omega)), H7.out.1.pm (fun m hm => Nat.lt_of_lt_of_le (hM m hm) HC.out.2.2.1.size), HC.out.2.2.2.2.2.2.2.2.2.1⟩, by simp [intOf]; omega⟩
    · obtain rfl : k = n := by omega
      have hk1 : ¬ (k : Int) < k := by omega
      rw [Nat.sub_self] at he
      have HC := Lib.hid (And.intro hb (And.intro hz he))
      clear hb hwr he hz hzc hKs
      go_wp2_with fail
      go_ret
      exact ⟨_, rfl, by rw [← HC.out.2.2]; exact HC.out.2.1, HC.out.1.bel⟩
section
variable {n : Nat}
set_option maxRecDepth 100000 in
set_option maxHeartbeats 4000000 in
theorem list87 (hn' : 0 < n ∧ n ≤ 8) {w : World} {v1 : Value} {G : Pm n → Prop} (hG : IsG G) (h1 : GrG w v1 G) :
    ∃ O R, ChG G O R ∧ (szF O n 0 ≤ 5040 → Calls Tryz.prog 11 #[v1] w fun e w' => ∃ v us, e = .returned (.tuple #[v, .int .i64 0]) ∧ Own w' w.heap.size v 41 us ∧ PmL w' v.ownBlock.toList us (elsF O R n 0 (PlainPm.one n)) ∧ Below w.heap.size w w') := by
  have hn : 0 < n ∧ n ≤ 64 := ⟨hn'.1, by omega⟩
  obtain ⟨os, rs, hch, hc0⟩ := h1.chk hn hG
  have hck := fun (V : World) (hV : Below w.heap.size w V) => chk56 (hch.below hV)
  simp only [hc0] at hck
  obtain ⟨T1, t1, ab, ao, c, bb, bo, e, hv1, hl1⟩ := h1.lev hG ⟨hn.1, hn.2⟩
  subst hv1
  have hC := t1.chG hG
  obtain ⟨O, hO⟩ : ∃ O, orbO T1 = O := ⟨_, rfl⟩
  obtain ⟨R, hR⟩ : ∃ R, PlainPm.repT T1 = R := ⟨_, rfl⟩
  have hC' : ChG G O R := by rw [← hO, ← hR]; exact hC
  rw [hO, hR] at hl1
  refine ⟨O, R, hC', fun hsz => ?_⟩
  have hel := els_un hC' (f := n) (i := 0) (y := PlainPm.one n) (Nat.zero_add n)
  obtain ⟨F, hF⟩ : ∃ F, elsF O R n 0 (PlainPm.one n) = F := ⟨_, rfl⟩
  rw [hF] at hel ⊢
  obtain ⟨Z, hZ⟩ : ∃ Z, szF O n 0 = Z := ⟨_, rfl⟩
  rw [hZ] at hsz hel
  have hs57 := fun (V : World) (hV : Below w.heap.size w V) => siz57 (c := c) (e := e) hn'.1 hn'.2 hC' (hl1.below hV)
  obtain ⟨i27, hi27, hz27, hs27, hb27⟩ := info_parts Tryz.info41
  have I27 := Lib.hid (And.intro hi27 (And.intro hz27 (And.intro hs27 hb27)))
  clear hi27 hz27 hs27 hb27
  obtain ⟨X, hX⟩ : ∃ X, w.heap.size = X := ⟨_, rfl⟩
  obtain ⟨W1, hW1⟩ : ∃ W1, w.alloc (.cells #[.int .i64 (n : Int), .slice (some ⟨ab, ao, none⟩) n c, .slice (some ⟨bb, bo, none⟩) n e] 25) = W1 := ⟨_, rfl⟩
  have hszw : W1.heap.size = X + 1 := by rw [← hW1]; simp [hX]
  have hwW : Below w.heap.size w W1 := hW1 ▸ alloc_b (Below.refl _ _) _
  have k0 : W1.heap[X]? = some (.cells #[.int .i64 (n : Int), .slice (some ⟨ab, ao, none⟩) n c, .slice (some ⟨bb, bo, none⟩) n e] 25) := by
    rw [← hW1]
    exact box_al25 hX _ _ _
  obtain ⟨x0, x1, x2, _⟩ := box_cells k0
  have hx0 := And.intro x0 (And.intro x1 (And.intro x2 (Below.refl W1.heap.size W1)))
  have HC := Lib.hid (And.intro hck (And.intro hs57 (And.intro hC' (And.intro hl1 (And.intro hel (And.intro hZ hwW))))))
  clear hck hs57 hC' hl1 hel hC hO hR hF hwW k0 h1 hch t1
  go_enter Tryz.func11, Tryz.ntmps11
  try simp only [hX]
  go_wp2_with (first
    | (go_at_call 42; (with_reducible refine (HC.out.2.1 _ (below_trans HC.out.2.2.2.2.2.2 H2.out)).mono ?_); rintro e3 w3 ⟨gs, sc, rfl, k1, k2⟩
       have b3 : Below W1.heap.size W1 w3 := below_trans H2.out k2
       obtain ⟨y0, y1, y2, _⟩ := keep3b hx0 b3
       have s0 : w3.cell? ⟨gs, 0, none⟩ = some (.int .i64 (Z : Int)) := by have := k1.2 0 (Nat.zero_le _); rw [Nat.sub_zero, HC.out.2.2.2.2.2.1] at this; exact this
       have hz2 : decide ((5040 : Int) < (Z : Int)) = false := by simp; omega
       have hz3 : ((Z : Int) > 5040) = False := by simp; omega
       have hn1 : (0 : Int) < (n : Int) + 1 := by omega
       have H3 := Lib.hid (And.intro k1 b3)
       clear k1 k2 b3)
    | (go_at_call 41; (with_reducible refine (HC.out.1 _ HC.out.2.2.2.2.2.2).mono ?_); rintro e2 w2 ⟨rfl, k⟩; obtain ⟨z0, z1, z2, _⟩ := keep3b hx0 k; have H2 := Lib.hid k; clear k))
  have hFl : F.length = Z := by rw [HC.out.2.2.2.2.1]; simp
  have hw3 : Below w.heap.size w w3 := below_trans HC.out.2.2.2.2.2.2 H3.out.2
  have HP := Lib.hid (And.intro hFl hw3)
  have hZ63 : Z ≤ 9223372036854775807 := by omega
  clear hFl hw3
  go_loopw [7, 8] (fun v i wr => ∃ (k : Nat) (us : List Value), k ≤ Z ∧ i = .int .i64 (k : Int) ∧ GrowL [] wr w3.heap.size v us (F.take k) ∧ Below w3.heap.size w3 wr) (fun _ i _ => Z - (intOf i).toNat)
  case atStart => exact ⟨0, [], Nat.zero_le _, rfl, GrowL.nil _ (by simp), Below.refl _ _⟩
  case round =>
    obtain ⟨k, us, hk, rfl, hgl, hbr⟩ := hrel
    have s0r := (hbr.cell (block_lt_of_cell s0)).trans s0
    have y0r := (hbr.cell (block_lt_of_cell y0)).trans y0
    have y1r := (hbr.cell (block_lt_of_cell y1)).trans y1
    have y2r := (hbr.cell (block_lt_of_cell y2)).trans y2
    by_cases hka : k < Z
    · have hk1 : (k : Int) < Z := by omega
      have hsw := H3.out.1.below hbr
      have hla : Ints wr (some ⟨gs, 0, none⟩) (szP O n 0) := ⟨by simp [szP_len]; unfold maxLen; omega, fun i u hu => ⟨gs, 0, rfl, hsw.1, by
        rw [List.getElem?_map] at hu
        cases hg : (szP O n 0)[i]? with
        | none => rw [hg] at hu; cases hu
        | some z =>
          rw [hg] at hu
          cases hu
          have hi : i ≤ n := by have := (List.getElem?_eq_some_iff.1 hg).1; rw [szP_len] at this; omega
          have e1 := szP_get (O := O) (n := n) (m := 0) hi (Nat.zero_le _)
          rw [hg] at e1
          rw [Nat.zero_add, hsw.2 i hi]
          simp only [Option.getD_some] at e1
          rw [e1]⟩⟩
      have hu66 := unrank66m (c := c) (e := e) (lc := sc) (K := k) hn'.1 hn'.2 HC.out.2.2.1 (HC.out.2.2.2.1.below (below_trans HP.out.2 hbr)) hla (by rw [HC.out.2.2.2.2.2.1]; exact hka) (M := u7.ownBlock.toList) (fun m hm => (hgl.1.block_lt (mem_ob.1 hm)).1)
      obtain ⟨z, hz⟩ : ∃ z, F[k]? = some z := ⟨_, List.getElem?_eq_getElem (by rw [HP.out.1]; exact hka)⟩
      have hzu : unF O R n 0 (PlainPm.one n) k = z := by
        have h := hz
        rw [HC.out.2.2.2.2.1, List.getElem?_map, List.getElem?_range hka] at h
        exact Option.some.inj h
      rw [hzu] at hu66
      have hlu : us.length < 1099511627776 := by have h1 := hgl.len; rw [List.length_take] at h1; omega
      have hD : w3.heap.size ≤ wr.heap.size := hbr.size
      have HY := Lib.hid (And.intro hu66 (And.intro hgl (And.intro hbr hz)))
      clear hu66 hgl hbr hz hzu hla hsw
      go_wp2_with (first
        | (at_builtin; refine app1 rfl (.tmp 34) (.tmp 39) 28 41 rfl i27 (.slice none 0 0) 24 Tryz.underlying28 I27.out.1 I27.out.2.1 I27.out.2.2.1 I27.out.2.2.2 rfl (by omega) w3.heap.size (.slice (some ⟨vb, vo, none⟩) n vc) _ us rfl (HY.out.2.1.below H6.out.1).1 rfl rfl hlu (Nat.le_trans hD H6.out.1.size) ?_; intro v8 w8 k1 k2 k3; have H8 := Lib.hid (And.intro k1 (And.intro k2 k3)); clear k1 k2 k3)
        | (go_at_call 43; (with_reducible refine HY.out.1.mono ?_); rintro e6 w6 ⟨v6, rfl, k1, k2⟩
           obtain ⟨vb, vo, vc, rfl, _⟩ := id k1
           have H6 := Lib.hid (And.intro k2 k1)
           clear k1 k2))
      refine ⟨⟨k + 1, us ++ [.slice (some ⟨vb, vo, none⟩) n vc], by omega, by go_num, ?_, ?_⟩, by simp [intOf]; omega⟩
      · have := (HY.out.2.1.below H6.out.1).app (by rw [List.append_nil]; exact H6.out.2) H8.out.1 H8.out.2.1 H8.out.2.2
        rw [List.take_add_one, HY.out.2.2.2]
        exact this
      · exact (HY.out.2.2.1.trans (H6.out.1.mono HY.out.2.2.1.size)).grown H8.out.2.1 (Nat.le_trans HY.out.2.2.1.size H6.out.1.size) (fun g e => (HY.out.2.1.1.block_lt e).2)
    · have hk1 : ¬ (k : Int) < Z := by omega
      have hkN : k = F.length := by rw [HP.out.1]; omega
      have hgl' := hgl
      rw [hkN, List.take_length] at hgl'
      have HK := Lib.hid (And.intro hgl' hbr)
      clear hgl hgl' hbr
      go_wp2_with fail
      go_ret2
      have hb := below_trans HP.out.2 HK.out.2
      refine ⟨_, rfl, us, HK.out.1.1.mono (by have := HP.out.2.size; omega), by have := HK.out.1.2.1; rwa [List.append_nil] at this, by rwa [hX] at hb⟩
end
end Go.Proofs.YtbejhkojdiadaaaGreatDoor
namespace Go.Proofs.YtbejhkojdiadaaaGreatDoor
open Go.RowKit Go.Shelf PlainPm
variable {n : Nat}
theorem strong46p (hn : 0 < n ∧ n ≤ 8) {w : World} {v : Value} {G : Pm n → Prop} (hG : IsG G) (h : GrG w v G) :
    Calls Tryz.prog 83 #[v] w fun e w' => ∃ (a : Option Addr) (m c : Nat) (L : List (Pm n)), e = .returned (.slice a m c) ∧ L.length = m ∧ m ≤ 64 ∧ PmsV w' [] (.slice a m c) L ∧ (∀ x, Grp (· ∈ L) x ↔ G x) ∧ Below w.heap.size w w' := by
  obtain ⟨T, h1, h2, _⟩ := h.ch
  refine (strong46g ⟨hn.1, by omega⟩ hG h1 h2 (Below.refl _ _)).mono ?_
  rintro e w' ⟨v', us, rfl, k1, k2, k3, k4⟩
  have hp := pml_rv hn.1 k2
  have h64 : n * n ≤ 8 * 8 := Nat.mul_le_mul hn.2 hn.2
  have hl := hp.1
  have hv := pms_ownB k1 (hp.below k4) (by omega)
  obtain ⟨a, c, rfl, _⟩ := k1.row (by unfold maxLen; omega)
  exact ⟨a, us.length, c, PlainPm.agen T, rfl, hl.symm, by omega, hv, fun x => agen_grp hG h1 x, k4⟩
theorem grp_sub {L : List (Pm n)} {G : Pm n → Prop} (hG : IsG G) : (∀ y ∈ L, G y) ↔ ∀ x, Grp (· ∈ L) x → G x := by
  constructor
  · intro h x hx
    exact Grp.sub hG h hx
  · intro h y hy
    exact h y (Grp.base hy)
set_option maxRecDepth 100000 in
set_option maxHeartbeats 4000000 in
theorem below47 (hn' : 0 < n ∧ n ≤ 8) {w : World} {v1 v2 : Value} {G1 G2 : Pm n → Prop} (hG1 : IsG G1) (hG2 : IsG G2) (h1 : GrG w v1 G1) (h2 : GrG w v2 G2) :
    Calls Tryz.prog 47 #[v1, v2] w fun r w' => ∃ b, r = .returned (.tuple #[.bool b, .int .i64 0]) ∧ (b = true ↔ ∀ x, G1 x → G2 x) ∧ Below w.heap.size w w' := by
  have hn : 0 < n ∧ n ≤ 64 := ⟨hn'.1, by omega⟩
  obtain ⟨os, rs, hch, hc0⟩ := h1.chk hn hG1
  obtain ⟨os', rs', hch', hc0'⟩ := h2.chk hn hG2
  have hck := fun (V : World) (hV : Below w.heap.size w V) => chk56 (hch.below hV)
  have hck' := fun (V : World) (hV : Below w.heap.size w V) => chk56 (hch'.below hV)
  simp only [hc0] at hck
  simp only [hc0'] at hck'
  have hst := fun (V : World) (hV : Below w.heap.size w V) => strong46p hn' hG1 (h1.below hV)
  obtain ⟨T', t', ab', ao', c', bb', bo', e', hv2, hl2⟩ := h2.lev hG2 ⟨hn.1, hn.2⟩
  obtain ⟨T, a, c, b, e, hT, rfl, _⟩ := id h1
  subst hv2
  have hO2 := t'.chG hG2
  have hsi := fun (V : World) (hV : Below w.heap.size w V) (u : Value) (x : Pm n) (hu : PmV V [] u x) => sift112 (c := c') (e := e') hn.1 hn.2 hO2 (hl2.below hV) hu
  obtain ⟨X, hX⟩ : ∃ X, w.heap.size = X := ⟨_, rfl⟩
  obtain ⟨W0, hW0⟩ : ∃ W0, ((w.alloc (.cells #[.int .i64 (n : Int), .slice a n c, .slice b n e] 25)).alloc (.cells #[.int .i64 (n : Int), .slice (some ⟨ab', ao', none⟩) n c', .slice (some ⟨bb', bo', none⟩) n e'] 25)) = W0 := ⟨_, rfl⟩
  have hF : Below w.heap.size w W0 ∧ W0.heap[X]? = some (.cells #[.int .i64 (n : Int), .slice a n c, .slice b n e] 25) ∧ W0.heap[X + 1]? = some (.cells #[.int .i64 (n : Int), .slice (some ⟨ab', ao', none⟩) n c', .slice (some ⟨bb', bo', none⟩) n e'] 25) := by
    refine ⟨?_, ?_, ?_⟩
    · rw [← hW0]; exact alloc_b (alloc_b (Below.refl _ _) _) _
    · rw [← hW0, ← hX]; exact ((alloc_b (Below.refl _ _) _).block _ (by simp)).trans (box_al25 rfl _ _ _)
    · rw [← hW0]; exact box_al25 (by simp [hX]) _ _ _
  obtain ⟨q0, q1, q2, _⟩ := box_cells hF.2.1
  obtain ⟨p0, p1, p2, _⟩ := box_cells hF.2.2
  have hx6 := And.intro (And.intro q0 (And.intro q1 q2)) (And.intro (And.intro p0 (And.intro p1 p2)) (Below.refl W0.heap.size W0))
  have hwW := hF.1
  have H := Lib.hid (And.intro hck (And.intro hck' (And.intro hst (And.intro hsi (And.intro hO2 hX)))))
  clear hck hck' hst hsi hch hch' hc0 hc0' h1 h2 hl2 hO2 hF
  unfold cv at H ⊢
  go_enter Tryz.func47, Tryz.ntmps47
  go_wp2_with (first
    | (go_at_call 83; (with_reducible refine (H.out.2.2.1 _ (below_trans hwW H2.out)).mono ?_); rintro e3 w3 ⟨a3, m3, c3, L, rfl, k1, k2, k3, k4, k⟩
       obtain ⟨⟨j0, j1, j2⟩, ⟨j3, j4, j5⟩, bj⟩ := keepBB hx6 (below_trans H2.out k)
       have H3 := Lib.hid (And.intro bj (And.intro k1 (And.intro k3 k4))); clear k k1 k3 k4 bj)
    | (go_at_call 41; (with_reducible refine (H.out.2.1 _ (below_trans hwW H1.out)).mono ?_); rintro e2 w2 ⟨rfl, k⟩
       obtain ⟨⟨j0, j1, j2⟩, ⟨j3, j4, j5⟩, bj⟩ := keepBB hx6 (below_trans H1.out k)
       have H2 := Lib.hid bj; clear k bj)
    | (go_at_call 41; (with_reducible refine (H.out.1 _ hwW).mono ?_); rintro e1 w1 ⟨rfl, k⟩
       obtain ⟨⟨j0, j1, j2⟩, ⟨j3, j4, j5⟩, bj⟩ := keepBB hx6 k
       have H1 := Lib.hid bj; clear k bj))
  clear q0 q1 q2 p0 p1 p2 j0 j1 j2 j3 j4 j5
  obtain ⟨_, _, hq, _, hat⟩ := pms_at H3.out.2.2.1
  rw [H3.out.2.1] at hq
  have hat' := hat
  simp only [Value.slice.injEq] at hq
  obtain ⟨rfl, -, rfl⟩ := hq
  have HA := Lib.hid hat
  clear hat hat'
  go_loopw [9] (fun jj wr => ∃ j : Nat, j ≤ m3 ∧ jj = .int .i64 (j : Int) ∧ Below W0.heap.size W0 wr ∧ Below w3.heap.size w3 wr ∧ (∀ y ∈ L.take j, G2 y)) (fun jj _ => m3 - (intOf jj).toNat)
  case atStart => exact ⟨0, by omega, rfl, H3.out.1, Below.refl _ _, by simp⟩
  case round =>
    obtain ⟨j, hj, rfl, hb0, hb, hal⟩ := hrel
    obtain ⟨⟨j0, j1, j2⟩, ⟨j3, j4, j5⟩, bj⟩ := keepBB hx6 hb0
    by_cases hjL : j < m3
    · obtain ⟨y, hy⟩ : ∃ y, L[j]? = some y := ⟨_, List.getElem?_eq_getElem (by rw [H3.out.2.1]; exact hjL)⟩
      obtain ⟨g6, o6, u6, e6, hc6, hp6⟩ := HA.out j y hy
      cases e6
      have hc6r := (hb.cell (block_lt_of_cell hc6)).trans hc6
      obtain ⟨ub, uo, uc, rfl, _⟩ := id hp6
      have hst := fun (V : World) (hV : Below wr.heap.size wr V) => H.out.2.2.2.1 V (below_trans (below_trans hwW hb0) hV) _ _ ((hp6.below hb).below hV)
      have hsf := H.out.2.2.2.2.1.sf_iff (f := n) (i := 0) (x := y) (by omega) (fun j hj => absurd hj (by omega))
      have hle := sfG_le (O := fun i => ptsOf n (T' i).orb) (R := repT T') n 0 y
      rw [Nat.zero_add] at hle
      obtain ⟨S, hS⟩ : ∃ S, sfG (fun i => ptsOf n (T' i).orb) (repT T') n 0 y = S := ⟨_, rfl⟩
      rw [hS] at hsf hle
      simp only [hS] at hst
      have hz0 := And.intro hc6r (And.intro (And.intro j3 (And.intro j4 j5)) (Below.refl wr.heap.size wr))
      have HJ := Lib.hid (And.intro hst (And.intro hb0 (And.intro hb (And.intro hal (And.intro hy hsf)))))
      clear hst hb0 hb hal hy hsf hS hp6 hc6
      go_wp2_with fail
      go_region_held3 (fun W => W.cell? ⟨g6, o6 + j, none⟩ = some (.slice (some ⟨ub, uo, none⟩) n uc) ∧ (W.cell? ⟨X + 1, 0, none⟩ = some (.int .i64 (n : Int)) ∧ W.cell? ⟨X + 1, 1, none⟩ = some (.slice (some ⟨ab', ao', none⟩) n c') ∧ W.cell? ⟨X + 1, 2, none⟩ = some (.slice (some ⟨bb', bo', none⟩) n e')) ∧ Below wr.heap.size wr W)
        (first
          | with_reducible assumption
          | with_reducible exact hz0
          | exact keep4z hz0 (below_drw (Below.refl _ _))
          | exact keep4z hz0 (below_self_drewN _ _)
          | exact keep4z hz0 b5
          | fail)
        (first
          | (go_at_call 84; (with_reducible refine (HJ.out.1 _ (by first | exact Below.refl _ _ | exact below_drw (Below.refl _ _) | exact below_self_drewN _ _)).mono ?_); rintro e5 w5 ⟨v5, rfl, k⟩; have b5 : Below wr.heap.size wr w5 := below_trans (by first | exact Below.refl _ _ | exact below_drw (Below.refl _ _) | exact below_self_drewN _ _) k; clear k))
      obtain ⟨m0, ⟨m1, m2, m3'⟩, _⟩ := keep4z hz0 b5
      by_cases hSn : S = n
      · subst hSn
        go_wp2_with fail
        refine ⟨⟨j + 1, by omega, by go_num, below_trans HJ.out.2.1 b5, below_trans HJ.out.2.2.1 b5, fun q hq => ?_⟩, by simp [intOf]; omega⟩
        rw [List.take_add_one, HJ.out.2.2.2.2.1] at hq
        rcases List.mem_append.1 hq with hq | hq
        · exact HJ.out.2.2.2.1 q hq
        · have e9 : q = y := by simpa using hq
          rw [e9]
          exact HJ.out.2.2.2.2.2.1 (by trivial)
      · have hSl : (S : Int) < (n : Int) := by omega
        go_wp2_with fail
        go_ret2
        refine ⟨false, rfl, ⟨fun h => (by cases h), fun h => ?_⟩, below_trans (below_trans hwW HJ.out.2.1) b5⟩
        exact absurd (HJ.out.2.2.2.2.2.2 (h y ((H3.out.2.2.2 y).1 (Grp.base (List.mem_of_getElem? HJ.out.2.2.2.2.1))))) hSn
    · obtain rfl : j = m3 := by omega
      have HJ := Lib.hid (And.intro hb0 hal)
      clear hb0 hb hal
      go_wp2_with fail
      go_ret2
      refine ⟨true, rfl, ⟨fun _ x hx => ?_, fun _ => rfl⟩, below_trans hwW HJ.out.1⟩
      have h9 := HJ.out.2
      rw [← H3.out.2.1, List.take_length] at h9
      exact (grp_sub hG2).1 h9 x ((H3.out.2.2.2 x).2 hx)
end Go.Proofs.YtbejhkojdiadaaaGreatDoor
namespace Go.Proofs.YtbejhkojdiadaaaGreatDoor
open Go.RowKit PlainPm
section
variable {w : World} {v1 v2 : Value} {d1 d2 : Int} {os1 os2 : List (List Int)} {rs1 rs2 : List (List (List Int))}
set_option maxRecDepth 100000 in
set_option maxHeartbeats 2000000 in
theorem below79a (h1 : ChV w v1 d1 os1 rs1) (h2 : ChV w v2 d2 os2 rs2) (hE : chkE d1 os1 rs1 ≠ 0) :
    Calls Tryz.prog 79 #[v1, v2] w fun e w' => e = .returned (.tuple #[.bool false, .int .i64 (chkE d1 os1 rs1)]) ∧ Below w.heap.size w w' := by
  have hk1 := fun (V : World) (hV : Below w.heap.size w V) => chk54 (h1.below hV)
  have hk2 := fun (V : World) (hV : Below w.heap.size w V) => chk54 (h2.below hV)
  obtain ⟨r, hr⟩ : ∃ r, chkE d1 os1 rs1 = r := ⟨_, rfl⟩
  rw [hr] at hk1 hE ⊢
  have hne : (r != 0) = true := by simp [hE]
  obtain ⟨a1, m1, c1, e1, rfl, _⟩ := h1
  obtain ⟨a2, m2, c2, e2, rfl, _⟩ := h2
  obtain ⟨X, hX⟩ : ∃ X, w.heap.size = X := ⟨_, rfl⟩
  obtain ⟨W1, hW1⟩ : ∃ W1, ((((w.alloc (.cells #[.int .i64 d1, .slice a1 os1.length m1, .slice c1 rs1.length e1] 25)).alloc (.cells #[.int .i64 d2, .slice a2 os2.length m2, .slice c2 rs2.length e2] 25)).alloc (.cells #[.bool false] 4)).alloc (.cells #[.int .i64 0] 29)) = W1 := ⟨_, rfl⟩
  have hsz : W1.heap.size = X + 4 := by rw [← hW1]; simp [hX]
  have hwW : Below w.heap.size w W1 := hW1 ▸ alloc_b (alloc_b (alloc_b (alloc_b (Below.refl _ _) _) _) _) _
  have k0 : W1.heap[X]? = some (.cells #[.int .i64 d1, .slice a1 os1.length m1, .slice c1 rs1.length e1] 25) := by
    rw [← hW1]
    exact ((alloc_b (Below.refl _ _) _).block _ (by simp; omega)).trans (((alloc_b (Below.refl _ _) _).block _ (by simp; omega)).trans (((alloc_b (Below.refl _ _) _).block _ (by simp; omega)).trans (box_al25 hX _ _ _)))
  have k1 : W1.heap[X + 1]? = some (.cells #[.int .i64 d2, .slice a2 os2.length m2, .slice c2 rs2.length e2] 25) := by
    rw [← hW1]
    exact ((alloc_b (Below.refl _ _) _).block _ (by simp; omega)).trans (((alloc_b (Below.refl _ _) _).block _ (by simp; omega)).trans (box_al25 (by simp [hX]) _ _ _))
  have k2 : W1.heap[X + 1 + 1]? = some (.cells #[.bool false] 4) := by
    rw [← hW1]
    refine ((alloc_b (Below.refl _ _) _).block _ (by simp; omega)).trans ?_
    have := heap_new ((w.alloc (.cells #[.int .i64 d1, .slice a1 os1.length m1, .slice c1 rs1.length e1] 25)).alloc (.cells #[.int .i64 d2, .slice a2 os2.length m2, .slice c2 rs2.length e2] 25)) (.cells #[.bool false] 4)
    rwa [heap_new0, heap_new0, hX] at this
  have k3 : W1.heap[X + 1 + 1 + 1]? = some (.cells #[.int .i64 0] 29) := by
    rw [← hW1]
    have := heap_new (((w.alloc (.cells #[.int .i64 d1, .slice a1 os1.length m1, .slice c1 rs1.length e1] 25)).alloc (.cells #[.int .i64 d2, .slice a2 os2.length m2, .slice c2 rs2.length e2] 25)).alloc (.cells #[.bool false] 4)) (.cells #[.int .i64 0] 29)
    rwa [heap_new0, heap_new0, heap_new0, hX] at this
  obtain ⟨q0, q1, q2, _⟩ := box_cells k0
  obtain ⟨p0, p1, p2, _⟩ := box_cells k1
  have hx6 := And.intro (And.intro q0 (And.intro q1 q2)) (And.intro (And.intro p0 (And.intro p1 p2)) (Below.refl W1.heap.size W1))
  have hcc := fun (V : World) (hV : Below W1.heap.size W1 V) => And.intro (b1 ((hV.block _ (by rw [hsz]; omega)).trans k2)) (b1 ((hV.block _ (by rw [hsz]; omega)).trans k3))
  have HB := Lib.hid (And.intro hk1 (And.intro hk2 (And.intro hwW (And.intro hsz (And.intro hX hcc)))))
  clear hk1 hk2 k0 k1 k2 k3 hcc hsz
  go_enter Tryz.func79, Tryz.ntmps79
  go_wp2_with (first
    | (go_at_call 37; (with_reducible refine (HB.out.1 _ hwW).mono ?_); rintro e1 w1 ⟨rfl, k⟩
       obtain ⟨⟨j0, j1, j2⟩, ⟨j3, j4, j5⟩, bj⟩ := keepBB hx6 k; obtain ⟨⟨r0, r1⟩, ⟨r2, r3⟩⟩ := HB.out.2.2.2.2.2 _ bj
       have H1 := Lib.hid bj; clear k bj))
  have s2 : ((w1.setCell ⟨X + 1 + 1, 0, none⟩ (.bool false)).setCell ⟨X + 1 + 1 + 1, 0, none⟩ (.int .i64 r)).cell? ⟨X + 1 + 1, 0, none⟩ = some (.bool false) := (cell_set_other (by simp)).trans (cell_set_same r0)
  have s3 : ((w1.setCell ⟨X + 1 + 1, 0, none⟩ (.bool false)).setCell ⟨X + 1 + 1 + 1, 0, none⟩ (.int .i64 r)).cell? ⟨X + 1 + 1 + 1, 0, none⟩ = some (.int .i64 r) := cell_set_same ((cell_set_other (by simp)).trans r2)
  refine bodyPost_ret (v := .tuple #[.bool false, .int .i64 r]) (by simp [results, Tryz.results79, go_sem, s2, s3]) rfl ?_
  refine ⟨rfl, ?_⟩
  have h9 := below_trans hwW H1.out
  exact (h9.setCell (p := ⟨X + 1 + 1, 0, none⟩) (by rw [HB.out.2.2.2.2.1]; simp; omega) _).setCell (p := ⟨X + 1 + 1 + 1, 0, none⟩) (by rw [HB.out.2.2.2.2.1]; simp; omega) _
set_option maxRecDepth 100000 in
set_option maxHeartbeats 2000000 in
theorem below79b (h1 : ChV w v1 d1 os1 rs1) (h2 : ChV w v2 d2 os2 rs2) (h0 : chkE d1 os1 rs1 = 0) (hE : chkE d2 os2 rs2 ≠ 0) :
    Calls Tryz.prog 79 #[v1, v2] w fun e w' => e = .returned (.tuple #[.bool false, .int .i64 (chkE d2 os2 rs2)]) ∧ Below w.heap.size w w' := by
  have hk1 := fun (V : World) (hV : Below w.heap.size w V) => chk54 (h1.below hV)
  have hk2 := fun (V : World) (hV : Below w.heap.size w V) => chk54 (h2.below hV)
  simp only [h0] at hk1
  obtain ⟨r, hr⟩ : ∃ r, chkE d2 os2 rs2 = r := ⟨_, rfl⟩
  rw [hr] at hk2 hE ⊢
  have hne : (r != 0) = true := by simp [hE]
  obtain ⟨a1, m1, c1, e1, rfl, _⟩ := h1
  obtain ⟨a2, m2, c2, e2, rfl, _⟩ := h2
  obtain ⟨X, hX⟩ : ∃ X, w.heap.size = X := ⟨_, rfl⟩
  obtain ⟨W1, hW1⟩ : ∃ W1, ((((w.alloc (.cells #[.int .i64 d1, .slice a1 os1.length m1, .slice c1 rs1.length e1] 25)).alloc (.cells #[.int .i64 d2, .slice a2 os2.length m2, .slice c2 rs2.length e2] 25)).alloc (.cells #[.bool false] 4)).alloc (.cells #[.int .i64 0] 29)) = W1 := ⟨_, rfl⟩
  have hsz : W1.heap.size = X + 4 := by rw [← hW1]; simp [hX]
  have hwW : Below w.heap.size w W1 := hW1 ▸ alloc_b (alloc_b (alloc_b (alloc_b (Below.refl _ _) _) _) _) _
  have k0 : W1.heap[X]? = some (.cells #[.int .i64 d1, .slice a1 os1.length m1, .slice c1 rs1.length e1] 25) := by
    rw [← hW1]
    exact ((alloc_b (Below.refl _ _) _).block _ (by simp; omega)).trans (((alloc_b (Below.refl _ _) _).block _ (by simp; omega)).trans (((alloc_b (Below.refl _ _) _).block _ (by simp; omega)).trans (box_al25 hX _ _ _)))
  have k1 : W1.heap[X + 1]? = some (.cells #[.int .i64 d2, .slice a2 os2.length m2, .slice c2 rs2.length e2] 25) := by
    rw [← hW1]
    exact ((alloc_b (Below.refl _ _) _).block _ (by simp; omega)).trans (((alloc_b (Below.refl _ _) _).block _ (by simp; omega)).trans (box_al25 (by simp [hX]) _ _ _))
  have k2 : W1.heap[X + 1 + 1]? = some (.cells #[.bool false] 4) := by
    rw [← hW1]
    refine ((alloc_b (Below.refl _ _) _).block _ (by simp; omega)).trans ?_
    have := heap_new ((w.alloc (.cells #[.int .i64 d1, .slice a1 os1.length m1, .slice c1 rs1.length e1] 25)).alloc (.cells #[.int .i64 d2, .slice a2 os2.length m2, .slice c2 rs2.length e2] 25)) (.cells #[.bool false] 4)
    rwa [heap_new0, heap_new0, hX] at this
  have k3 : W1.heap[X + 1 + 1 + 1]? = some (.cells #[.int .i64 0] 29) := by
    rw [← hW1]
    have := heap_new (((w.alloc (.cells #[.int .i64 d1, .slice a1 os1.length m1, .slice c1 rs1.length e1] 25)).alloc (.cells #[.int .i64 d2, .slice a2 os2.length m2, .slice c2 rs2.length e2] 25)).alloc (.cells #[.bool false] 4)) (.cells #[.int .i64 0] 29)
    rwa [heap_new0, heap_new0, heap_new0, hX] at this
  obtain ⟨q0, q1, q2, _⟩ := box_cells k0
  obtain ⟨p0, p1, p2, _⟩ := box_cells k1
  have hx6 := And.intro (And.intro q0 (And.intro q1 q2)) (And.intro (And.intro p0 (And.intro p1 p2)) (Below.refl W1.heap.size W1))
  have hcc := fun (V : World) (hV : Below W1.heap.size W1 V) => And.intro (b1 ((hV.block _ (by rw [hsz]; omega)).trans k2)) (b1 ((hV.block _ (by rw [hsz]; omega)).trans k3))
  have HB := Lib.hid (And.intro hk1 (And.intro hk2 (And.intro hwW (And.intro hsz (And.intro hX hcc)))))
  clear hk1 hk2 k0 k1 k2 k3 hcc hsz
  go_enter Tryz.func79, Tryz.ntmps79
  go_wp2_with (first
    | (go_at_call 37; (with_reducible refine (HB.out.2.1 _ (below_trans hwW H1.out)).mono ?_); rintro e2 w2 ⟨rfl, k⟩
       obtain ⟨⟨j0, j1, j2⟩, ⟨j3, j4, j5⟩, bj⟩ := keepBB hx6 (below_trans H1.out k); obtain ⟨⟨r0, r1⟩, ⟨r2, r3⟩⟩ := HB.out.2.2.2.2.2 _ bj
       have H2 := Lib.hid bj; clear k bj)
    | (go_at_call 37; (with_reducible refine (HB.out.1 _ hwW).mono ?_); rintro e1 w1 ⟨rfl, k⟩
       obtain ⟨⟨j0, j1, j2⟩, ⟨j3, j4, j5⟩, bj⟩ := keepBB hx6 k; obtain ⟨⟨r0, r1⟩, ⟨r2, r3⟩⟩ := HB.out.2.2.2.2.2 _ bj
       have H1 := Lib.hid bj; clear k bj))
  have s2 : ((w2.setCell ⟨X + 1 + 1, 0, none⟩ (.bool false)).setCell ⟨X + 1 + 1 + 1, 0, none⟩ (.int .i64 r)).cell? ⟨X + 1 + 1, 0, none⟩ = some (.bool false) := (cell_set_other (by simp)).trans (cell_set_same r0)
  have s3 : ((w2.setCell ⟨X + 1 + 1, 0, none⟩ (.bool false)).setCell ⟨X + 1 + 1 + 1, 0, none⟩ (.int .i64 r)).cell? ⟨X + 1 + 1 + 1, 0, none⟩ = some (.int .i64 r) := cell_set_same ((cell_set_other (by simp)).trans r2)
  refine bodyPost_ret (v := .tuple #[.bool false, .int .i64 r]) (by simp [results, Tryz.results79, go_sem, s2, s3]) rfl ?_
  refine ⟨rfl, ?_⟩
  have h9 := below_trans hwW H2.out
  exact (h9.setCell (p := ⟨X + 1 + 1, 0, none⟩) (by rw [HB.out.2.2.2.2.1]; simp; omega) _).setCell (p := ⟨X + 1 + 1 + 1, 0, none⟩) (by rw [HB.out.2.2.2.2.1]; simp; omega) _
set_option maxRecDepth 100000 in
set_option maxHeartbeats 2000000 in
theorem below79c (h1 : ChV w v1 d1 os1 rs1) (h2 : ChV w v2 d2 os2 rs2) (h0 : chkE d1 os1 rs1 = 0) (h0' : chkE d2 os2 rs2 = 0) (hd : d1 ≠ d2) :
    Calls Tryz.prog 79 #[v1, v2] w fun e w' => e = .returned (.tuple #[.bool false, .int .i64 (10)]) ∧ Below w.heap.size w w' := by
  have hk1 := fun (V : World) (hV : Below w.heap.size w V) => chk54 (h1.below hV)
  have hk2 := fun (V : World) (hV : Below w.heap.size w V) => chk54 (h2.below hV)
  simp only [h0] at hk1
  simp only [h0'] at hk2
  have hne : (d1 != d2) = true := by simp [hd]
  obtain ⟨a1, m1, c1, e1, rfl, _⟩ := h1
  obtain ⟨a2, m2, c2, e2, rfl, _⟩ := h2
  obtain ⟨X, hX⟩ : ∃ X, w.heap.size = X := ⟨_, rfl⟩
  obtain ⟨W1, hW1⟩ : ∃ W1, ((((w.alloc (.cells #[.int .i64 d1, .slice a1 os1.length m1, .slice c1 rs1.length e1] 25)).alloc (.cells #[.int .i64 d2, .slice a2 os2.length m2, .slice c2 rs2.length e2] 25)).alloc (.cells #[.bool false] 4)).alloc (.cells #[.int .i64 0] 29)) = W1 := ⟨_, rfl⟩
  have hsz : W1.heap.size = X + 4 := by rw [← hW1]; simp [hX]
  have hwW : Below w.heap.size w W1 := hW1 ▸ alloc_b (alloc_b (alloc_b (alloc_b (Below.refl _ _) _) _) _) _
  have k0 : W1.heap[X]? = some (.cells #[.int .i64 d1, .slice a1 os1.length m1, .slice c1 rs1.length e1] 25) := by
    rw [← hW1]
    exact ((alloc_b (Below.refl _ _) _).block _ (by simp; omega)).trans (((alloc_b (Below.refl _ _) _).block _ (by simp; omega)).trans (((alloc_b (Below.refl _ _) _).block _ (by simp; omega)).trans (box_al25 hX _ _ _)))
  have k1 : W1.heap[X + 1]? = some (.cells #[.int .i64 d2, .slice a2 os2.length m2, .slice c2 rs2.length e2] 25) := by
    rw [← hW1]
    exact ((alloc_b (Below.refl _ _) _).block _ (by simp; omega)).trans (((alloc_b (Below.refl _ _) _).block _ (by simp; omega)).trans (box_al25 (by simp [hX]) _ _ _))
  have k2 : W1.heap[X + 1 + 1]? = some (.cells #[.bool false] 4) := by
    rw [← hW1]
    refine ((alloc_b (Below.refl _ _) _).block _ (by simp; omega)).trans ?_
    have := heap_new ((w.alloc (.cells #[.int .i64 d1, .slice a1 os1.length m1, .slice c1 rs1.length e1] 25)).alloc (.cells #[.int .i64 d2, .slice a2 os2.length m2, .slice c2 rs2.length e2] 25)) (.cells #[.bool false] 4)
    rwa [heap_new0, heap_new0, hX] at this
  have k3 : W1.heap[X + 1 + 1 + 1]? = some (.cells #[.int .i64 0] 29) := by
    rw [← hW1]
    have := heap_new (((w.alloc (.cells #[.int .i64 d1, .slice a1 os1.length m1, .slice c1 rs1.length e1] 25)).alloc (.cells #[.int .i64 d2, .slice a2 os2.length m2, .slice c2 rs2.length e2] 25)).alloc (.cells #[.bool false] 4)) (.cells #[.int .i64 0] 29)
    rwa [heap_new0, heap_new0, heap_new0, hX] at this
  obtain ⟨q0, q1, q2, _⟩ := box_cells k0
  obtain ⟨p0, p1, p2, _⟩ := box_cells k1
  have hx6 := And.intro (And.intro q0 (And.intro q1 q2)) (And.intro (And.intro p0 (And.intro p1 p2)) (Below.refl W1.heap.size W1))
  have hcc := fun (V : World) (hV : Below W1.heap.size W1 V) => And.intro (b1 ((hV.block _ (by rw [hsz]; omega)).trans k2)) (b1 ((hV.block _ (by rw [hsz]; omega)).trans k3))
  have HB := Lib.hid (And.intro hk1 (And.intro hk2 (And.intro hwW (And.intro hsz (And.intro hX hcc)))))
  clear hk1 hk2 k0 k1 k2 k3 hcc hsz
  go_enter Tryz.func79, Tryz.ntmps79
  go_wp2_with (first
    | (go_at_call 37; (with_reducible refine (HB.out.2.1 _ (below_trans hwW H1.out)).mono ?_); rintro e2 w2 ⟨rfl, k⟩
       obtain ⟨⟨j0, j1, j2⟩, ⟨j3, j4, j5⟩, bj⟩ := keepBB hx6 (below_trans H1.out k); obtain ⟨⟨r0, r1⟩, ⟨r2, r3⟩⟩ := HB.out.2.2.2.2.2 _ bj
       have H2 := Lib.hid bj; clear k bj)
    | (go_at_call 37; (with_reducible refine (HB.out.1 _ hwW).mono ?_); rintro e1 w1 ⟨rfl, k⟩
       obtain ⟨⟨j0, j1, j2⟩, ⟨j3, j4, j5⟩, bj⟩ := keepBB hx6 k; obtain ⟨⟨r0, r1⟩, ⟨r2, r3⟩⟩ := HB.out.2.2.2.2.2 _ bj
       have H1 := Lib.hid bj; clear k bj))
  have s2 : ((w2.setCell ⟨X + 1 + 1, 0, none⟩ (.bool false)).setCell ⟨X + 1 + 1 + 1, 0, none⟩ (.int .i64 10)).cell? ⟨X + 1 + 1, 0, none⟩ = some (.bool false) := (cell_set_other (by simp)).trans (cell_set_same r0)
  have s3 : ((w2.setCell ⟨X + 1 + 1, 0, none⟩ (.bool false)).setCell ⟨X + 1 + 1 + 1, 0, none⟩ (.int .i64 10)).cell? ⟨X + 1 + 1 + 1, 0, none⟩ = some (.int .i64 10) := cell_set_same ((cell_set_other (by simp)).trans r2)
  refine bodyPost_ret (v := .tuple #[.bool false, .int .i64 10]) (by simp [results, Tryz.results79, go_sem, s2, s3]) rfl ?_
  refine ⟨rfl, ?_⟩
  have h9 := below_trans hwW H2.out
  exact (h9.setCell (p := ⟨X + 1 + 1, 0, none⟩) (by rw [HB.out.2.2.2.2.1]; simp; omega) _).setCell (p := ⟨X + 1 + 1 + 1, 0, none⟩) (by rw [HB.out.2.2.2.2.1]; simp; omega) _
set_option maxRecDepth 100000 in
set_option maxHeartbeats 2000000 in
theorem below47a (h1 : ChV w v1 d1 os1 rs1) (h2 : ChV w v2 d2 os2 rs2) (hE : chkE d1 os1 rs1 ≠ 0) :
    Calls Tryz.prog 47 #[v1, v2] w fun e w' => e = .returned (.tuple #[.bool false, .int .i64 (chkE d1 os1 rs1)]) ∧ Below w.heap.size w w' := by
  have hk1 := fun (V : World) (hV : Below w.heap.size w V) => chk56 (h1.below hV)
  have hk2 := fun (V : World) (hV : Below w.heap.size w V) => chk56 (h2.below hV)
  obtain ⟨r, hr⟩ : ∃ r, chkE d1 os1 rs1 = r := ⟨_, rfl⟩
  rw [hr] at hk1 hE ⊢
  have hne : (r != 0) = true := by simp [hE]
  obtain ⟨a1, m1, c1, e1, rfl, _⟩ := h1
  obtain ⟨a2, m2, c2, e2, rfl, _⟩ := h2
  obtain ⟨X, hX⟩ : ∃ X, w.heap.size = X := ⟨_, rfl⟩
  obtain ⟨W1, hW1⟩ : ∃ W1, ((w.alloc (.cells #[.int .i64 d1, .slice a1 os1.length m1, .slice c1 rs1.length e1] 25)).alloc (.cells #[.int .i64 d2, .slice a2 os2.length m2, .slice c2 rs2.length e2] 25)) = W1 := ⟨_, rfl⟩
  have hsz : W1.heap.size = X + 2 := by rw [← hW1]; simp [hX]
  have hwW : Below w.heap.size w W1 := hW1 ▸ alloc_b (alloc_b (Below.refl _ _) _) _
  have k0 : W1.heap[X]? = some (.cells #[.int .i64 d1, .slice a1 os1.length m1, .slice c1 rs1.length e1] 25) := by
    rw [← hW1]
    exact ((alloc_b (Below.refl _ _) _).block _ (by simp; omega)).trans (box_al25 hX _ _ _)
  have k1 : W1.heap[X + 1]? = some (.cells #[.int .i64 d2, .slice a2 os2.length m2, .slice c2 rs2.length e2] 25) := by
    rw [← hW1]
    exact box_al25 (by simp [hX]) _ _ _
  obtain ⟨q0, q1, q2, _⟩ := box_cells k0
  obtain ⟨p0, p1, p2, _⟩ := box_cells k1
  have hx6 := And.intro (And.intro q0 (And.intro q1 q2)) (And.intro (And.intro p0 (And.intro p1 p2)) (Below.refl W1.heap.size W1))
  have HB := Lib.hid (And.intro hk1 (And.intro hk2 (And.intro hwW (And.intro hsz (And.intro hX hX)))))
  clear hk1 hk2 k0 k1  hsz
  go_enter Tryz.func47, Tryz.ntmps47
  go_wp2_with (first
    | (go_at_call 41; (with_reducible refine (HB.out.1 _ hwW).mono ?_); rintro e1 w1 ⟨rfl, k⟩
       obtain ⟨⟨j0, j1, j2⟩, ⟨j3, j4, j5⟩, bj⟩ := keepBB hx6 k
       have H1 := Lib.hid bj; clear k bj))
  refine bodyPost_ret (v := .tuple #[.bool false, .int .i64 r]) (by simp [results, Tryz.results47, go_sem]) rfl ?_
  exact ⟨rfl, below_trans hwW H1.out⟩
set_option maxRecDepth 100000 in
set_option maxHeartbeats 2000000 in
theorem below47b (h1 : ChV w v1 d1 os1 rs1) (h2 : ChV w v2 d2 os2 rs2) (h0 : chkE d1 os1 rs1 = 0) (hE : chkE d2 os2 rs2 ≠ 0) :
    Calls Tryz.prog 47 #[v1, v2] w fun e w' => e = .returned (.tuple #[.bool false, .int .i64 (chkE d2 os2 rs2)]) ∧ Below w.heap.size w w' := by
  have hk1 := fun (V : World) (hV : Below w.heap.size w V) => chk56 (h1.below hV)
  have hk2 := fun (V : World) (hV : Below w.heap.size w V) => chk56 (h2.below hV)
  simp only [h0] at hk1
  obtain ⟨r, hr⟩ : ∃ r, chkE d2 os2 rs2 = r := ⟨_, rfl⟩
  rw [hr] at hk2 hE ⊢
  have hne : (r != 0) = true := by simp [hE]
  obtain ⟨a1, m1, c1, e1, rfl, _⟩ := h1
  obtain ⟨a2, m2, c2, e2, rfl, _⟩ := h2
  obtain ⟨X, hX⟩ : ∃ X, w.heap.size = X := ⟨_, rfl⟩
  obtain ⟨W1, hW1⟩ : ∃ W1, ((w.alloc (.cells #[.int .i64 d1, .slice a1 os1.length m1, .slice c1 rs1.length e1] 25)).alloc (.cells #[.int .i64 d2, .slice a2 os2.length m2, .slice c2 rs2.length e2] 25)) = W1 := ⟨_, rfl⟩
  have hsz : W1.heap.size = X + 2 := by rw [← hW1]; simp [hX]
  have hwW : Below w.heap.size w W1 := hW1 ▸ alloc_b (alloc_b (Below.refl _ _) _) _
  have k0 : W1.heap[X]? = some (.cells #[.int .i64 d1, .slice a1 os1.length m1, .slice c1 rs1.length e1] 25) := by
    rw [← hW1]
    exact ((alloc_b (Below.refl _ _) _).block _ (by simp; omega)).trans (box_al25 hX _ _ _)
  have k1 : W1.heap[X + 1]? = some (.cells #[.int .i64 d2, .slice a2 os2.length m2, .slice c2 rs2.length e2] 25) := by
    rw [← hW1]
    exact box_al25 (by simp [hX]) _ _ _
  obtain ⟨q0, q1, q2, _⟩ := box_cells k0
  obtain ⟨p0, p1, p2, _⟩ := box_cells k1
  have hx6 := And.intro (And.intro q0 (And.intro q1 q2)) (And.intro (And.intro p0 (And.intro p1 p2)) (Below.refl W1.heap.size W1))
  have HB := Lib.hid (And.intro hk1 (And.intro hk2 (And.intro hwW (And.intro hsz (And.intro hX hX)))))
  clear hk1 hk2 k0 k1  hsz
  go_enter Tryz.func47, Tryz.ntmps47
  go_wp2_with (first
    | (go_at_call 41; (with_reducible refine (HB.out.2.1 _ (below_trans hwW H1.out)).mono ?_); rintro e2 w2 ⟨rfl, k⟩
       obtain ⟨⟨j0, j1, j2⟩, ⟨j3, j4, j5⟩, bj⟩ := keepBB hx6 (below_trans H1.out k)
       have H2 := Lib.hid bj; clear k bj)
    | (go_at_call 41; (with_reducible refine (HB.out.1 _ hwW).mono ?_); rintro e1 w1 ⟨rfl, k⟩
       obtain ⟨⟨j0, j1, j2⟩, ⟨j3, j4, j5⟩, bj⟩ := keepBB hx6 k
       have H1 := Lib.hid bj; clear k bj))
  refine bodyPost_ret (v := .tuple #[.bool false, .int .i64 r]) (by simp [results, Tryz.results47, go_sem]) rfl ?_
  exact ⟨rfl, below_trans hwW H2.out⟩
set_option maxRecDepth 100000 in
set_option maxHeartbeats 2000000 in
theorem below47c (h1 : ChV w v1 d1 os1 rs1) (h2 : ChV w v2 d2 os2 rs2) (h0 : chkE d1 os1 rs1 = 0) (h0' : chkE d2 os2 rs2 = 0) (hd : d1 ≠ d2) :
    Calls Tryz.prog 47 #[v1, v2] w fun e w' => e = .returned (.tuple #[.bool false, .int .i64 (10)]) ∧ Below w.heap.size w w' := by
  have hk1 := fun (V : World) (hV : Below w.heap.size w V) => chk56 (h1.below hV)
  have hk2 := fun (V : World) (hV : Below w.heap.size w V) => chk56 (h2.below hV)
  simp only [h0] at hk1
  simp only [h0'] at hk2
  have hne : (d1 != d2) = true := by simp [hd]
  obtain ⟨a1, m1, c1, e1, rfl, _⟩ := h1
  obtain ⟨a2, m2, c2, e2, rfl, _⟩ := h2
  obtain ⟨X, hX⟩ : ∃ X, w.heap.size = X := ⟨_, rfl⟩
  obtain ⟨W1, hW1⟩ : ∃ W1, ((w.alloc (.cells #[.int .i64 d1, .slice a1 os1.length m1, .slice c1 rs1.length e1] 25)).alloc (.cells #[.int .i64 d2, .slice a2 os2.length m2, .slice c2 rs2.length e2] 25)) = W1 := ⟨_, rfl⟩
  have hsz : W1.heap.size = X + 2 := by rw [← hW1]; simp [hX]
  have hwW : Below w.heap.size w W1 := hW1 ▸ alloc_b (alloc_b (Below.refl _ _) _) _
  have k0 : W1.heap[X]? = some (.cells #[.int .i64 d1, .slice a1 os1.length m1, .slice c1 rs1.length e1] 25) := by
    rw [← hW1]
    exact ((alloc_b (Below.refl _ _) _).block _ (by simp; omega)).trans (box_al25 hX _ _ _)
  have k1 : W1.heap[X + 1]? = some (.cells #[.int .i64 d2, .slice a2 os2.length m2, .slice c2 rs2.length e2] 25) := by
    rw [← hW1]
    exact box_al25 (by simp [hX]) _ _ _
  obtain ⟨q0, q1, q2, _⟩ := box_cells k0
  obtain ⟨p0, p1, p2, _⟩ := box_cells k1
  have hx6 := And.intro (And.intro q0 (And.intro q1 q2)) (And.intro (And.intro p0 (And.intro p1 p2)) (Below.refl W1.heap.size W1))
  have HB := Lib.hid (And.intro hk1 (And.intro hk2 (And.intro hwW (And.intro hsz (And.intro hX hX)))))
  clear hk1 hk2 k0 k1  hsz
  go_enter Tryz.func47, Tryz.ntmps47
  go_wp2_with (first
    | (go_at_call 41; (with_reducible refine (HB.out.2.1 _ (below_trans hwW H1.out)).mono ?_); rintro e2 w2 ⟨rfl, k⟩
       obtain ⟨⟨j0, j1, j2⟩, ⟨j3, j4, j5⟩, bj⟩ := keepBB hx6 (below_trans H1.out k)
       have H2 := Lib.hid bj; clear k bj)
    | (go_at_call 41; (with_reducible refine (HB.out.1 _ hwW).mono ?_); rintro e1 w1 ⟨rfl, k⟩
       obtain ⟨⟨j0, j1, j2⟩, ⟨j3, j4, j5⟩, bj⟩ := keepBB hx6 k
       have H1 := Lib.hid bj; clear k bj))
  refine bodyPost_ret (v := .tuple #[.bool false, .int .i64 10]) (by simp [results, Tryz.results47, go_sem]) rfl ?_
  exact ⟨rfl, below_trans hwW H2.out⟩
end
end Go.Proofs.YtbejhkojdiadaaaGreatDoor
namespace Go.Proofs.YtbejhkojdiadaaaGreatDoor
theorem valL_lt (ps : List Nat) (h : ∀ d ∈ ps, d < 10) : valL ps < 10 ^ ps.length := by
  induction ps with
  | nil => simp [valL]
  | cons p ps ih =>
    have h1 := ih (fun d hd => h d (by simp [hd]))
    have h2 := h p (by simp)
    simp only [valL, List.length_cons, Nat.pow_succ]; omega
end Go.Proofs.YtbejhkojdiadaaaGreatDoor
namespace Go.Proofs.YtbejhkojdiadaaaGreatDoor
open Go.RowKit
theorem sB_one {x : Nat} (hx : x < 10) : Utf8.encode (48 + (x : Int)) = sB [x] := by
  have h : x = 0 ∨ x = 1 ∨ x = 2 ∨ x = 3 ∨ x = 4 ∨ x = 5 ∨ x = 6 ∨ x = 7 ∨ x = 8 ∨ x = 9 := by omega
  rcases h with rfl | rfl | rfl | rfl | rfl | rfl | rfl | rfl | rfl | rfl <;> rfl
theorem sB_cons (x : Nat) (bs : List Nat) : sB [x] ++ sB bs = sB (x :: bs) := by
  cases h : sB [x] ++ sB bs
  simp only [sB, digB] at h ⊢
  rw [← h]
  ext1
  simp [ByteArray.data_append]
theorem sB_snoc (x : Nat) (bs : List Nat) : sB bs ++ sB [x] = sB (bs ++ [x]) := by
  ext1
  simp [sB, digB, ByteArray.data_append]
set_option maxRecDepth 100000 in
set_option maxHeartbeats 2000000 in
theorem order85 {w : World} {s : ByteArray} {k : Nat} (h : IsNum s k) (hk : k < 10 ^ 18) : Calls Tryz.prog 85 #[.string s] w fun e w' => e = .returned (.bool true) ∧ Below w.heap.size w w' := by
  obtain ⟨ds, h1, h2, h3⟩ := h
  have hl : ds.length ≤ 18 := h1.len (h2 ▸ hk)
  have hs := num_size h3
  have hpos : 0 < ds.length := List.length_pos_iff.2 h1.2.1
  obtain ⟨N, hN⟩ : ∃ N, ds.length = N := ⟨_, rfl⟩
  have hby : ∀ (j : Nat) (hj : j < s.size), 48 ≤ (s[j]'hj).toNat ∧ (s[j]'hj).toNat ≤ 57 ∧ (j = 0 → (s[j]'hj).toNat ≠ 48) := fun j hj => by
    obtain ⟨L, hL⟩ : ∃ L, j + L + 1 = ds.length := ⟨ds.length - 1 - j, by omega⟩
    obtain ⟨d, hd⟩ : ∃ d, ds[L]? = some d := ⟨_, List.getElem?_eq_getElem (by omega)⟩
    rw [num_byte h3 h1.1 hL hd hj]
    have hd10 := h1.1 d (List.mem_of_getElem? hd)
    refine ⟨by omega, by omega, fun e => ?_⟩
    rintro e2
    have hd0 : d = 0 := by omega
    apply h1.2.2
    rw [List.getLast?_eq_getElem?, show ds.length - 1 = L by omega, hd, hd0]
  rw [hN] at hl hs hpos
  have h0s : 0 < s.size := by omega
  have hn0 : ((((s[0]'h0s).toNat : Nat) : Int) == 48) = false := by
    have := (hby 0 h0s).2.2 rfl
    simp; omega
  have H := Lib.hid hby
  clear h1 h2 h3 hN hk hby
  have g1 : ¬ (N : Int) < 1 := by omega
  have g2 : ¬ (200 : Int) < N := by omega
  go_enter Tryz.func85, Tryz.ntmps85
  go_wp2
  go_loopw [3] (fun i wr => ∃ j : Nat, j ≤ N ∧ i = .int .i64 (j : Int) ∧ Below w.heap.size w wr) (fun i _ => N - (intOf i).toNat)
  case atStart => exact ⟨0, by omega, rfl, Below.refl _ _⟩
  case round =>
    obtain ⟨j, hj, rfl, hb⟩ := hrel
    by_cases hjn : j < N
    · have hjs : j < s.size := by omega
      obtain ⟨b1, b2, _⟩ := H.out j hjs
      obtain ⟨b, hb'⟩ : ∃ b, (s[j]'hjs).toNat = b := ⟨_, rfl⟩
      rw [hb'] at b1 b2
      have g3 : ¬ (b : Int) < 48 := by omega
      have g4 : ¬ (57 : Int) < b := by omega
      go_wp2
      exact ⟨⟨j + 1, by omega, by go_num, hb⟩, by simp [intOf]; omega⟩
    · obtain rfl : j = N := by omega
      go_wp2
      go_ret
      exact ⟨rfl, hb⟩
set_option maxRecDepth 100000 in
set_option maxHeartbeats 4000000 in
theorem times48a {w : World} {s : ByteArray} {ds : List Nat} {m : Nat} (h1 : IsD ds) (h3 : s.data.toList = digB ds.reverse) (hm : 1 ≤ m ∧ m ≤ 1000) (hk : valL ds * m < 10 ^ 18) :
    Calls Tryz.prog 48 #[.string s, .int .i64 (m : Int)] w fun e w' => ∃ t, e = .returned (.tuple #[.string t, .int .i64 0]) ∧ IsNum t (valL ds * m) ∧ Below w.heap.size w w' := by
  have hk1 : valL ds < 10 ^ 18 := Nat.lt_of_le_of_lt (Nat.le_mul_of_pos_right _ hm.1) hk
  have ho := order85 (w := w) ⟨ds, h1, rfl, h3⟩ hk1
  have hs := num_size h3
  have hl := h1.len hk1
  have hpos : 0 < ds.length := List.length_pos_iff.2 h1.2.1
  obtain ⟨N, hN⟩ : ∃ N, ds.length = N := ⟨_, rfl⟩
  rw [hN] at hs hl hpos
  have HO := Lib.hid ho
  have H := Lib.hid (And.intro h1 (And.intro h3 (And.intro hN hk)))
  obtain ⟨hm1, hm2⟩ := hm
  have g1 : ¬ (m : Int) < 1 := by omega
  have g2 : ¬ (1000000000 : Int) < m := by omega
  have g3 : IntKind.i64.wrap ((N : Int) - 1) = (N : Int) - 1 := by rw [IntKind.wrap_i64]; omega
  clear ho hk hk1 h1 h3 hN
  go_enter Tryz.func48, Tryz.ntmps48
  go_wp2_with (go_at_call 85; (with_reducible refine HO.out.mono ?_); rintro e1 w1 ⟨rfl, k⟩; have H1 := Lib.hid k; clear k)
  go_loopw [6, 7, 8] (fun v c i wr => ∃ (ps : List Nat) (cN : Nat) (vv : Value), vv = v ∧ c = .int .i64 (cN : Int) ∧ i = .int .i64 ((N : Int) - 1 - (ps.length : Int)) ∧ TimI ds m (valL ds) ps cN ∧ vv = .string (sB ps.reverse) ∧ Below w.heap.size w wr) (fun _ c i _ => (intOf i + 1).toNat * (m + 1) + (intOf c).toNat)
  case atStart => exact ⟨[], 0, _, rfl, rfl, by simp, TimI.start H.out.1, rfl, H1.out⟩
  case round =>
    obtain ⟨ps, c, v, rfl, rfl, rfl, hT, rfl, hb⟩ := hrel
    have hcm : c ≤ m := hT.2.2.1
    obtain ⟨L, hL⟩ : ∃ L, ps.length = L := ⟨_, rfl⟩
    have hL18 : L ≤ 18 := hL ▸ hT.len H.out.1 H.out.2.2.2 hm1
    rw [hL]
    have HR := Lib.hid (And.intro hT (And.intro hb hL))
    by_cases hLN : L < N
    · obtain ⟨j, hj⟩ : ∃ j : Nat, j + L + 1 = N := ⟨N - 1 - L, by omega⟩
      have hjI : (N : Int) - 1 - (L : Int) = (j : Int) := by omega
      obtain ⟨d, hd⟩ : ∃ d, ds[L]? = some d := ⟨_, List.getElem?_eq_getElem (by rw [H.out.2.2.1]; exact hLN)⟩
      have hd9 : d < 10 := H.out.1.1 d (List.mem_of_getElem? hd)
      have hjs : j < s.size := by omega
      have hby := num_byte H.out.2.1 H.out.1.1 (by rw [H.out.2.2.1]; exact hj) hd hjs
      have hst := (HR.out.1).step H.out.1 hm1 (by rw [hL]; exact hd)
      have hdm : d * m ≤ 9 * m := Nat.mul_le_mul_right m (by omega)
      obtain ⟨q, hq⟩ : ∃ q, d * m = q := ⟨_, rfl⟩
      have hqI : (d : Int) * (m : Int) = (q : Int) := by rw [← hq]; simp
      rw [hq] at hst hdm
      obtain ⟨r, hr⟩ : ∃ r, c + q = r := ⟨_, rfl⟩
      obtain ⟨x, hx⟩ : ∃ x, r % 10 = x := ⟨_, rfl⟩
      obtain ⟨y, hy⟩ : ∃ y, r / 10 = y := ⟨_, rfl⟩
      rw [hr, hx, hy] at hst
      have hx10 : x < 10 := by omega
      have hrl : r ≤ 10000 := by omega
      rw [hjI]
      have gj : (0 : Int) ≤ (j : Int) := by omega
      have a0 : (48 + (d : Int) - 48) = (d : Int) := by omega
      have a2 : IntKind.i64.wrap ((d : Int) * (m : Int)) = (q : Int) := by rw [hqI, IntKind.wrap_i64]; omega
      have a3 : IntKind.i64.wrap ((c : Int) + (q : Int)) = (r : Int) := by rw [IntKind.wrap_i64]; omega
      have a4 : Int.tmod (r : Int) 10 = (x : Int) := by rw [Int.tmod_eq_emod_of_nonneg (by omega)]; omega
      have a5 : Int.tdiv (r : Int) 10 = (y : Int) := by rw [Int.tdiv_eq_ediv_of_nonneg (by omega)]; omega
      have hrm : (y : Int) + 0 ≤ 1000 := by omega
      have hlt : (j + 1) * (m + 1) + c > j * (m + 1) + y := by
        have : y ≤ m := hst.2.2.1
        rw [Nat.add_mul]; omega
      have HS := Lib.hid (And.intro hst (And.intro hb hlt))
      clear hT hb hL hst hd hq hjI hr hx hy hqI hlt
      obtain ⟨A, hA⟩ : ∃ A, sB ps.reverse = A := ⟨_, rfl⟩
      have HC := Lib.hid (show Utf8.encode (48 + (x : Int)) ++ A = sB (x :: ps.reverse) by rw [← hA, sB_one hx10, sB_cons])
      have hns : ¬ 9223372036854775807 < (Utf8.encode (48 + (x : Int))).size + A.size := by rw [← hA, sB_one hx10, sB_size, sB_size, List.length_reverse, HR.out.2.2, List.length_singleton]; omega
      rw [hA]
      clear hA
      go_wp2
      refine ⟨⟨ps ++ [x], y, _, rfl, rfl, ?_, HS.out.1, by rw [List.reverse_append]; exact congrArg _ HC.out, HS.out.2.1⟩, ?_⟩
      · rw [List.length_append, HR.out.2.2]; simp; omega
      · have := HS.out.2.2
        simp only [intOf, Int.toNat_natCast]
        rw [show ((j : Int) - 1 + 1).toNat = j by omega, show ((j : Int) + 1).toNat = j + 1 by omega]
        exact this
    · obtain ⟨z, hz⟩ : ∃ z : Int, (N : Int) - 1 - (L : Int) = z := ⟨_, rfl⟩
      have hz0 : z < 0 := by omega
      have hz9 : -100 < z := by omega
      rw [hz]
      have gz : ¬ (0 : Int) ≤ z := by omega
      have hNL : ds.length ≤ ps.length := by rw [H.out.2.2.1, hL]; omega
      by_cases hc : 0 < c
      · have hst := hT.more hNL hc
        obtain ⟨x, hx⟩ : ∃ x, c % 10 = x := ⟨_, rfl⟩
        obtain ⟨y, hy⟩ : ∃ y, c / 10 = y := ⟨_, rfl⟩
        rw [hx, hy] at hst
        have hx10 : x < 10 := by omega
        have a4 : Int.tmod (c : Int) 10 = (x : Int) := by rw [Int.tmod_eq_emod_of_nonneg (by omega)]; omega
        have a5 : Int.tdiv (c : Int) 10 = (y : Int) := by rw [Int.tdiv_eq_ediv_of_nonneg (by omega)]; omega
        have hyc : y < c := by omega
        have gc : (0 : Int) < (c : Int) := by omega
        have hzI : z - 1 = (N : Int) - 1 - ((L + 1 : Nat) : Int) := by omega
        have HS := Lib.hid (And.intro hst (And.intro hb (And.intro hyc hzI)))
        clear hT hb hL hst hx hy hz hNL hc hzI
        obtain ⟨A, hA⟩ : ∃ A, sB ps.reverse = A := ⟨_, rfl⟩
        have HC := Lib.hid (show Utf8.encode (48 + (x : Int)) ++ A = sB (x :: ps.reverse) by rw [← hA, sB_one hx10, sB_cons])
        have hns : ¬ 9223372036854775807 < (Utf8.encode (48 + (x : Int))).size + A.size := by rw [← hA, sB_one hx10, sB_size, sB_size, List.length_reverse, HR.out.2.2, List.length_singleton]; omega
        rw [hA]
        clear hA
        go_wp2
        refine ⟨⟨ps ++ [x], y, _, rfl, rfl, ?_, HS.out.1, by rw [List.reverse_append]; exact congrArg _ HC.out, HS.out.2.1⟩, ?_⟩
        · rw [List.length_append, HR.out.2.2, List.length_singleton, HS.out.2.2.2]
        · simp only [intOf, Int.toNat_natCast]
          rw [show (z - 1 + 1).toNat = 0 by omega, show (z + 1).toNat = 0 by omega]
          have := HS.out.2.2.1
          omega
      · obtain rfl : c = 0 := by omega
        have hD := hT.done hNL H.out.1
        have hL1 : 0 < L := by omega
        have HS := Lib.hid (And.intro hD hb)
        have hsz := sB_size ps.reverse
        rw [List.length_reverse, hL] at hsz
        clear hT hb hz hNL hc hD
        have gL : ¬ (200 : Int) < (L : Int) := by omega
        go_wp2
        go_ret2
        exact ⟨_, rfl, ⟨ps, HS.out.1.1, HS.out.1.2, rfl⟩, HS.out.2⟩
end Go.Proofs.YtbejhkojdiadaaaGreatDoor
namespace Go.Proofs.YtbejhkojdiadaaaGreatDoor
open Go.RowKit
theorem drop_snoc (qs : List Nat) (x : Nat) : (qs ++ [x]).dropWhile (· == 0) = if qs.dropWhile (· == 0) = [] then [x].dropWhile (· == 0) else qs.dropWhile (· == 0) ++ [x] := by
  induction qs with
  | nil => simp
  | cons q qs ih =>
    rw [List.cons_append, List.dropWhile_cons, List.dropWhile_cons]
    split
    · exact ih
    · simp
set_option maxRecDepth 100000 in
set_option maxHeartbeats 4000000 in
theorem ratio49a {w : World} {s : ByteArray} {ds : List Nat} {m : Nat} (h1 : IsD ds) (h3 : s.data.toList = digB ds.reverse) (hm : 1 ≤ m ∧ m ≤ 1000) (hk : valL ds < 10 ^ 18) (hdv : m ∣ valL ds) :
    Calls Tryz.prog 49 #[.string s, .int .i64 (m : Int)] w fun e w' => ∃ t, e = .returned (.tuple #[.string t, .int .i64 0]) ∧ IsNum t (valL ds / m) ∧ Below w.heap.size w w' := by
  have ho := order85 (w := w) ⟨ds, h1, rfl, h3⟩ hk
  have hs := num_size h3
  have hl := h1.len hk
  have hpos : 0 < ds.length := List.length_pos_iff.2 h1.2.1
  obtain ⟨N, hN⟩ : ∃ N, ds.length = N := ⟨_, rfl⟩
  have hvp := h1.pos
  have hbd : ∀ d ∈ ds.reverse, d < 10 := fun d hd => h1.1 d (List.mem_reverse.1 hd)
  have hby : ∀ (j : Nat) (hj : j < s.size), ∃ d, ds.reverse[j]? = some d ∧ d < 10 ∧ (s[j]'hj).toNat = 48 + d := fun j hj => by
    obtain ⟨L, hL⟩ : ∃ L, j + L + 1 = ds.length := ⟨ds.length - 1 - j, by omega⟩
    obtain ⟨d, hd⟩ : ∃ d, ds[L]? = some d := ⟨_, List.getElem?_eq_getElem (by omega)⟩
    refine ⟨d, ?_, h1.1 d (List.mem_of_getElem? hd), num_byte h3 h1.1 hL hd hj⟩
    rw [List.getElem?_reverse (by omega), ← hd]; congr 1; omega
  rw [hN] at hs hl hpos
  have hvB : valB ds.reverse = valL ds := by rw [← valB_rev, List.reverse_reverse]
  have hbl : ds.reverse.length = N := by rw [List.length_reverse, hN]
  obtain ⟨bs, hbs⟩ : ∃ bs, ds.reverse = bs := ⟨_, rfl⟩
  rw [hbs] at hby hvB hbl hbd
  rw [← hvB] at hdv hvp ⊢
  have HO := Lib.hid ho
  have H := Lib.hid (And.intro hby (And.intro hdv (And.intro hvp (And.intro hbl hbd))))
  obtain ⟨hm1, hm2⟩ := hm
  have g0 : ((m : Int) == 0) = false := by simp; omega
  have g1 : ¬ (m : Int) < 0 := by omega
  have g2 : ¬ (1000000000 : Int) < m := by omega
  clear ho hk h1 h3 hN hbs hvB hvp hdv hby hbl hbd
  go_enter Tryz.func49, Tryz.ntmps49
  go_wp2_with (go_at_call 85; (with_reducible refine HO.out.mono ?_); rintro e1 w1 ⟨rfl, k⟩; have H1 := Lib.hid k; clear k)
  go_loopw [6, 7, 8] (fun v c i wr => ∃ (j r : Nat) (qs : List Nat), v = .string (sB (qs.dropWhile (· == 0))) ∧ c = .int .i64 (r : Int) ∧ i = .int .i64 (j : Int) ∧ j ≤ N ∧ qs.length = j ∧ RatI bs m j qs r ∧ Below w.heap.size w wr) (fun _ _ i _ => N - (intOf i).toNat)
  case atStart => exact ⟨0, 0, [], rfl, rfl, rfl, by omega, rfl, RatI.start hm1, H1.out⟩
  case round =>
    obtain ⟨j, r, qs, rfl, rfl, rfl, hj, hql, hR, hb⟩ := hrel
    by_cases hjn : j < N
    · have hjs : j < s.size := by omega
      obtain ⟨d, hd, hd10, hbt⟩ := H.out.1 j hjs
      have hrm : r < m := hR.2.2
      obtain ⟨hst, hq10⟩ := hR.step hd hd10
      obtain ⟨u, hu⟩ : ∃ u, 10 * r + d = u := ⟨_, rfl⟩
      obtain ⟨x, hx⟩ : ∃ x, u / m = x := ⟨_, rfl⟩
      obtain ⟨y, hy⟩ : ∃ y, u % m = y := ⟨_, rfl⟩
      rw [hu, hx, hy] at hst
      rw [hu, hx] at hq10
      have hu9 : u ≤ 100000 := by omega
      have a0 : (48 + (d : Int) - 48) = (d : Int) := by omega
      have a3 : IntKind.i64.wrap (10 * (r : Int) + (d : Int)) = (u : Int) := by rw [IntKind.wrap_i64]; omega
      have a4 : Int.tdiv (u : Int) (m : Int) = (x : Int) := by rw [Int.tdiv_eq_ediv_of_nonneg (by omega), ← hx]; rfl
      have a5 : Int.tmod (u : Int) (m : Int) = (y : Int) := by rw [Int.tmod_eq_emod_of_nonneg (by omega), ← hy]; rfl
      have hxu : x = 0 ↔ ¬ m ≤ u := by rw [← hx, Nat.div_eq_zero_iff]; omega
      have hds := drop_snoc qs x
      have hAl : (qs.dropWhile (· == 0)).length ≤ j := hql ▸ (List.dropWhile_sublist _).length_le
      obtain ⟨A, hA⟩ : ∃ A, qs.dropWhile (· == 0) = A := ⟨_, rfl⟩
      rw [hA] at hds hAl
      simp only [hA]
      have hym : y < m := hst.2.2
      have hj0 : (j : Int) < (N : Int) := by omega
      have hsz := sB_size A
      have hes : (Utf8.encode (48 + (x : Int))).size = 1 := by rw [sB_one hq10, sB_size, List.length_singleton]
      obtain ⟨LA, hLA⟩ : ∃ L, A.length = L := ⟨_, rfl⟩
      rw [hLA] at hsz hAl
      have hap : (sB A) ++ Utf8.encode (48 + (x : Int)) = sB (A ++ [x]) := by rw [sB_one hq10, sB_snoc]
      have HS := Lib.hid (And.intro hst (And.intro hb (And.intro hql (And.intro hds hap))))
      by_cases hAe : A = []
      · rw [if_pos hAe] at hds
        subst hAe
        have hse : (sB ([] : List Nat)).toList.isEmpty = true := List.isEmpty_iff.2 (List.eq_nil_of_length_eq_zero (toList_loop (sB []) 0 0 [] rfl))
        by_cases hmu : m ≤ u
        · have hx1 : x ≠ 0 := fun e => hxu.1 e hmu
          have hmI : (m : Int) ≤ (u : Int) := by omega
          obtain ⟨S, hS⟩ : ∃ S, sB ([] : List Nat) = S := ⟨_, rfl⟩
          rw [hS] at hse hsz HS ⊢
          clear hst hb hql hR hd hu hx hy hds hA hap hS hxu hLA
          go_wp2
          exact ⟨⟨j + 1, y, qs ++ [x], by rw [HS.out.2.2.2.1, if_pos rfl, List.dropWhile_cons_of_neg (by simpa using hx1)]; exact congrArg _ HS.out.2.2.2.2, rfl, by go_num, by omega, by rw [List.length_append, HS.out.2.2.1]; rfl, HS.out.1, HS.out.2.1⟩, by simp [intOf]; omega⟩
        · have hmI : ¬ (m : Int) ≤ (u : Int) := by omega
          obtain ⟨S, hS⟩ : ∃ S, sB ([] : List Nat) = S := ⟨_, rfl⟩
          rw [hS] at hse hsz HS ⊢
          have hS' := Lib.hid hS
          have hx0 := hxu.2 hmu
          clear hst hb hql hR hd hu hx hy hds hA hap hS hxu hLA
          go_wp2
          exact ⟨⟨j + 1, y, qs ++ [x], by rw [HS.out.2.2.2.1, if_pos rfl, hx0]; exact congrArg _ hS'.out.symm, rfl, by go_num, by omega, by rw [List.length_append, HS.out.2.2.1]; rfl, HS.out.1, HS.out.2.1⟩, by simp [intOf]; omega⟩
      · rw [if_neg hAe] at hds
        have hse : (sB A).toList.isEmpty = false := toList_ne (by rw [sB_size]; exact List.length_pos_iff.2 hAe)
        obtain ⟨S, hS⟩ : ∃ S, sB A = S := ⟨_, rfl⟩
        rw [hS] at hse hsz HS ⊢
        clear hst hb hql hR hd hu hx hy hds hA hap hS hxu hLA
        go_wp2
        exact ⟨⟨j + 1, y, qs ++ [x], by rw [HS.out.2.2.2.1, if_neg hAe]; exact congrArg _ HS.out.2.2.2.2, rfl, by go_num, by omega, by rw [List.length_append, HS.out.2.2.1]; rfl, HS.out.1, HS.out.2.1⟩, by simp [intOf]; omega⟩
    · obtain rfl : j = N := by omega
      rw [← H.out.2.2.2.1] at hR
      obtain ⟨rfl, hv⟩ := hR.done H.out.2.1
      have hqd := hR.1
      have hqp : 0 < valB qs := by rw [hv]; exact Nat.div_pos (Nat.le_of_dvd H.out.2.2.1 H.out.2.1) (by omega)
      have HS := Lib.hid (And.intro (isD_drop hqd hqp) (And.intro (valB_drop qs) (And.intro hv hb)))
      obtain ⟨S, hS⟩ : ∃ S, sB (qs.dropWhile (· == 0)) = S := ⟨_, rfl⟩
      have HS2 := Lib.hid hS
      rw [hS]
      clear hR hv hqd hqp hql hS hb
      go_wp2
      go_ret2
      refine ⟨_, rfl, ⟨_, HS.out.1, ?_, ?_⟩, HS.out.2.2.2⟩
      · rw [valB_rev, HS.out.2.1, HS.out.2.2.1]
      · rw [List.reverse_reverse, ← HS2.out]; rfl
end Go.Proofs.YtbejhkojdiadaaaGreatDoor
