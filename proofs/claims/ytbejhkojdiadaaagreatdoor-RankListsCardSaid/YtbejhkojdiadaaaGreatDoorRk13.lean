/- Unrank on both sides. · Groups that are given by tables of permutations and words: their towers: plain. · The chain of a group is valid, and says what the group's towers say: plain. · The law's groups of examples. · Chains of groups that last while some blocks are written; the program's Make. · A chain's representatives but the first ones generate its group; the levels of a chain of any group: plain and in memory. · The builder's has, strong; the reference's in. · closure's strong, from, with; the reference's chain. -/
import Derived.Test.YtbejhkojdiadaaaGreatDoorRk01
import Derived.Test.YtbejhkojdiadaaaGreatDoorRk02
import Derived.Test.YtbejhkojdiadaaaGreatDoorRk03
import Derived.Test.YtbejhkojdiadaaaGreatDoorRk04
import Derived.Test.YtbejhkojdiadaaaGreatDoorRk05
import Derived.Test.YtbejhkojdiadaaaGreatDoorRk06
import Derived.Test.YtbejhkojdiadaaaGreatDoorRk07
import Derived.Test.YtbejhkojdiadaaaGreatDoorRk08
import Derived.Test.YtbejhkojdiadaaaGreatDoorRk09
import Derived.Test.YtbejhkojdiadaaaGreatDoorRk10
import Derived.Test.YtbejhkojdiadaaaGreatDoorRk11
import Derived.Test.YtbejhkojdiadaaaGreatDoorRk12
import Derived.Test.YtbejhkojdiadaaaGreatDoorProg
import Derived.WalkKit
import Derived.WalkSpells
import Derived.BigQuiet
import Derived.Deep.QuietTactic
import Derived.Deep.LoopGhost
import Derived.Lib.Hide
import Derived.Maps.AppendAt
import Derived.Deep.AppendLies
import Derived.StillTailTactics
import Derived.Laws.CopyOwn
import Derived.Deep.OwnRows
import Derived.Deep.DeepCutAuto
import Derived.Laws.Cover3
import Derived.Deep.RegionHeld3
import Derived.RangeFuncRecord
import Derived.Lib.SlicesSearch
import Derived.RangeFuncBox
import Derived.RangeFuncLeaves
import Derived.RangeFuncWrites
import Derived.RangeFuncFrom
import Derived.Shelf.Abstract
import Derived.OwnWalkIn
import Derived.TacticsInMore
import Derived.LoopNIn
import Derived.LoopIn
import Derived.Shelf.GgSortFunc.Insertion
import Derived.Shelf.SlIter.Collect
import Derived.Shelf.Sort.Plain
import Derived.Deep.RegionLaw
import Derived.ControlIn
set_option linter.unusedSimpArgs false
set_option linter.unusedVariables false
namespace Go.Proofs.YtbejhkojdiadaaaGreatDoor
open Go.RowKit PlainPm
theorem keep5 {V A B : World} {p1 p2 p3 p4 p5 : Addr} {u1 u2 u3 u4 u5 : Value} (h : A.cell? p1 = some u1 ∧ A.cell? p2 = some u2 ∧ A.cell? p3 = some u3 ∧ A.cell? p4 = some u4 ∧ A.cell? p5 = some u5 ∧ Below V.heap.size V A) (k : Below A.heap.size A B) :
    B.cell? p1 = some u1 ∧ B.cell? p2 = some u2 ∧ B.cell? p3 = some u3 ∧ B.cell? p4 = some u4 ∧ B.cell? p5 = some u5 ∧ Below V.heap.size V B :=
  ⟨(k.cell (block_lt_of_cell h.1)).trans h.1, (k.cell (block_lt_of_cell h.2.1)).trans h.2.1, (k.cell (block_lt_of_cell h.2.2.1)).trans h.2.2.1, (k.cell (block_lt_of_cell h.2.2.2.1)).trans h.2.2.2.1, (k.cell (block_lt_of_cell h.2.2.2.2.1)).trans h.2.2.2.2.1, below_trans h.2.2.2.2.2 k⟩
set_option maxRecDepth 100000 in
set_option maxHeartbeats 1000000 in
theorem unrank16 {w : World} {v : Value} {d : Int} {os : List (List Int)} {rs : List (List (List Int))} {K : Int} (h : ChV w v d os rs) (hc : CapV w v) (hd : ¬ (8 < d ∧ d ≤ 64)) :
    Calls Tryz.prog 18 #[v, .int .i64 K] w fun e w' => (∃ a1 c1, e = .returned (.tuple #[.slice a1 (unrL d os rs K).length c1, .int .i64 (unrE d os rs K)]) ∧ Ints w' a1 (unrL d os rs K)) ∧ Below w.heap.size w w' := by
  obtain ⟨E, hE⟩ : ∃ E, chkE d os rs = E := ⟨_, rfl⟩
  have hchk := fun (W : World) (hb : Below w.heap.size w W) => chk54 (h.below hb)
  rw [hE] at hchk
  by_cases hE0 : E = 0
  · subst hE0
    have hE1 := hE
    obtain ⟨hd1, hd2, hv⟩ := chkE_zero hE1
    obtain ⟨n, rfl⟩ : ∃ n : Nat, d = n := ⟨d.toNat, by omega⟩
    have hn0 : 0 < n := by omega
    have hn : n ≤ 8 := by omega
    rw [Int.toNat_natCast] at hv
    obtain ⟨ab, ao, c, bb, bo, e, rfl, hl⟩ := lev_of h hc hv (by omega) (by omega)
    have hG := hv.chG
    obtain ⟨O, hO⟩ : ∃ O, orbV n os rs = O := ⟨_, rfl⟩
    obtain ⟨R, hR⟩ : ∃ R, repV n os rs = R := ⟨_, rfl⟩
    have hN0 : sizeN n os rs = szF O n 0 := by unfold sizeN; rw [if_pos hE, Int.toNat_natCast, hO]
    have hN : unrL n os rs K = if 0 ≤ K ∧ K < (szF O n 0 : Nat) then (unF O R n 0 (PlainPm.one n) K.toNat).l else [] := by
      unfold unrL; rw [hN0, Int.toNat_natCast, hO, hR]; simp [hE]
    have hNE : unrE n os rs K = if 0 ≤ K ∧ K < (szF O n 0 : Nat) then 0 else 2 := by unfold unrE; rw [if_pos hE, hN0]
    rw [hO, hR] at hl hG
    rw [hN, hNE]
    obtain ⟨X, hX⟩ : ∃ X, w.heap.size = X := ⟨_, rfl⟩
    have hB0 := BoxW.start w X n ab ao c bb bo e hX
    obtain ⟨W1, hW1⟩ : ∃ W1, W1 = w.alloc (.cells #[.int .i64 (n : Int), .slice (some ⟨ab, ao, none⟩) n c, .slice (some ⟨bb, bo, none⟩) n e] 25) := ⟨_, rfl⟩
    rw [← hW1] at hB0
    have hwW : Below w.heap.size w W1 := by rw [hX]; exact hB0.bel
    have hchk1 := hchk W1 hwW
    have H := Lib.hid (And.intro hchk1 (And.intro hB0 (And.intro hwW (And.intro hX (And.intro hl hG)))))
    obtain ⟨z0, z1, z2⟩ : W1.cell? ⟨X, 0, none⟩ = some (.int .i64 (n : Int)) ∧ W1.cell? ⟨X, 1, none⟩ = some (.slice (some ⟨ab, ao, none⟩) n c) ∧ W1.cell? ⟨X, 2, none⟩ = some (.slice (some ⟨bb, bo, none⟩) n e) := ⟨hB0.c0, hB0.c1, hB0.c2⟩
    clear hchk1 hB0 hwW hl hG hchk h hc hd hd1 hd2 hv hO hR hE hE1 hN hNE hN0
    by_cases hK : 0 ≤ K ∧ K < (szF O n 0 : Nat)
    case neg =>
      rw [if_neg hK, if_neg hK]
      by_cases hK0 : K < 0
      · have g1 : decide (K < 0) = true := by simp [hK0]
        clear hK
        go_enter Tryz.func18, Tryz.ntmps18
        try rw [hX]
        go_wp2_with (first
          | (go_at_call 59; refine (siz55 hn0 hn H.out.2.2.2.2.2 (H.out.2.2.2.2.1.below H2.out.2)).mono ?_; rintro e1 w3 ⟨g, cap, rfl, k1, k3⟩; have H3 := Lib.hid (And.intro k1 (below_trans H2.out.2 k3)); clear k1 k3)
          | (go_at_call 37; (try rw [← hW1]); clear hW1 z0 z1 z2; (with_reducible refine H.out.1.mono ?_); rintro e1 w2 ⟨rfl, k2⟩; have hB2 := H.out.2.1.below (k2.mono H.out.2.1.lt); have b0 := hB2.c0; have b1 := hB2.c1; have b2 := hB2.c2; have hw2 := below_trans H.out.2.2.1 k2; have H2 := Lib.hid (And.intro hB2 hw2); clear hB2 hw2 k2))
        refine bodyPost_ret (v := .tuple #[.slice none 0 0, .int .i64 2]) (by simp [results, Tryz.results18, go_sem]) rfl ?_
        have hb3 := H3.out.2
        rw [H.out.2.2.2.1] at hb3
        exact ⟨⟨_, _, rfl, ⟨Nat.zero_le _, fun i u hu => by simp at hu⟩⟩, hb3⟩
      · have g1 : decide (K < 0) = false := by simp; omega
        have hKs : ((szF O n 0 : Nat) : Int) ≤ K := by omega
        obtain ⟨SZ, hSZ⟩ : ∃ s, szF O n 0 = s := ⟨_, rfl⟩
        rw [hSZ] at hKs
        have g2 : decide ((SZ : Int) ≤ K) = true := by simp [hKs]
        clear hK
        go_enter Tryz.func18, Tryz.ntmps18
        try rw [hX]
        go_wp2_with (first
          | (go_at_call 59; refine (siz55 hn0 hn H.out.2.2.2.2.2 (H.out.2.2.2.2.1.below H2.out.2)).mono ?_; rintro e1 w3 ⟨g, cap, rfl, k1, k3⟩; have d0 := k1.2 0 (by omega); rw [Nat.sub_zero, hSZ] at d0; have H3 := Lib.hid (And.intro k1 (below_trans H2.out.2 k3)); clear k1 k3)
          | (go_at_call 37; (try rw [← hW1]); clear hW1 z0 z1 z2; (with_reducible refine H.out.1.mono ?_); rintro e1 w2 ⟨rfl, k2⟩; have hB2 := H.out.2.1.below (k2.mono H.out.2.1.lt); have b0 := hB2.c0; have b1 := hB2.c1; have b2 := hB2.c2; have hw2 := below_trans H.out.2.2.1 k2; have H2 := Lib.hid (And.intro hB2 hw2); clear hB2 hw2 k2))
        refine bodyPost_ret (v := .tuple #[.slice none 0 0, .int .i64 2]) (by simp [results, Tryz.results18, go_sem]) rfl ?_
        have hb3 := H3.out.2
        rw [H.out.2.2.2.1] at hb3
        exact ⟨⟨_, _, rfl, ⟨Nat.zero_le _, fun i u hu => by simp at hu⟩⟩, hb3⟩
    rw [if_pos hK, if_pos hK]
    obtain ⟨K0, rfl⟩ : ∃ K0 : Nat, K = K0 := ⟨K.toNat, by omega⟩
    rw [Int.toNat_natCast]
    have hKs : K0 < szF O n 0 := by have := hK.2; omega
    obtain ⟨SZ, hSZ⟩ : ∃ s, szF O n 0 = s := ⟨_, rfl⟩
    have g1 : decide ((K0 : Int) < 0) = false := by simp
    have g2 : decide ((SZ : Int) ≤ (K0 : Int)) = false := by simp; omega
    have g3 : ¬ SZ ≤ K0 := by omega
    obtain ⟨U, hU⟩ : ∃ U, unF O R n 0 (PlainPm.one n) K0 = U := ⟨_, rfl⟩
    rw [hU]
    have HU := Lib.hid (And.intro hU hKs)
    clear hK hU hKs
    go_enter Tryz.func18, Tryz.ntmps18
    try rw [hX]
    go_wp2_with (first
      | (go_at_call 39; refine (one59 (by omega)).mono ?_; rintro e1 w4 ⟨v4, rfl, k1, k2⟩; have hB4 := H3.out.2.1.below (k2.mono H3.out.2.1.lt); have e0 := hB4.c0; have e1 := hB4.c1; have e2 := hB4.c2; have H4 := Lib.hid (And.intro k1 (And.intro hB4 (H3.out.1.below k2))); clear k1 k2 hB4)
      | (go_at_call 59; refine (siz55 hn0 hn H.out.2.2.2.2.2 (H.out.2.2.2.2.1.below H2.out.2)).mono ?_; rintro e1 w3 ⟨g, cap, rfl, k1, k3⟩; have d0 := k1.2 0 (by omega); rw [Nat.sub_zero, hSZ] at d0; have hB3 := H2.out.1.below (k3.mono H2.out.1.lt); have f0 := hB3.c0; have f1 := hB3.c1; have f2 := hB3.c2; have H3 := Lib.hid (And.intro k1 (And.intro hB3 (below_trans H2.out.2 k3))); clear k1 k3 hB3)
      | (go_at_call 37; (try rw [← hW1]); clear hW1 z0 z1 z2; (with_reducible refine H.out.1.mono ?_); rintro e1 w2 ⟨rfl, k2⟩; have hB2 := H.out.2.1.below (k2.mono H.out.2.1.lt); have b0 := hB2.c0; have b1 := hB2.c1; have b2 := hB2.c2; have hw2 := below_trans H.out.2.2.1 k2; have H2 := Lib.hid (And.intro hB2 hw2); clear hB2 hw2 k2))
    clear b0 b1 b2 f0 f1 f2 e0 e1 e2 d0
    go_loopw [1, 9, 10, 11, 38] (fun kv yv _ _ i wr => ∃ (k K' : Nat) (z : Pm n), k ≤ n ∧ i = .int .i64 (k : Int) ∧ kv = .int .i64 (K' : Int) ∧ K' < szF O (n - k) k ∧ BoxW w X n ab ao c bb bo e wr ∧ PmV wr [] yv z ∧ SzW wr g n O ∧ unF O R (n - k) k z K' = U) (fun _ _ _ _ i _ => n - (intOf i).toNat)
    case atStart => exact ⟨0, K0, PlainPm.one n, by omega, rfl, rfl, by rw [Nat.sub_zero]; exact HU.out.2, H4.out.2.1, H4.out.1.pm (by simp), H4.out.2.2, by rw [Nat.sub_zero]; exact HU.out.1⟩
    case round =>
      obtain ⟨k, K', z, hk, rfl, rfl, hKs, hb, hz, hs, he⟩ := hrel
      have hwr : Below w.heap.size w wr := by have h1 := hb.bel; rwa [← H.out.2.2.2.1] at h1
      by_cases hkn : k < n
      · have q0 := hb.c0
        have q1 := hb.c1
        have q2 := hb.c2
        have hlt := H.out.2.2.2.2.2.lt k hkn
        have hnd := H.out.2.2.2.2.2.nd k hkn
        have hsh := H.out.2.2.2.2.2.short hkn
        have y4 := hs.2 (k + 1) (by omega)
        have hZp := H.out.2.2.2.2.2.sz_pos (f := n - (k + 1)) (i := k + 1) (by omega)
        have hZl := H.out.2.2.2.2.2.sz_le (m := 8) hn (f := n - (k + 1)) (i := k + 1) (by omega)
        have hZl2 : szF O (n - (k + 1)) (k + 1) ≤ 16777216 := Nat.le_trans hZl (Nat.le_trans (Nat.pow_le_pow_right (by omega) (show n - (k + 1) ≤ 8 by omega)) (by decide))
        obtain ⟨Z, hZ⟩ : ∃ Z, szF O (n - (k + 1)) (k + 1) = Z := ⟨_, rfl⟩
        rw [show n - k = n - (k + 1) + 1 by omega, szF, hZ] at hKs
        rw [hZ] at y4 hZp hZl2
        have hqs : K' / Z < (O k).length := Nat.div_lt_of_lt_mul (by rw [Nat.mul_comm]; exact hKs)
        have hrs : K' % Z < Z := Nat.mod_lt _ hZp
        have hsel := sel_sorted (y := z) hlt hnd (m := srtI (nts ((O k).map z.at))) (by
          refine (srtI_perm _).trans ?_
          unfold nts; rw [List.map_map]; exact List.Perm.refl _) (srtI_sorted _) (s := K' / Z) hqs
        obtain ⟨qq, hqq⟩ : ∃ q, selQ z (O k) (K' / Z) = q := ⟨_, rfl⟩
        rw [hqq] at hsel
        have hnx : unF O R (n - (k + 1)) (k + 1) ((R k qq).mul z) (K' % Z) = U := by
          rw [← he, show n - k = n - (k + 1) + 1 by omega, unF, hZ, hqq]
        obtain ⟨L, hL⟩ : ∃ L, (srtI (nts ((O k).map z.at))).length = L := ⟨_, rfl⟩
        have hLl : (ints (srtI (nts ((O k).map z.at)))).length = L := by rw [ints_len, hL]
        have hLO : L = (O k).length := by rw [← hL, srtI_len, nts_len, List.length_map]
        obtain ⟨zv, hzv⟩ : ∃ v, z.at qq = v := ⟨_, rfl⟩
        have hsm := hsel.2.2
        rw [hzv] at hsm
        obtain ⟨SK, hSK⟩ : ∃ s, K' / Z = s := ⟨_, rfl⟩
        rw [hSK] at hqs hsm
        have hch := fun (V : World) (hV : Below wr.heap.size wr V) => (choices61 (c := c) (e := e) hkn hlt (H.out.2.2.2.2.1.below (below_trans hwr hV)) (hz.below hV)).mono (fun e1 w6 h6 => (show ∃ g6 c6, e1 = .returned (.slice (some ⟨g6, 0, none⟩) L c6) ∧ w6.cell? ⟨g6, SK, none⟩ = some (.int .i64 (zv : Int)) ∧ Below V.heap.size V w6 from by
          obtain ⟨v6, rfl, k1, k2⟩ := h6
          obtain ⟨g6, c6, rfl, _⟩ := k1.form (by rw [hLl]; omega)
          rw [hLl] at k1 ⊢
          refine ⟨g6, c6, rfl, ?_, k2⟩
          rw [k1.cell SK (by rw [hLl]; omega), ints_get (by rw [hL]; omega), hsm]; rfl))
        have hst := fun (V : World) (hV : Below wr.heap.size wr V) => (step62 (c := c) (e := e) (by omega) hkn hlt hsel.1 (H.out.2.2.2.2.1.below (below_trans hwr hV)) (hz.below hV)).mono (fun e1 w6 h6 => (show ∃ v, e1 = .returned v ∧ PmV w6 [] v ((R k qq).mul z) ∧ Below wr.heap.size wr w6 ∧ w6.cell? ⟨g, k + 1, none⟩ = some (.int .i64 (Z : Int)) ∧ Below V.heap.size V w6 from by
          obtain ⟨v6, rfl, k1, k2⟩ := h6
          have k3 := below_trans hV k2
          exact ⟨v6, rfl, k1.pm (by simp), k3, (k3.cell (p := ⟨g, k + 1, none⟩) hs.1).trans y4, k2⟩))
        rw [hzv] at hst
        have hqi : ((K' : Int) / (Z : Int)) = (SK : Int) := by rw [← hSK]; exact (Int.natCast_ediv K' Z).symm
        have hZn : ¬ Z = 0 := by omega
        have hZb : ((Z : Int) == 0) = false := by simp; omega
        obtain ⟨RK, hRK⟩ : ∃ r, K' % Z = r := ⟨_, rfl⟩
        have hri : ((K' : Int) % (Z : Int)) = (RK : Int) := by rw [← hRK]; exact (Int.natCast_emod K' Z).symm
        have hZ0 : ¬ (Z : Int) = 0 := by omega
        rw [hRK] at hrs hnx
        have hRb : RK < 16777216 := by omega
        have hKb : K' < 1073741824 := Nat.lt_of_lt_of_le hKs (Nat.le_trans (Nat.mul_le_mul (Nat.le_trans hsh (by omega : n ≤ 64)) hZl2) (by decide))
        have hSL : SK < L := by omega
        have hL8 : L ≤ 8 := by omega
        obtain ⟨zb, zo, zc, hze, _⟩ := id hz
        subst hze
        have HC := Lib.hid (And.intro hch (And.intro hst (And.intro hb (And.intro hs (And.intro hwr (And.intro hnx (And.intro hrs hZ)))))))
        have hk1 : (k : Int) < n := by omega
        have hwk : IntKind.i64.wrap ((k : Int) + 1) = (k : Int) + 1 := IntWalk.i64_in _ (by omega)
        have hwk1 : (0 : Int) ≤ (k : Int) + 1 := by omega
        have hwk2 : (k : Int) + 1 < ((n + 1 : Nat) : Int) := by omega
        have hwk3 : ((k : Int) + 1).toNat = k + 1 := by omega
        have hwk4 : ¬ ((k : Int) + 1 < 0) := by omega
        have hws : IntKind.i64.wrap (SK : Int) = (SK : Int) := IntWalk.i64_in _ (by omega)
        have hws1 : (SK : Int) < (L : Int) := by omega
        clear hch hst hb hs hwr hnx hrs hZ hz he hlt hnd hsh hZl hZl2 hKs hqs hsel hqq hL hLl hLO hzv hsm hSK hRK
        go_wp2_with (go_at_call 60; (with_reducible refine (HC.out.1 _ (Below.refl _ _)).mono ?_); rintro e1 w6 ⟨g6, c6, rfl, k1, k2⟩; have r0 := (k2.cell (block_lt_of_cell q0)).trans q0; have r1 := (k2.cell (block_lt_of_cell q1)).trans q1; have r2 := (k2.cell (block_lt_of_cell q2)).trans q2; have r3 := (k2.cell (block_lt_of_cell y4)).trans y4; have H6 := Lib.hid k2; clear k2)
        go_region_held3 (fun V => V.cell? ⟨X, 0, none⟩ = some (.int .i64 (n : Int)) ∧ V.cell? ⟨X, 1, none⟩ = some (.slice (some ⟨ab, ao, none⟩) n c) ∧ V.cell? ⟨X, 2, none⟩ = some (.slice (some ⟨bb, bo, none⟩) n e) ∧ V.cell? ⟨g, k + 1, none⟩ = some (.int .i64 (Z : Int)) ∧ V.cell? ⟨g6, SK, none⟩ = some (.int .i64 (zv : Int)) ∧ Below wr.heap.size wr V)
          (first
            | assumption
            | exact ⟨r0, r1, r2, r3, k1, H6.out⟩
            | exact ⟨r0, r1, r2, r3, k1, below_drew H6.out⟩
            | exact ⟨r0, r1, r2, r3, k1, below_drewN H6.out _⟩
            | exact keep5 (by first | assumption | exact ⟨r0, r1, r2, r3, k1, H6.out⟩ | exact ⟨r0, r1, r2, r3, k1, below_drew H6.out⟩ | exact ⟨r0, r1, r2, r3, k1, below_drewN H6.out _⟩) (by assumption))
          (first
            | (go_at_call 61; (with_reducible refine (HC.out.2.1 _ (by first | exact H6.out | exact below_drew H6.out | exact below_drewN H6.out _ | assumption)).mono ?_); rintro e1 w8 ⟨v8, rfl, k3, k4, k5, k6⟩; have t0 := (k4.cell (block_lt_of_cell q0)).trans q0; have t1 := (k4.cell (block_lt_of_cell q1)).trans q1; have t2 := (k4.cell (block_lt_of_cell q2)).trans q2; have H8 := Lib.hid (And.intro k3 k4); clear k3))
        go_wp2_with fail
        have hbx := HC.out.2.2.1.lt
        refine ⟨⟨k + 1, RK, (R k qq).mul z, by omega, by go_num, by rw [hri], by rw [HC.out.2.2.2.2.2.2.2]; exact HC.out.2.2.2.2.2.2.1, HC.out.2.2.1.below (H8.out.2.mono hbx), H8.out.1, HC.out.2.2.2.1.below H8.out.2, HC.out.2.2.2.2.2.1⟩, by simp [intOf]; omega⟩
      · obtain rfl : k = n := by omega
        have hk1 : ¬ (k : Int) < k := by omega
        rw [Nat.sub_self] at he
        obtain ⟨a4, c4, hve, hi4⟩ := hz.ints (by omega)
        have hUz : z = U := he
        subst hUz
        have HC := Lib.hid (And.intro hi4 (And.intro hb hve))
        clear hb hwr he hz hs hi4 hKs
        go_wp2_with fail
        refine bodyPost_ret (v := .tuple #[.slice a4 z.l.length c4, .int .i64 0]) (by simp [results, Tryz.results18, go_sem]) rfl ?_
        exact ⟨⟨a4, ⟨c4, rfl⟩, HC.out.1⟩, HC.out.2.1.bel⟩
  · obtain ⟨a1, c1, b1, e1, rfl, h1, h2⟩ := h
    have hN : unrL d os rs K = [] := by unfold unrL; rw [if_neg (by rw [hE]; exact fun h => hE0 h.1)]
    have hNE : unrE d os rs K = E := by unfold unrE; rw [if_neg (by rw [hE]; exact hE0), hE]
    rw [hN, hNE]
    have hx : (E != 0) = true := by simp [hE0]
    obtain ⟨lo, hlo⟩ : ∃ l, os.length = l := ⟨_, rfl⟩
    obtain ⟨lr, hlr⟩ : ∃ l, rs.length = l := ⟨_, rfl⟩
    rw [hlo, hlr] at hchk ⊢
    have HC := Lib.hid hchk
    clear hchk h1 h2 hlo hlr hc hd hE hE0 hN hNE
    go_enter Tryz.func18, Tryz.ntmps18
    go_wp2_with (go_at_call 37; refine (HC.out _ (alloc_b (Below.refl _ _) _)).mono ?_; rintro e w2 ⟨rfl, k2⟩; have H2 := Lib.hid (below_trans (alloc_b (Below.refl _ _) _) k2); clear k2)
    refine bodyPost_ret (v := .tuple #[.slice none 0 0, .int .i64 E]) (by simp [results, Tryz.results18, go_sem]) rfl ?_
    exact ⟨⟨_, _, rfl, ⟨Nat.zero_le _, fun i u hu => by simp at hu⟩⟩, H2.out⟩
end Go.Proofs.YtbejhkojdiadaaaGreatDoor
namespace Go.Proofs.YtbejhkojdiadaaaGreatDoor.PlainPm
instance (n : Nat) (l : List Int) : Decidable (IsPm n l) := by unfold IsPm; infer_instance
def litP (n : Nat) (l : List Int) : Pm n := if h : IsPm n l then ⟨l, h⟩ else PlainPm.one n
theorem litP_l {n : Nat} {l : List Int} (h : IsPm n l) : (litP n l).l = l := by unfold litP; rw [dif_pos h]
section
variable {n : Nat}
def evW (L : List (Pm n)) (w : List Nat) : Pm n := w.foldl (fun x k => x.mul (L[k]?.getD (PlainPm.one n))) (PlainPm.one n)
theorem evW_grp (L : List (Pm n)) (w : List Nat) : Grp (· ∈ L) (evW L w) := by
  have key : ∀ (w : List Nat) (x : Pm n), Grp (· ∈ L) x → Grp (· ∈ L) (w.foldl (fun x k => x.mul (L[k]?.getD (PlainPm.one n))) x) := by
    intro w
    induction w with
    | nil => exact fun x h => h
    | cons k w ih =>
      intro x hx
      refine ih _ (hx.times ?_)
      cases hk : L[k]? with
      | none => exact .one
      | some y => exact Grp.base (List.mem_of_getElem? hk)
  exact key w _ .one
abbrev En := Nat × Nat × List Int × List Nat
def tabOf (n : Nat) (es : List En) (i p : Nat) : Option (Pm n) := (es.find? fun e => e.1 == i && e.2.1 == p).map fun e => litP n e.2.2.1
def chkTab (n : Nat) (L : List (Pm n)) (es : List En) : Bool :=
  (es.all fun e => decide (e.1 < n) && decide (e.2.1 < n) && decide (e.2.1 ≠ e.1) && decide ((litP n e.2.2.1).at e.1 = e.2.1) && ((List.range e.1).all fun j => decide ((litP n e.2.2.1).at j = j)) && decide (litP n e.2.2.1 = evW L e.2.2.2))
  && (L.all fun x => decide ((sft (tabTw (tabOf n es)) n 0 x).1 = n))
  && (es.all fun a => es.all fun b => decide ((sft (tabTw (tabOf n es)) n 0 ((litP n a.2.2.1).mul (litP n b.2.2.1))).1 = n))
theorem tabOf_some {es : List En} {i p : Nat} {y : Pm n} (h : tabOf n es i p = some y) : ∃ e ∈ es, e.1 = i ∧ e.2.1 = p ∧ y = litP n e.2.2.1 := by
  unfold tabOf at h
  rw [Option.map_eq_some_iff] at h
  obtain ⟨e, h1, h2⟩ := h
  have h3 := List.find?_some h1
  rw [Bool.and_eq_true, beq_iff_eq, beq_iff_eq] at h3
  exact ⟨e, List.mem_of_find?_eq_some h1, h3.1, h3.2, h2.symm⟩
theorem tower_of {L : List (Pm n)} {es : List En} (h : chkTab n L es = true) : Of (Grp (· ∈ L)) (tabTw (tabOf n es)) := by
  unfold chkTab at h
  rw [Bool.and_eq_true, Bool.and_eq_true, List.all_eq_true, List.all_eq_true, List.all_eq_true] at h
  obtain ⟨⟨h1, h2⟩, h3⟩ := h
  have h1' : ∀ e ∈ es, e.1 < n ∧ e.2.1 < n ∧ e.2.1 ≠ e.1 ∧ (litP n e.2.2.1).at e.1 = e.2.1 ∧ Fx e.1 (litP n e.2.2.1) ∧ litP n e.2.2.1 = evW L e.2.2.2 := fun e he => by
    have := h1 e he
    simp only [Bool.and_eq_true, decide_eq_true_iff, List.all_eq_true, List.mem_range] at this
    exact ⟨this.1.1.1.1.1, this.1.1.1.1.2, this.1.1.1.2, this.1.1.2, fun j hj => this.1.2 j hj, this.2⟩
  have hok : TabOk (tabOf n es) := ⟨fun i p y hy => by
    obtain ⟨e, he, rfl, rfl, rfl⟩ := tabOf_some hy
    obtain ⟨a1, a2, a3, a4, a5, _⟩ := h1' e he
    exact ⟨a1, a2, a3, a4, a5⟩⟩
  have hS : TabS L (tabOf n es) := ⟨hok, fun i p y hy => by
    obtain ⟨e, he, rfl, rfl, rfl⟩ := tabOf_some hy
    rw [(h1' e he).2.2.2.2.2]
    exact evW_grp _ _, fun x hx => by
    have := of_decide_eq_true (h2 x hx)
    exact tab_end hok (r := (sft (tabTw (tabOf n es)) n 0 x).2) (Prod.ext this rfl)⟩
  refine hS.closed fun x hx y hy => ?_
  obtain ⟨i, p, hx⟩ := (mem_entL hok).1 hx
  obtain ⟨j, q, hy⟩ := (mem_entL hok).1 hy
  obtain ⟨a, ha, _, _, rfl⟩ := tabOf_some hx
  obtain ⟨b, hb, _, _, rfl⟩ := tabOf_some hy
  have := List.all_eq_true.1 (h3 a ha) b hb
  exact tab_end hok (r := (sft (tabTw (tabOf n es)) n 0 _).2) (Prod.ext (of_decide_eq_true this) rfl)
theorem szF_congr {O O' : Nat → List Nat} (h : ∀ i, i < n → O i = O' i) : ∀ {f i : Nat}, i + f = n → szF O f i = szF O' f i
  | 0, _, _ => rfl
  | f + 1, i, hf => by rw [szF, szF, h i (by omega), szF_congr h (f := f) (by omega)]
theorem rkF_congr {O O' : Nat → List Nat} {R R' : Nat → Nat → Pm n} (h : ∀ i, i < n → O i = O' i) (h' : ∀ i, i < n → ∀ p ∈ O i, R i p = R' i p) (x : Pm n) : ∀ {f i a : Nat} {y : Pm n}, i + f = n → rkF O R x f i y a = rkF O' R' x f i y a
  | 0, _, _, _, _ => rfl
  | f + 1, i, a, y, hf => by
    rw [rkF, rkF, ← h i (by omega), ← szF_congr h (f := f) (i := i + 1) (by omega)]
    by_cases e : y.inv.at (x.at i) ∈ O i
    · rw [if_pos e, if_pos e, h' i (by omega) _ e, rkF_congr h h' x (f := f) (by omega)]
    · rw [if_neg e, if_neg e]
end
def gS4 : List (Pm 4) := [litP 4 [1, 2, 3, 0], litP 4 [1, 0, 2, 3]]
def eS4 : List En := [(0, 1, [1, 0, 2, 3], [1]), (0, 2, [2, 3, 0, 1], [0, 0]), (0, 3, [3, 0, 1, 2], [0, 0, 0]), (1, 2, [0, 2, 3, 1], [0, 1]), (1, 3, [0, 3, 1, 2], [0, 1, 0, 1]), (2, 3, [0, 1, 3, 2], [0, 0, 1, 0, 0])]
theorem tS4 : Of (Grp (· ∈ gS4)) (tabTw (tabOf 4 eS4)) := tower_of (by decide +kernel)
def gV4 : List (Pm 4) := [litP 4 [1, 0, 3, 2], litP 4 [2, 3, 0, 1]]
def eV4 : List En := [(0, 1, [1, 0, 3, 2], [0]), (0, 2, [2, 3, 0, 1], [1]), (0, 3, [3, 2, 1, 0], [0, 1])]
theorem tV4 : Of (Grp (· ∈ gV4)) (tabTw (tabOf 4 eV4)) := tower_of (by decide +kernel)
def gZ2 : List (Pm 4) := [litP 4 [0, 1, 3, 2]]
def eZ2 : List En := [(2, 3, [0, 1, 3, 2], [0])]
theorem tZ2 : Of (Grp (· ∈ gZ2)) (tabTw (tabOf 4 eZ2)) := tower_of (by decide +kernel)
def orbO {n : Nat} (T : Tw n) (i : Nat) : List Nat := ptsOf n (T i).orb
theorem exS4 : szF (orbO (tabTw (tabOf 4 eS4))) 4 0 = 24 ∧ rkF (orbO (tabTw (tabOf 4 eS4))) (repT (tabTw (tabOf 4 eS4))) (litP 4 [0, 1, 3, 2]) 4 0 (one 4) 0 = some 1 ∧ rkF (orbO (tabTw (tabOf 4 eS4))) (repT (tabTw (tabOf 4 eS4))) (litP 4 [3, 2, 1, 0]) 4 0 (one 4) 0 = some 23 := by decide +kernel
theorem exV4 : rkF (orbO (tabTw (tabOf 4 eV4))) (repT (tabTw (tabOf 4 eV4))) (litP 4 [2, 3, 0, 1]) 4 0 (one 4) 0 = some 2 := by decide +kernel
theorem exZ2 : szF (orbO (tabTw (tabOf 4 eZ2))) 4 0 = 2 := by decide +kernel
end Go.Proofs.YtbejhkojdiadaaaGreatDoor.PlainPm
namespace Go.Proofs.YtbejhkojdiadaaaGreatDoor
open Go.RowKit PlainPm
namespace PlainPm
theorem ChG.gen {n : Nat} {G : Pm n → Prop} {O : Nat → List Nat} {R : Nat → Nat → Pm n} (h : ChG G O R) {M : Pm n → Prop} (hM : ∀ i, i < n → ∀ p ∈ O i, M (R i p)) : ∀ {f i : Nat} {x : Pm n}, i + f = n → Fx i x → G x → Grp M x
  | 0, i, x, hf, hx, _ => by
    have hi : i = n := by omega
    subst hi
    rw [Fx.all hx]; exact .one
  | f + 1, i, x, hf, hx, hg => by
    have hi : i < n := by omega
    have hm : x.at i ∈ O i := (h.mem i hi _).2 ⟨x, hg, hx, rfl⟩
    obtain ⟨h1, h2, h3⟩ := h.rep i hi _ hm
    have hx' : Fx (i + 1) (x.mul (R i (x.at i)).inv) := by
      refine (hx.mul (by omega) (h2.inv (by omega))).succ ?_
      have := (R i (x.at i)).inv_of (i := i) hi
      rw [h3] at this
      rw [Pm.mul_at _ _ hi, this]
    have ih := h.gen hM (f := f) (i := i + 1) (by omega) hx' (h.isG.mul hg (h.isG.inv h1))
    have := ih.times (Grp.base (hM i hi _ hm))
    rwa [Pm.inv_mul_cancel] at this
end PlainPm
theorem nts_inj {l m : List Nat} (h : nts l = nts m) : l = m := by
  refine List.ext_getElem? fun i => ?_
  have := congrArg (fun x : List Int => x[i]?) h
  simp only [nts, List.getElem?_map] at this
  cases h1 : l[i]? <;> cases h2 : m[i]? <;> rw [h1, h2] at this <;> simp at this ⊢
  omega
section
variable {n : Nat} {L : List (Pm n)} {T : Tw n}
theorem valid_of (h : Of (Grp (· ∈ L)) T) : Valid n (orbI T n) (repI T n) := by
  have hG := h.chG Grp.isG
  obtain ⟨L', hL'⟩ : ∃ L' : List (Pm n), L' = (repsT T).flatten := ⟨_, rfl⟩
  have hmem : ∀ y, y ∈ L' ↔ ∃ i, i < n ∧ ∃ p ∈ ptsOf n (T i).orb, y = PlainPm.repT T i p := fun y => by
    rw [hL']
    unfold repsT
    rw [List.mem_flatten]
    constructor
    · rintro ⟨l, hl, hy⟩
      obtain ⟨i, hi, rfl⟩ := List.mem_map.1 hl
      obtain ⟨p, hp, rfl⟩ := List.mem_map.1 hy
      exact ⟨i, List.mem_range.1 hi, p, hp, rfl⟩
    · rintro ⟨i, hi, p, hp, rfl⟩
      exact ⟨_, List.mem_map.2 ⟨i, List.mem_range.2 hi, rfl⟩, List.mem_map.2 ⟨p, hp, rfl⟩⟩
  refine ⟨L', T, h.congr fun x => ⟨fun hx => ?_, fun hx => ?_⟩, ?_, rfl, rfl⟩
  · exact hG.gen (fun i hi p hp => (hmem _).2 ⟨i, hi, p, hp, rfl⟩) (f := n) (i := 0) (by omega) (fun j hj => by omega) hx
  · refine Grp.sub Grp.isG (fun s hs => ?_) hx
    obtain ⟨i, hi, p, hp, rfl⟩ := (hmem s).1 hs
    exact (hG.rep i hi p hp).1
  · rw [hL', repI_eq, List.map_flatten]
theorem vals_of (h : Of (Grp (· ∈ L)) T) {i : Nat} (hi : i < n) : orbV n (orbI T n) (repI T n) i = orbO T i ∧ ∀ p ∈ orbO T i, repV n (orbI T n) (repI T n) i p = PlainPm.repT T i p := by
  obtain ⟨_, h1, h2⟩ := valid_tw (valid_of h)
  have e1 : nts (orbO T i) = nts (orbV n (orbI T n) (repI T n) i) := by
    have := congrArg (fun x : List (List Int) => x[i]?) h1
    simp only [orbI, List.getElem?_map, List.getElem?_range hi, Option.map_some] at this
    exact Option.some.inj this
  have e2 : (orbO T i).map (fun p => (PlainPm.repT T i p).l) = (orbV n (orbI T n) (repI T n) i).map fun p => (repV n (orbI T n) (repI T n) i p).l := by
    have := congrArg (fun x : List (List (List Int)) => x[i]?) h2
    simp only [repI, List.getElem?_map, List.getElem?_range hi, Option.map_some] at this
    exact Option.some.inj this
  have e3 := (nts_inj e1).symm
  refine ⟨e3, fun p hp => ?_⟩
  rw [e3] at e2
  exact (Pm.ext' (List.map_inj_left.1 e2 p hp)).symm
theorem chk_of (h : Of (Grp (· ∈ L)) T) (h0 : 1 ≤ n) (h64 : n ≤ 64) : chkE n (orbI T n) (repI T n) = 0 := by
  unfold chkE
  rw [if_pos (by omega), Int.toNat_natCast, if_pos (valid_of h)]
theorem size_of (h : Of (Grp (· ∈ L)) T) (h0 : 1 ≤ n) (h64 : n ≤ 64) : sizeN n (orbI T n) (repI T n) = szF (orbO T) n 0 := by
  unfold sizeN
  rw [if_pos (chk_of h h0 h64), Int.toNat_natCast]
  exact szF_congr (fun i hi => (vals_of h hi).1) (by omega)
theorem mem_of (h : Of (Grp (· ∈ L)) T) (h0 : 1 ≤ n) (h64 : n ≤ 64) (x : Pm n) : memE n (orbI T n) (repI T n) x.l = 0 := by
  unfold memE
  have := x.ok.1
  rw [if_neg (by rw [chk_of h h0 h64]; simp), if_neg (by rw [(chk_iff this h0 h64).2 x.ok]; simp), if_neg (by rw [this]; simp)]
theorem rank_of (h : Of (Grp (· ∈ L)) T) (h0 : 1 ≤ n) (h64 : n ≤ 64) (x : Pm n) {r : Nat} (hr : rkF (orbO T) (PlainPm.repT T) x n 0 (PlainPm.one n) 0 = some r) :
    rankN n (orbI T n) (repI T n) x.l = r ∧ rankE n (orbI T n) (repI T n) x.l = 0 := by
  have hx : toPm n x.l = x := Pm.ext' (toPm_l x.ok)
  have ho : rankO n (orbI T n) (repI T n) x.l = some r := by
    unfold rankO
    rw [Int.toNat_natCast, hx, ← hr]
    exact (rkF_congr (fun i hi => ((vals_of h hi).1).symm) (fun i hi p hp => ((vals_of h hi).2 p hp).symm) x (by omega)).symm
  unfold rankN rankE
  rw [mem_of h h0 h64, ho]
  exact ⟨rfl, rfl⟩
end
end Go.Proofs.YtbejhkojdiadaaaGreatDoor
namespace Go.Proofs.YtbejhkojdiadaaaGreatDoor
open Go.RowKit PlainPm
def GrV {n : Nat} (w : World) (v : Value) (L : List (Pm n)) : Prop :=
  ∃ T a c b d, Of (Grp (· ∈ L)) T ∧ v = .agg #[.int .i64 (n : Int), .slice a n c, .slice b n d] ∧ Rows w a (orbI T n) ∧ Rows2 w b (repI T n) ∧ CapR w a n ∧ CapR w b n
theorem CapR.below {w w' : World} {a : Option Addr} {l : Nat} (h : CapR w a l) (hb : Below w.heap.size w w') (hr : ∀ i, i < l → ∃ b o, a = some ⟨b, o, none⟩ ∧ b < w.heap.size) : CapR w' a l := fun ad ea i hi x l' k hc => by
  obtain ⟨b, o, e, hlt⟩ := hr i hi
  rw [ea] at e; cases e
  refine h _ ea i hi x l' k ?_
  rw [add_zero_addr] at hc ⊢
  rw [← hc]; exact (hb.cell (p := ⟨b, o + i, none⟩) hlt).symm
section
variable {n : Nat} {w w' : World} {v : Value} {L : List (Pm n)}
theorem GrV.below (h : GrV w v L) (hb : Below w.heap.size w w') : GrV w' v L := by
  obtain ⟨T, a, c, b, d, h1, h2, h3, h4, h5, h6⟩ := h
  refine ⟨T, a, c, b, d, h1, h2, h3.below hb, h4.below hb, h5.below hb (fun i hi => ?_), h6.below hb (fun i hi => ?_)⟩
  · obtain ⟨g, o, _, _, e, hg, _⟩ := h3.at_ (k := i) (by simp [orbI]; exact hi)
    exact ⟨g, o, e, hg⟩
  · obtain ⟨g, o, _, _, e, hg, _⟩ := h4.at_ (k := i) (by simp [repI]; exact hi)
    exact ⟨g, o, e, hg⟩
theorem GrV.form (h : GrV w v L) : ∃ a c b d, v = .agg #[.int .i64 (n : Int), .slice a n c, .slice b n d] := by
  obtain ⟨T, a, c, b, d, _, h2, _⟩ := h
  exact ⟨a, c, b, d, h2⟩
theorem GrV.ch (h : GrV w v L) : ∃ T, Of (Grp (· ∈ L)) T ∧ ChV w v n (orbI T n) (repI T n) ∧ CapV w v := by
  obtain ⟨T, a, c, b, d, h1, rfl, h3, h4, h5, h6⟩ := h
  refine ⟨T, h1, ⟨a, c, b, d, by simp [orbI, repI], h3, h4⟩, fun d' a' lo c' b' lr e' he => ?_⟩
  simp only [Value.agg.injEq, Array.mk.injEq, List.cons.injEq, Value.int.injEq, Value.slice.injEq, and_true, true_and] at he
  obtain ⟨_, ⟨rfl, rfl, rfl⟩, rfl, rfl, rfl⟩ := he
  exact ⟨h5, h6⟩
theorem GrV.chT (h : GrV w v L) {T : Tw n} (hT : Of (Grp (· ∈ L)) T) : ChV w v n (orbI T n) (repI T n) ∧ CapV w v := by
  obtain ⟨T', h1, h2, h3⟩ := h.ch
  obtain ⟨e1, e2⟩ := of_same_I Grp.isG h1 hT
  rw [e1, e2] at h2
  exact ⟨h2, h3⟩
end
theorem gr96 {n : Nat} (hn : 0 < n ∧ n ≤ 64) {w : World} {v : Value} {L : List (Pm n)} (hl : L.length ≤ 4096) (hv : PmsV w [] v L) :
    Calls Tryz.prog 31 #[.int .i64 (n : Int), v] w fun e w' => ∃ a c b d, e = .returned (.tuple #[.agg #[.int .i64 (n : Int), .slice a n c, .slice b n d], .int .i64 0]) ∧ Below w.heap.size w w' ∧
      ∀ W', w'.heap.size ≤ W'.heap.size → (∀ k, w.heap.size ≤ k → k < w'.heap.size → W'.heap[k]? = w'.heap[k]?) → GrV W' (.agg #[.int .i64 (n : Int), .slice a n c, .slice b n d]) L :=
  (make96c hn hl hv).mono fun _ _ ⟨T, a, c0, b, d, h1, h2, h3, h4⟩ => ⟨a, c0, b, d, h2, h3, fun W' k1 k2 => by
    obtain ⟨k3, k4, k5, k6⟩ := h4 W' k1 k2
    exact ⟨T, a, c0, b, d, h1, rfl, k3, k4, k5, k6⟩⟩
theorem lit_pm {n : Nat} {w : World} {X : Nat} (hX : w.heap.size = X) {x : Pm n} {cx : Array Value} (hcx : (ints x.l).toArray = cx) : PmV (w.alloc (.cells cx 3)) [] (.slice (some ⟨X, 0, none⟩) n n) x := by
  subst hX
  subst hcx
  have hh := World.alloc_heap_new w (.cells (ints x.l).toArray 3)
  refine ⟨_, 0, n, rfl, by simp, by simp, fun i hi => ?_⟩
  simp only [World.cell?, hh]
  have := ints_get (xs := x.l) (k := i) (by rw [x.ok.1]; exact hi)
  rw [x.get hi] at this
  simp [this]
theorem PmV.al {n : Nat} {w : World} {v : Value} {x : Pm n} (h : PmV w [] v x) (o : Obj) : PmV (w.alloc o) [] v x := h.below (alloc_b (Below.refl _ _) _)
theorem lit_row {w : World} {X m : Nat} (hX : w.heap.size = X) {us : List Value} (hm : us.length = m) (hl : m ≤ 1000) : Row (w.alloc (.cells us.toArray 41)) (some ⟨X, 0, none⟩) us := by
  subst hX
  have hh := World.alloc_heap_new w (.cells us.toArray 41)
  refine ⟨by unfold maxLen; omega, fun i u hu => ⟨_, 0, rfl, by simp, ?_⟩⟩
  simp only [World.cell?, hh]
  simp [hu]
theorem lit_pms2 {n : Nat} {w : World} {X : Nat} (hX : w.heap.size = X) {x y : Pm n} {cx cy : Array Value} (hcx : (ints x.l).toArray = cx) (hcy : (ints y.l).toArray = cy) :
    PmsV (((w.alloc (.cells cx 3)).alloc (.cells cy 3)).alloc (.cells #[.slice (some ⟨X, 0, none⟩) n n, .slice (some ⟨X + 1, 0, none⟩) n n] 41)) [] (.slice (some ⟨X + 1 + 1, 0, none⟩) 2 2) [x, y] := by
  have h1 := ((lit_pm hX hcx).al (.cells cy 3)).al (.cells #[.slice (some ⟨X, 0, none⟩) n n, .slice (some ⟨X + 1, 0, none⟩) n n] 41)
  have h2 := (lit_pm (w := w.alloc (.cells cx 3)) (X := X + 1) (by simp; omega) hcy).al (.cells #[.slice (some ⟨X, 0, none⟩) n n, .slice (some ⟨X + 1, 0, none⟩) n n] 41)
  refine ⟨_, 2, [.slice (some ⟨X, 0, none⟩) n n, .slice (some ⟨X + 1, 0, none⟩) n n], rfl, lit_row (m := 2) (by simp; omega) rfl (by omega), rfl, fun k s hs => ?_⟩
  match k, hs with
  | 0, hs => simp at hs; subst hs; exact ⟨_, rfl, h1⟩
  | 1, hs => simp at hs; subst hs; exact ⟨_, rfl, h2⟩
  | k + 2, hs => simp at hs
theorem lit_pms1 {n : Nat} {w : World} {X : Nat} (hX : w.heap.size = X) {x : Pm n} {cx : Array Value} (hcx : (ints x.l).toArray = cx) :
    PmsV ((w.alloc (.cells cx 3)).alloc (.cells #[.slice (some ⟨X, 0, none⟩) n n] 41)) [] (.slice (some ⟨X + 1, 0, none⟩) 1 1) [x] := by
  have h1 := (lit_pm hX hcx).al (.cells #[.slice (some ⟨X, 0, none⟩) n n] 41)
  refine ⟨_, 1, [.slice (some ⟨X, 0, none⟩) n n], rfl, lit_row (m := 1) (by simp; omega) rfl (by omega), rfl, fun k s hs => ?_⟩
  match k, hs with
  | 0, hs => simp at hs; subst hs; exact ⟨_, rfl, h1⟩
  | k + 1, hs => simp at hs
theorem lit_ints {n : Nat} {l : List Int} (h : IsPm n l) {cx : Array Value} (hc : (ints l).toArray = cx) : (ints (litP n l).l).toArray = cx := by rw [litP_l h]; exact hc
theorem kept_drew {w w' : World} {S : List Nat} (h : Kept w w' S) : Kept w w'.drew S := ⟨h.os, h.tape, h.output, h.size, h.block⟩
def set3 (w : World) (C : Nat) (u0 u1 u2 : Value) : World := ((w.setCell ⟨C, 0, none⟩ u0).setCell ⟨C, 1, none⟩ u1).setCell ⟨C, 2, none⟩ u2
theorem set3_size (w : World) (C : Nat) (u0 u1 u2 : Value) : (set3 w C u0 u1 u2).heap.size = w.heap.size := by simp [set3, World.setCell]
theorem set3_other {w : World} {C k : Nat} {u0 u1 u2 : Value} (h : k ≠ C) : (set3 w C u0 u1 u2).heap[k]? = w.heap[k]? := by
  unfold set3
  rw [Below.heap_setCell _ _ _ _ h, Below.heap_setCell _ _ _ _ h, Below.heap_setCell _ _ _ _ h]
theorem set3_box {w : World} {C : Nat} {a0 a1 a2 u0 u1 u2 : Value} (h : w.heap[C]? = some (.cells #[a0, a1, a2] 25)) : (set3 w C u0 u1 u2).heap[C]? = some (.cells #[u0, u1, u2] 25) := box_set2 (box_set1 (box_set0 h))
theorem set3_kept {w : World} {C : Nat} {u0 u1 u2 : Value} {S : List Nat} (h : C ∈ S) : Kept w (set3 w C u0 u1 u2) S :=
  Kept.ofGrown (((grown_put 0 u0).trans (grown_put 1 u1)).trans (grown_put 2 u2)) (fun k e => by cases e; exact h)
set_option maxRecDepth 100000 in
set_option maxHeartbeats 4000000 in
theorem groups52 {w : World} : Calls Tryz.prog 17 #[] w fun e w' => ∃ v1 v2 v3, e = .returned (.tuple #[v1, v2, v3]) ∧ GrV w' v1 gS4 ∧ GrV w' v2 gV4 ∧ GrV w' v3 gZ2 ∧ Below w.heap.size w w' := by
  obtain ⟨X, hX⟩ : ∃ X, w.heap.size = X := ⟨_, rfl⟩
  obtain ⟨W0, hW0⟩ : ∃ W0, (((w.alloc (.cells #[.int .i64 0, .slice none 0 0, .slice none 0 0] 25)).alloc (.cells #[.int .i64 0, .slice none 0 0, .slice none 0 0] 25)).alloc (.cells #[.int .i64 0, .slice none 0 0, .slice none 0 0] 25)) = W0 := ⟨_, rfl⟩
  have hs0 : W0.heap.size = X + 1 + 1 + 1 := by rw [← hW0]; simp; omega
  have hb0 : Below w.heap.size w W0 := by rw [← hW0]; exact alloc_b (alloc_b (alloc_b (Below.refl _ _) _) _) _
  have z0 : W0.heap[X]? = some (.cells #[.int .i64 0, .slice none 0 0, .slice none 0 0] 25) := by
    have := World.alloc_heap_new w (.cells #[.int .i64 0, .slice none 0 0, .slice none 0 0] 25)
    rw [hX] at this
    rw [← hW0, Below.heap_alloc _ _ _ (by simp; omega), Below.heap_alloc _ _ _ (by simp; omega)]; exact this
  have z1 : W0.heap[X + 1]? = some (.cells #[.int .i64 0, .slice none 0 0, .slice none 0 0] 25) := by
    have := World.alloc_heap_new (w.alloc (.cells #[.int .i64 0, .slice none 0 0, .slice none 0 0] 25)) (.cells #[.int .i64 0, .slice none 0 0, .slice none 0 0] 25)
    rw [show (w.alloc (.cells #[.int .i64 0, .slice none 0 0, .slice none 0 0] 25)).heap.size = X + 1 by simp; omega] at this
    rw [← hW0, Below.heap_alloc _ _ _ (by simp; omega)]; exact this
  have z2 : W0.heap[X + 1 + 1]? = some (.cells #[.int .i64 0, .slice none 0 0, .slice none 0 0] 25) := by
    have := World.alloc_heap_new ((w.alloc (.cells #[.int .i64 0, .slice none 0 0, .slice none 0 0] 25)).alloc (.cells #[.int .i64 0, .slice none 0 0, .slice none 0 0] 25)) (.cells #[.int .i64 0, .slice none 0 0, .slice none 0 0] 25)
    rw [show ((w.alloc (.cells #[.int .i64 0, .slice none 0 0, .slice none 0 0] 25)).alloc (.cells #[.int .i64 0, .slice none 0 0, .slice none 0 0] 25)).heap.size = X + 1 + 1 by simp; omega] at this
    rw [← hW0]; exact this
  have c0 : Calls Tryz.prog 31 #[.int .i64 4, .slice (some ⟨X + 1 + 1 + 1 + 1 + 1, 0, none⟩) 2 2] (((W0.alloc (.cells #[.int .i64 1, .int .i64 2, .int .i64 3, .int .i64 0] 3)).alloc (.cells #[.int .i64 1, .int .i64 0, .int .i64 2, .int .i64 3] 3)).alloc (.cells #[.slice (some ⟨X + 1 + 1 + 1, 0, none⟩) 4 4, .slice (some ⟨X + 1 + 1 + 1 + 1, 0, none⟩) 4 4] 41)) _ := gr96 (n := 4) (L := gS4) (by omega) (by decide) (lit_pms2 hs0 (lit_ints (by decide) rfl) (lit_ints (by decide) rfl))
  have HZ := Lib.hid (And.intro hs0 hb0)
  have HC0 := Lib.hid c0
  have HB0 := Lib.hid (And.intro z0 (And.intro z1 z2))
  clear hb0 c0 z0 z1 z2
  go_enter Tryz.func17, Tryz.ntmps17
  go_wp2_with (first
    | (go_at_call 31; (try rw [hW0]); refine HC2.out.mono ?_; rintro e1 w3 ⟨a3, c3, b3, d3, rfl, k1, k2⟩; have k0 : Below V2.heap.size V2 w3 := below_trans (alloc_b (alloc_b (Below.refl _ _) _) _) k1; have hge : X + 1 + 1 + 1 ≤ V2.heap.size := H2.out.1; have y0 := (k0.block (X) (by omega)).trans HB2.out.1; have y1 := (k0.block (X + 1) (by omega)).trans HB2.out.2.1; have y2 := (k0.block (X + 1 + 1) (by omega)).trans HB2.out.2.2; obtain ⟨i0, i1, i2, i3, i4, i5⟩ := box_cells y2; obtain ⟨V3, hV3⟩ : ∃ V, set3 w3 (X + 1 + 1) (.int .i64 4) (.slice a3 4 c3) (.slice b3 4 d3) = V := ⟨_, rfl⟩; have hsz : V3.heap.size = w3.heap.size := (congrArg (fun q : World => q.heap.size) hV3).symm.trans (set3_size _ _ _ _ _); have hkk : Kept V2 V3 [X, X + 1, X + 1 + 1] := (Kept.ofBelow k0).trans (hV3 ▸ set3_kept (by simp)); have x0 : V3.heap[X]? = _ := hV3 ▸ (set3_other (by omega)).trans y0; have x1 : V3.heap[X + 1]? = _ := hV3 ▸ (set3_other (by omega)).trans y1; have x2 : V3.heap[X + 1 + 1]? = _ := hV3 ▸ set3_box y2; have hG : ∀ W', Kept V3 W' [X, X + 1, X + 1 + 1] → GrV W' (.agg #[.int .i64 4, .slice a3 4 c3, .slice b3 4 d3]) gZ2 := fun W' hk => k2 W' (by have := hk.size; omega) (fun q h1 h2 => (hk.block q (by omega) (by simp at h1 ⊢; omega)).trans (hV3 ▸ set3_other (by simp at h1; omega))); have HB3 := Lib.hid (And.intro x0 (And.intro x1 x2)); have H3 := Lib.hid (And.intro (show X + 1 + 1 + 1 ≤ V3.heap.size by have := hkk.size; omega) (And.intro hkk hG)); unfold set3 at hV3; clear k0 k1 k2 hkk hG hge x0 x1 x2 y0 y1 y2)
    | (go_at_call 31; (try rw [hW0]); refine HC1.out.mono ?_; rintro e1 w2 ⟨a2, c2, b2, d2, rfl, k1, k2⟩; have k0 : Below V1.heap.size V1 w2 := below_trans (alloc_b (alloc_b (alloc_b (Below.refl _ _) _) _) _) k1; have hge : X + 1 + 1 + 1 ≤ V1.heap.size := H1.out.1; have y0 := (k0.block (X) (by omega)).trans HB1.out.1; have y1 := (k0.block (X + 1) (by omega)).trans HB1.out.2.1; have y2 := (k0.block (X + 1 + 1) (by omega)).trans HB1.out.2.2; obtain ⟨i0, i1, i2, i3, i4, i5⟩ := box_cells y1; obtain ⟨V2, hV2⟩ : ∃ V, set3 w2 (X + 1) (.int .i64 4) (.slice a2 4 c2) (.slice b2 4 d2) = V := ⟨_, rfl⟩; have hsz : V2.heap.size = w2.heap.size := (congrArg (fun q : World => q.heap.size) hV2).symm.trans (set3_size _ _ _ _ _); have hkk : Kept V1 V2 [X, X + 1, X + 1 + 1] := (Kept.ofBelow k0).trans (hV2 ▸ set3_kept (by simp)); have x0 : V2.heap[X]? = _ := hV2 ▸ (set3_other (by omega)).trans y0; have x1 : V2.heap[X + 1]? = _ := hV2 ▸ set3_box y1; have x2 : V2.heap[X + 1 + 1]? = _ := hV2 ▸ (set3_other (by omega)).trans y2; have hG : ∀ W', Kept V2 W' [X, X + 1, X + 1 + 1] → GrV W' (.agg #[.int .i64 4, .slice a2 4 c2, .slice b2 4 d2]) gV4 := fun W' hk => k2 W' (by have := hk.size; omega) (fun q h1 h2 => (hk.block q (by omega) (by simp at h1 ⊢; omega)).trans (hV2 ▸ set3_other (by simp at h1; omega))); have HB2 := Lib.hid (And.intro x0 (And.intro x1 x2)); have H2 := Lib.hid (And.intro (show X + 1 + 1 + 1 ≤ V2.heap.size by have := hkk.size; omega) (And.intro hkk hG)); have c2 : Calls Tryz.prog 31 #[.int .i64 4, .slice (some ⟨w2.heap.size + 1, 0, none⟩) 1 1] ((V2.alloc (.cells #[.int .i64 0, .int .i64 1, .int .i64 3, .int .i64 2] 3)).alloc (.cells #[.slice (some ⟨w2.heap.size, 0, none⟩) 4 4] 41)) _ := gr96 (n := 4) (L := gZ2) (by omega) (by decide) (lit_pms1 hsz (lit_ints (by decide) rfl)); have HC2 := Lib.hid c2; clear c2; unfold set3 at hV2; clear k0 k1 k2 hkk hG hge x0 x1 x2 y0 y1 y2)
    | (go_at_call 31; (try rw [hW0]); refine HC0.out.mono ?_; rintro e1 w1 ⟨a1, c1, b1, d1, rfl, k1, k2⟩; have k0 : Below W0.heap.size W0 w1 := below_trans (alloc_b (alloc_b (alloc_b (Below.refl _ _) _) _) _) k1; have hge : X + 1 + 1 + 1 ≤ W0.heap.size := Nat.le_of_eq HZ.out.1.symm; have y0 := (k0.block (X) (by omega)).trans HB0.out.1; have y1 := (k0.block (X + 1) (by omega)).trans HB0.out.2.1; have y2 := (k0.block (X + 1 + 1) (by omega)).trans HB0.out.2.2; obtain ⟨i0, i1, i2, i3, i4, i5⟩ := box_cells y0; obtain ⟨V1, hV1⟩ : ∃ V, set3 w1 (X) (.int .i64 4) (.slice a1 4 c1) (.slice b1 4 d1) = V := ⟨_, rfl⟩; have hsz : V1.heap.size = w1.heap.size := (congrArg (fun q : World => q.heap.size) hV1).symm.trans (set3_size _ _ _ _ _); have hkk : Kept W0 V1 [X, X + 1, X + 1 + 1] := (Kept.ofBelow k0).trans (hV1 ▸ set3_kept (by simp)); have x0 : V1.heap[X]? = _ := hV1 ▸ set3_box y0; have x1 : V1.heap[X + 1]? = _ := hV1 ▸ (set3_other (by omega)).trans y1; have x2 : V1.heap[X + 1 + 1]? = _ := hV1 ▸ (set3_other (by omega)).trans y2; have hG : ∀ W', Kept V1 W' [X, X + 1, X + 1 + 1] → GrV W' (.agg #[.int .i64 4, .slice a1 4 c1, .slice b1 4 d1]) gS4 := fun W' hk => k2 W' (by have := hk.size; omega) (fun q h1 h2 => (hk.block q (by omega) (by simp at h1 ⊢; omega)).trans (hV1 ▸ set3_other (by simp at h1; omega))); have HB1 := Lib.hid (And.intro x0 (And.intro x1 x2)); have H1 := Lib.hid (And.intro (show X + 1 + 1 + 1 ≤ V1.heap.size by have := hkk.size; omega) (And.intro hkk hG)); have c1 : Calls Tryz.prog 31 #[.int .i64 4, .slice (some ⟨w1.heap.size + 1 + 1, 0, none⟩) 2 2] (((V1.alloc (.cells #[.int .i64 1, .int .i64 0, .int .i64 3, .int .i64 2] 3)).alloc (.cells #[.int .i64 2, .int .i64 3, .int .i64 0, .int .i64 1] 3)).alloc (.cells #[.slice (some ⟨w1.heap.size, 0, none⟩) 4 4, .slice (some ⟨w1.heap.size + 1, 0, none⟩) 4 4] 41)) _ := gr96 (n := 4) (L := gV4) (by omega) (by decide) (lit_pms2 hsz (lit_ints (by decide) rfl) (lit_ints (by decide) rfl)); have HC1 := Lib.hid c1; clear c1; unfold set3 at hV1; clear k0 k1 k2 hkk hG hge x0 x1 x2 y0 y1 y2))
  obtain ⟨p00, p01, p02, p03, p04, p05⟩ := box_cells HB3.out.1
  obtain ⟨p10, p11, p12, p13, p14, p15⟩ := box_cells HB3.out.2.1
  obtain ⟨p20, p21, p22, p23, p24, p25⟩ := box_cells HB3.out.2.2
  clear hV1 hV2 hV3 hW0
  go_region
  obtain ⟨WF, hWF⟩ : ∃ WF, WF = (set3 (set3 (set3 V3 (X) (.int .i64 4) (.slice a1 4 c1) (.slice b1 4 d1)) (X + 1) (.int .i64 4) (.slice a2 4 c2) (.slice b2 4 d2)) (X + 1 + 1) (.int .i64 4) (.slice a3 4 c3) (.slice b3 4 d3)) := ⟨_, rfl⟩
  have hkF : Kept V3 WF [X, X + 1, X + 1 + 1] := by rw [hWF]; exact (((Kept.refl _ _).trans (set3_kept (by simp))).trans (set3_kept (by simp))).trans (set3_kept (by simp))
  have x0 : WF.heap[X]? = some (.cells #[.int .i64 4, .slice a1 4 c1, .slice b1 4 d1] 25) := by rw [hWF]; exact (set3_other (by omega)).trans ((set3_other (by omega)).trans (set3_box (HB3.out.1)))
  have x1 : WF.heap[X + 1]? = some (.cells #[.int .i64 4, .slice a2 4 c2, .slice b2 4 d2] 25) := by rw [hWF]; exact (set3_other (by omega)).trans (set3_box ((set3_other (by omega)).trans (HB3.out.2.1)))
  have x2 : WF.heap[X + 1 + 1]? = some (.cells #[.int .i64 4, .slice a3 4 c3, .slice b3 4 d3] 25) := by rw [hWF]; exact set3_box ((set3_other (by omega)).trans ((set3_other (by omega)).trans (HB3.out.2.2)))
  obtain ⟨f00, f01, f02, _, _, _⟩ := box_cells x0
  obtain ⟨f10, f11, f12, _, _, _⟩ := box_cells x1
  obtain ⟨f20, f21, f22, _, _, _⟩ := box_cells x2
  unfold set3 at hWF
  rw [← hWF]
  clear hWF p00 p01 p02 p03 p04 p05 p10 p11 p12 p13 p14 p15 p20 p21 p22 p23 p24 p25
  have HX := Lib.hid hkF
  clear hkF x0 x1 x2
  go_wp2_with fail
  refine bodyPost_ret (v := .tuple #[.agg #[.int .i64 4, .slice a1 4 c1, .slice b1 4 d1], .agg #[.int .i64 4, .slice a2 4 c2, .slice b2 4 d2], .agg #[.int .i64 4, .slice a3 4 c3, .slice b3 4 d3]]) (by simp [results, Tryz.results17, go_sem, f00, f01, f02, f10, f11, f12, f20, f21, f22]) rfl ?_
  have hbF : Below X w WF := by rw [← hX]; exact HZ.out.2.trans ((H1.out.2.1.trans (H2.out.2.1.trans (H3.out.2.1.trans (HX.out)))).below (by rw [HZ.out.1, ← hX]; omega) (by rw [← hX]; simp; omega))
  exact ⟨_, _, _, rfl, H1.out.2.2 WF.drew (kept_drew (H2.out.2.1.trans (H3.out.2.1.trans (HX.out)))), H2.out.2.2 WF.drew (kept_drew (H3.out.2.1.trans (HX.out))), H3.out.2.2 WF.drew (kept_drew (HX.out)), below_drew (by rw [hX]; exact hbF)⟩
end Go.Proofs.YtbejhkojdiadaaaGreatDoor
namespace Go.Proofs.YtbejhkojdiadaaaGreatDoor
open Go.RowKit PlainPm
def GrG {n : Nat} (w : World) (v : Value) (G : Pm n → Prop) : Prop :=
  ∃ T a c b d, Of G T ∧ v = .agg #[.int .i64 (n : Int), .slice a n c, .slice b n d] ∧ Rows w a (orbI T n) ∧ Rows2 w b (repI T n) ∧ CapR w a n ∧ CapR w b n
def GrS {n : Nat} (w : World) (v : Value) (G : Pm n → Prop) (S : List Nat) : Prop := ∀ W', Kept w W' S → GrG W' v G
section
variable {n : Nat} {w w' : World} {v : Value} {G : Pm n → Prop} {S S' : List Nat}
theorem GrS.now (h : GrS w v G S) : GrG w v G := h w (Kept.refl _ _)
theorem GrS.kept (h : GrS w v G S) (k : Kept w w' S) : GrS w' v G S := fun W' h' => h W' (k.trans h')
theorem GrS.ext (h : GrS w v G S) (hS : ∀ m ∈ S', m ∈ S ∨ w.heap.size ≤ m) : GrS w v G S' := fun W' k => h W' ((Kept.refl w S).transW k hS)
theorem GrG.ch (h : GrG w v G) : ∃ T, Of G T ∧ ChV w v n (orbI T n) (repI T n) ∧ CapV w v := by
  obtain ⟨T, a, c, b, d, h1, rfl, h3, h4, h5, h6⟩ := h
  refine ⟨T, h1, ⟨a, c, b, d, by simp [orbI, repI], h3, h4⟩, fun d' a' lo c' b' lr e' he => ?_⟩
  simp only [Value.agg.injEq, Array.mk.injEq, List.cons.injEq, Value.int.injEq, Value.slice.injEq, and_true, true_and] at he
  obtain ⟨_, ⟨rfl, rfl, rfl⟩, rfl, rfl, rfl⟩ := he
  exact ⟨h5, h6⟩
end
theorem mk96 {n : Nat} (hn : 0 < n ∧ n ≤ 64) {w : World} {v : Value} {L : List (Pm n)} (hl : L.length ≤ 4096) (hv : PmsV w [] v L) :
    Calls Tryz.prog 31 #[.int .i64 (n : Int), v] w fun e w' => ∃ a c b d, e = .returned (.tuple #[.agg #[.int .i64 (n : Int), .slice a n c, .slice b n d], .int .i64 0]) ∧ Below w.heap.size w w' ∧
      ∀ S, (∀ m ∈ S, m < w.heap.size) → GrS w' (.agg #[.int .i64 (n : Int), .slice a n c, .slice b n d]) (Grp (· ∈ L)) S :=
  (make96c hn hl hv).mono fun _ w' ⟨T, a, c0, b, d, h1, h2, h3, h4⟩ => ⟨a, c0, b, d, h2, h3, fun S hS W' k => by
    obtain ⟨k3, k4, k5, k6⟩ := h4 W' k.size (fun q hq hq' => k.block q hq' (fun hm => by have := hS q hm; omega))
    exact ⟨T, a, c0, b, d, h1, rfl, k3, k4, k5, k6⟩⟩
theorem box_al25 {w : World} {X : Nat} (hX : w.heap.size = X) (u0 u1 u2 : Value) : (w.alloc (.cells #[u0, u1, u2] 25)).heap[X]? = some (.cells #[u0, u1, u2] 25) := by subst hX; exact World.alloc_heap_new w _
end Go.Proofs.YtbejhkojdiadaaaGreatDoor
namespace Go.Proofs.YtbejhkojdiadaaaGreatDoor
open Go.RowKit PlainPm
namespace PlainPm
section
variable {n : Nat} {G : Pm n → Prop} {T : Tw n}
theorem orbO_lt (i : Nat) : (orbO T i).Pairwise (· < ·) := (List.pairwise_lt_range (n := n)).sublist List.filter_sublist
theorem one_least (y : Pm n) : lexLe (PlainPm.one n) y := by
  by_cases h : ∀ i, i < n → y.at i = i
  · exact .inl (Pm.ext fun i hi => by rw [one_at hi, h i hi])
  · have hex : ∃ k, k < n ∧ y.at k ≠ k := by
      have := Classical.not_forall.1 h
      obtain ⟨k, hk⟩ := this
      exact ⟨k, Classical.byContradiction fun hk' => hk (fun h' => absurd h' hk'), fun e => hk (fun _ => e)⟩
    have key : ∀ m, (∃ k, k < m ∧ k < n ∧ y.at k ≠ k) → ∃ k, k < n ∧ y.at k ≠ k ∧ ∀ j, j < k → y.at j = j := by
      intro m
      induction m with
      | zero => rintro ⟨k, hk, _⟩; omega
      | succ m ih =>
        rintro ⟨k, hk, hkn, hky⟩
        by_cases hlow : ∃ k, k < m ∧ k < n ∧ y.at k ≠ k
        · exact ih hlow
        · have hkm : k = m := by
            rcases Nat.lt_or_ge k m with h1 | h1
            · exact absurd ⟨k, h1, hkn, hky⟩ hlow
            · omega
          subst hkm
          refine ⟨k, hkn, hky, fun j hj => Classical.byContradiction fun hjy => hlow ⟨j, hj, by omega, hjy⟩⟩
    obtain ⟨k, hk, hky⟩ := hex
    obtain ⟨k, hk, hky, hlow⟩ := key n ⟨k, hk, hk, hky⟩
    refine .inr ⟨k, hk, fun j hj => by rw [one_at (by omega), hlow j hj], ?_⟩
    rw [one_at hk]
    rcases Nat.lt_trichotomy (y.at k) k with h1 | h1 | h1
    · have h2 := hlow _ h1
      exact absurd (y.inj (y.lt hk) hk h2) (by omega)
    · exact absurd h1 hky
    · exact h1
theorem rep_one (hG : IsG G) (h : Of G T) {i : Nat} (hi : i < n) : PlainPm.repT T i i = PlainPm.one n := by
  have hm : i ∈ (T i).orb := (h.orb hi i).2 ⟨PlainPm.one n, hG.one, Fx.one (by omega), one_at hi⟩
  exact (h.repT hG hi hm).uniq ⟨hG.one, Fx.one (by omega), one_at hi, fun y _ _ _ => one_least y⟩
theorem orbO_head (hG : IsG G) (h : Of G T) {i : Nat} (hi : i < n) : ∃ r, orbO T i = i :: r := by
  have hc := h.chG hG
  have hm : i ∈ orbO T i := hc.base hi
  have hge : ∀ p ∈ orbO T i, i ≤ p := fun p hp => by
    obtain ⟨y, _, h2, h3⟩ := (hc.mem i hi p).1 hp
    rcases Nat.lt_or_ge p i with hlt | hge
    · have := h2 p hlt
      exact absurd (y.inj (by omega) hi (this.trans h3.symm)) (by omega)
    · exact hge
  have hs := orbO_lt (T := T) i
  cases ho : orbO T i with
  | nil => rw [ho] at hm; cases hm
  | cons a r =>
    rw [ho] at hm hge hs
    rcases List.mem_cons.1 hm with e | hmr
    · exact ⟨r, by rw [e]⟩
    · have h1 := List.rel_of_pairwise_cons hs hmr
      have h2 := hge a (by simp)
      omega
def sgen (n : Nat) (O : Nat → List Nat) (R : Nat → Nat → Pm n) (k : Nat) : List (Pm n) := (List.range k).flatMap fun i => ((O i).drop 1).map (R i)
theorem sgen_grp (hG : IsG G) (h : Of G T) (x : Pm n) : Grp (· ∈ sgen n (orbO T) (PlainPm.repT T) n) x ↔ G x := by
  have hc := h.chG hG
  constructor
  · refine Grp.sub hG fun s hs => ?_
    obtain ⟨i, hi, hs⟩ := List.mem_flatMap.1 hs
    obtain ⟨p, hp, rfl⟩ := List.mem_map.1 hs
    exact (hc.rep i (List.mem_range.1 hi) p (List.mem_of_mem_drop hp)).1
  · intro hx
    have h1 := hc.gen (M := fun y => y ∈ sgen n (orbO T) (PlainPm.repT T) n ∨ y = PlainPm.one n) (fun i hi p hp => by
      obtain ⟨r, hr⟩ := orbO_head hG h hi
      have hp : p ∈ orbO T i := hp
      rw [hr] at hp
      rcases List.mem_cons.1 hp with e | hpr
      · right; rw [e]; exact rep_one hG h hi
      · left
        refine List.mem_flatMap.2 ⟨i, List.mem_range.2 hi, List.mem_map.2 ⟨p, ?_, rfl⟩⟩
        rw [hr]; exact hpr) (f := n) (i := 0) (by omega) (fun j hj => by omega) hx
    refine Grp.sub Grp.isG (fun s hs => ?_) h1
    rcases hs with hs | rfl
    · exact Grp.base hs
    · exact .one
end
end PlainPm
theorem valid_ofG {n : Nat} {G : Pm n → Prop} {T : Tw n} (hG : IsG G) (h : Of G T) : Valid n (orbI T n) (repI T n) :=
  valid_of (L := sgen n (orbO T) (PlainPm.repT T) n) (h.congr fun x => (sgen_grp hG h x).symm)
theorem LvW.congr {n ab ao bb bo : Nat} {w : World} {O O' : Nat → List Nat} {R R' : Nat → Nat → Pm n} (h : LvW n w O R ab ao bb bo) (e : ∀ i, i < n → O i = O' i) (e' : ∀ i, i < n → ∀ p ∈ O i, R i p = R' i p) : LvW n w O' R' ab ao bb bo :=
  ⟨fun i hi => by rw [← e i hi]; exact h.orb i hi, fun i hi => by
    have : (O' i).map (R' i) = (O i).map (R i) := by rw [← e i hi]; exact List.map_congr_left fun p hp => (e' i hi p hp).symm
    rw [this]; exact h.rep i hi⟩
theorem GrG.lev {n : Nat} {w : World} {v : Value} {G : Pm n → Prop} (hG : IsG G) (hn : 1 ≤ n ∧ n ≤ 64) (h : GrG w v G) :
    ∃ T, Of G T ∧ ∃ ab ao c bb bo e, v = cv n ab ao c bb bo e ∧ LvW n w (orbO T) (PlainPm.repT T) ab ao bb bo := by
  obtain ⟨T, h1, h2, h3⟩ := h.ch
  obtain ⟨ab, ao, c, bb, bo, e, he, hl⟩ := lev_of h2 h3 (valid_ofG hG h1) hn.1 hn.2
  have hv := fun {i} (hi : i < n) => vals_of (L := sgen n (orbO T) (PlainPm.repT T) n) (h1.congr fun x => (sgen_grp hG h1 x).symm) hi
  exact ⟨T, h1, ab, ao, c, bb, bo, e, he, hl.congr (fun i hi => (hv hi).1) (fun i hi p hp => (hv hi).2 p (by rw [← (hv hi).1]; exact hp))⟩
end Go.Proofs.YtbejhkojdiadaaaGreatDoor
namespace Go.Proofs.YtbejhkojdiadaaaGreatDoor
open Go.RowKit PlainPm
set_option maxRecDepth 100000 in
set_option maxHeartbeats 4000000 in
theorem bs60o {g o c : Nat} {zs : List Int} {x : Int} {w : World} (hn : zs.length ≤ 64) (hc : ∀ j, j < zs.length → w.cell? ⟨g, o + j, none⟩ = some (.int .i64 (zs.getD j 0))) (hs : zs.Pairwise (· ≤ ·)) :
    Calls Tryz.prog 63 #[.slice (some ⟨g, o, none⟩) zs.length c, .int .i64 x] w fun e w' => e = .returned (.tuple #[.int .i64 (zs.countP (· < x) : Nat), .bool (zs.contains x)]) ∧ ∃ q, w' = w.drewN q := by
  have S0 := Lib.sorted_at zs zs.length (Nat.le_refl _) (by rw [List.take_length]; exact hs)
  have E0 := fun hi h1 h2 h3 => Lib.search_end zs zs.length hi x (Nat.le_refl _) h1 h2 h3 S0
  simp only [List.take_length] at E0
  obtain ⟨n, hn'⟩ : ∃ n, zs.length = n := ⟨_, rfl⟩
  rw [hn'] at hn hc S0 E0 ⊢
  have S := Lib.hid (And.intro S0 (And.intro E0 hn'))
  clear hs S0 E0 hn'
  go_enter Tryz.func63, Tryz.ntmps63
  go_wp2_with fail
  go_loopw [7, 8, 9] (fun s7 s8 _ wr => ∃ lo hi q : Nat, s7 = .int .i64 lo ∧ s8 = .int .i64 hi ∧ lo ≤ hi ∧ hi ≤ n ∧ wr = w.drewN q ∧ (∀ t, t < lo → zs.getD t 0 < x) ∧ (∀ t, hi ≤ t → t < n → x ≤ zs.getD t 0)) (fun s7 s8 _ _ => (intOf s8 - intOf s7).toNat)
  case atStart => exact ⟨0, n, 0, rfl, rfl, Nat.zero_le _, Nat.le_refl _, rfl, fun t ht => absurd ht (Nat.not_lt_zero _), fun t h1 h2 => by omega⟩
  case round =>
    obtain ⟨lo, hi, q, rfl, rfl, hlh, hin, rfl, h1, h2⟩ := hrel
    have I := Lib.hid (And.intro h1 h2)
    clear h1 h2
    by_cases hlt : lo < hi
    · have cm : w.cell? ⟨g, o + (lo + hi) / 2, none⟩ = some (.int .i64 (zs.getD ((lo + hi) / 2) 0)) := hc _ (by omega)
      obtain ⟨y, hy⟩ : ∃ y, zs.getD ((lo + hi) / 2) 0 = y := ⟨_, rfl⟩
      rw [hy] at cm
      have Y := Lib.hid (And.intro hc hy)
      clear hc hy
      by_cases hyx : y < x
      · go_wp2_with (first | (go_at_call 94; with_reducible refine (less105 _ _ _).mono ?_; rintro e w' ⟨rfl, rfl⟩) | (go_at_call 95; with_reducible refine (nan106 _ _).mono ?_; rintro e w' ⟨rfl, rfl⟩))
        refine ⟨⟨(lo + hi) / 2 + 1, hi, _, by rw [show ((lo : Int) + (hi : Int)) / 2 + 1 = (((lo + hi) / 2 + 1 : Nat) : Int) by omega], rfl, by omega, hin, rfl, fun t ht => ?_, I.out.2⟩, by simp [intOf]; omega⟩
        have := S.out.1 t ((lo + hi) / 2) (by omega) (by omega)
        rw [Y.out.2] at this
        omega
      · go_wp2_with (first | (go_at_call 94; with_reducible refine (less105 _ _ _).mono ?_; rintro e w' ⟨rfl, rfl⟩) | (go_at_call 95; with_reducible refine (nan106 _ _).mono ?_; rintro e w' ⟨rfl, rfl⟩))
        refine ⟨⟨lo, (lo + hi) / 2, _, rfl, by rw [show ((lo : Int) + (hi : Int)) / 2 = (((lo + hi) / 2 : Nat) : Int) by omega], by omega, by omega, rfl, I.out.1, fun t ht htn => ?_⟩, by simp [intOf]; omega⟩
        have := S.out.1 ((lo + hi) / 2) t ht htn
        rw [Y.out.2] at this
        omega
    · obtain rfl : hi = lo := by omega
      obtain ⟨e1, e2⟩ := S.out.2.1 hi hin I.out.1 I.out.2
      have hnn := S.out.2.2
      have E := Lib.hid (And.intro e1 (And.intro e2 hnn))
      clear e1 e2 hnn
      by_cases hn : hi < n
      · have cl : w.cell? ⟨g, o + hi, none⟩ = some (.int .i64 (zs.getD hi 0)) := hc _ (by omega)
        obtain ⟨y, hy⟩ : ∃ y, zs.getD hi 0 = y := ⟨_, rfl⟩
        rw [hy] at cl
        have Y := Lib.hid (And.intro hc hy)
        clear hc hy
        by_cases hyx : y = x
        · go_wp2_with (first | (go_at_call 94; with_reducible refine (less105 _ _ _).mono ?_; rintro e w' ⟨rfl, rfl⟩) | (go_at_call 95; with_reducible refine (nan106 _ _).mono ?_; rintro e w' ⟨rfl, rfl⟩))
          refine bodyPost_ret (v := .tuple #[.int .i64 (hi : Int), .bool true]) (by simp [results, Tryz.results63, go_sem]) rfl ?_
          refine ⟨?_, _, rfl⟩
          rw [E.out.1, E.out.2.1, Y.out.2, decide_eq_true (show hi < n ∧ y = x from ⟨hn, hyx⟩)]
        · go_wp2_with (first | (go_at_call 94; with_reducible refine (less105 _ _ _).mono ?_; rintro e w' ⟨rfl, rfl⟩) | (go_at_call 95; with_reducible refine (nan106 _ _).mono ?_; rintro e w' ⟨rfl, rfl⟩))
          refine bodyPost_ret (v := .tuple #[.int .i64 (hi : Int), .bool false]) (by simp [results, Tryz.results63, go_sem, hyx]) rfl ?_
          refine ⟨?_, _, rfl⟩
          rw [E.out.1, E.out.2.1, Y.out.2, decide_eq_false (show ¬ (hi < n ∧ y = x) from fun h => hyx h.2)]
      · clear hc
        go_wp2_with (first | (go_at_call 94; with_reducible refine (less105 _ _ _).mono ?_; rintro e w' ⟨rfl, rfl⟩) | (go_at_call 95; with_reducible refine (nan106 _ _).mono ?_; rintro e w' ⟨rfl, rfl⟩))
        refine bodyPost_ret (v := .tuple #[.int .i64 (hi : Int), .bool false]) (by simp [results, Tryz.results63, go_sem]) rfl ?_
        refine ⟨?_, _, rfl⟩
        rw [E.out.1, E.out.2.1, decide_eq_false (show ¬ (hi < n ∧ zs.getD hi 0 = x) from fun h => hn h.1)]
def BoolIs (e : Ending) (Q : Prop) : Prop := ∃ B, e = .returned (.bool B) ∧ (B = true ↔ Q)
theorem BoolIs.yes {Q : Prop} (h : Q) : BoolIs (.returned (.bool true)) Q := ⟨true, rfl, ⟨fun _ => h, fun _ => rfl⟩⟩
theorem BoolIs.no {Q : Prop} (h : ¬ Q) : BoolIs (.returned (.bool false)) Q := ⟨false, rfl, ⟨fun h' => (by cases h'), fun h' => absurd h' h⟩⟩
theorem pos_sorted {l : List Nat} (hs : l.Pairwise (· < ·)) {t : Nat} (ht : t ∈ l) : l[(nts l).countP (fun v => decide (v < (t : Int)))]? = some t := by
  obtain ⟨s, hs'⟩ := List.mem_iff_getElem?.1 ht
  have hsl := (List.getElem?_eq_some_iff.1 hs').1
  have h1 : (nts l).Pairwise (· < ·) := by
    unfold nts
    exact List.pairwise_map.2 (hs.imp (fun h => by omega))
  have h2 := countP_sorted h1 (s := s) (by rw [nts_len]; exact hsl)
  have h3 : (nts l)[s]'(by rw [nts_len]; exact hsl) = (t : Int) := by
    have := (List.getElem?_eq_some_iff.1 hs').2
    simp [nts, this]
  rw [h3] at h2
  rw [h2]; exact hs'
theorem bs_orb {l : List Nat} (hs : l.Pairwise (· < ·)) (h64 : l.length ≤ 64) (t : Nat) : ∃ P : Nat, (t ∈ l → l[P]? = some t) ∧ ∀ (W : World) (g o c : Nat), (∀ (k q : Nat), l[k]? = some q → W.cell? ⟨g, o + k, none⟩ = some (.int .i64 (q : Int))) →
    Calls Tryz.prog 63 #[.slice (some ⟨g, o, none⟩) l.length c, .int .i64 (t : Int)] W fun e w' => e = .returned (.tuple #[.int .i64 (P : Int), .bool (decide (t ∈ l))]) ∧ ∃ q, w' = W.drewN q := by
  refine ⟨(nts l).countP (fun v => decide (v < (t : Int))), fun ht => pos_sorted hs ht, fun W g o c hc => ?_⟩
  have hl : (nts l).length = l.length := nts_len l
  have := bs60o (c := c) (g := g) (o := o) (zs := nts l) (x := (t : Int)) (w := W) (by rw [hl]; exact h64) (fun j hj => by
    rw [hl] at hj
    rw [hc j l[j] (List.getElem?_eq_getElem hj)]
    simp [nts, List.getD, List.getElem?_eq_getElem hj]) (by
    unfold nts
    exact List.pairwise_map.2 (hs.imp (fun h => by omega)))
  rw [hl] at this
  have hm : (nts l).contains (t : Int) = decide (t ∈ l) := by
    rw [Bool.eq_iff_iff, decide_eq_true_iff, List.contains_iff_mem]
    unfold nts
    rw [List.mem_map]
    constructor
    · rintro ⟨q, hq, he⟩
      have : q = t := by omega
      rw [← this]; exact hq
    · intro h; exact ⟨t, h, rfl⟩
  rw [hm] at this
  exact this
end Go.Proofs.YtbejhkojdiadaaaGreatDoor
namespace Go.Proofs.YtbejhkojdiadaaaGreatDoor
open Go.RowKit PlainPm
theorem PmL.below {n : Nat} {w w' : World} {us : List Value} {l : List (Pm n)} (h : PmL w [] us l) (k : Below w.heap.size w w') : PmL w' [] us l :=
  ⟨h.1, fun i x hx => by obtain ⟨u, hu, hp⟩ := h.2 i x hx; exact ⟨u, hu, hp.below k⟩⟩
end Go.Proofs.YtbejhkojdiadaaaGreatDoor
