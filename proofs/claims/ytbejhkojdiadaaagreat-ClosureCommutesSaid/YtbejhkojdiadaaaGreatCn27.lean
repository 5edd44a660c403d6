/- The law ClosureCommutes walked. -/
import Derived.Test.YtbejhkojdiadaaaGreatCn01
import Derived.Test.YtbejhkojdiadaaaGreatCn02
import Derived.Test.YtbejhkojdiadaaaGreatCn03
import Derived.Test.YtbejhkojdiadaaaGreatCn04
import Derived.Test.YtbejhkojdiadaaaGreatCn05
import Derived.Test.YtbejhkojdiadaaaGreatCn06
import Derived.Test.YtbejhkojdiadaaaGreatCn07
import Derived.Test.YtbejhkojdiadaaaGreatCn08
import Derived.Test.YtbejhkojdiadaaaGreatCn09
import Derived.Test.YtbejhkojdiadaaaGreatCn10
import Derived.Test.YtbejhkojdiadaaaGreatCn11
import Derived.Test.YtbejhkojdiadaaaGreatCn12
import Derived.Test.YtbejhkojdiadaaaGreatCn13
import Derived.Test.YtbejhkojdiadaaaGreatCn14
import Derived.Test.YtbejhkojdiadaaaGreatCn15
import Derived.Test.YtbejhkojdiadaaaGreatCn16
import Derived.Test.YtbejhkojdiadaaaGreatCn17
import Derived.Test.YtbejhkojdiadaaaGreatCn18
import Derived.Test.YtbejhkojdiadaaaGreatCn19
import Derived.Test.YtbejhkojdiadaaaGreatCn20
import Derived.Test.YtbejhkojdiadaaaGreatCn21
import Derived.Test.YtbejhkojdiadaaaGreatCn22
import Derived.Test.YtbejhkojdiadaaaGreatCn23
import Derived.Test.YtbejhkojdiadaaaGreatCn24
import Derived.Test.YtbejhkojdiadaaaGreatCn25
import Derived.Test.YtbejhkojdiadaaaGreatCn26
import Derived.Test.YtbejhkojdiadaaaGreatProg
import Derived.WalkKit
import Derived.WalkSpells
import Derived.BigQuiet
import Derived.Deep.QuietTactic
import Derived.Deep.LoopGhost
import Derived.Lib.Hide
import Derived.Maps.AppendAt
import Derived.Deep.AppendLies
import Derived.StillTailTactics
import Derived.Laws.CopyOwn
import Derived.Deep.OwnRows
import Derived.Deep.DeepCutAuto
import Derived.Laws.Cover3
import Derived.Deep.RegionHeld3
import Derived.RangeFuncRecord
import Derived.Lib.SlicesSearch
import Derived.RangeFuncBox
import Derived.RangeFuncLeaves
import Derived.RangeFuncWrites
import Derived.RangeFuncFrom
import Derived.Shelf.Abstract
import Derived.OwnWalkIn
import Derived.TacticsInMore
import Derived.LoopNIn
import Derived.LoopIn
import Derived.Shelf.GgSortFunc.Insertion
import Derived.Shelf.SlIter.Collect
import Derived.Shelf.Sort.Plain
import Derived.Deep.RegionLaw
import Derived.ControlIn
import Derived.Deep.AppendSrc
import Derived.Laws.BytesArg
import Derived.Maps.OwnSet
import Derived.Carry
import Derived.Maps.Range
set_option linter.unusedSimpArgs false
set_option linter.unusedVariables false
namespace Go.Proofs.YtbejhkojdiadaaaGreat
open Go.RowKit PlainPm
theorem cmG_isG {n : Nat} {A B : Pm n → Prop} : IsG (CmG A B) := Grp.isG
set_option maxRecDepth 100000 in
set_option maxHeartbeats 16000000 in
theorem closureCommutesW {w : World} {a1 a2 : Option Addr} {c1 c2 : Nat} {l1 l2 : List Int} (h1 : Ints w a1 l1) (h2 : Ints w a2 l2) :
    Calls Tryz.prog 8 #[.slice a1 l1.length c1, .slice a2 l2.length c2] w fun e w' => e = .returned (.bool true) ∧ Below w.heap.size w w' := by
  obtain ⟨i27, hi27, hz27, hs27, hb27⟩ := info_parts Tryz.info27
  have I27 := Lib.hid (And.intro hi27 (And.intro hz27 (And.intro hs27 hb27)))
  clear hi27 hz27 hs27 hb27
  have h41 := fun (V : World) (hV : Below w.heap.size w V) => group41 (c1 := c1) (c2 := c2) (h1.below hV) (h2.below hV)
  obtain ⟨m1, hm1⟩ : ∃ m, l1.length = m := ⟨_, rfl⟩
  obtain ⟨m2, hm2⟩ : ∃ m, l2.length = m := ⟨_, rfl⟩
  rw [hm1, hm2] at h41 ⊢
  have H := Lib.hid h41
  clear h41 h1 h2 hm1 hm2
  go_enter Tryz.func8, Tryz.ntmps8
  go_wp2_with (first
    | (go_at_call 41; (with_reducible refine (H.out _ H2.out).mono ?_); rintro e3 w3 ⟨v1, v2, v3, v4, rfl, ⟨n, Lg, Ls, hn, hsub, q1, q2, q3, q4⟩, k⟩
       obtain ⟨a3, cc3, b3, d3, rfl⟩ := q3.form
       obtain ⟨a4, cc4, b4, d4, rfl⟩ := q4.form
       obtain ⟨E1, p1, p1s, p1m⟩ := q1
       obtain ⟨E2, p2, p2s, p2m⟩ := q2
       obtain ⟨f1, g1, rfl, _, _⟩ := pms_at p1
       obtain ⟨f2, g2, rfl, _, _⟩ := pms_at p2
       have hl1 : E1.length ≤ 120 := Nat.le_trans (pm_card (sorted_nodup p1s)) (fac_le5 hn.2)
       have hl2 : E2.length ≤ 120 := Nat.le_trans (pm_card (sorted_nodup p2s)) (fac_le5 hn.2)
       obtain ⟨N1, hN1⟩ : ∃ m, E1.length = m := ⟨_, rfl⟩
       obtain ⟨N2, hN2⟩ : ∃ m, E2.length = m := ⟨_, rfl⟩
       rw [hN1] at p1 hl1 ⊢
       rw [hN2] at p2 hl2 ⊢
       obtain ⟨Y, U, V1, V, hY, hU, ⟨s0, s1, s2, s3, s4, s5⟩, hV1, ⟨t0, t1, t2, t3, t4, t5⟩, hV, bw, z0, z1⟩ := st2 (w := w3) (.int .i64 (n : Int)) (.slice a3 n cc3) (.slice b3 n d3) (.int .i64 (n : Int)) (.slice a4 n cc4) (.slice b4 n d4)
       have H3 := Lib.hid (And.intro (below_trans (below_trans H2.out k) bw) (And.intro hn (And.intro hsub (And.intro (And.intro (p1.below bw) (And.intro p1s (And.intro p1m hN1))) (And.intro (And.intro (p2.below bw) (And.intro p2s (And.intro p2m hN2))) (And.intro (And.intro (q3.below bw) (q4.below bw)) (And.intro z0 z1)))))))
       unfold set3 at hV1 hV
       clear k bw hsub p1 p2 p1s p2s p1m p2m hN1 hN2 q3 q4 z0 z1)
    | (go_at_call 6; (with_reducible refine closureKnownW.mono ?_); rintro e2 w2 ⟨rfl, k⟩
       have H2 := Lib.hid k; clear k))
  obtain ⟨_, _, q1, hN1b, hat1⟩ := pms_at H3.out.2.2.2.1.1
  obtain ⟨_, _, q2, hN2b, hat2⟩ := pms_at H3.out.2.2.2.2.1.1
  simp only [Value.slice.injEq] at q1 q2
  obtain ⟨rfl, -, rfl⟩ := q1
  obtain ⟨rfl, -, rfl⟩ := q2
  have HA := Lib.hid (And.intro hat1 hat2)
  clear hat1 hat2 hN1b hN2b
  clear hV1 hV hU hY s0 s1 s2 s3 s4 s5 t0 t1 t2 t3 t4 t5
  go_loopw [10, 11] (fun v i wr => ∃ (k : Nat) (us : List Value) (cs : List (Pm n)) (vv : Value), vv = v ∧ i = .int .i64 (k : Int) ∧ k ≤ N1 ∧ GrowL [] wr V.heap.size vv us cs ∧ PrI cm E1 E2 k 0 cs ∧ Below V.heap.size V wr) (fun _ i _ => N1 - (intOf i).toNat)
  case atStart => exact ⟨0, [], [], _, rfl, rfl, Nat.zero_le _, GrowL.nil _ (by simp), PrI.start, Below.refl _ _⟩
  case round =>
    obtain ⟨i, us, cs, v, rfl, rfl, hi, hgl, hpr, hbr⟩ := hrel
    by_cases hi2 : i < N1
    · have hi1 : (i : Int) < N1 := by omega
      obtain ⟨a, ha⟩ : ∃ a, E1[i]? = some a := ⟨_, List.getElem?_eq_getElem (by rw [H3.out.2.2.2.1.2.2.2]; exact hi2)⟩
      have HK := Lib.hid (And.intro hgl (And.intro hpr (And.intro hbr ha)))
      clear hgl hpr hbr ha
      go_wp2_with fail
      go_loopw [10, 12] (fun v i' wr => ∃ (k : Nat) (us : List Value) (cs : List (Pm n)) (vv : Value), vv = v ∧ i' = .int .i64 (k : Int) ∧ k ≤ N2 ∧ GrowL [] wr V.heap.size vv us cs ∧ PrI cm E1 E2 i k cs ∧ Below V.heap.size V wr) (fun _ i' _ => N2 - (intOf i').toNat)
      case atStart => exact ⟨0, us, cs, _, rfl, rfl, Nat.zero_le _, HK.out.1, HK.out.2.1, HK.out.2.2.1⟩
      case round =>
        obtain ⟨k, us, cs, v, rfl, rfl, hk, hgl, hpr, hbr⟩ := hrel
        by_cases hk2 : k < N2
        · have hk1 : (k : Int) < N2 := by omega
          obtain ⟨g, hg⟩ : ∃ g, E2[k]? = some g := ⟨_, List.getElem?_eq_getElem (by rw [H3.out.2.2.2.2.1.2.2.2]; exact hk2)⟩
          obtain ⟨g6, o6, u6, e6, hc6, hp6⟩ := HA.out.1 i a HK.out.2.2.2
          cases e6
          obtain ⟨g7, o7, u7, e7, hc7, hp7⟩ := HA.out.2 k g hg
          cases e7
          have hc6i := (hbr.cell (block_lt_of_cell hc6)).trans hc6
          have hc7i := (hbr.cell (block_lt_of_cell hc7)).trans hc7
          obtain ⟨b6b, b6o, b6c, rfl, _⟩ := id hp6
          obtain ⟨b7b, b7o, b7c, rfl, _⟩ := id hp7
          have hcl : cs.length ≤ 1000000 := by have h1 := pm_card hpr.1; have h2 := fac_le5 H3.out.2.1.2; omega
          have hlu : us.length < 1099511627776 := by have := hgl.len; omega
          have hpc := pms_ownB hgl.1 hgl.2.1 hcl
          have hD : V.heap.size ≤ wr.heap.size := hbr.size
          have hn5 := H3.out.2.1
          have hpa := hp6.below hbr
          have hpg := hp7.below hbr
          have h50a := fun (W : World) (hV : Below wr.heap.size wr W) => inv50 (n := n) (by omega) (hpa.below hV)
          have h50g := fun (W : World) (hV : Below wr.heap.size wr W) => inv50 (n := n) (by omega) (hpg.below hV)
          have h49 := fun (W : World) (hV : Below wr.heap.size wr W) => mul49 (n := n) (by omega) hn5.1 (hpa.below hV) (hpg.below hV)
          have hz0 := And.intro hc6i (And.intro hc7i (Below.refl wr.heap.size wr))
          have HK2 := Lib.hid (And.intro hpr (And.intro HK.out.2.2.2 hg))
          have HY := Lib.hid (And.intro hgl (And.intro hbr (And.intro h50a (And.intro h50g h49))))
          clear hgl hbr h50a h50g h49 hpr hg hp6 hp7 hpa hpg hc6 hc7
          go_wp2_with fail
          go_region_held3 (fun W => W.cell? ⟨g6, o6 + i, none⟩ = some (.slice (some ⟨b6b, b6o, none⟩) n b6c) ∧ W.cell? ⟨g7, o7 + k, none⟩ = some (.slice (some ⟨b7b, b7o, none⟩) n b7c) ∧ Below wr.heap.size wr W)
            (first
              | with_reducible assumption
              | with_reducible exact hz0
              | exact keep2c hz0 (below_drw (Below.refl _ _))
              | exact keep2c hz0 (below_self_drewN _ _)
              | exact keep2c hz0 b10
              | exact keep2c hz0 b9
              | exact keep2c hz0 b8
              | exact keep2c hz0 b7
              | exact keep2c hz0 b6
              | fail)
            (first
              | (go_at_call 49; (with_reducible refine (mul49 (n := n) (by omega) hn5.1 (PmV.below (n8.pm (M := []) (by simp)) (below_trans k9 (by first | exact Below.refl _ _ | exact below_drw (Below.refl _ _) | exact below_self_drewN _ _))) (PmV.below (n9.pm (M := []) (by simp)) (by first | exact Below.refl _ _ | exact below_drw (Below.refl _ _) | exact below_self_drewN _ _))).mono ?_); rintro e10 w10 ⟨v10, rfl, k1, k2⟩; have b10 : Below wr.heap.size wr w10 := below_trans b9 (below_trans (by first | exact Below.refl _ _ | exact below_drw (Below.refl _ _) | exact below_self_drewN _ _) k2); have n10 : NewPm wr w10 v10 (cm a g) := NewPm.from k1 (by have := b9.size; first | exact this | simpa [World.drew] using this); clear k1 k2)
              | (go_at_call 49; (with_reducible refine (HY.out.2.2.2.2 _ (by first | exact b8 | exact below_drw b8 | exact below_trans b8 (below_self_drewN _ _))).mono ?_); rintro e9 w9 ⟨v9, rfl, k1, k2⟩; have k9 : Below w8.heap.size w8 w9 := below_trans (by first | exact Below.refl _ _ | exact below_drw (Below.refl _ _) | exact below_self_drewN _ _) k2; have b9 : Below wr.heap.size wr w9 := below_trans b8 k9; have n9 : NewPm w8 w9 v9 (a.mul g) := NewPm.from k1 (by first | exact Nat.le_refl _ | simp [World.drew]); clear k1 k2)
              | (go_at_call 49; (with_reducible refine (mul49 (n := n) (by omega) hn5.1 (PmV.below (n6.pm (M := []) (by simp)) (below_trans k7 (by first | exact Below.refl _ _ | exact below_drw (Below.refl _ _) | exact below_self_drewN _ _))) (PmV.below (n7.pm (M := []) (by simp)) (by first | exact Below.refl _ _ | exact below_drw (Below.refl _ _) | exact below_self_drewN _ _))).mono ?_); rintro e8 w8 ⟨v8, rfl, k1, k2⟩; have b8 : Below wr.heap.size wr w8 := below_trans b7 (below_trans (by first | exact Below.refl _ _ | exact below_drw (Below.refl _ _) | exact below_self_drewN _ _) k2); have n8 : NewPm w7 w8 v8 (a.inv.mul g.inv) := NewPm.from k1 (by first | exact Nat.le_refl _ | simp [World.drew]); clear k1 k2)
              | (go_at_call 50; (with_reducible refine (HY.out.2.2.2.1 _ (by first | exact b6 | exact below_drw b6 | exact below_trans b6 (below_self_drewN _ _))).mono ?_); rintro e7 w7 ⟨v7, rfl, k1, k2⟩; have k7 : Below w6.heap.size w6 w7 := below_trans (by first | exact Below.refl _ _ | exact below_drw (Below.refl _ _) | exact below_self_drewN _ _) k2; have b7 : Below wr.heap.size wr w7 := below_trans b6 k7; have n7 : NewPm w6 w7 v7 g.inv := NewPm.from k1 (by first | exact Nat.le_refl _ | simp [World.drew]); clear k1 k2)
              | (go_at_call 50; (with_reducible refine (HY.out.2.2.1 _ (by first | exact Below.refl _ _ | exact below_drw (Below.refl _ _) | exact below_self_drewN _ _)).mono ?_); rintro e6 w6 ⟨v6, rfl, k1, k2⟩; have b6 : Below wr.heap.size wr w6 := below_trans (by first | exact Below.refl _ _ | exact below_drw (Below.refl _ _) | exact below_self_drewN _ _) k2; have n6 : NewPm wr w6 v6 a.inv := NewPm.from k1 (by first | exact Nat.le_refl _ | simp [World.drew]); clear k1 k2))
          have hz6 := n10.growV HY.out.1
          obtain ⟨xb, xc, rfl, _⟩ := id n10
          have H6 := Lib.hid (And.intro b10 (And.intro (show PmV w10 [] _ (cm a g) from n10.pm (by simp)) hz6))
          clear hz6 n10 b10 n9 n8 n7 n6 b9 b8 b7 b6 k9 k7
          by_cases hc : cm a g ∈ cs
          · go_wp2_with (go_at_call 44; (with_reducible refine (has44 (n := n) (L := cs) (x := cm a g) (by omega) hcl (hpc.below H6.out.1) (H6.out.2.1)).mono ?_); rintro e8 w11 ⟨he, k⟩
                         have he := he.true_ hc; subst he
                         have H8 := Lib.hid (And.intro (below_trans H6.out.1 k) (H6.out.2.2.below k)); clear k)
            refine ⟨⟨k + 1, us, cs, _, rfl, by go_num, by omega, HY.out.1.below H8.out.1, HK2.out.1.old HK2.out.2.1 HK2.out.2.2 hc, (HY.out.2.1.trans (H8.out.1.mono hD))⟩, by first | (simp [intOf]; done) | (simp [intOf]; omega)⟩
          · go_wp2_with (first
              | (at_builtin; refine app1 rfl (.tmp 65) (.tmp 67) 44 27 rfl i27 (.slice none 0 0) 24 Tryz.underlying44 I27.out.1 I27.out.2.1 I27.out.2.2.1 I27.out.2.2.2 rfl (by omega) V.heap.size (.slice (some ⟨xb, 0, none⟩) n xc) _ us rfl (HY.out.1.below H8.out.1).1 rfl rfl hlu (Nat.le_trans hD H8.out.1.size) ?_; intro v9 w9 k1 k2 k3; have H9 := Lib.hid (And.intro k1 (And.intro k2 k3)); clear k1 k2 k3)
              | (go_at_call 44; (with_reducible refine (has44 (n := n) (L := cs) (x := cm a g) (by omega) hcl (hpc.below H6.out.1) (H6.out.2.1)).mono ?_); rintro e8 w11 ⟨he, k⟩
                 have he := he.false_ hc; subst he
                 have H8 := Lib.hid (And.intro (below_trans H6.out.1 k) (H6.out.2.2.below k)); clear k))
            refine ⟨⟨k + 1, us ++ [.slice (some ⟨xb, 0, none⟩) n xc], cs ++ [cm a g], _, rfl, by go_num, by omega, (HY.out.1.below H8.out.1).app H8.out.2 H9.out.1 H9.out.2.1 H9.out.2.2, HK2.out.1.new HK2.out.2.1 HK2.out.2.2 hc, ((HY.out.2.1.trans (H8.out.1.mono hD)).grown H9.out.2.1 (Nat.le_trans hD H8.out.1.size) (fun g e => (HY.out.1.1.block_lt e).2))⟩, by first | (simp [intOf]; done) | (simp [intOf]; omega)⟩
        · have hk1 : ¬ (k : Int) < N2 := by omega
          have hkN : k = N2 := by omega
          rw [hkN, ← H3.out.2.2.2.2.1.2.2.2] at hpr
          have HY := Lib.hid (And.intro hgl (And.intro (hpr.row HK.out.2.2.2) hbr))
          clear hgl hpr hbr
          go_wp2_with fail
          exact ⟨⟨i + 1, us, cs, _, rfl, by go_num, by omega, HY.out.1, HY.out.2.1, HY.out.2.2⟩, by first | (simp [intOf]; done) | (simp [intOf]; omega)⟩
    · have hi1 : ¬ (i : Int) < N1 := by omega
      have hiN : i = N1 := by omega
      rw [hiN, ← H3.out.2.2.2.1.2.2.2] at hpr
      have hcl : cs.length ≤ 120 := Nat.le_trans (pm_card hpr.1) (fac_le5 H3.out.2.1.2)
      have hcs : ∀ x, x ∈ cs ↔ ∃ a g, Grp (· ∈ Lg) a ∧ Grp (· ∈ Ls) g ∧ x = cm a g := fun x => by
        rw [hpr.done x]
        constructor
        · rintro ⟨a, g, h1, h2, h3⟩
          exact ⟨a, g, (H3.out.2.2.2.1.2.2.1 a).1 h1, (H3.out.2.2.2.2.1.2.2.1 g).1 h2, h3⟩
        · rintro ⟨a, g, h1, h2, h3⟩
          exact ⟨a, g, (H3.out.2.2.2.1.2.2.1 a).2 h1, (H3.out.2.2.2.2.1.2.2.1 g).2 h2, h3⟩
      obtain ⟨va, vc, rfl, _⟩ := hgl.1.row (by rw [hgl.len]; unfold maxLen; omega)
      have hpG := pms_ownB hgl.1 hgl.2.1 (by omega)
      have hus : cs.length = us.length := hgl.len.symm
      obtain ⟨ul, hul⟩ : ∃ u, us.length = u := ⟨_, rfl⟩
      rw [hul] at hpG hus ⊢
      have hn5 := H3.out.2.1
      have h45 : Calls Tryz.prog 45 #[.int .i64 (n : Int), .slice va ul vc, .int .i64 120] wr _ := elements45 (n := n) (most := 120) ⟨hn5.1, by omega⟩ hus (by omega) hpG (fac_le5 hn5.2) (by omega)
      have hz0 := (hbr.block Y (Array.getElem?_eq_some_iff.1 H3.out.2.2.2.2.2.2.1).1).trans H3.out.2.2.2.2.2.2.1
      have hz1 := (hbr.block (Y + 1) (Array.getElem?_eq_some_iff.1 H3.out.2.2.2.2.2.2.2).1).trans H3.out.2.2.2.2.2.2.2
      have hg1 := H3.out.2.2.2.2.2.1.1.below hbr
      have hg2 := H3.out.2.2.2.2.2.1.2.below hbr
      obtain ⟨x0, x1, x2, _⟩ := box_cells hz0
      obtain ⟨y0, y1, y2, _⟩ := box_cells hz1
      have hx6 := And.intro (And.intro x0 (And.intro x1 x2)) (And.intro (And.intro y0 (And.intro y1 y2)) (Below.refl wr.heap.size wr))
      have HK := Lib.hid (And.intro h45 (And.intro hcs (And.intro (And.intro hg1 hg2) hbr)))
      clear hz0 hz1 hg1 hg2 hcs h45 hpG hgl hpr hbr hcl hus hul
      go_wp2_with (first
        | (go_at_call 47; (with_reducible refine (LstV.same (n := n) (G := CmG (Grp (· ∈ Lg)) (Grp (· ∈ Ls))) hn5.2 H15.out.2.2 ((H10.out.2.below (below_trans H12.out.2.2.2.1 (below_trans H13.out.2.2.2.1 (below_trans H14.out.2 H15.out.2.1)))).congr (fun x => (cm_all HK.out.2.1 x).symm))).mono ?_); rintro e16 w16 ⟨rfl, k⟩
           have H16 := Lib.hid (below_trans H15.out.1 k); clear k)
        | (go_at_call 48; (with_reducible refine (elements48 (n := n) (G := CmG (Grp (· ∈ Lg)) (Grp (· ∈ Ls))) hn5 cmG_isG (H12.out.2.1.below (below_trans H13.out.2.2.2.1 H14.out.2))).mono ?_); rintro e15 w15 ⟨v15, rfl, hl, k⟩
           have H15 := Lib.hid (And.intro (below_trans H14.out.1 k) (And.intro k hl)); clear k hl)
        | (go_at_call 31; (with_reducible refine (GrG.same (n := n) (G := CmG (Grp (· ∈ Lg)) (Grp (· ∈ Ls))) (G' := CmG (Grp (· ∈ Ls)) (Grp (· ∈ Lg))) cmG_isG (H12.out.2.1.below H13.out.2.2.2.1) H13.out.2.1 (fun x => CmG.comm _ _ x)).mono ?_); rintro e14 w14 ⟨rfl, k⟩
           obtain ⟨⟨j0, j1, j2⟩, ⟨j3, j4, j5⟩, bj⟩ := keep6 hx6 (below_trans H13.out.1 k)
           obtain ⟨f0, f1, f2, _⟩ := box_cells (((below_trans H13.out.2.2.2.1 k).block Z (Array.getElem?_eq_some_iff.1 H12.out.2.2.1).1).trans H12.out.2.2.1)
           have H14 := Lib.hid (And.intro bj k); clear k bj)
        | (go_at_call 27; (with_reducible refine (comm27 (n := n) (G1 := Grp (· ∈ Ls)) (G2 := Grp (· ∈ Lg)) ⟨hn5.1, by omega⟩ Grp.isG Grp.isG (HK.out.2.2.1.2.below H12.out.1) (HK.out.2.2.1.1.below H12.out.1)).mono ?_); rintro e13 w13 ⟨a13, c13, b13, d13, rfl, k, hg⟩
           obtain ⟨Z2, U13, V13, hY13, hU13, s0, s1, s2, s3, s4, s5, hV13, bw, z⟩ := stB (w := w13) (.int .i64 (n : Int)) (.slice a13 n c13) (.slice b13 n d13)
           obtain ⟨⟨p0, p1, p2⟩, ⟨p3, p4, p5⟩, bj⟩ := keep6 hx6 (below_trans H12.out.1 (below_trans k bw))
           obtain ⟨f0, f1, f2, _⟩ := box_cells (((below_trans k bw).block Z (Array.getElem?_eq_some_iff.1 H12.out.2.2.1).1).trans H12.out.2.2.1)
           obtain ⟨f3, f4, f5, _⟩ := box_cells z
           have H13 := Lib.hid (And.intro bj (And.intro (((hg [] (by simp)).now).below bw) (And.intro z (And.intro (below_trans k bw) trivial))))
           unfold set3 at hV13
           clear k bw z hg bj)
        | (go_at_call 27; (with_reducible refine (comm27 (n := n) (G1 := Grp (· ∈ Lg)) (G2 := Grp (· ∈ Ls)) ⟨hn5.1, by omega⟩ Grp.isG Grp.isG (HK.out.2.2.1.1.below H10.out.1) (HK.out.2.2.1.2.below H10.out.1)).mono ?_); rintro e12 w12 ⟨a12, c12, b12, d12, rfl, k, hg⟩
           obtain ⟨Z, U12, V12, hY12, hU12, s0, s1, s2, s3, s4, s5, hV12, bw, z⟩ := stB (w := w12) (.int .i64 (n : Int)) (.slice a12 n c12) (.slice b12 n d12)
           obtain ⟨⟨p0, p1, p2⟩, ⟨p3, p4, p5⟩, bj⟩ := keep6 hx6 (below_trans H10.out.1 (below_trans k bw))
           have H12 := Lib.hid (And.intro bj (And.intro (((hg [] (by simp)).now).below bw) (And.intro z (And.intro (below_trans k bw) trivial))))
           unfold set3 at hV12
           clear k bw z hg bj)
        | (go_at_call 45; (with_reducible refine HK.out.1.mono ?_); rintro e10 w10 ⟨v10, rfl, hE, k⟩
           obtain ⟨⟨p0, p1, p2⟩, ⟨p3, p4, p5⟩, bj⟩ := keep6 hx6 k
           have H10 := Lib.hid (And.intro k ((hE.lst (M := []) (by omega) (by simp)).now)); clear k hE bj))
      go_ret
      exact ⟨rfl, (H3.out.1.trans (HK.out.2.2.2.mono H3.out.1.size)).trans (H16.out.mono (Nat.le_trans H3.out.1.size HK.out.2.2.2.size))⟩
end Go.Proofs.YtbejhkojdiadaaaGreat
