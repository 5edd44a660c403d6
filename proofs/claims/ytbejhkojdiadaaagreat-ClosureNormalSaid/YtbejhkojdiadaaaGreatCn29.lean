/- The law ClosureNormal walked. -/
import Derived.Test.YtbejhkojdiadaaaGreatCn01
import Derived.Test.YtbejhkojdiadaaaGreatCn02
import Derived.Test.YtbejhkojdiadaaaGreatCn03
import Derived.Test.YtbejhkojdiadaaaGreatCn04
import Derived.Test.YtbejhkojdiadaaaGreatCn05
import Derived.Test.YtbejhkojdiadaaaGreatCn06
import Derived.Test.YtbejhkojdiadaaaGreatCn07
import Derived.Test.YtbejhkojdiadaaaGreatCn08
import Derived.Test.YtbejhkojdiadaaaGreatCn09
import Derived.Test.YtbejhkojdiadaaaGreatCn10
import Derived.Test.YtbejhkojdiadaaaGreatCn11
import Derived.Test.YtbejhkojdiadaaaGreatCn12
import Derived.Test.YtbejhkojdiadaaaGreatCn13
import Derived.Test.YtbejhkojdiadaaaGreatCn14
import Derived.Test.YtbejhkojdiadaaaGreatCn15
import Derived.Test.YtbejhkojdiadaaaGreatCn16
import Derived.Test.YtbejhkojdiadaaaGreatCn17
import Derived.Test.YtbejhkojdiadaaaGreatCn18
import Derived.Test.YtbejhkojdiadaaaGreatCn19
import Derived.Test.YtbejhkojdiadaaaGreatCn20
import Derived.Test.YtbejhkojdiadaaaGreatCn21
import Derived.Test.YtbejhkojdiadaaaGreatCn22
import Derived.Test.YtbejhkojdiadaaaGreatCn23
import Derived.Test.YtbejhkojdiadaaaGreatCn24
import Derived.Test.YtbejhkojdiadaaaGreatCn25
import Derived.Test.YtbejhkojdiadaaaGreatCn26
import Derived.Test.YtbejhkojdiadaaaGreatProg
import Derived.WalkKit
import Derived.WalkSpells
import Derived.BigQuiet
import Derived.Deep.QuietTactic
import Derived.Deep.LoopGhost
import Derived.Lib.Hide
import Derived.Maps.AppendAt
import Derived.Deep.AppendLies
import Derived.StillTailTactics
import Derived.Laws.CopyOwn
import Derived.Deep.OwnRows
import Derived.Deep.DeepCutAuto
import Derived.Laws.Cover3
import Derived.Deep.RegionHeld3
import Derived.RangeFuncRecord
import Derived.Lib.SlicesSearch
import Derived.RangeFuncBox
import Derived.RangeFuncLeaves
import Derived.RangeFuncWrites
import Derived.RangeFuncFrom
import Derived.Shelf.Abstract
import Derived.OwnWalkIn
import Derived.TacticsInMore
import Derived.LoopNIn
import Derived.LoopIn
import Derived.Shelf.GgSortFunc.Insertion
import Derived.Shelf.SlIter.Collect
import Derived.Shelf.Sort.Plain
import Derived.Deep.RegionLaw
import Derived.ControlIn
import Derived.Deep.AppendSrc
import Derived.Laws.BytesArg
import Derived.Maps.OwnSet
import Derived.Carry
import Derived.Maps.Range
set_option linter.unusedSimpArgs false
set_option linter.unusedVariables false
namespace Go.Proofs.YtbejhkojdiadaaaGreat
open Go.RowKit PlainPm
set_option maxRecDepth 100000 in
set_option maxHeartbeats 16000000 in
theorem closureNormalW {w : World} {a1 a2 : Option Addr} {c1 c2 : Nat} {l1 l2 : List Int} (h1 : Ints w a1 l1) (h2 : Ints w a2 l2) :
    Calls Tryz.prog 7 #[.slice a1 l1.length c1, .slice a2 l2.length c2] w fun e w' => e = .returned (.bool true) ∧ Below w.heap.size w w' := by
  obtain ⟨i27, hi27, hz27, hs27, hb27⟩ := info_parts Tryz.info27
  have I27 := Lib.hid (And.intro hi27 (And.intro hz27 (And.intro hs27 hb27)))
  clear hi27 hz27 hs27 hb27
  have h41 := fun (V : World) (hV : Below w.heap.size w V) => group41 (c1 := c1) (c2 := c2) (h1.below hV) (h2.below hV)
  obtain ⟨m1, hm1⟩ : ∃ m, l1.length = m := ⟨_, rfl⟩
  obtain ⟨m2, hm2⟩ : ∃ m, l2.length = m := ⟨_, rfl⟩
  rw [hm1, hm2] at h41 ⊢
  have H := Lib.hid h41
  clear h41 h1 h2 hm1 hm2
  go_enter Tryz.func7, Tryz.ntmps7
  go_wp2_with (first
    | (go_at_call 41; (with_reducible refine (H.out _ H2.out).mono ?_); rintro e3 w3 ⟨v1, v2, v3, v4, rfl, ⟨n, Lg, Ls, hn, hsub, q1, q2, q3, q4⟩, k⟩
       obtain ⟨a3, cc3, b3, d3, rfl⟩ := q3.form
       obtain ⟨a4, cc4, b4, d4, rfl⟩ := q4.form
       obtain ⟨E1, p1, p1s, p1m⟩ := q1
       obtain ⟨E2, p2, p2s, p2m⟩ := q2
       obtain ⟨f1, g1, rfl, _, _⟩ := pms_at p1
       obtain ⟨f2, g2, rfl, _, _⟩ := pms_at p2
       have hl1 : E1.length ≤ 120 := Nat.le_trans (pm_card (sorted_nodup p1s)) (fac_le5 hn.2)
       have hl2 : E2.length ≤ 120 := Nat.le_trans (pm_card (sorted_nodup p2s)) (fac_le5 hn.2)
       obtain ⟨N1, hN1⟩ : ∃ m, E1.length = m := ⟨_, rfl⟩
       obtain ⟨N2, hN2⟩ : ∃ m, E2.length = m := ⟨_, rfl⟩
       rw [hN1] at p1 hl1 ⊢
       rw [hN2] at p2 hl2 ⊢
       obtain ⟨Y, U, V1, V, hY, hU, ⟨s0, s1, s2, s3, s4, s5⟩, hV1, ⟨t0, t1, t2, t3, t4, t5⟩, hV, bw, z0, z1⟩ := st2 (w := w3) (.int .i64 (n : Int)) (.slice a3 n cc3) (.slice b3 n d3) (.int .i64 (n : Int)) (.slice a4 n cc4) (.slice b4 n d4)
       have H3 := Lib.hid (And.intro (below_trans (below_trans H2.out k) bw) (And.intro hn (And.intro hsub (And.intro (And.intro (p1.below bw) (And.intro p1s (And.intro p1m hN1))) (And.intro (And.intro (p2.below bw) (And.intro p2s (And.intro p2m hN2))) (And.intro (And.intro (q3.below bw) (q4.below bw)) (And.intro z0 z1)))))))
       unfold set3 at hV1 hV
       clear k bw hsub p1 p2 p1s p2s p1m p2m hN1 hN2 q3 q4 z0 z1)
    | (go_at_call 6; (with_reducible refine closureKnownW.mono ?_); rintro e2 w2 ⟨rfl, k⟩
       have H2 := Lib.hid k; clear k))
  obtain ⟨_, _, q1, hN1b, hat1⟩ := pms_at H3.out.2.2.2.1.1
  obtain ⟨_, _, q2, hN2b, hat2⟩ := pms_at H3.out.2.2.2.2.1.1
  simp only [Value.slice.injEq] at q1 q2
  obtain ⟨rfl, -, rfl⟩ := q1
  obtain ⟨rfl, -, rfl⟩ := q2
  have HA := Lib.hid (And.intro hat1 hat2)
  clear hat1 hat2 hN1b hN2b
  clear hV1 hV hU hY s0 s1 s2 s3 s4 s5 t0 t1 t2 t3 t4 t5
  go_loopw [10, 11, 12] (fun v b i wr => ∃ (k : Nat) (us : List Value) (cs : List (Pm n)) (vv : Value) (B : Bool), vv = v ∧ b = .bool B ∧ i = .int .i64 (k : Int) ∧ k ≤ N2 ∧ GrowL [] wr V.heap.size vv us cs ∧ PrI cj E2 E1 k 0 cs ∧ (B = true ↔ ∀ x ∈ cs, x ∈ E2) ∧ Below V.heap.size V wr) (fun _ _ i _ => N2 - (intOf i).toNat)
  case atStart => exact ⟨0, [], [], _, true, rfl, rfl, rfl, Nat.zero_le _, GrowL.nil _ (by simp), PrI.start, by simp, Below.refl _ _⟩
  case round =>
    obtain ⟨i, us, cs, v, B, rfl, rfl, rfl, hi, hgl, hpr, hB, hbr⟩ := hrel
    by_cases hi2 : i < N2
    · have hi1 : (i : Int) < N2 := by omega
      obtain ⟨a, ha⟩ : ∃ a, E2[i]? = some a := ⟨_, List.getElem?_eq_getElem (by rw [H3.out.2.2.2.2.1.2.2.2]; exact hi2)⟩
      have HK := Lib.hid (And.intro hgl (And.intro hpr (And.intro hB (And.intro hbr ha))))
      clear hgl hpr hB hbr ha
      go_wp2_with fail
      go_loopw [10, 11, 13] (fun v b i' wr => ∃ (k : Nat) (us : List Value) (cs : List (Pm n)) (vv : Value) (B : Bool), vv = v ∧ b = .bool B ∧ i' = .int .i64 (k : Int) ∧ k ≤ N1 ∧ GrowL [] wr V.heap.size vv us cs ∧ PrI cj E2 E1 i k cs ∧ (B = true ↔ ∀ x ∈ cs, x ∈ E2) ∧ Below V.heap.size V wr) (fun _ _ i' _ => N1 - (intOf i').toNat)
      case atStart => exact ⟨0, us, cs, _, B, rfl, rfl, rfl, Nat.zero_le _, HK.out.1, HK.out.2.1, HK.out.2.2.1, HK.out.2.2.2.1⟩
      case round =>
        obtain ⟨k, us, cs, v, B, rfl, rfl, rfl, hk, hgl, hpr, hB, hbr⟩ := hrel
        by_cases hk2 : k < N1
        · have hk1 : (k : Int) < N1 := by omega
          obtain ⟨g, hg⟩ : ∃ g, E1[k]? = some g := ⟨_, List.getElem?_eq_getElem (by rw [H3.out.2.2.2.1.2.2.2]; exact hk2)⟩
          obtain ⟨g6, o6, u6, e6, hc6, hp6⟩ := HA.out.2 i a HK.out.2.2.2.2
          cases e6
          obtain ⟨g7, o7, u7, e7, hc7, hp7⟩ := HA.out.1 k g hg
          cases e7
          have hc6i := (hbr.cell (block_lt_of_cell hc6)).trans hc6
          have hc7i := (hbr.cell (block_lt_of_cell hc7)).trans hc7
          obtain ⟨b6b, b6o, b6c, rfl, _⟩ := id hp6
          obtain ⟨b7b, b7o, b7c, rfl, _⟩ := id hp7
          have hcl : cs.length ≤ 1000000 := by have h1 := pm_card hpr.1; have h2 := fac_le5 H3.out.2.1.2; omega
          have hlu : us.length < 1099511627776 := by have := hgl.len; omega
          have hpc := pms_ownB hgl.1 hgl.2.1 hcl
          have hD : V.heap.size ≤ wr.heap.size := hbr.size
          have hn5 := H3.out.2.1
          have h42 := fun (W : World) (hV : Below wr.heap.size wr W) => px42 (n := n) ⟨hn5.1, by omega⟩ (hp6.below (below_trans hbr hV)) (hp7.below (below_trans hbr hV))
          have hz0 := And.intro hc6i (And.intro hc7i (Below.refl wr.heap.size wr))
          have HK2 := Lib.hid (And.intro hpr (And.intro hB (And.intro HK.out.2.2.2.2 hg)))
          have HY := Lib.hid (And.intro hgl (And.intro hbr h42))
          clear hgl hbr h42 hpr hB hg hp6 hp7 hc6 hc7
          go_wp2_with fail
          go_region_held3 (fun W => W.cell? ⟨g6, o6 + i, none⟩ = some (.slice (some ⟨b6b, b6o, none⟩) n b6c) ∧ W.cell? ⟨g7, o7 + k, none⟩ = some (.slice (some ⟨b7b, b7o, none⟩) n b7c) ∧ Below wr.heap.size wr W)
            (first
              | with_reducible assumption
              | with_reducible exact hz0
              | exact keep2c hz0 (below_drw (Below.refl _ _))
              | exact keep2c hz0 (below_self_drewN _ _)
              | exact keep2c hz0 b6
              | fail)
            (first
              | (go_at_call 42; (with_reducible refine (HY.out.2.2 _ (by first | exact Below.refl _ _ | exact below_drw (Below.refl _ _) | exact below_self_drewN _ _)).mono ?_); rintro e6 w6 ⟨v6, rfl, k1, k2⟩; have b6 : Below wr.heap.size wr w6 := below_trans (by first | exact Below.refl _ _ | exact below_drw (Below.refl _ _) | exact below_self_drewN _ _) k2; have n6 : NewPm wr w6 v6 (cj a g) := NewPm.from k1 (by first | exact Nat.le_refl _ | simp [World.drew]); clear k1 k2))
          have hz6 := n6.growV HY.out.1
          obtain ⟨xb, xc, rfl, _⟩ := id n6
          have H6 := Lib.hid (And.intro b6 (And.intro (show PmV w6 [] _ (cj a g) from n6.pm (by simp)) hz6))
          clear hz6 n6 b6
          have hidx : ∀ {ii : Int}, ((cj a g ∈ E2 ∧ ∃ k : Nat, ii = (k : Int) ∧ E2[k]? = some (cj a g)) ∨ (¬ cj a g ∈ E2 ∧ ii = -1)) → (decide (0 ≤ ii) = true ↔ true = true ∧ cj a g ∈ E2) := fun {ii} h => by
            rcases h with ⟨h, q, rfl, _⟩ | ⟨h, rfl⟩
            · simp [h]
            · simp [h]
          rcases B with _ | _
          · by_cases hc : cj a g ∈ cs
            · skip
              go_wp2_with (first
                | (go_at_call 44; (with_reducible refine (has44 (n := n) (L := cs) (x := cj a g) (by omega) hcl (hpc.below H6.out.1) (H6.out.2.1)).mono ?_); rintro e8 w8 ⟨he, k⟩
                   have he := he.true_ hc; subst he
                   have H8 := Lib.hid (And.intro (below_trans H6.out.1 k) (H6.out.2.2.below k)); clear k))
              refine ⟨⟨k + 1, us, cs, _, _, rfl, rfl, by go_num, by omega, HY.out.1.below H8.out.1, HK2.out.1.old HK2.out.2.2.1 HK2.out.2.2.2 hc, all_step (y := cj a g) (cs := cs) HK2.out.2.1 (⟨fun h => (by cases h), fun h => h.1⟩) (fun x => ⟨.inl, fun h => h.elim id (fun e => e ▸ hc)⟩), (HY.out.2.1.trans (H8.out.1.mono hD))⟩, by first | (simp [intOf]; done) | (simp [intOf]; omega)⟩
            · skip
              go_wp2_with (first
                | (at_builtin; refine app1 rfl (.tmp 62) (.tmp 64) 44 27 rfl i27 (.slice none 0 0) 24 Tryz.underlying44 I27.out.1 I27.out.2.1 I27.out.2.2.1 I27.out.2.2.2 rfl (by omega) V.heap.size (.slice (some ⟨xb, 0, none⟩) n xc) _ us rfl (HY.out.1.below H8.out.1).1 rfl rfl hlu (Nat.le_trans hD H8.out.1.size) ?_; intro v9 w9 k1 k2 k3; have H9 := Lib.hid (And.intro k1 (And.intro k2 k3)); clear k1 k2 k3)
                | (go_at_call 44; (with_reducible refine (has44 (n := n) (L := cs) (x := cj a g) (by omega) hcl (hpc.below H6.out.1) (H6.out.2.1)).mono ?_); rintro e8 w8 ⟨he, k⟩
                   have he := he.false_ hc; subst he
                   have H8 := Lib.hid (And.intro (below_trans H6.out.1 k) (H6.out.2.2.below k)); clear k))
              refine ⟨⟨k + 1, us ++ [.slice (some ⟨xb, 0, none⟩) n xc], cs ++ [cj a g], _, _, rfl, rfl, by go_num, by omega, (HY.out.1.below H8.out.1).app H8.out.2 H9.out.1 H9.out.2.1 H9.out.2.2, HK2.out.1.new HK2.out.2.2.1 HK2.out.2.2.2 hc, all_step (y := cj a g) (cs := cs) HK2.out.2.1 (⟨fun h => (by cases h), fun h => h.1⟩) (fun x => by rw [List.mem_append, List.mem_singleton]), ((HY.out.2.1.trans (H8.out.1.mono hD)).grown H9.out.2.1 (Nat.le_trans hD H8.out.1.size) (fun g e => (HY.out.1.1.block_lt e).2))⟩, by first | (simp [intOf]; done) | (simp [intOf]; omega)⟩
          · by_cases hc : cj a g ∈ cs
            · skip
              go_wp2_with (first
                | (go_at_call 44; (with_reducible refine (has44 (n := n) (L := cs) (x := cj a g) (by omega) hcl (hpc.below H7.out.1) (H7.out.2.1)).mono ?_); rintro e8 w8 ⟨he, k⟩
                   have he := he.true_ hc; subst he
                   have H8 := Lib.hid (And.intro (below_trans H7.out.1 k) (H7.out.2.2.below k)); clear k)
                | (go_at_call 43; (with_reducible refine (index43 (n := n) (x := cj a g) (by omega) (by rw [H3.out.2.2.2.2.1.2.2.2]; omega) H3.out.2.2.2.2.1.2.1 (H3.out.2.2.2.2.1.1.below (HY.out.2.1.trans (H6.out.1.mono hD))) H6.out.2.1).mono ?_); rintro e7 w7 ⟨ii, rfl, hi, k⟩
                   have H7 := Lib.hid (And.intro (below_trans H6.out.1 k) (And.intro (H6.out.2.1.below k) (H6.out.2.2.below k)))
                   have HI := Lib.hid hi; clear k hi))
              refine ⟨⟨k + 1, us, cs, _, _, rfl, rfl, by go_num, by omega, HY.out.1.below H8.out.1, HK2.out.1.old HK2.out.2.2.1 HK2.out.2.2.2 hc, all_step (y := cj a g) (b := true) (cs := cs) ⟨fun _ => HK2.out.2.1.1 trivial, fun _ => rfl⟩ (⟨fun h => ⟨rfl, ((hidx HI.out).1 h).2⟩, fun h => (hidx HI.out).2 ⟨trivial, h.2⟩⟩) (fun x => ⟨.inl, fun h => h.elim id (fun e => e ▸ hc)⟩), (HY.out.2.1.trans (H8.out.1.mono hD))⟩, by first | (simp [intOf]; done) | (simp [intOf]; omega)⟩
            · skip
              go_wp2_with (first
                | (at_builtin; refine app1 rfl (.tmp 62) (.tmp 64) 44 27 rfl i27 (.slice none 0 0) 24 Tryz.underlying44 I27.out.1 I27.out.2.1 I27.out.2.2.1 I27.out.2.2.2 rfl (by omega) V.heap.size (.slice (some ⟨xb, 0, none⟩) n xc) _ us rfl (HY.out.1.below H8.out.1).1 rfl rfl hlu (Nat.le_trans hD H8.out.1.size) ?_; intro v9 w9 k1 k2 k3; have H9 := Lib.hid (And.intro k1 (And.intro k2 k3)); clear k1 k2 k3)
                | (go_at_call 44; (with_reducible refine (has44 (n := n) (L := cs) (x := cj a g) (by omega) hcl (hpc.below H7.out.1) (H7.out.2.1)).mono ?_); rintro e8 w8 ⟨he, k⟩
                   have he := he.false_ hc; subst he
                   have H8 := Lib.hid (And.intro (below_trans H7.out.1 k) (H7.out.2.2.below k)); clear k)
                | (go_at_call 43; (with_reducible refine (index43 (n := n) (x := cj a g) (by omega) (by rw [H3.out.2.2.2.2.1.2.2.2]; omega) H3.out.2.2.2.2.1.2.1 (H3.out.2.2.2.2.1.1.below (HY.out.2.1.trans (H6.out.1.mono hD))) H6.out.2.1).mono ?_); rintro e7 w7 ⟨ii, rfl, hi, k⟩
                   have H7 := Lib.hid (And.intro (below_trans H6.out.1 k) (And.intro (H6.out.2.1.below k) (H6.out.2.2.below k)))
                   have HI := Lib.hid hi; clear k hi))
              refine ⟨⟨k + 1, us ++ [.slice (some ⟨xb, 0, none⟩) n xc], cs ++ [cj a g], _, _, rfl, rfl, by go_num, by omega, (HY.out.1.below H8.out.1).app H8.out.2 H9.out.1 H9.out.2.1 H9.out.2.2, HK2.out.1.new HK2.out.2.2.1 HK2.out.2.2.2 hc, all_step (y := cj a g) (b := true) (cs := cs) ⟨fun _ => HK2.out.2.1.1 trivial, fun _ => rfl⟩ (⟨fun h => ⟨rfl, ((hidx HI.out).1 h).2⟩, fun h => (hidx HI.out).2 ⟨trivial, h.2⟩⟩) (fun x => by rw [List.mem_append, List.mem_singleton]), ((HY.out.2.1.trans (H8.out.1.mono hD)).grown H9.out.2.1 (Nat.le_trans hD H8.out.1.size) (fun g e => (HY.out.1.1.block_lt e).2))⟩, by first | (simp [intOf]; done) | (simp [intOf]; omega)⟩
        · have hk1 : ¬ (k : Int) < N1 := by omega
          have hkN : k = N1 := by omega
          rw [hkN, ← H3.out.2.2.2.1.2.2.2] at hpr
          have HY := Lib.hid (And.intro hgl (And.intro (hpr.row HK.out.2.2.2.2) (And.intro hB hbr)))
          clear hgl hpr hB hbr
          go_wp2_with fail
          exact ⟨⟨i + 1, us, cs, _, B, rfl, rfl, by go_num, by omega, HY.out.1, HY.out.2.1, HY.out.2.2.1, HY.out.2.2.2⟩, by first | (simp [intOf]; done) | (simp [intOf]; omega)⟩
    · have hi1 : ¬ (i : Int) < N2 := by omega
      have hiN : i = N2 := by omega
      rw [hiN, ← H3.out.2.2.2.2.1.2.2.2] at hpr
      have hcl : cs.length ≤ 120 := Nat.le_trans (pm_card hpr.1) (fac_le5 H3.out.2.1.2)
      have hcs : ∀ x, x ∈ cs ↔ ∃ a g, Grp (· ∈ Ls) a ∧ Grp (· ∈ Lg) g ∧ x = cj a g := fun x => by
        rw [hpr.done x]
        constructor
        · rintro ⟨a, g, h1, h2, h3⟩
          exact ⟨a, g, (H3.out.2.2.2.2.1.2.2.1 a).1 h1, (H3.out.2.2.2.1.2.2.1 g).1 h2, h3⟩
        · rintro ⟨a, g, h1, h2, h3⟩
          exact ⟨a, g, (H3.out.2.2.2.2.1.2.2.1 a).2 h1, (H3.out.2.2.2.1.2.2.1 g).2 h2, h3⟩
      have hBn : B = true ↔ Nrm (Grp (· ∈ Ls)) (Grp (· ∈ Lg)) := by
        rw [hB]
        constructor
        · intro h x hx y hy
          exact (H3.out.2.2.2.2.1.2.2.1 _).1 (h _ ((hcs _).2 ⟨x, y, hx, hy, rfl⟩))
        · intro h x hx
          obtain ⟨a, g, h1, h2, rfl⟩ := (hcs x).1 hx
          exact (H3.out.2.2.2.2.1.2.2.1 _).2 (h a h1 g h2)
      obtain ⟨va, vc, rfl, _⟩ := hgl.1.row (by rw [hgl.len]; unfold maxLen; omega)
      have hpG := pms_ownB hgl.1 hgl.2.1 (by omega)
      have hus : cs.length = us.length := hgl.len.symm
      obtain ⟨ul, hul⟩ : ∃ u, us.length = u := ⟨_, rfl⟩
      rw [hul] at hpG hus ⊢
      have hn5 := H3.out.2.1
      have h45 : Calls Tryz.prog 45 #[.int .i64 (n : Int), .slice va ul vc, .int .i64 120] wr _ := elements45 (n := n) (most := 120) ⟨hn5.1, by omega⟩ hus (by omega) hpG (fac_le5 hn5.2) (by omega)
      have hz0 := (hbr.block Y (Array.getElem?_eq_some_iff.1 H3.out.2.2.2.2.2.2.1).1).trans H3.out.2.2.2.2.2.2.1
      have hz1 := (hbr.block (Y + 1) (Array.getElem?_eq_some_iff.1 H3.out.2.2.2.2.2.2.2).1).trans H3.out.2.2.2.2.2.2.2
      have hg1 := H3.out.2.2.2.2.2.1.1.below hbr
      have hg2 := H3.out.2.2.2.2.2.1.2.below hbr
      obtain ⟨x0, x1, x2, _⟩ := box_cells hz0
      obtain ⟨y0, y1, y2, _⟩ := box_cells hz1
      have hx6 := And.intro (And.intro x0 (And.intro x1 x2)) (And.intro (And.intro y0 (And.intro y1 y2)) (Below.refl wr.heap.size wr))
      have HK := Lib.hid (And.intro h45 (And.intro (And.intro hcs hBn) (And.intro (And.intro hg1 hg2) hbr)))
      clear hz0 hz1 hg1 hg2 hcs hBn h45 hpG hgl hpr hbr hcl hus hul hB
      go_wp2_with (first
        | (go_at_call 31; (with_reducible refine (same31g (n := n) (G := NcG (· ∈ L) (Grp (· ∈ Lg))) (G' := Grp (· ∈ Ls)) NcG.isG Grp.isG (H12.out.2.1.below (below_trans H13.out.2 H15.out.2)) (HK.out.2.2.1.2.below H15.out.1)).mono ?_); rintro e16 w16 ⟨⟨b16, rfl, hb⟩, k⟩
           obtain rfl : b16 = b13 := by rw [Bool.eq_iff_iff, hb, HK.out.2.1.2]; exact nc_same Grp.isG H11.out.2.2.2.1
           have H16 := Lib.hid (below_trans H15.out.1 k); clear k hb)
        | (go_at_call 47; (with_reducible refine (LstV.same (n := n) (G := NcG (· ∈ L) (Grp (· ∈ Lg))) hn5.2 H14.out.2.2 ((H10.out.2.below (below_trans (below_trans H11.out.2.2.2.2 H12.out.2.2.1) (below_trans H13.out.2 H14.out.2.1))).congr (fun x => (nc_conj Grp.isG H11.out.2.2.2.1 HK.out.2.1.1 x).symm))).mono ?_); rintro e15 w15 ⟨rfl, k⟩
           obtain ⟨⟨j0, j1, j2⟩, ⟨j3, j4, j5⟩, bj⟩ := keep6 hx6 (below_trans H14.out.1 k)
           have k13 := below_trans H14.out.2.1 k
           obtain ⟨f0, f1, f2, _⟩ := box_cells (((below_trans H13.out.2 k13).block Z (Array.getElem?_eq_some_iff.1 H12.out.2.2.2).1).trans H12.out.2.2.2)
           have H15 := Lib.hid (And.intro bj k13); clear k bj k13)
        | (go_at_call 48; (with_reducible refine (elements48 (n := n) (G := NcG (· ∈ L) (Grp (· ∈ Lg))) hn5 NcG.isG (H12.out.2.1.below H13.out.2)).mono ?_); rintro e14 w14 ⟨v14, rfl, hl, k⟩
           obtain ⟨⟨j0, j1, j2⟩, ⟨j3, j4, j5⟩, bj⟩ := keep6 hx6 (below_trans H13.out.1 k)
           have H14 := Lib.hid (And.intro bj (And.intro k hl)); clear k bj hl)
        | (go_at_call 25; (with_reducible refine (norm25 (n := n) (G1 := Grp (· ∈ Ls)) (G2 := Grp (· ∈ Lg)) ⟨hn5.1, by omega⟩ Grp.isG Grp.isG (HK.out.2.2.1.2.below H12.out.1) (HK.out.2.2.1.1.below H12.out.1)).mono ?_); rintro e13 w13 ⟨b13, rfl, hb, k⟩
           obtain rfl : b13 = B := by rw [Bool.eq_iff_iff, hb, HK.out.2.1.2]
           obtain ⟨⟨j0, j1, j2⟩, ⟨j3, j4, j5⟩, bj⟩ := keep6 hx6 (below_trans H12.out.1 k)
           obtain ⟨f0, f1, f2, _⟩ := box_cells ((k.block Z (Array.getElem?_eq_some_iff.1 H12.out.2.2.2).1).trans H12.out.2.2.2)
           have H13 := Lib.hid (And.intro bj k); clear k bj hb)
        | (go_at_call 32; (with_reducible refine (clos32 (n := n) (G := Grp (· ∈ Lg)) ⟨hn5.1, by omega⟩ Grp.isG (HK.out.2.2.1.1.below H11.out.1) H11.out.2.1 (by omega) H11.out.2.2.1).mono ?_); rintro e12 w12 ⟨a12, c12, b12, d12, rfl, k, hg⟩
           obtain ⟨Z, U12, V12, hY12, hU12, s0, s1, s2, s3, s4, s5, hV12, bw, z⟩ := stB (w := w12) (.int .i64 (n : Int)) (.slice a12 n c12) (.slice b12 n d12)
           obtain ⟨⟨p0, p1, p2⟩, ⟨p3, p4, p5⟩, bj⟩ := keep6 hx6 (below_trans H11.out.1 (below_trans k bw))
           have H12 := Lib.hid (And.intro bj (And.intro (((hg [] (by simp)).now).below bw) (And.intro (below_trans k bw) z)))
           unfold set3 at hV12
           clear k bw z hg bj)
        | (go_at_call 46; (with_reducible refine (strong46p (n := n) (G := Grp (· ∈ Ls)) ⟨hn5.1, by omega⟩ Grp.isG (HK.out.2.2.1.2.below H10.out.1)).mono ?_); rintro e11 w11 ⟨a11, m11, c11, L, rfl, k1, k2, k3, k4, k⟩
           obtain ⟨⟨p0, p1, p2⟩, ⟨p3, p4, p5⟩, bj⟩ := keep6 hx6 (below_trans H10.out.1 k)
           have H11 := Lib.hid (And.intro bj (And.intro k1 (And.intro k3 (And.intro k4 k)))); clear k1 k3 k4 k bj)
        | (go_at_call 45; (with_reducible refine HK.out.1.mono ?_); rintro e10 w10 ⟨v10, rfl, hE, k⟩
           obtain ⟨⟨p0, p1, p2⟩, ⟨p3, p4, p5⟩, bj⟩ := keep6 hx6 k
           have H10 := Lib.hid (And.intro k ((hE.lst (M := []) (by omega) (by simp)).now)); clear k hE bj))
      go_ret
      exact ⟨rfl, (H3.out.1.trans (HK.out.2.2.2.mono H3.out.1.size)).trans (H16.out.mono (Nat.le_trans H3.out.1.size HK.out.2.2.2.size))⟩
end Go.Proofs.YtbejhkojdiadaaaGreat
