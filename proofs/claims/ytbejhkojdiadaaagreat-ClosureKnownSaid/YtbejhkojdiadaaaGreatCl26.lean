/- Commutator: the reference's. · Normal: the reference's; the error roads of both sides. · Commutator and Core where the pair fails its checks. · Chapter 11: what both sides return for any two chains. · chain.Make: lists that are too long or hold a fault. -/
import Derived.Test.YtbejhkojdiadaaaGreatCl01
import Derived.Test.YtbejhkojdiadaaaGreatCl02
import Derived.Test.YtbejhkojdiadaaaGreatCl03
import Derived.Test.YtbejhkojdiadaaaGreatCl04
import Derived.Test.YtbejhkojdiadaaaGreatCl05
import Derived.Test.YtbejhkojdiadaaaGreatCl06
import Derived.Test.YtbejhkojdiadaaaGreatCl07
import Derived.Test.YtbejhkojdiadaaaGreatCl08
import Derived.Test.YtbejhkojdiadaaaGreatCl09
import Derived.Test.YtbejhkojdiadaaaGreatCl10
import Derived.Test.YtbejhkojdiadaaaGreatCl11
import Derived.Test.YtbejhkojdiadaaaGreatCl12
import Derived.Test.YtbejhkojdiadaaaGreatCl13
import Derived.Test.YtbejhkojdiadaaaGreatCl14
import Derived.Test.YtbejhkojdiadaaaGreatCl15
import Derived.Test.YtbejhkojdiadaaaGreatCl16
import Derived.Test.YtbejhkojdiadaaaGreatCl17
import Derived.Test.YtbejhkojdiadaaaGreatCl18
import Derived.Test.YtbejhkojdiadaaaGreatCl19
import Derived.Test.YtbejhkojdiadaaaGreatCl20
import Derived.Test.YtbejhkojdiadaaaGreatCl21
import Derived.Test.YtbejhkojdiadaaaGreatCl22
import Derived.Test.YtbejhkojdiadaaaGreatCl23
import Derived.Test.YtbejhkojdiadaaaGreatCl24
import Derived.Test.YtbejhkojdiadaaaGreatCl25
import Derived.Test.YtbejhkojdiadaaaGreatProg
import Derived.WalkKit
import Derived.WalkSpells
import Derived.BigQuiet
import Derived.Deep.QuietTactic
import Derived.Deep.LoopGhost
import Derived.Lib.Hide
import Derived.Maps.AppendAt
import Derived.Deep.AppendLies
import Derived.StillTailTactics
import Derived.Laws.CopyOwn
import Derived.Deep.OwnRows
import Derived.Deep.DeepCutAuto
import Derived.Laws.Cover3
import Derived.Deep.RegionHeld3
import Derived.RangeFuncRecord
import Derived.Lib.SlicesSearch
import Derived.RangeFuncBox
import Derived.RangeFuncLeaves
import Derived.RangeFuncWrites
import Derived.RangeFuncFrom
import Derived.Shelf.Abstract
import Derived.OwnWalkIn
import Derived.TacticsInMore
import Derived.LoopNIn
import Derived.LoopIn
import Derived.Shelf.GgSortFunc.Insertion
import Derived.Shelf.SlIter.Collect
import Derived.Shelf.Sort.Plain
import Derived.Deep.RegionLaw
import Derived.ControlIn
import Derived.Deep.AppendSrc
import Derived.Laws.BytesArg
import Derived.Maps.OwnSet
import Derived.Carry
import Derived.Maps.Range
set_option linter.unusedSimpArgs false
set_option linter.unusedVariables false
namespace Go.Proofs.YtbejhkojdiadaaaGreat
open Go.RowKit PlainPm
section
variable {n : Nat}
set_option maxRecDepth 100000 in
set_option maxHeartbeats 4000000 in
theorem comm28 (hn' : 0 < n ∧ n ≤ 8) {w : World} {v1 v2 : Value} {G1 G2 : Pm n → Prop} (g1 : IsG G1) (g2 : IsG G2) (h1 : GrG w v1 G1) (h2 : GrG w v2 G2) :
    Calls Tryz.prog 28 #[v1, v2] w fun e w' => ∃ a c b d, e = .returned (.tuple #[.agg #[.int .i64 (n : Int), .slice a n c, .slice b n d], .int .i64 0]) ∧ Below w.heap.size w w' ∧
      ∀ S, (∀ m ∈ S, m < w.heap.size) → GrS w' (.agg #[.int .i64 (n : Int), .slice a n c, .slice b n d]) (CmG G1 G2) S := by
  have hn : 0 < n ∧ n ≤ 64 := ⟨hn'.1, by omega⟩
  obtain ⟨i27, hi27, hz27, hs27, hb27⟩ := info_parts Tryz.info27
  have I27 := Lib.hid (And.intro hi27 (And.intro hz27 (And.intro hs27 hb27)))
  clear hi27 hz27 hs27 hb27
  obtain ⟨os1, rs1, os2, rs2, p1, p2, p3⟩ := GrG.pair0 hn g1 g2 h1 h2
  have hpr := fun (V : World) (hV : Below w.heap.size w V) => pair74 (p1.below hV) (p2.below hV)
  rw [p3] at hpr
  obtain ⟨_, _, ab, ao, c, bb, bo, e, hv1, _⟩ := h1.lev g1 ⟨hn.1, hn.2⟩
  obtain ⟨_, _, ab', ao', c', bb', bo', e', hv2, _⟩ := h2.lev g2 ⟨hn.1, hn.2⟩
  subst hv1
  subst hv2
  obtain ⟨T1, t1, ch1, _⟩ := h1.ch
  obtain ⟨T2, t2, ch2, _⟩ := h2.ch
  have l1 : ∀ V, Below w.heap.size w V → Calls Tryz.prog 46 #[cv n ab ao c bb bo e] V fun e w' => ∃ v us, e = .returned v ∧ Own w' V.heap.size v 27 us ∧ PmL w [] us (PlainPm.agen T1) ∧ us.length ≤ 4096 ∧ Below V.heap.size V w' := fun V hV => (strong46g hn g1 t1 ch1 hV).mono (by
    rintro e w' ⟨v, us, k0, k1, k2, k3, k4⟩
    exact ⟨v, us, k0, k1, pml_rv hn.1 k2, Nat.le_trans k3 (Nat.mul_le_mul hn.2 hn.2), k4⟩)
  have l2 : ∀ V, Below w.heap.size w V → Calls Tryz.prog 46 #[cv n ab' ao' c' bb' bo' e'] V fun e w' => ∃ v us, e = .returned v ∧ Own w' V.heap.size v 27 us ∧ PmL w [] us (PlainPm.agen T2) ∧ us.length ≤ 4096 ∧ Below V.heap.size V w' := fun V hV => (strong46g hn g2 t2 ch2 hV).mono (by
    rintro e w' ⟨v, us, k0, k1, k2, k3, k4⟩
    exact ⟨v, us, k0, k1, pml_rv hn.1 k2, Nat.le_trans k3 (Nat.mul_le_mul hn.2 hn.2), k4⟩)
  have hC1 := agen_grp g1 t1
  have hC2 := agen_grp g2 t2
  have hs1 := agen_len2 g1 t1
  have hs2 := agen_len2 g2 t2
  obtain ⟨A, hA⟩ : ∃ A, PlainPm.agen T1 = A := ⟨_, rfl⟩
  obtain ⟨B, hB⟩ : ∃ B, PlainPm.agen T2 = B := ⟨_, rfl⟩
  rw [hA] at l1 hC1 hs1
  rw [hB] at l2 hC2 hs2
  obtain ⟨X, hX⟩ : ∃ X, w.heap.size = X := ⟨_, rfl⟩
  obtain ⟨W1, hW1⟩ : ∃ W1, ((w.alloc (.cells #[.int .i64 (n : Int), .slice (some ⟨ab, ao, none⟩) n c, .slice (some ⟨bb, bo, none⟩) n e] 25)).alloc (.cells #[.int .i64 (n : Int), .slice (some ⟨ab', ao', none⟩) n c', .slice (some ⟨bb', bo', none⟩) n e'] 25)).alloc (.cells #[.int .i64 0, .slice none 0 0, .slice none 0 0] 25) = W1 := ⟨_, rfl⟩
  have hsz : W1.heap.size = X + 3 := by rw [← hW1]; simp [hX]
  have hwW : Below w.heap.size w W1 := hW1 ▸ alloc_b (alloc_b (alloc_b (Below.refl _ _) _) _) _
  have k0 : W1.heap[X]? = some (.cells #[.int .i64 (n : Int), .slice (some ⟨ab, ao, none⟩) n c, .slice (some ⟨bb, bo, none⟩) n e] 25) := by
    rw [← hW1]
    exact ((alloc_b (Below.refl _ _) _).block X (by simp; omega)).trans (((alloc_b (Below.refl _ _) _).block X (by simp; omega)).trans (box_al25 hX _ _ _))
  have k1 : W1.heap[X + 1]? = some (.cells #[.int .i64 (n : Int), .slice (some ⟨ab', ao', none⟩) n c', .slice (some ⟨bb', bo', none⟩) n e'] 25) := by
    rw [← hW1]
    exact ((alloc_b (Below.refl _ _) _).block (X + 1) (by simp; omega)).trans (box_al25 (by simp [hX]) _ _ _)
  have k2 : W1.heap[X + 2]? = some (.cells #[.int .i64 0, .slice none 0 0, .slice none 0 0] 25) := by
    rw [← hW1]
    exact box_al25 (by simp [hX]) _ _ _
  obtain ⟨x0, x1, x2, _⟩ := box_cells k0
  obtain ⟨y0, y1, y2, _⟩ := box_cells k1
  have HB := Lib.hid (And.intro k0 (And.intro k1 (And.intro k2 (And.intro hsz (And.intro hwW hX)))))
  have HC := Lib.hid (And.intro hpr (And.intro l1 (And.intro l2 (And.intro hC1 (And.intro hC2 (And.intro hs1 hs2))))))
  clear hpr l1 l2 hC1 hC2 hs1 hs2 k0 k1 k2 hsz hwW h1 h2 p1 p2 p3 t1 t2 hA hB
  go_enter Tryz.func28, Tryz.ntmps28
  try rw [hX]
  go_wp2_with (go_at_call 74; (with_reducible refine (HC.out.1 _ HB.out.2.2.2.2.1).mono ?_); rintro e0 w2 ⟨rfl, k1⟩; have H2 := Lib.hid k1; clear k1)
  obtain ⟨z0, z1, z2, _⟩ := box_cells ((H2.out.block X (by rw [HB.out.2.2.2.1]; omega)).trans HB.out.1)
  obtain ⟨z3, z4, z5, _⟩ := box_cells ((H2.out.block (X + 1) (by rw [HB.out.2.2.2.1]; omega)).trans HB.out.2.1)
  have hx0 := And.intro z0 (And.intro z1 (And.intro z2 (And.intro z3 (And.intro z4 (And.intro z5 (Below.refl w2.heap.size w2))))))
  have hX3 : X + 3 ≤ w2.heap.size := by have := H2.out.size; rw [HB.out.2.2.2.1] at this; exact this
  have hw2 : Below w.heap.size w w2 := below_trans HB.out.2.2.2.2.1 H2.out
  have HW2 := Lib.hid hw2
  clear hw2
  go_region_law
    (first
      | (go_simp; go_at_call 46; (with_reducible refine (HC.out.2.2.1 _ (below_trans HW2.out B4.out)).mono ?_)
         rintro e5 w5 ⟨v5, us5, rfl, k1, k2, k3, k4⟩
         obtain ⟨a5, c5, rfl, _⟩ := k1.row (by unfold maxLen; omega)
         have b5 : Below w2.heap.size w2 w5 := below_trans B4.out k4
         obtain ⟨j0, j1, j2, j3, j4, j5, _⟩ := keep6n hx0 b5
         have H5 := Lib.hid (And.intro k1 (And.intro k2 (And.intro k3 (And.intro k4 b5))))
         clear k1 k2 k3 k4 b5)
      | (go_simp; go_at_call 46; (with_reducible refine (HC.out.2.1 _ (below_trans HW2.out ?_)).mono ?_)
         first | exact Below.refl _ _ | exact below_drw (Below.refl _ _) | exact below_self_drewN _ _
         rintro e4 w4 ⟨v4, us4, rfl, k1, k2, k3, k4⟩
         obtain ⟨a4, c4, rfl, _⟩ := k1.row (by unfold maxLen; omega)
         have b4 : Below w2.heap.size w2 w4 := below_trans (by first | exact Below.refl _ _ | exact below_drw (Below.refl _ _) | exact below_self_drewN _ _) k4
         obtain ⟨i0, i1, i2, i3, i4, i5, _⟩ := keep6n hx0 b4
         have B4 := Lib.hid b4
         have H4 := Lib.hid (And.intro (k1.mono (show w2.heap.size ≤ _ from by first | exact Nat.le_refl _ | simp)) (And.intro k2 k3))
         clear k1 k2 k3 k4 b4))
  all_goals
    have hw5 : Below w.heap.size w w5 := below_trans HW2.out H5.out.2.2.2.2
    have la := H4.out.2.1.1
    have lb := H5.out.2.1.1
    obtain ⟨c55a, c55b, cap⟩ := cap8 hn'.2 HC.out.2.2.2.2.2.1 HC.out.2.2.2.2.2.2
    have PA : PmsV w5 [] (.slice a4 us4.length c4) A := pms_ownB (H4.out.1.below H5.out.2.2.2.1) (H4.out.2.1.below hw5) (by omega)
    have PB : PmsV w5 [] (.slice a5 us5.length c5) B := pms_ownB H5.out.1 (H5.out.2.1.below hw5) (by omega)
    obtain ⟨NA, hNA⟩ : ∃ N, us4.length = N := ⟨_, rfl⟩
    obtain ⟨NB, hNB⟩ : ∃ N, us5.length = N := ⟨_, rfl⟩
    obtain ⟨_, _, q4, hA63, hatA⟩ := pms_at PA
    simp only [Value.slice.injEq] at q4
    obtain ⟨rfl, -, rfl⟩ := q4
    obtain ⟨_, _, q5, hB63, hatB⟩ := pms_at PB
    simp only [Value.slice.injEq] at q5
    obtain ⟨rfl, -, rfl⟩ := q5
    rw [← la, hNA] at hA63
    rw [← lb, hNB] at hB63
    rw [hNA] at H4 ⊢
    rw [hNB] at H5 ⊢
    have HP := Lib.hid (And.intro hatA (And.intro hatB (And.intro (hNA.symm.trans la).symm (And.intro (hNB.symm.trans lb).symm (And.intro hw5 (And.intro cap (And.intro c55a c55b)))))))
    clear hatA hatB hNA hNB la lb hw5 PA PB cap c55a c55b
    obtain ⟨N1, hN1⟩ : ∃ N1, (Value.slice a4 NA c4).ownBlock.toList = N1 := ⟨_, rfl⟩
    have HN1 := Lib.hid hN1
    clear hN1
    go_wp2_with fail
    go_loopw [9, 10] (fun v i wr => ∃ (k : Nat) (us : List Value), k ≤ NA ∧ i = .int .i64 (k : Int) ∧ GrowL N1 wr w5.heap.size v us (cmL (A.take k) B) ∧ Below w5.heap.size w5 wr) (fun _ i _ => NA - (intOf i).toNat)
    case atStart => exact ⟨0, [], Nat.zero_le _, rfl, GrowL.nil _ (fun m hm => Nat.lt_of_lt_of_le (H4.out.1.block_lt (mem_ob.1 (HN1.out ▸ hm))).1 H5.out.2.2.2.1.size), Below.refl _ _⟩
    case round =>
      obtain ⟨k, us, hk, rfl, hgl, hbr⟩ := hrel
      obtain ⟨wo, rfl⟩ : ∃ wo, wo = wr := ⟨_, rfl⟩
      by_cases hka : k < NA
      · have hk1 : (k : Int) < NA := by omega
        obtain ⟨a, ha⟩ : ∃ a, A[k]? = some a := ⟨_, List.getElem?_eq_getElem (by rw [HP.out.2.2.1]; exact hka)⟩
        obtain ⟨g6, o6, u6, rfl, hc6, hp6⟩ := HP.out.1 k a ha
        have hc6o := (hbr.cell (block_lt_of_cell hc6)).trans hc6
        obtain ⟨b6b, b6o, b6c, rfl, _⟩ := id hp6
        have HK := Lib.hid (And.intro hgl (And.intro hbr (And.intro ha hp6)))
        clear hgl hbr ha hp6
        go_wp2_with fail
        go_loopw [9, 11] (fun v i wi => ∃ (m : Nat) (us : List Value), m ≤ NB ∧ i = .int .i64 (m : Int) ∧ GrowL N1 wi w5.heap.size v us (cmL (A.take k) B ++ (B.take m).map (cm a)) ∧ Below w5.heap.size w5 wi) (fun _ i _ => NB - (intOf i).toNat)
        case atStart => exact ⟨0, us, Nat.zero_le _, rfl, by rw [List.take_zero, List.map_nil, List.append_nil]; exact HK.out.1, HK.out.2.1⟩
        case round =>
          obtain ⟨m, us, hm, rfl, hgl, hbi⟩ := hrel
          by_cases hmb : m < NB
          · have hm1 : (m : Int) < NB := by omega
            obtain ⟨b, hb⟩ : ∃ b, B[m]? = some b := ⟨_, List.getElem?_eq_getElem (by rw [HP.out.2.2.2.1]; exact hmb)⟩
            obtain ⟨g7, o7, u7, rfl, hc7, hp7⟩ := HP.out.2.1 m b hb
            have hc7i := (hbi.cell (block_lt_of_cell hc7)).trans hc7
            have hc6i := (hbi.cell (block_lt_of_cell hc6)).trans hc6
            obtain ⟨b7b, b7o, b7c, rfl, _⟩ := id hp7
            have hlu : us.length < 1099511627776 := by
              have h1 := hgl.len
              rw [List.length_append, cmL_len, List.length_map] at h1
              have h2 : (A.take k).length * B.length ≤ A.length * B.length := Nat.mul_le_mul_right _ (by rw [List.length_take]; omega)
              have h3 : (B.take m).length ≤ B.length := by rw [List.length_take]; omega
              have h4 := HP.out.2.2.2.2.2
              omega
            have hD : w5.heap.size ≤ wr.heap.size := hbi.size
            have h81 := fun (V : World) (hV : Below wr.heap.size wr V) => px81 hn (HK.out.2.2.2.below (below_trans hbi hV)) (hp7.below (below_trans hbi hV))
            have hz0 := And.intro hc6i (And.intro hc7i (Below.refl wr.heap.size wr))
            have HY := Lib.hid (And.intro h81 (And.intro hgl (And.intro hbi hb)))
            clear h81 hgl hbi hb
            go_wp2_with fail
            go_region_held3 (fun V => V.cell? ⟨g6, o6 + k, none⟩ = some (.slice (some ⟨b6b, b6o, none⟩) n b6c) ∧ V.cell? ⟨g7, o7 + m, none⟩ = some (.slice (some ⟨b7b, b7o, none⟩) n b7c) ∧ Below wr.heap.size wr V)
              (first
                | with_reducible assumption
                | with_reducible exact hz0
                | exact keep2c hz0 (below_drw (Below.refl _ _))
                | exact keep2c hz0 (below_self_drewN _ _)
                | exact keep2c hz0 b6
                | fail)
              (first
                | (go_at_call 81; (with_reducible refine (HY.out.1 _ (by first | exact Below.refl _ _ | exact below_drw (Below.refl _ _) | exact below_self_drewN _ _)).mono ?_); rintro e6 w6 ⟨v6, rfl, k1, k2⟩; have b6 : Below wr.heap.size wr w6 := below_trans (by first | exact Below.refl _ _ | exact below_drw (Below.refl _ _) | exact below_self_drewN _ _) k2; have n6 : NewPm wr w6 v6 (cm a b) := NewPm.from k1 (by first | exact Nat.le_refl _ | simp [World.drew]); clear k1 k2))
            have hz6 := n6.growV HY.out.2.1
            obtain ⟨xb, xc, rfl, _⟩ := id n6
            have H6 := Lib.hid (And.intro b6 (And.intro hz6 hz6))
            clear hz6 n6
            go_wp2_with (at_builtin; refine app1 rfl (.tmp 49) (.tmp 51) 44 27 rfl i27 (.slice none 0 0) 24 Tryz.underlying44 I27.out.1 I27.out.2.1 I27.out.2.2.1 I27.out.2.2.2 rfl (by omega) w5.heap.size (.slice (some ⟨xb, 0, none⟩) n xc) _ us rfl (HY.out.2.1.below H6.out.1).1 rfl rfl hlu (Nat.le_trans hD H6.out.1.size) ?_; intro v8 w8 k1 k2 k3; have H8 := Lib.hid (And.intro k1 (And.intro k2 k3)); clear k1 k2 k3)
            refine ⟨⟨m + 1, us ++ [.slice (some ⟨xb, 0, none⟩) n xc], by omega, by go_num, ?_, ?_⟩, by simp [intOf]; omega⟩
            · have := (HY.out.2.1.below H6.out.1).app H6.out.2.1 H8.out.1 H8.out.2.1 H8.out.2.2
              rw [List.append_assoc] at this
              rw [List.take_add_one, HY.out.2.2.2, List.map_append]
              exact this
            · exact (HY.out.2.2.1.trans (H6.out.1.mono HY.out.2.2.1.size)).grown H8.out.2.1 (Nat.le_trans HY.out.2.2.1.size H6.out.1.size) (fun g e => (HY.out.2.1.1.block_lt e).2)
          · have hm1 : ¬ (m : Int) < NB := by omega
            have hmN : m = NB := by omega
            have HY := Lib.hid (And.intro hgl (And.intro hbi hmN))
            clear hgl hbi hmN
            go_wp2_with fail
            refine ⟨⟨k + 1, us, by omega, by go_num, ?_, HY.out.2.1⟩, by simp [intOf]; omega⟩
            rw [cmL_succ HK.out.2.2.1]
            have := HY.out.1
            rw [HY.out.2.2, ← HP.out.2.2.2.1, List.take_length] at this
            exact this
      · have hk1 : ¬ (k : Int) < NA := by omega
        have hkN : k = NA := by omega
        have hgl' := hgl
        rw [hkN, ← HP.out.2.2.1, List.take_length] at hgl'
        have lenA : us4.length = NA := H4.out.2.1.1.trans HP.out.2.2.1
        have lenB : us5.length = NB := H5.out.2.1.1.trans HP.out.2.2.2.1
        have rowB : Row wo a5 us5 := by
          obtain ⟨_, _, er, hr⟩ := H5.out.1.row (by rw [lenB]; have := HP.out.2.2.2.2.2.2.2; have := HP.out.2.2.2.1; unfold maxLen; omega)
          cases er
          exact hr.below hbr
        have o4 : Own wo w2.heap.size (.slice a4 NA c4) 27 us4 := (H4.out.1.below H5.out.2.2.2.1).below hbr
        have sz25 : w2.heap.size ≤ wo.heap.size := Nat.le_trans H5.out.2.2.2.2.size hbr.size
        have one5 : ∀ y ∈ us5, y.oneCell' = true := H5.out.2.1.one_
        have len45 : us4.length + NB < 1000000 := by have := HP.out.2.2.2.2.2.2.1; have := HP.out.2.2.2.2.2.2.2; have := HP.out.2.2.1; have := HP.out.2.2.2.1; omega
        have hXw : X < wo.heap.size := by omega
        have e0 := (hbr.cell (block_lt_of_cell j0)).trans j0
        have bwo : Below w.heap.size w wo := below_trans HP.out.2.2.2.2.1 hbr
        have b2o : Below w2.heap.size w2 wo := below_trans H5.out.2.2.2.2 hbr
        have HK := Lib.hid (And.intro hgl' (And.intro hbr (And.intro rowB (And.intro o4 (And.intro sz25 (And.intro one5 (And.intro bwo b2o)))))))
        clear hgl hgl' hbr rowB o4 sz25 one5 bwo b2o
        go_wp2_with fail
        go_region_law
          (first
            | (refine step_appR ?_ (.tmp 56) (.tmp 57) 44 27 ?_ i27 (.slice none 0 0) 24 Tryz.underlying44 I27.out.1 I27.out.2.1 I27.out.2.2.1 I27.out.2.2.2 ?_ ?_ w2.heap.size (.slice a4 NA c4) us4 us5 ?_ wo HK.out.2.2.2.1 a5 NB c5 ?_ HK.out.2.2.1 lenB HK.out.2.2.2.2.2.1 len45 HK.out.2.2.2.2.1 ?_ ?_
               rfl
               rfl
               rfl
               omega
               rfl
               rfl
               first | exact Below.refl _ _ | exact below_drw (Below.refl _ _) | exact below_self_drewN _ _
               intro v6 w6 k1 k2
               have b6 : Below w2.heap.size wo w6 := (Below.refl _ _).grown k2 HK.out.2.2.2.2.1 (fun g hg => (HK.out.2.2.2.1.block_lt hg).2)
               have bw6 : Below w.heap.size w w6 := HK.out.2.2.2.2.2.2.1.trans (b6.mono HW2.out.size)
               have e6 := (b6.cell (p := ⟨X, 0, none⟩) (show X < w2.heap.size by omega)).trans e0
               have in1 : ∀ g, (Value.slice a4 NA c4).ownBlock = some g → g ∈ N1 := fun g hg => HN1.out ▸ mem_ob.2 hg
               have ou6 : Own w6 w5.heap.size u9 27 us := HK.out.1.1.kept k2 (by
                 rcases HK.out.1.1.blk with h | ⟨g, cur, h, hge, _, _⟩
                 · exact .inl h
                 · refine .inr fun e => ?_
                   rw [h] at e
                   have q1 := (H4.out.1.block_lt e.symm).1
                   have q2 := H5.out.2.2.2.1.size
                   omega)
               have pu6 : PmL w6 (u9.ownBlock.toList ++ N1) us (cmL A B) := HK.out.1.2.1.stp ⟨Kept.ofGrown k2 (fun g e => List.mem_append_right _ (in1 g e)), fun m hm => .inl hm⟩
               have P6 := Lib.hid (And.intro (pms_ownB ou6 pu6.weakM (by rw [cmL_len]; have := HP.out.2.2.2.2.2.1; omega)) (And.intro (pms_ownB k1 (PmL.app (H4.out.2.1.below bw6) (H5.out.2.1.below bw6)) (by rw [List.length_append]; have := HP.out.2.2.2.2.2.2.1; have := HP.out.2.2.2.2.2.2.2; omega)) (And.intro bw6 b6)))
               clear k1 k2 b6 bw6 ou6 pu6 in1)
            | (go_simp; go_at_call 82; (with_reducible refine (clos82 (L := cmL A B) (B := A ++ B) hn ?_ ?_ P6.out.1 P6.out.2.1).mono ?_)
               rw [cmL_len]; have := HP.out.2.2.2.2.2.1; omega
               exact fun m hm => capB hn'.2 hm HP.out.2.2.2.2.2.2.1 HP.out.2.2.2.2.2.2.2
               rintro e7 w7 ⟨a7, c7, b7', d7, rfl, k2, k3⟩
               have hsz6 : X + 3 ≤ w6.heap.size := Nat.le_trans hX3 (Nat.le_trans HK.out.2.2.2.2.1 P6.out.2.2.2.size)
               have hg7 := k3 (List.range (X + 3)) (fun m hm => Nat.lt_of_lt_of_le (List.mem_range.1 hm) hsz6)
               have hr7 := (k2.block (X + 2) (by omega)).trans ((P6.out.2.2.2.block (X + 2) (by omega)).trans ((HK.out.2.2.2.2.2.2.2.block (X + 2) (by omega)).trans ((H2.out.block (X + 2) (by rw [HB.out.2.2.2.1]; omega)).trans HB.out.2.2.1)))
               obtain ⟨r0, r1, r2, r3, r4, r5⟩ := box_cells hr7
               have e7 := (k2.cell (p := ⟨X, 0, none⟩) (show X < w6.heap.size by omega)).trans e6
               have H7 := Lib.hid (And.intro hg7 (And.intro hr7 (below_trans P6.out.2.2.1 k2)))
               clear k2 k3 hg7 hr7))
        all_goals
          go_wp2_with fail
          have hfin : (set3 w7 (X + 1 + 1) (.int .i64 (n : Int)) (.slice a7 n c7) (.slice b7' n d7)).heap[X + 1 + 1]? = some (.cells #[.int .i64 (n : Int), .slice a7 n c7, .slice b7' n d7] 25) := set3_box H7.out.2.1
          obtain ⟨V, hV⟩ : ∃ V, set3 w7 (X + 1 + 1) (.int .i64 (n : Int)) (.slice a7 n c7) (.slice b7' n d7) = V := ⟨_, rfl⟩
          have hKp : Kept w7 V [X + 1 + 1] := hV ▸ set3_kept (by simp)
          rw [hV] at hfin
          unfold set3 at hV
          rw [hV]
          obtain ⟨f0, f1, f2, _⟩ := box_cells hfin
          refine bodyPost_ret (v := .tuple #[.agg #[.int .i64 (n : Int), .slice a7 n c7, .slice b7' n d7], .int .i64 0]) (by simp [results, Tryz.results28, go_sem, f0, f1, f2]) rfl ?_
          refine ⟨a7, c7, b7', d7, rfl, ?_, fun S hS => ?_⟩
          · have h1 := H7.out.2.2
            rw [HB.out.2.2.2.2.2] at h1
            have h2 := h1.size
            exact h1.trans (hKp.below1 (by omega) (by omega))
          · refine ((H7.out.1.kept (hKp.mono (fun q hq => ?_))).congr (cmL_nc g1 g2 HC.out.2.2.2.1 HC.out.2.2.2.2.1)).ext (fun q hq => .inl ?_)
            · rw [List.mem_singleton.1 hq]
              exact List.mem_range.2 (by omega)
            · have := hS q hq
              exact List.mem_range.2 (by omega)
end
end Go.Proofs.YtbejhkojdiadaaaGreat
namespace Go.Proofs.YtbejhkojdiadaaaGreat
open Go.RowKit PlainPm
section
variable {n : Nat}
set_option maxRecDepth 100000 in
set_option maxHeartbeats 2000000 in
theorem norm26 (hn : 0 < n ∧ n ≤ 64) {w : World} {v1 v2 : Value} {G1 G2 : Pm n → Prop} (g1 : IsG G1) (g2 : IsG G2) (h1 : GrG w v1 G1) (h2 : GrG w v2 G2) :
    Calls Tryz.prog 26 #[v1, v2] w fun e w' => ∃ b : Bool, e = .returned (.tuple #[.bool b, .int .i64 0]) ∧ (b = true ↔ Nrm G1 G2) ∧ Below w.heap.size w w' := by
  obtain ⟨os1, rs1, os2, rs2, p1, p2, p3⟩ := GrG.pair0 hn g1 g2 h1 h2
  have hpr := fun (V : World) (hV : Below w.heap.size w V) => pair74 (p1.below hV) (p2.below hV)
  rw [p3] at hpr
  have hnr := fun (V : World) (hV : Below w.heap.size w V) => norm78 hn g1 g2 (h1.below hV) (h2.below hV)
  obtain ⟨a1, c1, b1, e1, rfl⟩ := h1.form
  obtain ⟨a2, c2, b2, e2, rfl⟩ := h2.form
  obtain ⟨X, hX⟩ : ∃ X, w.heap.size = X := ⟨_, rfl⟩
  obtain ⟨W1, hW1⟩ : ∃ W1, (w.alloc (.cells #[.int .i64 (n : Int), .slice a1 n c1, .slice b1 n e1] 25)).alloc (.cells #[.int .i64 (n : Int), .slice a2 n c2, .slice b2 n e2] 25) = W1 := ⟨_, rfl⟩
  have hwW : Below w.heap.size w W1 := hW1 ▸ alloc_b (alloc_b (Below.refl _ _) _) _
  have k0 : W1.heap[X]? = some (.cells #[.int .i64 (n : Int), .slice a1 n c1, .slice b1 n e1] 25) := by
    rw [← hW1]
    exact ((alloc_b (Below.refl _ _) _).block X (by simp; omega)).trans (box_al25 hX _ _ _)
  have k1 : W1.heap[X + 1]? = some (.cells #[.int .i64 (n : Int), .slice a2 n c2, .slice b2 n e2] 25) := by
    rw [← hW1]
    exact box_al25 (by simp [hX]) _ _ _
  obtain ⟨x0, x1, x2, _⟩ := box_cells k0
  obtain ⟨y0, y1, y2, _⟩ := box_cells k1
  have hx0 := And.intro x0 (And.intro x1 (And.intro x2 (And.intro y0 (And.intro y1 (And.intro y2 (Below.refl W1.heap.size W1))))))
  have H := Lib.hid (And.intro hpr (And.intro hnr hwW))
  clear hpr hnr hwW k0 k1 h1 h2 p1 p2 p3
  go_enter Tryz.func26, Tryz.ntmps26
  try simp only [hX]
  go_wp2_with (first
    | (go_at_call 78; (with_reducible refine (H.out.2.1 _ (below_trans H.out.2.2 H2.out)).mono ?_); rintro e3 w3 ⟨⟨B, rfl, hB⟩, k⟩; have H3 := Lib.hid (And.intro hB k); clear hB k)
    | (go_at_call 74; (with_reducible refine (H.out.1 _ H.out.2.2).mono ?_); rintro e2 w2 ⟨rfl, k⟩; obtain ⟨z0, z1, z2, z3, z4, z5, _⟩ := keep6n hx0 k; have H2 := Lib.hid k; clear k))
  go_ret2
  exact ⟨B, rfl, H3.out.1, by have h := below_trans (below_trans H.out.2.2 H2.out) H3.out.2; rwa [hX] at h⟩
end
section
variable {w : World} {v1 v2 : Value} {d1 d2 : Int} {os1 os2 : List (List Int)} {rs1 rs2 : List (List (List Int))}
set_option maxRecDepth 100000 in
set_option maxHeartbeats 2000000 in
theorem norm26e (h1 : ChV w v1 d1 os1 rs1) (h2 : ChV w v2 d2 os2 rs2) (hE : pairE d1 os1 rs1 d2 os2 rs2 ≠ 0) :
    Calls Tryz.prog 26 #[v1, v2] w fun e w' => e = .returned (.tuple #[.bool false, .int .i64 (pairE d1 os1 rs1 d2 os2 rs2)]) ∧ Below w.heap.size w w' := by
  have hpr := fun (V : World) (hV : Below w.heap.size w V) => pair74 (h1.below hV) (h2.below hV)
  obtain ⟨r, hr⟩ : ∃ r, pairE d1 os1 rs1 d2 os2 rs2 = r := ⟨_, rfl⟩
  rw [hr] at hpr hE ⊢
  have hne : (r != 0) = true := by simp [hE]
  obtain ⟨a1, c1, b1, e1, rfl, _⟩ := h1
  obtain ⟨a2, c2, b2, e2, rfl, _⟩ := h2
  obtain ⟨X, hX⟩ : ∃ X, w.heap.size = X := ⟨_, rfl⟩
  obtain ⟨W1, hW1⟩ : ∃ W1, (w.alloc (.cells #[.int .i64 d1, .slice a1 os1.length c1, .slice b1 rs1.length e1] 25)).alloc (.cells #[.int .i64 d2, .slice a2 os2.length c2, .slice b2 rs2.length e2] 25) = W1 := ⟨_, rfl⟩
  have hwW : Below w.heap.size w W1 := hW1 ▸ alloc_b (alloc_b (Below.refl _ _) _) _
  have k0 : W1.heap[X]? = some (.cells #[.int .i64 d1, .slice a1 os1.length c1, .slice b1 rs1.length e1] 25) := by
    rw [← hW1]
    exact ((alloc_b (Below.refl _ _) _).block X (by simp; omega)).trans (box_al25 hX _ _ _)
  have k1 : W1.heap[X + 1]? = some (.cells #[.int .i64 d2, .slice a2 os2.length c2, .slice b2 rs2.length e2] 25) := by
    rw [← hW1]
    exact box_al25 (by simp [hX]) _ _ _
  obtain ⟨x0, x1, x2, _⟩ := box_cells k0
  obtain ⟨y0, y1, y2, _⟩ := box_cells k1
  have H := Lib.hid (And.intro hpr hwW)
  clear hpr hwW k0 k1 hr hE
  go_enter Tryz.func26, Tryz.ntmps26
  try simp only [hX]
  go_wp2_with (go_at_call 74; (with_reducible refine (H.out.1 _ H.out.2).mono ?_); rintro e2 w2 ⟨rfl, k⟩; have H2 := Lib.hid k; clear k)
  go_ret2
  exact ⟨rfl, by have h := below_trans H.out.2 H2.out; rwa [hX] at h⟩
set_option maxRecDepth 100000 in
set_option maxHeartbeats 2000000 in
theorem norm25e (h1 : ChV w v1 d1 os1 rs1) (h2 : ChV w v2 d2 os2 rs2) (hE : pairE d1 os1 rs1 d2 os2 rs2 ≠ 0) :
    Calls Tryz.prog 25 #[v1, v2] w fun e w' => e = .returned (.tuple #[.bool false, .int .i64 (pairE d1 os1 rs1 d2 os2 rs2)]) ∧ Below w.heap.size w w' := by
  have hpr := fun (V : World) (hV : Below w.heap.size w V) => pair70 (h1.below hV) (h2.below hV)
  obtain ⟨r, hr⟩ : ∃ r, pairE d1 os1 rs1 d2 os2 rs2 = r := ⟨_, rfl⟩
  rw [hr] at hpr hE ⊢
  have hne : (r != 0) = true := by simp [hE]
  obtain ⟨a1, c1, b1, e1, rfl, _⟩ := h1
  obtain ⟨a2, c2, b2, e2, rfl, _⟩ := h2
  obtain ⟨X, hX⟩ : ∃ X, w.heap.size = X := ⟨_, rfl⟩
  obtain ⟨W1, hW1⟩ : ∃ W1, ((((w.alloc (.cells #[.int .i64 d1, .slice a1 os1.length c1, .slice b1 rs1.length e1] 25)).alloc (.cells #[.int .i64 d2, .slice a2 os2.length c2, .slice b2 rs2.length e2] 25)).alloc (.cells #[.bool false] 4)).alloc (.cells #[.int .i64 0] 30)) = W1 := ⟨_, rfl⟩
  have hwW : Below w.heap.size w W1 := hW1 ▸ alloc_b (alloc_b (alloc_b (alloc_b (Below.refl _ _) _) _) _) _
  have hsz : W1.heap.size = X + 4 := by rw [← hW1]; simp [hX]
  have k0 : W1.heap[X]? = some (.cells #[.int .i64 d1, .slice a1 os1.length c1, .slice b1 rs1.length e1] 25) := by
    rw [← hW1]
    exact ((alloc_b (alloc_b (alloc_b (Below.refl _ _) _) _) _).block X (by simp; omega)).trans (box_al25 hX _ _ _)
  have k1 : W1.heap[X + 1]? = some (.cells #[.int .i64 d2, .slice a2 os2.length c2, .slice b2 rs2.length e2] 25) := by
    rw [← hW1]
    exact ((alloc_b (alloc_b (Below.refl _ _) _) _).block (X + 1) (by simp; omega)).trans (box_al25 (by simp [hX]) _ _ _)
  have k2 : W1.heap[X + 1 + 1]? = some (.cells #[.bool false] 4) := by
    rw [← hW1]
    exact ((alloc_b (Below.refl _ _) _).block (X + 2) (by simp; omega)).trans (al_at (by simp [hX]) _)
  have k3 : W1.heap[X + 1 + 1 + 1]? = some (.cells #[.int .i64 0] 30) := by
    rw [← hW1]
    exact al_at (by simp [hX]) _
  obtain ⟨x0, x1, x2, _⟩ := box_cells k0
  obtain ⟨y0, y1, y2, _⟩ := box_cells k1
  have H := Lib.hid (And.intro hpr (And.intro hwW (And.intro k2 (And.intro k3 hsz))))
  clear hpr hwW k0 k1 k2 k3 hr hE hsz
  go_enter Tryz.func25, Tryz.ntmps25
  try simp only [hX]
  go_wp2_with (go_at_call 70; (with_reducible refine (H.out.1 _ H.out.2.1).mono ?_); rintro e2 w2 ⟨rfl, k⟩
               have r2 := (k.block (X + 1 + 1) (by have := H.out.2.2.2.2; omega)).trans H.out.2.2.1
               have r3 := (k.block (X + 1 + 1 + 1) (by have := H.out.2.2.2.2; omega)).trans H.out.2.2.2.1
               obtain ⟨r2c, r2f⟩ := box1_cells r2
               obtain ⟨r3c, r3f⟩ := box1_cells r3
               have H2 := Lib.hid (And.intro k (And.intro r2 r3)); clear k r2 r3)
  obtain ⟨q2, q3, qk, qo⟩ := two_set (v := .bool false) (u := .int .i64 r) H2.out.2.1 H2.out.2.2
  obtain ⟨W6, hW6⟩ : ∃ W6, (w2.setCell ⟨X + 1 + 1, 0, none⟩ (.bool false)).setCell ⟨X + 1 + 1 + 1, 0, none⟩ (.int .i64 r) = W6 := ⟨_, rfl⟩
  rw [hW6] at q2 q3 qk qo ⊢
  obtain ⟨c2', _⟩ := box1_cells q2
  obtain ⟨c3', _⟩ := box1_cells q3
  refine bodyPost_ret (v := .tuple #[.bool false, .int .i64 r]) (by simp [results, Tryz.results25, go_sem, c2', c3']) rfl ?_
  refine ⟨rfl, ?_⟩
  have h := below_trans H.out.2.1 H2.out.1
  have h2 := h.size
  have h3 := h.trans (qk.below (D := w.heap.size) h2 (fun m hm => by
    rcases List.mem_cons.1 hm with e | hm
    · omega
    · rw [List.mem_singleton.1 hm]; omega))
  rwa [hX] at h3
end
end Go.Proofs.YtbejhkojdiadaaaGreat
namespace Go.Proofs.YtbejhkojdiadaaaGreat
open Go.RowKit PlainPm
set_option maxRecDepth 100000 in
set_option maxHeartbeats 2000000 in
theorem comm27e {w : World} {v1 v2 : Value} {d1 d2 : Int} {os1 os2 : List (List Int)} {rs1 rs2 : List (List (List Int))} (h1 : ChV w v1 d1 os1 rs1) (h2 : ChV w v2 d2 os2 rs2) (hE : pairE d1 os1 rs1 d2 os2 rs2 ≠ 0) :
    Calls Tryz.prog 27 #[v1, v2] w fun e w' => e = .returned (.tuple #[.agg #[.int .i64 0, .slice none 0 0, .slice none 0 0], .int .i64 (pairE d1 os1 rs1 d2 os2 rs2)]) ∧ Below w.heap.size w w' := by
  have hpr := fun (V : World) (hV : Below w.heap.size w V) => pair70 (h1.below hV) (h2.below hV)
  obtain ⟨r, hr⟩ : ∃ r, pairE d1 os1 rs1 d2 os2 rs2 = r := ⟨_, rfl⟩
  rw [hr] at hpr hE ⊢
  have hne : (r != 0) = true := by simp [hE]
  obtain ⟨a1, b1, c1, e1, rfl, _⟩ := h1
  obtain ⟨a2, b2, c2, e2, rfl, _⟩ := h2
  obtain ⟨X, hX⟩ : ∃ X, w.heap.size = X := ⟨_, rfl⟩
  obtain ⟨W1, hW1⟩ : ∃ W1, ((w.alloc (.cells #[.int .i64 d1, .slice a1 os1.length b1, .slice c1 rs1.length e1] 25)).alloc (.cells #[.int .i64 d2, .slice a2 os2.length b2, .slice c2 rs2.length e2] 25)).alloc (.cells #[.int .i64 0, .slice none 0 0, .slice none 0 0] 25) = W1 := ⟨_, rfl⟩
  have hsz : W1.heap.size = X + 3 := by rw [← hW1]; simp [hX]
  have hwW : Below w.heap.size w W1 := hW1 ▸ alloc_b (alloc_b (alloc_b (Below.refl _ _) _) _) _
  have k0 : W1.heap[X]? = some (.cells #[.int .i64 d1, .slice a1 os1.length b1, .slice c1 rs1.length e1] 25) := by
    rw [← hW1]
    exact ((alloc_b (Below.refl _ _) _).block X (by simp; omega)).trans (((alloc_b (Below.refl _ _) _).block X (by simp; omega)).trans (box_al25 hX _ _ _))
  have k1 : W1.heap[X + 1]? = some (.cells #[.int .i64 d2, .slice a2 os2.length b2, .slice c2 rs2.length e2] 25) := by
    rw [← hW1]
    exact ((alloc_b (Below.refl _ _) _).block (X + 1) (by simp; omega)).trans (box_al25 (by simp [hX]) _ _ _)
  have k2 : W1.heap[X + 1 + 1]? = some (.cells #[.int .i64 0, .slice none 0 0, .slice none 0 0] 25) := by
    rw [← hW1]
    exact box_al25 (by simp [hX]) _ _ _
  obtain ⟨x0, x1, x2, _⟩ := box_cells k0
  obtain ⟨y0, y1, y2, _⟩ := box_cells k1
  have HB := Lib.hid (And.intro hpr (And.intro k2 (And.intro hsz (And.intro hwW (And.intro hX hr)))))
  clear hpr k0 k1 k2 hsz hwW hr hE
  go_enter Tryz.func27, Tryz.ntmps27
  try rw [hX]
  go_wp2_with (go_at_call 70; (with_reducible refine (HB.out.1 _ HB.out.2.2.2.1).mono ?_); rintro e0 w2 ⟨rfl, k1⟩; have h9 := (k1.block (X + 1 + 1) (by rw [HB.out.2.2.1]; omega)).trans HB.out.2.1; obtain ⟨r0, r1, r2, r3, r4, r5⟩ := box_cells h9; have H2 := Lib.hid (And.intro k1 h9); clear k1 h9)
  have hfin : (set3 w2 (X + 1 + 1) (.int .i64 0) (.slice none 0 0) (.slice none 0 0)).heap[X + 1 + 1]? = some (.cells #[.int .i64 0, .slice none 0 0, .slice none 0 0] 25) := set3_box H2.out.2
  obtain ⟨V, hV⟩ : ∃ V, set3 w2 (X + 1 + 1) (.int .i64 0) (.slice none 0 0) (.slice none 0 0) = V := ⟨_, rfl⟩
  have hKp : Kept w2 V [X + 1 + 1] := hV ▸ set3_kept (by simp)
  rw [hV] at hfin
  unfold set3 at hV
  rw [hV]
  obtain ⟨f0, f1, f2, _⟩ := box_cells hfin
  refine bodyPost_ret (v := .tuple #[.agg #[.int .i64 0, .slice none 0 0, .slice none 0 0], .int .i64 r]) (by simp [results, Tryz.results27, go_sem, f0, f1, f2]) rfl ?_
  refine ⟨rfl, ?_⟩
  have h1 := below_trans HB.out.2.2.2.1 H2.out.1
  rw [HB.out.2.2.2.2.1] at h1
  have h2 := h1.size
  exact h1.trans (hKp.below1 (by have := H2.out.1.size; rw [HB.out.2.2.1] at this; omega) (by omega))
set_option maxRecDepth 100000 in
set_option maxHeartbeats 2000000 in
theorem comm28e {w : World} {v1 v2 : Value} {d1 d2 : Int} {os1 os2 : List (List Int)} {rs1 rs2 : List (List (List Int))} (h1 : ChV w v1 d1 os1 rs1) (h2 : ChV w v2 d2 os2 rs2) (hE : pairE d1 os1 rs1 d2 os2 rs2 ≠ 0) :
    Calls Tryz.prog 28 #[v1, v2] w fun e w' => e = .returned (.tuple #[.agg #[.int .i64 0, .slice none 0 0, .slice none 0 0], .int .i64 (pairE d1 os1 rs1 d2 os2 rs2)]) ∧ Below w.heap.size w w' := by
  have hpr := fun (V : World) (hV : Below w.heap.size w V) => pair74 (h1.below hV) (h2.below hV)
  obtain ⟨r, hr⟩ : ∃ r, pairE d1 os1 rs1 d2 os2 rs2 = r := ⟨_, rfl⟩
  rw [hr] at hpr hE ⊢
  have hne : (r != 0) = true := by simp [hE]
  obtain ⟨a1, b1, c1, e1, rfl, _⟩ := h1
  obtain ⟨a2, b2, c2, e2, rfl, _⟩ := h2
  obtain ⟨X, hX⟩ : ∃ X, w.heap.size = X := ⟨_, rfl⟩
  obtain ⟨W1, hW1⟩ : ∃ W1, ((w.alloc (.cells #[.int .i64 d1, .slice a1 os1.length b1, .slice c1 rs1.length e1] 25)).alloc (.cells #[.int .i64 d2, .slice a2 os2.length b2, .slice c2 rs2.length e2] 25)).alloc (.cells #[.int .i64 0, .slice none 0 0, .slice none 0 0] 25) = W1 := ⟨_, rfl⟩
  have hsz : W1.heap.size = X + 3 := by rw [← hW1]; simp [hX]
  have hwW : Below w.heap.size w W1 := hW1 ▸ alloc_b (alloc_b (alloc_b (Below.refl _ _) _) _) _
  have k0 : W1.heap[X]? = some (.cells #[.int .i64 d1, .slice a1 os1.length b1, .slice c1 rs1.length e1] 25) := by
    rw [← hW1]
    exact ((alloc_b (Below.refl _ _) _).block X (by simp; omega)).trans (((alloc_b (Below.refl _ _) _).block X (by simp; omega)).trans (box_al25 hX _ _ _))
  have k1 : W1.heap[X + 1]? = some (.cells #[.int .i64 d2, .slice a2 os2.length b2, .slice c2 rs2.length e2] 25) := by
    rw [← hW1]
    exact ((alloc_b (Below.refl _ _) _).block (X + 1) (by simp; omega)).trans (box_al25 (by simp [hX]) _ _ _)
  have k2 : W1.heap[X + 1 + 1]? = some (.cells #[.int .i64 0, .slice none 0 0, .slice none 0 0] 25) := by
    rw [← hW1]
    exact box_al25 (by simp [hX]) _ _ _
  obtain ⟨x0, x1, x2, _⟩ := box_cells k0
  obtain ⟨y0, y1, y2, _⟩ := box_cells k1
  have HB := Lib.hid (And.intro hpr (And.intro k2 (And.intro hsz (And.intro hwW (And.intro hX hr)))))
  clear hpr k0 k1 k2 hsz hwW hr hE
  go_enter Tryz.func28, Tryz.ntmps28
  try rw [hX]
  go_wp2_with (go_at_call 74; (with_reducible refine (HB.out.1 _ HB.out.2.2.2.1).mono ?_); rintro e0 w2 ⟨rfl, k1⟩; have h9 := (k1.block (X + 1 + 1) (by rw [HB.out.2.2.1]; omega)).trans HB.out.2.1; obtain ⟨r0, r1, r2, r3, r4, r5⟩ := box_cells h9; have H2 := Lib.hid (And.intro k1 h9); clear k1 h9)
  have hfin : (set3 w2 (X + 1 + 1) (.int .i64 0) (.slice none 0 0) (.slice none 0 0)).heap[X + 1 + 1]? = some (.cells #[.int .i64 0, .slice none 0 0, .slice none 0 0] 25) := set3_box H2.out.2
  obtain ⟨V, hV⟩ : ∃ V, set3 w2 (X + 1 + 1) (.int .i64 0) (.slice none 0 0) (.slice none 0 0) = V := ⟨_, rfl⟩
  have hKp : Kept w2 V [X + 1 + 1] := hV ▸ set3_kept (by simp)
  rw [hV] at hfin
  unfold set3 at hV
  rw [hV]
  obtain ⟨f0, f1, f2, _⟩ := box_cells hfin
  refine bodyPost_ret (v := .tuple #[.agg #[.int .i64 0, .slice none 0 0, .slice none 0 0], .int .i64 r]) (by simp [results, Tryz.results28, go_sem, f0, f1, f2]) rfl ?_
  refine ⟨rfl, ?_⟩
  have h1 := below_trans HB.out.2.2.2.1 H2.out.1
  rw [HB.out.2.2.2.2.1] at h1
  have h2 := h1.size
  exact h1.trans (hKp.below1 (by have := H2.out.1.size; rw [HB.out.2.2.1] at this; omega) (by omega))
set_option maxRecDepth 100000 in
set_option maxHeartbeats 2000000 in
theorem core29e {w : World} {v1 v2 : Value} {d1 d2 : Int} {os1 os2 : List (List Int)} {rs1 rs2 : List (List (List Int))} (h1 : ChV w v1 d1 os1 rs1) (h2 : ChV w v2 d2 os2 rs2) (hE : pairE d1 os1 rs1 d2 os2 rs2 ≠ 0) :
    Calls Tryz.prog 29 #[v1, v2] w fun e w' => e = .returned (.tuple #[.agg #[.int .i64 0, .slice none 0 0, .slice none 0 0], .int .i64 (pairE d1 os1 rs1 d2 os2 rs2)]) ∧ Below w.heap.size w w' := by
  have hpr := fun (V : World) (hV : Below w.heap.size w V) => pair70 (h1.below hV) (h2.below hV)
  obtain ⟨r, hr⟩ : ∃ r, pairE d1 os1 rs1 d2 os2 rs2 = r := ⟨_, rfl⟩
  rw [hr] at hpr hE ⊢
  have hne : (r != 0) = true := by simp [hE]
  obtain ⟨a1, b1, c1, e1, rfl, _⟩ := h1
  obtain ⟨a2, b2, c2, e2, rfl, _⟩ := h2
  obtain ⟨X, hX⟩ : ∃ X, w.heap.size = X := ⟨_, rfl⟩
  obtain ⟨W1, hW1⟩ : ∃ W1, ((w.alloc (.cells #[.int .i64 d1, .slice a1 os1.length b1, .slice c1 rs1.length e1] 25)).alloc (.cells #[.int .i64 d2, .slice a2 os2.length b2, .slice c2 rs2.length e2] 25)).alloc (.cells #[.int .i64 0, .slice none 0 0, .slice none 0 0] 25) = W1 := ⟨_, rfl⟩
  have hsz : W1.heap.size = X + 3 := by rw [← hW1]; simp [hX]
  have hwW : Below w.heap.size w W1 := hW1 ▸ alloc_b (alloc_b (alloc_b (Below.refl _ _) _) _) _
  have k0 : W1.heap[X]? = some (.cells #[.int .i64 d1, .slice a1 os1.length b1, .slice c1 rs1.length e1] 25) := by
    rw [← hW1]
    exact ((alloc_b (Below.refl _ _) _).block X (by simp; omega)).trans (((alloc_b (Below.refl _ _) _).block X (by simp; omega)).trans (box_al25 hX _ _ _))
  have k1 : W1.heap[X + 1]? = some (.cells #[.int .i64 d2, .slice a2 os2.length b2, .slice c2 rs2.length e2] 25) := by
    rw [← hW1]
    exact ((alloc_b (Below.refl _ _) _).block (X + 1) (by simp; omega)).trans (box_al25 (by simp [hX]) _ _ _)
  have k2 : W1.heap[X + 1 + 1]? = some (.cells #[.int .i64 0, .slice none 0 0, .slice none 0 0] 25) := by
    rw [← hW1]
    exact box_al25 (by simp [hX]) _ _ _
  obtain ⟨x0, x1, x2, _⟩ := box_cells k0
  obtain ⟨y0, y1, y2, _⟩ := box_cells k1
  have HB := Lib.hid (And.intro hpr (And.intro k2 (And.intro hsz (And.intro hwW (And.intro hX hr)))))
  clear hpr k0 k1 k2 hsz hwW hr hE
  go_enter Tryz.func29, Tryz.ntmps29
  try rw [hX]
  go_wp2_with (go_at_call 70; (with_reducible refine (HB.out.1 _ HB.out.2.2.2.1).mono ?_); rintro e0 w2 ⟨rfl, k1⟩; have h9 := (k1.block (X + 1 + 1) (by rw [HB.out.2.2.1]; omega)).trans HB.out.2.1; obtain ⟨r0, r1, r2, r3, r4, r5⟩ := box_cells h9; have H2 := Lib.hid (And.intro k1 h9); clear k1 h9)
  have hfin : (set3 w2 (X + 1 + 1) (.int .i64 0) (.slice none 0 0) (.slice none 0 0)).heap[X + 1 + 1]? = some (.cells #[.int .i64 0, .slice none 0 0, .slice none 0 0] 25) := set3_box H2.out.2
  obtain ⟨V, hV⟩ : ∃ V, set3 w2 (X + 1 + 1) (.int .i64 0) (.slice none 0 0) (.slice none 0 0) = V := ⟨_, rfl⟩
  have hKp : Kept w2 V [X + 1 + 1] := hV ▸ set3_kept (by simp)
  rw [hV] at hfin
  unfold set3 at hV
  rw [hV]
  obtain ⟨f0, f1, f2, _⟩ := box_cells hfin
  refine bodyPost_ret (v := .tuple #[.agg #[.int .i64 0, .slice none 0 0, .slice none 0 0], .int .i64 r]) (by simp [results, Tryz.results29, go_sem, f0, f1, f2]) rfl ?_
  refine ⟨rfl, ?_⟩
  have h1 := below_trans HB.out.2.2.2.1 H2.out.1
  rw [HB.out.2.2.2.2.1] at h1
  have h2 := h1.size
  exact h1.trans (hKp.below1 (by have := H2.out.1.size; rw [HB.out.2.2.1] at this; omega) (by omega))
set_option maxRecDepth 100000 in
set_option maxHeartbeats 2000000 in
theorem core30e {w : World} {v1 v2 : Value} {d1 d2 : Int} {os1 os2 : List (List Int)} {rs1 rs2 : List (List (List Int))} (h1 : ChV w v1 d1 os1 rs1) (h2 : ChV w v2 d2 os2 rs2) (hE : pairE d1 os1 rs1 d2 os2 rs2 ≠ 0) :
    Calls Tryz.prog 30 #[v1, v2] w fun e w' => e = .returned (.tuple #[.agg #[.int .i64 0, .slice none 0 0, .slice none 0 0], .int .i64 (pairE d1 os1 rs1 d2 os2 rs2)]) ∧ Below w.heap.size w w' := by
  have hpr := fun (V : World) (hV : Below w.heap.size w V) => pair74 (h1.below hV) (h2.below hV)
  obtain ⟨r, hr⟩ : ∃ r, pairE d1 os1 rs1 d2 os2 rs2 = r := ⟨_, rfl⟩
  rw [hr] at hpr hE ⊢
  have hne : (r != 0) = true := by simp [hE]
  obtain ⟨a1, b1, c1, e1, rfl, _⟩ := h1
  obtain ⟨a2, b2, c2, e2, rfl, _⟩ := h2
  obtain ⟨X, hX⟩ : ∃ X, w.heap.size = X := ⟨_, rfl⟩
  obtain ⟨W1, hW1⟩ : ∃ W1, ((w.alloc (.cells #[.int .i64 d1, .slice a1 os1.length b1, .slice c1 rs1.length e1] 25)).alloc (.cells #[.int .i64 d2, .slice a2 os2.length b2, .slice c2 rs2.length e2] 25)).alloc (.cells #[.int .i64 0, .slice none 0 0, .slice none 0 0] 25) = W1 := ⟨_, rfl⟩
  have hsz : W1.heap.size = X + 3 := by rw [← hW1]; simp [hX]
  have hwW : Below w.heap.size w W1 := hW1 ▸ alloc_b (alloc_b (alloc_b (Below.refl _ _) _) _) _
  have k0 : W1.heap[X]? = some (.cells #[.int .i64 d1, .slice a1 os1.length b1, .slice c1 rs1.length e1] 25) := by
    rw [← hW1]
    exact ((alloc_b (Below.refl _ _) _).block X (by simp; omega)).trans (((alloc_b (Below.refl _ _) _).block X (by simp; omega)).trans (box_al25 hX _ _ _))
  have k1 : W1.heap[X + 1]? = some (.cells #[.int .i64 d2, .slice a2 os2.length b2, .slice c2 rs2.length e2] 25) := by
    rw [← hW1]
    exact ((alloc_b (Below.refl _ _) _).block (X + 1) (by simp; omega)).trans (box_al25 (by simp [hX]) _ _ _)
  have k2 : W1.heap[X + 1 + 1]? = some (.cells #[.int .i64 0, .slice none 0 0, .slice none 0 0] 25) := by
    rw [← hW1]
    exact box_al25 (by simp [hX]) _ _ _
  obtain ⟨x0, x1, x2, _⟩ := box_cells k0
  obtain ⟨y0, y1, y2, _⟩ := box_cells k1
  have HB := Lib.hid (And.intro hpr (And.intro k2 (And.intro hsz (And.intro hwW (And.intro hX hr)))))
  clear hpr k0 k1 k2 hsz hwW hr hE
  go_enter Tryz.func30, Tryz.ntmps30
  try rw [hX]
  go_wp2_with (go_at_call 74; (with_reducible refine (HB.out.1 _ HB.out.2.2.2.1).mono ?_); rintro e0 w2 ⟨rfl, k1⟩; have h9 := (k1.block (X + 1 + 1) (by rw [HB.out.2.2.1]; omega)).trans HB.out.2.1; obtain ⟨r0, r1, r2, r3, r4, r5⟩ := box_cells h9; have H2 := Lib.hid (And.intro k1 h9); clear k1 h9)
  have hfin : (set3 w2 (X + 1 + 1) (.int .i64 0) (.slice none 0 0) (.slice none 0 0)).heap[X + 1 + 1]? = some (.cells #[.int .i64 0, .slice none 0 0, .slice none 0 0] 25) := set3_box H2.out.2
  obtain ⟨V, hV⟩ : ∃ V, set3 w2 (X + 1 + 1) (.int .i64 0) (.slice none 0 0) (.slice none 0 0) = V := ⟨_, rfl⟩
  have hKp : Kept w2 V [X + 1 + 1] := hV ▸ set3_kept (by simp)
  rw [hV] at hfin
  unfold set3 at hV
  rw [hV]
  obtain ⟨f0, f1, f2, _⟩ := box_cells hfin
  refine bodyPost_ret (v := .tuple #[.agg #[.int .i64 0, .slice none 0 0, .slice none 0 0], .int .i64 r]) (by simp [results, Tryz.results30, go_sem, f0, f1, f2]) rfl ?_
  refine ⟨rfl, ?_⟩
  have h1 := below_trans HB.out.2.2.2.1 H2.out.1
  rw [HB.out.2.2.2.2.1] at h1
  have h2 := h1.size
  exact h1.trans (hKp.below1 (by have := H2.out.1.size; rw [HB.out.2.2.1] at this; omega) (by omega))
end Go.Proofs.YtbejhkojdiadaaaGreat
namespace Go.Proofs.YtbejhkojdiadaaaGreat
open Go.RowKit PlainPm
structure KitK (K : World → Value → Prop) : Prop where
  below : ∀ {w w' : World} {v : Value}, K w v → Below w.heap.size w w' → K w' v
  form : ∀ {w : World} {v : Value}, K w v → ∃ d a lo c b lr e, v = .agg #[.int .i64 d, .slice a lo c, .slice b lr e]
  same : ∀ {w : World} {v v' : Value}, K w v → K w v' → Calls Tryz.prog 31 #[v, v'] w fun e w' => e = .returned (.bool true) ∧ Below w.heap.size w w'
theorem chv_zero (w : World) : ChV w (.agg #[.int .i64 0, .slice none 0 0, .slice none 0 0]) 0 [] [] :=
  ⟨none, 0, none, 0, rfl, ⟨[], Row.nil, rfl, fun i u xs h => by simp at h⟩, ⟨[], Row.nil, rfl, fun i u xs h => by simp at h⟩⟩
theorem kitZ : KitK (fun _ v => v = .agg #[.int .i64 0, .slice none 0 0, .slice none 0 0]) := by
  refine ⟨fun h _ => h, fun h => ⟨_, _, _, _, _, _, _, h⟩, fun {w v v'} h h' => ?_⟩
  subst h
  subst h'
  refine (same31 (chv_zero w) (chv_zero w)).mono ?_
  rintro e w' ⟨rfl, hb⟩
  exact ⟨by simp, hb⟩
theorem kitG {n : Nat} {G : Pm n → Prop} (hG : IsG G) : KitK (fun w v => GrG (n := n) w v G) :=
  ⟨fun h k => h.below k, fun h => by obtain ⟨a, c, b, d, e⟩ := h.form; exact ⟨_, _, _, _, _, _, _, e⟩, fun h h' => h.same hG h' (fun x => Iff.rfl)⟩
theorem chk_valid {d : Int} {os : List (List Int)} {rs : List (List (List Int))} (h : chkE d os rs = 0) : ∃ n : Nat, d = n ∧ 0 < n ∧ n ≤ 64 ∧ Valid n os rs := by
  unfold chkE at h
  by_cases h1 : 1 ≤ d ∧ d ≤ 64
  · rw [if_pos h1] at h
    by_cases h2 : Valid d.toNat os rs
    · exact ⟨d.toNat, by omega, by omega, by omega, h2⟩
    · rw [if_neg h2] at h; cases h
  · rw [if_neg h1] at h; cases h
theorem pair_valid {d1 d2 : Int} {os1 os2 : List (List Int)} {rs1 rs2 : List (List (List Int))} (h : pairE d1 os1 rs1 d2 os2 rs2 = 0) : ∃ n : Nat, d1 = n ∧ d2 = n ∧ 0 < n ∧ n ≤ 64 ∧ Valid n os1 rs1 ∧ Valid n os2 rs2 := by
  unfold pairE at h
  by_cases h1 : chkE d1 os1 rs1 = 0
  · rw [if_neg (by simp [h1])] at h
    by_cases h2 : chkE d2 os2 rs2 = 0
    · rw [if_neg (by simp [h2])] at h
      by_cases h3 : d1 = d2
      · obtain ⟨n, e, h4, h5, h6⟩ := chk_valid h1
        obtain ⟨m, e', _, _, h7⟩ := chk_valid h2
        have : m = n := by omega
        subst this
        exact ⟨m, e, e', h4, h5, h6, h7⟩
      · rw [if_pos h3] at h; cases h
    · rw [if_pos h2] at h; exact absurd h h2
  · rw [if_pos h1] at h; exact absurd h h1
section
variable {n : Nat} {G : Pm n → Prop} {O : Nat → List Nat} {R : Nat → Nat → Pm n}
def fac : Nat → Nat
  | 0 => 1
  | f + 1 => (f + 1) * fac f
theorem PlainPm.ChG.sz_fac (h : ChG G O R) : ∀ {f i : Nat}, i + f = n → szF O f i ≤ fac f
  | 0, _, _ => Nat.le_refl _
  | f + 1, i, hf => by
    have hi : i < n := by omega
    have h1 : (O i).length ≤ (List.range' i (f + 1)).length := sub_len (h.nd i hi) fun p hp => by
      obtain ⟨y, _, hfx, he⟩ := (h.mem i hi p).1 hp
      have hpn := h.lt i hi p hp
      rw [List.mem_range'_1]
      refine ⟨?_, by omega⟩
      rcases Nat.lt_or_ge p i with hlt | hge
      · have h2 := hfx p hlt
        have := y.inj hi hpn (he.trans h2.symm)
        omega
      · exact hge
    rw [List.length_range'] at h1
    exact Nat.mul_le_mul h1 (h.sz_fac (f := f) (i := i + 1) (by omega))
theorem PlainPm.ChG.sz7 (h : ChG G O R) (hn : n ≤ 7) : szF O n 0 ≤ 5040 := by
  refine Nat.le_trans (h.sz_fac (Nat.zero_add n)) ?_
  match n, hn with
  | 0, _ => decide
  | 1, _ => decide
  | 2, _ => decide
  | 3, _ => decide
  | 4, _ => decide
  | 5, _ => decide
  | 6, _ => decide
  | 7, _ => decide
end
def TwoK (w : World) (f f' : Nat) (args : Array Value) : Prop :=
  ∃ (K : World → Value → Prop) (E : Int), KitK K ∧
    (∀ V, Below w.heap.size w V → Calls Tryz.prog f args V fun e w' => ∃ v, e = .returned (.tuple #[v, .int .i64 E]) ∧ K w' v ∧ Below V.heap.size V w') ∧
    (∀ V, Below w.heap.size w V → Calls Tryz.prog f' args V fun e w' => ∃ v, e = .returned (.tuple #[v, .int .i64 E]) ∧ K w' v ∧ Below V.heap.size V w')
theorem TwoK.good {n : Nat} {w : World} {f f' : Nat} {args : Array Value} {G : Pm n → Prop} (hG : IsG G)
    (h : ∀ V, Below w.heap.size w V → Calls Tryz.prog f args V fun e w' => ∃ a c b d, e = .returned (.tuple #[.agg #[.int .i64 (n : Int), .slice a n c, .slice b n d], .int .i64 0]) ∧ Below V.heap.size V w' ∧
      ∀ S, (∀ m ∈ S, m < V.heap.size) → GrS w' (.agg #[.int .i64 (n : Int), .slice a n c, .slice b n d]) G S)
    (h' : ∀ V, Below w.heap.size w V → Calls Tryz.prog f' args V fun e w' => ∃ a c b d, e = .returned (.tuple #[.agg #[.int .i64 (n : Int), .slice a n c, .slice b n d], .int .i64 0]) ∧ Below V.heap.size V w' ∧
      ∀ S, (∀ m ∈ S, m < V.heap.size) → GrS w' (.agg #[.int .i64 (n : Int), .slice a n c, .slice b n d]) G S) : TwoK w f f' args :=
  ⟨_, 0, kitG hG, fun V hV => (h V hV).mono fun e w' ⟨a, c, b, d, k1, k2, k3⟩ => ⟨_, k1, (k3 [] (by simp)).now, k2⟩, fun V hV => (h' V hV).mono fun e w' ⟨a, c, b, d, k1, k2, k3⟩ => ⟨_, k1, (k3 [] (by simp)).now, k2⟩⟩
theorem TwoK.bad {w : World} {f f' : Nat} {args : Array Value} {E : Int}
    (h : ∀ V, Below w.heap.size w V → Calls Tryz.prog f args V fun e w' => e = .returned (.tuple #[.agg #[.int .i64 0, .slice none 0 0, .slice none 0 0], .int .i64 E]) ∧ Below V.heap.size V w')
    (h' : ∀ V, Below w.heap.size w V → Calls Tryz.prog f' args V fun e w' => e = .returned (.tuple #[.agg #[.int .i64 0, .slice none 0 0, .slice none 0 0], .int .i64 E]) ∧ Below V.heap.size V w') : TwoK w f f' args :=
  ⟨_, E, kitZ, fun V hV => (h V hV).mono fun e w' ⟨k1, k2⟩ => ⟨_, k1, rfl, k2⟩, fun V hV => (h' V hV).mono fun e w' ⟨k1, k2⟩ => ⟨_, k1, rfl, k2⟩⟩
section
variable {w : World} {v1 v2 : Value} {d1 d2 : Int} {os1 os2 : List (List Int)} {rs1 rs2 : List (List (List Int))}
theorem join_two (h1 : ChV w v1 d1 os1 rs1) (c1 : CapV w v1) (h2 : ChV w v2 d2 os2 rs2) (c2 : CapV w v2) (hd1 : ¬ (7 < d1 ∧ d1 ≤ 64)) : TwoK w 23 24 #[v1, v2] := by
  by_cases hE : pairE d1 os1 rs1 d2 os2 rs2 = 0
  · obtain ⟨n, rfl, rfl, hn0, hn64, k1, k2⟩ := pair_valid hE
    have q1 := grg_of h1 c1 k1
    have q2 := grg_of h2 c2 k2
    exact TwoK.good (G := Grp fun x => Grp (· ∈ grpV n os1 rs1) x ∨ Grp (· ∈ grpV n os2 rs2) x) Grp.isG (fun V hV => join23 ⟨hn0, hn64⟩ Grp.isG Grp.isG (q1.below hV) (q2.below hV)) (fun V hV => join24 ⟨hn0, by omega⟩ Grp.isG Grp.isG (q1.below hV) (q2.below hV))
  · exact TwoK.bad (fun V hV => join23e (h1.below hV) (h2.below hV) hE) (fun V hV => join24e (h1.below hV) (h2.below hV) hE)
theorem comm_two (h1 : ChV w v1 d1 os1 rs1) (c1 : CapV w v1) (h2 : ChV w v2 d2 os2 rs2) (c2 : CapV w v2) (hd1 : ¬ (7 < d1 ∧ d1 ≤ 64)) : TwoK w 27 28 #[v1, v2] := by
  by_cases hE : pairE d1 os1 rs1 d2 os2 rs2 = 0
  · obtain ⟨n, rfl, rfl, hn0, hn64, k1, k2⟩ := pair_valid hE
    have q1 := grg_of h1 c1 k1
    have q2 := grg_of h2 c2 k2
    exact TwoK.good (G := CmG (Grp (· ∈ grpV n os1 rs1)) (Grp (· ∈ grpV n os2 rs2))) Grp.isG (fun V hV => comm27 ⟨hn0, by omega⟩ Grp.isG Grp.isG (q1.below hV) (q2.below hV)) (fun V hV => comm28 ⟨hn0, by omega⟩ Grp.isG Grp.isG (q1.below hV) (q2.below hV))
  · exact TwoK.bad (fun V hV => comm27e (h1.below hV) (h2.below hV) hE) (fun V hV => comm28e (h1.below hV) (h2.below hV) hE)
theorem core_two (h1 : ChV w v1 d1 os1 rs1) (c1 : CapV w v1) (h2 : ChV w v2 d2 os2 rs2) (c2 : CapV w v2) (hd1 : ¬ (7 < d1 ∧ d1 ≤ 64)) : TwoK w 29 30 #[v1, v2] := by
  by_cases hE : pairE d1 os1 rs1 d2 os2 rs2 = 0
  · obtain ⟨n, rfl, rfl, hn0, hn64, k1, k2⟩ := pair_valid hE
    have q1 := grg_of h1 c1 k1
    have q2 := grg_of h2 c2 k2
    have h7 : n ≤ 7 := by omega
    exact TwoK.good (G := CoG (Grp (· ∈ grpV n os1 rs1)) (Grp (· ∈ grpV n os2 rs2))) (CoG.isG Grp.isG) (fun V hV => core29 ⟨hn0, by omega⟩ Grp.isG Grp.isG (q1.below hV) (q2.below hV) (fun O R hc => hc.sz7 h7)) (fun V hV => core30 ⟨hn0, by omega⟩ Grp.isG Grp.isG (q1.below hV) (q2.below hV) (fun O R hc => hc.sz7 h7))
  · exact TwoK.bad (fun V hV => core29e (h1.below hV) (h2.below hV) hE) (fun V hV => core30e (h1.below hV) (h2.below hV) hE)
theorem norm_two (h1 : ChV w v1 d1 os1 rs1) (c1 : CapV w v1) (h2 : ChV w v2 d2 os2 rs2) (c2 : CapV w v2) (hd1 : ¬ (7 < d1 ∧ d1 ≤ 64)) : ∃ (B : Bool) (E : Int),
    (∀ V, Below w.heap.size w V → Calls Tryz.prog 25 #[v1, v2] V fun e w' => e = .returned (.tuple #[.bool B, .int .i64 E]) ∧ Below V.heap.size V w') ∧
    (∀ V, Below w.heap.size w V → Calls Tryz.prog 26 #[v1, v2] V fun e w' => e = .returned (.tuple #[.bool B, .int .i64 E]) ∧ Below V.heap.size V w') := by
  by_cases hE : pairE d1 os1 rs1 d2 os2 rs2 = 0
  · obtain ⟨n, rfl, rfl, hn0, hn64, k1, k2⟩ := pair_valid hE
    have q1 := grg_of h1 c1 k1
    have q2 := grg_of h2 c2 k2
    obtain ⟨B, hB⟩ : ∃ B : Bool, B = true ↔ Nrm (Grp (· ∈ grpV n os1 rs1)) (Grp (· ∈ grpV n os2 rs2)) := by
      by_cases h : Nrm (Grp (· ∈ grpV n os1 rs1)) (Grp (· ∈ grpV n os2 rs2))
      · exact ⟨true, by simp [h]⟩
      · exact ⟨false, by simp [h]⟩
    have key : ∀ b : Bool, (b = true ↔ Nrm (Grp (· ∈ grpV n os1 rs1)) (Grp (· ∈ grpV n os2 rs2))) → b = B := fun b hb => by
      have h := hb.trans hB.symm
      cases b <;> cases B <;> simp_all
    refine ⟨B, 0, fun V hV => (norm25 ⟨hn0, hn64⟩ Grp.isG Grp.isG (q1.below hV) (q2.below hV)).mono ?_, fun V hV => (norm26 ⟨hn0, hn64⟩ Grp.isG Grp.isG (q1.below hV) (q2.below hV)).mono ?_⟩
    · rintro e w' ⟨b, h3, h4, h5⟩
      rw [key b h4] at h3
      exact ⟨h3, h5⟩
    · rintro e w' ⟨b, h3, h4, h5⟩
      rw [key b h4] at h3
      exact ⟨h3, h5⟩
  · exact ⟨false, _, fun V hV => norm25e (h1.below hV) (h2.below hV) hE, fun V hV => norm26e (h1.below hV) (h2.below hV) hE⟩
end
end Go.Proofs.YtbejhkojdiadaaaGreat
namespace Go.Proofs.YtbejhkojdiadaaaGreat
open Go.RowKit PlainPm
def flE (n : Nat) : List (List Int) → Int
  | [] => 0
  | p :: l => if chkPerm p = 0 then (if p.length = n then flE n l else 10) else chkPerm p
theorem flE_at {n : Nat} {ps : List (List Int)} {k : Nat} {p : List Int} (h : ps[k]? = some p) : flE n (ps.drop k) = if chkPerm p = 0 then (if p.length = n then flE n (ps.drop (k + 1)) else 10) else chkPerm p := by
  obtain ⟨hk, rfl⟩ := List.getElem?_eq_some_iff.1 h
  rw [List.drop_eq_getElem_cons hk, flE]
theorem flE_pm {n : Nat} (hn : 0 < n ∧ n ≤ 64) : ∀ {ps : List (List Int)}, flE n ps = 0 → ∃ L : List (Pm n), L.map (·.l) = ps
  | [], _ => ⟨[], rfl⟩
  | p :: l, h => by
    rw [flE] at h
    by_cases h1 : chkPerm p = 0
    · rw [if_pos h1] at h
      by_cases h2 : p.length = n
      · rw [if_pos h2] at h
        obtain ⟨L, hL⟩ := flE_pm hn h
        exact ⟨⟨p, (chk_iff h2 hn.1 hn.2).1 h1⟩ :: L, by rw [List.map_cons, hL]⟩
      · rw [if_neg h2] at h; cases h
    · rw [if_neg h1] at h; exact absurd h h1
theorem rows_pms {n : Nat} (hn : 0 < n) {w : World} {a : Option Addr} {c : Nat} {L : List (Pm n)} (h : Rows w a (L.map (·.l))) : PmsV w [] (.slice a L.length c) L := by
  obtain ⟨vs, h1, h2, h3⟩ := h
  rw [List.length_map] at h2
  refine ⟨a, c, vs, rfl, h1, h2, fun k s hs => ?_⟩
  have hk : k < vs.length := by rw [h2]; exact (List.getElem?_eq_some_iff.1 hs).1
  refine ⟨vs[k], List.getElem?_eq_getElem hk, ?_⟩
  obtain ⟨b, d, e, hi⟩ := h3 k vs[k] s.l (List.getElem?_eq_getElem hk) (by rw [List.getElem?_map, hs]; rfl)
  rw [e, s.ok.1]
  exact pm_of_ints hn hi
theorem stB {w : World} (u0 u1 u2 : Value) : ∃ (Y : Nat) (U V : World), w.heap.size = Y ∧ w.alloc (.cells #[.int .i64 0, .slice none 0 0, .slice none 0 0] 25) = U ∧
    U.cell? ⟨Y, 0, none⟩ = some (.int .i64 0) ∧ U.cell? ⟨Y, 1, none⟩ = some (.slice none 0 0) ∧ U.cell? ⟨Y, 2, none⟩ = some (.slice none 0 0) ∧ U.frozen? ⟨Y, 0, none⟩ = false ∧ U.frozen? ⟨Y, 1, none⟩ = false ∧ U.frozen? ⟨Y, 2, none⟩ = false ∧
    set3 U Y u0 u1 u2 = V ∧ Below w.heap.size w V ∧ V.heap[Y]? = some (.cells #[u0, u1, u2] 25) := by
  have y0 : (w.alloc (.cells #[.int .i64 0, .slice none 0 0, .slice none 0 0] 25)).heap[w.heap.size]? = some (.cells #[.int .i64 0, .slice none 0 0, .slice none 0 0] 25) := box_al25 rfl _ _ _
  obtain ⟨s0, s1, s2, s3, s4, s5⟩ := box_cells y0
  exact ⟨_, _, _, rfl, rfl, s0, s1, s2, s5, s3, s4, rfl, (alloc_b (Below.refl _ _) _).trans ((set3_kept (S := [w.heap.size]) (by simp)).below1 (by simp) (Nat.le_refl _)), set3_box y0⟩
theorem prep2 {w : World} (u0 u1 u2 : Value) : ∃ (X : Nat) (W1 : World), w.heap.size = X ∧ (w.alloc (.cells #[u0, u1, u2] 25)).alloc (.cells #[.int .i64 0, .slice none 0 0, .slice none 0 0] 25) = W1 ∧ W1.heap.size = X + 2 ∧ Below w.heap.size w W1 ∧
    W1.heap[X]? = some (.cells #[u0, u1, u2] 25) ∧ W1.heap[X + 1]? = some (.cells #[.int .i64 0, .slice none 0 0, .slice none 0 0] 25) :=
  ⟨_, _, rfl, rfl, by simp, alloc_b (alloc_b (Below.refl _ _) _) _, ((alloc_b (Below.refl _ _) _).block _ (by simp)).trans (box_al25 rfl _ _ _), box_al25 (by simp) _ _ _⟩
theorem zfin {w W : World} {X Y : Nat} (h : Below X w W) (hX : X ≤ Y) (hz : W.heap[Y]? = some (.cells #[.int .i64 0, .slice none 0 0, .slice none 0 0] 25)) : ∃ V, set3 W Y (.int .i64 0) (.slice none 0 0) (.slice none 0 0) = V ∧
    V.cell? ⟨Y, 0, none⟩ = some (.int .i64 0) ∧ V.cell? ⟨Y, 1, none⟩ = some (.slice none 0 0) ∧ V.cell? ⟨Y, 2, none⟩ = some (.slice none 0 0) ∧ Below X w V := by
  have hfin : (set3 W Y (.int .i64 0) (.slice none 0 0) (.slice none 0 0)).heap[Y]? = some (.cells #[.int .i64 0, .slice none 0 0, .slice none 0 0] 25) := set3_box hz
  obtain ⟨f0, f1, f2, _⟩ := box_cells hfin
  have h3 := (Array.getElem?_eq_some_iff.1 hz).1
  exact ⟨_, rfl, f0, f1, f2, h.trans ((set3_kept (S := [Y]) (by simp)).below1 (by omega) hX)⟩
set_option maxRecDepth 100000 in
set_option maxHeartbeats 2000000 in
theorem mk90l {n : Nat} (hn : 0 < n ∧ n ≤ 64) {w : World} {a : Option Addr} {m c : Nat} (hm : 4096 < m) (hm2 : m ≤ 9223372036854775807) :
    Calls Tryz.prog 90 #[.int .i64 (n : Int), .slice a m c] w fun e w' => e = .returned (.tuple #[.agg #[.int .i64 0, .slice none 0 0, .slice none 0 0], .int .i64 4]) ∧ Below w.heap.size w w' := by
  obtain ⟨X, hX⟩ : ∃ X, w.heap.size = X := ⟨_, rfl⟩
  obtain ⟨W1, hW1⟩ : ∃ W1, w.alloc (.cells #[.int .i64 0, .slice none 0 0, .slice none 0 0] 25) = W1 := ⟨_, rfl⟩
  have hbw : Below X w W1 := hX ▸ hW1 ▸ alloc_b (Below.refl _ _) _
  have hc1 : W1.heap[X]? = some (.cells #[.int .i64 0, .slice none 0 0, .slice none 0 0] 25) := hW1 ▸ box_al25 hX _ _ _
  obtain ⟨i0, i1, i2, i3, i4, i5⟩ := box_cells hc1
  have HF := Lib.hid (And.intro hbw hc1)
  have hn1 : decide ((n : Int) < 1) = false := by simp; omega
  have hn2 : decide ((64 : Int) < n) = false := by simp; omega
  have hl1 : decide ((4096 : Int) < m) = true := by simp; omega
  have hl2 : decide (4096 < m) = true := by simp [hm]
  clear hbw hc1
  rw [hX]
  go_enter Tryz.func90, Tryz.ntmps90
  try rw [hX]
  go_wp2_with fail
  obtain ⟨V, hV, f0, f1, f2, hb8⟩ := zfin HF.out.1 (by omega) HF.out.2
  unfold set3 at hV
  rw [hV]
  exact bodyPost_ret (v := .tuple #[.agg #[.int .i64 0, .slice none 0 0, .slice none 0 0], .int .i64 4]) (by simp [results, Tryz.results90, go_sem, f0, f1, f2]) rfl ⟨rfl, hb8⟩
set_option maxRecDepth 100000 in
set_option maxHeartbeats 2000000 in
theorem mk90e {n : Nat} (hn : 0 < n ∧ n ≤ 64) {w : World} {a : Option Addr} {c : Nat} {ps : List (List Int)} (hl : ps.length ≤ 4096) (hr : Rows w a ps) (hE : flE n ps ≠ 0) :
    Calls Tryz.prog 90 #[.int .i64 (n : Int), .slice a ps.length c] w fun e w' => e = .returned (.tuple #[.agg #[.int .i64 0, .slice none 0 0, .slice none 0 0], .int .i64 (flE n ps)]) ∧ Below w.heap.size w w' := by
  obtain ⟨X, hX⟩ : ∃ X, w.heap.size = X := ⟨_, rfl⟩
  obtain ⟨W1, hW1⟩ : ∃ W1, w.alloc (.cells #[.int .i64 0, .slice none 0 0, .slice none 0 0] 25) = W1 := ⟨_, rfl⟩
  have hbw : Below w.heap.size w W1 := hW1 ▸ alloc_b (Below.refl _ _) _
  have hc1 : W1.heap[X]? = some (.cells #[.int .i64 0, .slice none 0 0, .slice none 0 0] 25) := hW1 ▸ box_al25 hX _ _ _
  obtain ⟨m, hm⟩ : ∃ m, ps.length = m := ⟨_, rfl⟩
  obtain ⟨E, hEE⟩ : ∃ E, flE n ps = E := ⟨_, rfl⟩
  rw [hEE] at hE ⊢
  have H := Lib.hid (And.intro hr (And.intro hm (And.intro hbw (And.intro hc1 (And.intro hEE (And.intro hE hX))))))
  rw [hm] at hl ⊢
  have hn1 : decide ((n : Int) < 1) = false := by simp; omega
  have hn2 : decide ((64 : Int) < n) = false := by simp; omega
  have hl1 : decide ((4096 : Int) < m) = false := by simp; omega
  have hl2 : decide (4096 < m) = false := by simp; omega
  clear hr hm hbw hc1 hEE hE
  go_enter Tryz.func90, Tryz.ntmps90
  try rw [hX]
  go_wp2_with fail
  clear hW1
  go_loopw [7, 8, 22] (fun _ _ i wr => ∃ (k : Nat), k ≤ m ∧ i = .int .i64 (k : Int) ∧ Below W1.heap.size W1 wr ∧ flE n (ps.drop k) = E) (fun _ _ i _ => m - (intOf i).toNat)
  case atStart => exact ⟨0, by omega, rfl, Below.refl _ _, by rw [List.drop_zero]; exact H.out.2.2.2.2.1⟩
  case round =>
    obtain ⟨k, hk, rfl, hb, hfl⟩ := hrel
    have hbw := below_trans H.out.2.2.1 hb
    by_cases hkm : k < m
    · obtain ⟨p, hp⟩ : ∃ p, ps[k]? = some p := ⟨_, List.getElem?_eq_getElem (by rw [H.out.2.1]; exact hkm)⟩
      have hat := (H.out.1.below hbw).at_ (k := k) (by rw [H.out.2.1]; exact hkm)
      rw [hp, Option.getD_some] at hat
      obtain ⟨ab, ao, ua, uc, hae, _, hac, hui⟩ := hat
      subst hae
      have hlen := hui.len
      have hpc := perm_calls (c := uc) hui
      rw [flE_at hp] at hfl
      obtain ⟨lp, hlp⟩ : ∃ l, p.length = l := ⟨_, rfl⟩
      rw [hlp] at hpc hac hfl hlen
      have hk1 : (k : Int) < m := by omega
      by_cases hz : chkPerm p = 0
      · rw [hz] at hpc
        rw [if_pos hz] at hfl
        by_cases hln : lp = n
        · rw [if_pos hln] at hfl
          have g1 : ((lp : Int) != (n : Int)) = false := by simp [hln]
          have HC := Lib.hid (And.intro hpc (And.intro hfl hb))
          clear hpc hfl hb hui hp hz hln hlp hbw
          go_wp2_with (go_at_call 92; (with_reducible refine HC.out.1.mono ?_); rintro e w2 ⟨rfl, k1⟩; have H2 := Lib.hid k1; clear k1)
          exact ⟨⟨k + 1, by omega, by go_num, below_trans HC.out.2.2 H2.out, HC.out.2.1⟩, by simp [intOf]; omega⟩
        · rw [if_neg hln] at hfl
          have g1 : ((lp : Int) != (n : Int)) = true := by simp; omega
          have HC := Lib.hid (And.intro hpc hb)
          subst hfl
          clear hpc hb hui hp hz hln hlp hbw
          go_wp2_with (go_at_call 92; (with_reducible refine HC.out.1.mono ?_); rintro e w2 ⟨rfl, k1⟩
                       have hbb := below_trans HC.out.2 k1
                       have h9 := (hbb.block X (Array.getElem?_eq_some_iff.1 H.out.2.2.2.1).1).trans H.out.2.2.2.1
                       obtain ⟨i0, i1, i2, i3, i4, i5⟩ := box_cells h9
                       have hb0 := below_trans H.out.2.2.1 hbb
                       rw [H.out.2.2.2.2.2.2] at hb0
                       have HF := Lib.hid (And.intro hb0 h9); clear k1 hbb h9 hb0)
          obtain ⟨V, hV, f0, f1, f2, hb8⟩ := zfin HF.out.1 (by omega) HF.out.2
          unfold set3 at hV
          rw [hV]
          exact bodyPost_ret (v := .tuple #[.agg #[.int .i64 0, .slice none 0 0, .slice none 0 0], .int .i64 10]) (by simp [results, Tryz.results90, go_sem, f0, f1, f2]) rfl ⟨rfl, hb8⟩
      · rw [if_neg hz] at hfl
        rw [hfl] at hpc
        have g1 : (E != 0) = true := by have := H.out.2.2.2.2.2.1; simp [this]
        have HC := Lib.hid (And.intro hpc hb)
        clear hpc hb hui hp hz hlp hbw hfl
        go_wp2_with (go_at_call 92; (with_reducible refine HC.out.1.mono ?_); rintro e w2 ⟨rfl, k1⟩
                     have hbb := below_trans HC.out.2 k1
                     have h9 := (hbb.block X (Array.getElem?_eq_some_iff.1 H.out.2.2.2.1).1).trans H.out.2.2.2.1
                     obtain ⟨i0, i1, i2, i3, i4, i5⟩ := box_cells h9
                     have hb0 := below_trans H.out.2.2.1 hbb
                     rw [H.out.2.2.2.2.2.2] at hb0
                     have HF := Lib.hid (And.intro hb0 h9); clear k1 hbb h9 hb0)
        obtain ⟨V, hV, f0, f1, f2, hb8⟩ := zfin HF.out.1 (by omega) HF.out.2
        unfold set3 at hV
        rw [hV]
        exact bodyPost_ret (v := .tuple #[.agg #[.int .i64 0, .slice none 0 0, .slice none 0 0], .int .i64 E]) (by simp [results, Tryz.results90, go_sem, f0, f1, f2]) rfl ⟨rfl, hb8⟩
    · exfalso
      have : k = m := by omega
      subst this
      rw [← H.out.2.1, List.drop_length] at hfl
      exact H.out.2.2.2.2.2.1 hfl.symm
end Go.Proofs.YtbejhkojdiadaaaGreat
