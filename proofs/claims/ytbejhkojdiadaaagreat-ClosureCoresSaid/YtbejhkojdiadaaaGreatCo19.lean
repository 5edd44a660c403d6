/- closure.Commutator. · Small lemmas: cells that stay. · Conj, on both sides. · The kit's Pick and Taker.Take. · The kit's One with its row, cycle, Perm. -/
import Derived.Test.YtbejhkojdiadaaaGreatCo01
import Derived.Test.YtbejhkojdiadaaaGreatCo02
import Derived.Test.YtbejhkojdiadaaaGreatCo03
import Derived.Test.YtbejhkojdiadaaaGreatCo04
import Derived.Test.YtbejhkojdiadaaaGreatCo05
import Derived.Test.YtbejhkojdiadaaaGreatCo06
import Derived.Test.YtbejhkojdiadaaaGreatCo07
import Derived.Test.YtbejhkojdiadaaaGreatCo08
import Derived.Test.YtbejhkojdiadaaaGreatCo09
import Derived.Test.YtbejhkojdiadaaaGreatCo10
import Derived.Test.YtbejhkojdiadaaaGreatCo11
import Derived.Test.YtbejhkojdiadaaaGreatCo12
import Derived.Test.YtbejhkojdiadaaaGreatCo13
import Derived.Test.YtbejhkojdiadaaaGreatCo14
import Derived.Test.YtbejhkojdiadaaaGreatCo15
import Derived.Test.YtbejhkojdiadaaaGreatCo16
import Derived.Test.YtbejhkojdiadaaaGreatCo17
import Derived.Test.YtbejhkojdiadaaaGreatCo18
import Derived.Test.YtbejhkojdiadaaaGreatProg
import Derived.WalkKit
import Derived.WalkSpells
import Derived.BigQuiet
import Derived.Deep.QuietTactic
import Derived.Deep.LoopGhost
import Derived.Lib.Hide
import Derived.Maps.AppendAt
import Derived.Deep.AppendLies
import Derived.StillTailTactics
import Derived.Laws.CopyOwn
import Derived.Deep.OwnRows
import Derived.Deep.DeepCutAuto
import Derived.Laws.Cover3
import Derived.Deep.RegionHeld3
import Derived.RangeFuncRecord
import Derived.Lib.SlicesSearch
import Derived.RangeFuncBox
import Derived.RangeFuncLeaves
import Derived.RangeFuncWrites
import Derived.RangeFuncFrom
import Derived.Shelf.Abstract
import Derived.OwnWalkIn
import Derived.TacticsInMore
import Derived.LoopNIn
import Derived.LoopIn
import Derived.Shelf.GgSortFunc.Insertion
import Derived.Shelf.SlIter.Collect
import Derived.Shelf.Sort.Plain
import Derived.Deep.RegionLaw
import Derived.ControlIn
import Derived.Deep.AppendSrc
set_option linter.unusedSimpArgs false
set_option linter.unusedVariables false
namespace Go.Proofs.YtbejhkojdiadaaaGreat
open Go.RowKit PlainPm
section
variable {n : Nat}
theorem sgen_len2 {G : Pm n → Prop} {T : Tw n} (hG : IsG G) (h : Of G T) : 2 * (sgen n (orbO T) (PlainPm.repT T) n).length ≤ n * (n + 1) := by
  have key : ∀ m, (sgen n (orbO T) (PlainPm.repT T) m).length ≤ ((List.range m).flatMap fun i => (orbO T i).map (PlainPm.repT T i)).length := fun m => by
    induction m with
    | zero => simp [sgen]
    | succ m ih =>
      rw [sgen_succ, List.range_succ, List.flatMap_append, List.length_append, List.length_append]
      simp only [List.flatMap_cons, List.flatMap_nil, List.append_nil, List.length_map, List.length_drop]
      omega
  have := agen_len2 hG h
  have := key n
  unfold PlainPm.agen at *
  omega
theorem cmL_succ {A B : List (Pm n)} {k : Nat} {a : Pm n} (ha : A[k]? = some a) : cmL (A.take (k + 1)) B = cmL (A.take k) B ++ B.map (cm a) := by
  unfold cmL
  rw [List.take_add_one, ha, List.flatMap_append]
  simp
theorem cmL_len {A B : List (Pm n)} : (cmL A B).length = A.length * B.length := by
  unfold cmL
  induction A with
  | nil => simp
  | cons a A ih => rw [List.flatMap_cons, List.length_append, ih, List.length_map, List.length_cons, Nat.succ_mul, Nat.add_comm]
theorem cap8 {m1 m2 : Nat} (hn : n ≤ 8) (h1 : 2 * m1 ≤ n * (n + 1)) (h2 : 2 * m2 ≤ n * (n + 1)) : m1 ≤ 36 ∧ m2 ≤ 36 ∧ m1 * m2 ≤ 4096 := by
  have h : n * (n + 1) ≤ 8 * 9 := Nat.mul_le_mul hn (by omega)
  have := Nat.mul_le_mul (show m1 ≤ 36 by omega) (show m2 ≤ 36 by omega)
  omega
set_option maxRecDepth 100000 in
set_option maxHeartbeats 4000000 in
theorem comm27 (hn' : 0 < n ∧ n ≤ 8) {w : World} {v1 v2 : Value} {G1 G2 : Pm n → Prop} (g1 : IsG G1) (g2 : IsG G2) (h1 : GrG w v1 G1) (h2 : GrG w v2 G2) :
    Calls Tryz.prog 27 #[v1, v2] w fun e w' => ∃ a c b d, e = .returned (.tuple #[.agg #[.int .i64 (n : Int), .slice a n c, .slice b n d], .int .i64 0]) ∧ Below w.heap.size w w' ∧
      ∀ S, (∀ m ∈ S, m < w.heap.size) → GrS w' (.agg #[.int .i64 (n : Int), .slice a n c, .slice b n d]) (CmG G1 G2) S := by
  have hn : 0 < n ∧ n ≤ 64 := ⟨hn'.1, by omega⟩
  obtain ⟨i27, hi27, hz27, hs27, hb27⟩ := info_parts Tryz.info27
  have I27 := Lib.hid (And.intro hi27 (And.intro hz27 (And.intro hs27 hb27)))
  clear hi27 hz27 hs27 hb27
  obtain ⟨os1, rs1, os2, rs2, p1, p2, p3⟩ := GrG.pair0 hn g1 g2 h1 h2
  have hpr := fun (V : World) (hV : Below w.heap.size w V) => pair70 (p1.below hV) (p2.below hV)
  rw [p3] at hpr
  obtain ⟨T1, t1, ab, ao, c, bb, bo, e, hv1, hl1⟩ := h1.lev g1 ⟨hn.1, hn.2⟩
  obtain ⟨T2, t2, ab', ao', c', bb', bo', e', hv2, hl2⟩ := h2.lev g2 ⟨hn.1, hn.2⟩
  subst hv1
  subst hv2
  have l1 := fun (V : World) (hV : Below w.heap.size w V) => strong73 (O := orbO T1) (R := PlainPm.repT T1) (c := c) (e := e) hn (t1.chG g1) hl1 hV
  have l2 := fun (V : World) (hV : Below w.heap.size w V) => strong73 (O := orbO T2) (R := PlainPm.repT T2) (c := c') (e := e') hn (t2.chG g2) hl2 hV
  have hC1 := sgen_grp g1 t1
  have hC2 := sgen_grp g2 t2
  have hs1 := sgen_len2 g1 t1
  have hs2 := sgen_len2 g2 t2
  obtain ⟨A, hA⟩ : ∃ A, sgen n (orbO T1) (PlainPm.repT T1) n = A := ⟨_, rfl⟩
  obtain ⟨B, hB⟩ : ∃ B, sgen n (orbO T2) (PlainPm.repT T2) n = B := ⟨_, rfl⟩
  rw [hA] at l1 hC1 hs1
  rw [hB] at l2 hC2 hs2
  obtain ⟨X, hX⟩ : ∃ X, w.heap.size = X := ⟨_, rfl⟩
  obtain ⟨W1, hW1⟩ : ∃ W1, ((w.alloc (.cells #[.int .i64 (n : Int), .slice (some ⟨ab, ao, none⟩) n c, .slice (some ⟨bb, bo, none⟩) n e] 25)).alloc (.cells #[.int .i64 (n : Int), .slice (some ⟨ab', ao', none⟩) n c', .slice (some ⟨bb', bo', none⟩) n e'] 25)).alloc (.cells #[.int .i64 0, .slice none 0 0, .slice none 0 0] 25) = W1 := ⟨_, rfl⟩
  have hsz : W1.heap.size = X + 3 := by rw [← hW1]; simp [hX]
  have hwW : Below w.heap.size w W1 := hW1 ▸ alloc_b (alloc_b (alloc_b (Below.refl _ _) _) _) _
  have k0 : W1.heap[X]? = some (.cells #[.int .i64 (n : Int), .slice (some ⟨ab, ao, none⟩) n c, .slice (some ⟨bb, bo, none⟩) n e] 25) := by
    rw [← hW1]
    exact ((alloc_b (Below.refl _ _) _).block X (by simp; omega)).trans (((alloc_b (Below.refl _ _) _).block X (by simp; omega)).trans (box_al25 hX _ _ _))
  have k1 : W1.heap[X + 1]? = some (.cells #[.int .i64 (n : Int), .slice (some ⟨ab', ao', none⟩) n c', .slice (some ⟨bb', bo', none⟩) n e'] 25) := by
    rw [← hW1]
    exact ((alloc_b (Below.refl _ _) _).block (X + 1) (by simp; omega)).trans (box_al25 (by simp [hX]) _ _ _)
  have k2 : W1.heap[X + 2]? = some (.cells #[.int .i64 0, .slice none 0 0, .slice none 0 0] 25) := by
    rw [← hW1]
    exact box_al25 (by simp [hX]) _ _ _
  obtain ⟨x0, x1, x2, _⟩ := box_cells k0
  obtain ⟨y0, y1, y2, _⟩ := box_cells k1
  have HB := Lib.hid (And.intro k0 (And.intro k1 (And.intro k2 (And.intro hsz (And.intro hwW hX)))))
  have HC := Lib.hid (And.intro hpr (And.intro l1 (And.intro l2 (And.intro hC1 (And.intro hC2 (And.intro hs1 hs2))))))
  clear hpr l1 l2 hC1 hC2 hs1 hs2 k0 k1 k2 hsz hwW h1 h2 p1 p2 p3 t1 t2 hA hB hl1 hl2
  go_enter Tryz.func27, Tryz.ntmps27
  try rw [hX]
  go_wp2_with (go_at_call 70; (with_reducible refine (HC.out.1 _ HB.out.2.2.2.2.1).mono ?_); rintro e0 w2 ⟨rfl, k1⟩; have H2 := Lib.hid k1; clear k1)
  obtain ⟨z0, z1, z2, _⟩ := box_cells ((H2.out.block X (by rw [HB.out.2.2.2.1]; omega)).trans HB.out.1)
  obtain ⟨z3, z4, z5, _⟩ := box_cells ((H2.out.block (X + 1) (by rw [HB.out.2.2.2.1]; omega)).trans HB.out.2.1)
  have hx0 := And.intro z0 (And.intro z1 (And.intro z2 (And.intro z3 (And.intro z4 (And.intro z5 (Below.refl w2.heap.size w2))))))
  have hX3 : X + 3 ≤ w2.heap.size := by have := H2.out.size; rw [HB.out.2.2.2.1] at this; exact this
  have hw2 : Below w.heap.size w w2 := below_trans HB.out.2.2.2.2.1 H2.out
  have HW2 := Lib.hid hw2
  clear hw2
  go_region_law
    (first
      | (go_simp; go_at_call 73; (with_reducible refine (HC.out.2.2.1 _ (below_trans HW2.out B4.out)).mono ?_)
         rintro e5 w5 ⟨v5, us5, rfl, k1, k2, k3, k4⟩
         obtain ⟨a5, c5, rfl, _⟩ := k1.row (by unfold maxLen; omega)
         have b5 : Below w2.heap.size w2 w5 := below_trans B4.out k4
         obtain ⟨j0, j1, j2, j3, j4, j5, _⟩ := keep6n hx0 b5
         have H5 := Lib.hid (And.intro k1 (And.intro k2 (And.intro k3 (And.intro k4 b5))))
         clear k1 k2 k3 k4 b5)
      | (go_simp; go_at_call 73; (with_reducible refine (HC.out.2.1 _ (below_trans HW2.out ?_)).mono ?_)
         first | exact Below.refl _ _ | exact below_drw (Below.refl _ _) | exact below_self_drewN _ _
         rintro e4 w4 ⟨v4, us4, rfl, k1, k2, k3, k4⟩
         obtain ⟨a4, c4, rfl, _⟩ := k1.row (by unfold maxLen; omega)
         have b4 : Below w2.heap.size w2 w4 := below_trans (by first | exact Below.refl _ _ | exact below_drw (Below.refl _ _) | exact below_self_drewN _ _) k4
         obtain ⟨i0, i1, i2, i3, i4, i5, _⟩ := keep6n hx0 b4
         have B4 := Lib.hid b4
         have H4 := Lib.hid (And.intro (k1.mono (show w2.heap.size ≤ _ from by first | exact Nat.le_refl _ | simp)) (And.intro k2 k3))
         clear k1 k2 k3 k4 b4))
  all_goals
    have hw5 : Below w.heap.size w w5 := below_trans HW2.out H5.out.2.2.2.2
    have la := H4.out.2.1.1
    have lb := H5.out.2.1.1
    obtain ⟨c55a, c55b, cap⟩ := cap8 hn'.2 HC.out.2.2.2.2.2.1 HC.out.2.2.2.2.2.2
    have PA : PmsV w5 [] (.slice a4 us4.length c4) A := pms_ownB (H4.out.1.below H5.out.2.2.2.1) (H4.out.2.1.below hw5) (by omega)
    have PB : PmsV w5 [] (.slice a5 us5.length c5) B := pms_ownB H5.out.1 (H5.out.2.1.below hw5) (by omega)
    obtain ⟨NA, hNA⟩ : ∃ N, us4.length = N := ⟨_, rfl⟩
    obtain ⟨NB, hNB⟩ : ∃ N, us5.length = N := ⟨_, rfl⟩
    obtain ⟨_, _, q4, hA63, hatA⟩ := pms_at PA
    simp only [Value.slice.injEq] at q4
    obtain ⟨rfl, -, rfl⟩ := q4
    obtain ⟨_, _, q5, hB63, hatB⟩ := pms_at PB
    simp only [Value.slice.injEq] at q5
    obtain ⟨rfl, -, rfl⟩ := q5
    rw [← la, hNA] at hA63
    rw [← lb, hNB] at hB63
    rw [hNA] at H4 ⊢
    rw [hNB] at H5 ⊢
    have HP := Lib.hid (And.intro hatA (And.intro hatB (And.intro (hNA.symm.trans la).symm (And.intro (hNB.symm.trans lb).symm (And.intro hw5 (And.intro cap (And.intro c55a c55b)))))))
    clear hatA hatB hNA hNB la lb hw5 PA PB cap c55a c55b
    obtain ⟨N1, hN1⟩ : ∃ N1, (Value.slice a4 NA c4).ownBlock.toList = N1 := ⟨_, rfl⟩
    have HN1 := Lib.hid hN1
    clear hN1
    go_wp2_with fail
    go_loopw [9, 29] (fun v i wr => ∃ (k : Nat) (us : List Value), k ≤ NA ∧ i = .int .i64 (k : Int) ∧ GrowL N1 wr w5.heap.size v us (cmL (A.take k) B) ∧ Below w5.heap.size w5 wr) (fun _ i _ => NA - (intOf i).toNat)
    case atStart => exact ⟨0, [], Nat.zero_le _, rfl, GrowL.nil _ (fun m hm => Nat.lt_of_lt_of_le (H4.out.1.block_lt (mem_ob.1 (HN1.out ▸ hm))).1 H5.out.2.2.2.1.size), Below.refl _ _⟩
    case round =>
      obtain ⟨k, us, hk, rfl, hgl, hbr⟩ := hrel
      obtain ⟨wo, rfl⟩ : ∃ wo, wo = wr := ⟨_, rfl⟩
      by_cases hka : k < NA
      · have hk1 : (k : Int) < NA := by omega
        obtain ⟨a, ha⟩ : ∃ a, A[k]? = some a := ⟨_, List.getElem?_eq_getElem (by rw [HP.out.2.2.1]; exact hka)⟩
        obtain ⟨g6, o6, u6, rfl, hc6, hp6⟩ := HP.out.1 k a ha
        have hc6o := (hbr.cell (block_lt_of_cell hc6)).trans hc6
        obtain ⟨b6b, b6o, b6c, rfl, _⟩ := id hp6
        have HK := Lib.hid (And.intro hgl (And.intro hbr (And.intro ha hp6)))
        clear hgl hbr ha hp6
        go_wp2_with fail
        go_loopw [9, 35] (fun v i wi => ∃ (m : Nat) (us : List Value), m ≤ NB ∧ i = .int .i64 (m : Int) ∧ GrowL N1 wi w5.heap.size v us (cmL (A.take k) B ++ (B.take m).map (cm a)) ∧ Below w5.heap.size w5 wi) (fun _ i _ => NB - (intOf i).toNat)
        case atStart => exact ⟨0, us, Nat.zero_le _, rfl, by rw [List.take_zero, List.map_nil, List.append_nil]; exact HK.out.1, HK.out.2.1⟩
        case round =>
          obtain ⟨m, us, hm, rfl, hgl, hbi⟩ := hrel
          by_cases hmb : m < NB
          · have hm1 : (m : Int) < NB := by omega
            obtain ⟨b, hb⟩ : ∃ b, B[m]? = some b := ⟨_, List.getElem?_eq_getElem (by rw [HP.out.2.2.2.1]; exact hmb)⟩
            obtain ⟨g7, o7, u7, rfl, hc7, hp7⟩ := HP.out.2.1 m b hb
            have hc7i := (hbi.cell (block_lt_of_cell hc7)).trans hc7
            have hc6i := (hbi.cell (block_lt_of_cell hc6)).trans hc6
            obtain ⟨b7b, b7o, b7c, rfl, _⟩ := id hp7
            have hlu : us.length < 1099511627776 := by
              have h1 := hgl.len
              rw [List.length_append, cmL_len, List.length_map] at h1
              have h2 : (A.take k).length * B.length ≤ A.length * B.length := Nat.mul_le_mul_right _ (by rw [List.length_take]; omega)
              have h3 : (B.take m).length ≤ B.length := by rw [List.length_take]; omega
              have h4 := HP.out.2.2.2.2.2
              omega
            have hD : w5.heap.size ≤ wr.heap.size := hbi.size
            have h79 := px79 hn (HK.out.2.2.2.below hbi) (hp7.below hbi)
            have HY := Lib.hid (And.intro h79 (And.intro hgl (And.intro hbi hb)))
            clear h79 hgl hbi hb
            go_wp2_with (first
              | (at_builtin; refine app1 rfl (.tmp 45) (.tmp 47) 44 27 rfl i27 (.slice none 0 0) 24 Tryz.underlying44 I27.out.1 I27.out.2.1 I27.out.2.2.1 I27.out.2.2.2 rfl (by omega) w5.heap.size (.slice (some ⟨xb, 0, none⟩) n xc) _ us rfl (HY.out.2.1.below H6.out.1).1 rfl rfl hlu (Nat.le_trans hD H6.out.1.size) ?_; intro v8 w8 k1 k2 k3; have H8 := Lib.hid (And.intro k1 (And.intro k2 k3)); clear k1 k2 k3)
              | (go_at_call 79; (with_reducible refine HY.out.1.mono ?_); rintro e6 w6 ⟨v6, rfl, k1, k2⟩
                 have hz6 := k1.growV HY.out.2.1
                 obtain ⟨xb, xc, rfl, _⟩ := id k1
                 have H6 := Lib.hid (And.intro k2 (And.intro hz6 hz6))
                 clear k1 k2 hz6))
            refine ⟨⟨m + 1, us ++ [.slice (some ⟨xb, 0, none⟩) n xc], by omega, by go_num, ?_, ?_⟩, by simp [intOf]; omega⟩
            · have := (HY.out.2.1.below H6.out.1).app H6.out.2.1 H8.out.1 H8.out.2.1 H8.out.2.2
              rw [List.append_assoc] at this
              rw [List.take_add_one, HY.out.2.2.2, List.map_append]
              exact this
            · exact (HY.out.2.2.1.trans (H6.out.1.mono HY.out.2.2.1.size)).grown H8.out.2.1 (Nat.le_trans HY.out.2.2.1.size H6.out.1.size) (fun g e => (HY.out.2.1.1.block_lt e).2)
          · have hm1 : ¬ (m : Int) < NB := by omega
            have hmN : m = NB := by omega
            have HY := Lib.hid (And.intro hgl (And.intro hbi hmN))
            clear hgl hbi hmN
            go_wp2_with fail
            refine ⟨⟨k + 1, us, by omega, by go_num, ?_, HY.out.2.1⟩, by simp [intOf]; omega⟩
            rw [cmL_succ HK.out.2.2.1]
            have := HY.out.1
            rw [HY.out.2.2, ← HP.out.2.2.2.1, List.take_length] at this
            exact this
      · have hk1 : ¬ (k : Int) < NA := by omega
        have hkN : k = NA := by omega
        have hgl' := hgl
        rw [hkN, ← HP.out.2.2.1, List.take_length] at hgl'
        have lenA : us4.length = NA := H4.out.2.1.1.trans HP.out.2.2.1
        have lenB : us5.length = NB := H5.out.2.1.1.trans HP.out.2.2.2.1
        have rowB : Row wo a5 us5 := by
          obtain ⟨_, _, er, hr⟩ := H5.out.1.row (by rw [lenB]; have := HP.out.2.2.2.2.2.2.2; have := HP.out.2.2.2.1; unfold maxLen; omega)
          cases er
          exact hr.below hbr
        have o4 : Own wo w2.heap.size (.slice a4 NA c4) 27 us4 := (H4.out.1.below H5.out.2.2.2.1).below hbr
        have sz25 : w2.heap.size ≤ wo.heap.size := Nat.le_trans H5.out.2.2.2.2.size hbr.size
        have one5 : ∀ y ∈ us5, y.oneCell' = true := H5.out.2.1.one_
        have len45 : us4.length + NB < 1000000 := by have := HP.out.2.2.2.2.2.2.1; have := HP.out.2.2.2.2.2.2.2; have := HP.out.2.2.1; have := HP.out.2.2.2.1; omega
        have hXw : X < wo.heap.size := by omega
        have e0 := (hbr.cell (block_lt_of_cell j0)).trans j0
        have bwo : Below w.heap.size w wo := below_trans HP.out.2.2.2.2.1 hbr
        have b2o : Below w2.heap.size w2 wo := below_trans H5.out.2.2.2.2 hbr
        have HK := Lib.hid (And.intro hgl' (And.intro hbr (And.intro rowB (And.intro o4 (And.intro sz25 (And.intro one5 (And.intro bwo b2o)))))))
        clear hgl hgl' hbr rowB o4 sz25 one5 bwo b2o
        go_wp2_with fail
        go_region_law
          (first
            | (refine step_appR ?_ (.tmp 54) (.tmp 55) 44 27 ?_ i27 (.slice none 0 0) 24 Tryz.underlying44 I27.out.1 I27.out.2.1 I27.out.2.2.1 I27.out.2.2.2 ?_ ?_ w2.heap.size (.slice a4 NA c4) us4 us5 ?_ wo HK.out.2.2.2.1 a5 NB c5 ?_ HK.out.2.2.1 lenB HK.out.2.2.2.2.2.1 len45 HK.out.2.2.2.2.1 ?_ ?_
               rfl
               rfl
               rfl
               omega
               rfl
               rfl
               first | exact Below.refl _ _ | exact below_drw (Below.refl _ _) | exact below_self_drewN _ _
               intro v6 w6 k1 k2
               have b6 : Below w2.heap.size wo w6 := (Below.refl _ _).grown k2 HK.out.2.2.2.2.1 (fun g hg => (HK.out.2.2.2.1.block_lt hg).2)
               have bw6 : Below w.heap.size w w6 := HK.out.2.2.2.2.2.2.1.trans (b6.mono HW2.out.size)
               have e6 := (b6.cell (p := ⟨X, 0, none⟩) (show X < w2.heap.size by omega)).trans e0
               have in1 : ∀ g, (Value.slice a4 NA c4).ownBlock = some g → g ∈ N1 := fun g hg => HN1.out ▸ mem_ob.2 hg
               have ou6 : Own w6 w5.heap.size u9 27 us := HK.out.1.1.kept k2 (by
                 rcases HK.out.1.1.blk with h | ⟨g, cur, h, hge, _, _⟩
                 · exact .inl h
                 · refine .inr fun e => ?_
                   rw [h] at e
                   have q1 := (H4.out.1.block_lt e.symm).1
                   have q2 := H5.out.2.2.2.1.size
                   omega)
               have pu6 : PmL w6 (u9.ownBlock.toList ++ N1) us (cmL A B) := HK.out.1.2.1.stp ⟨Kept.ofGrown k2 (fun g e => List.mem_append_right _ (in1 g e)), fun m hm => .inl hm⟩
               have P6 := Lib.hid (And.intro (pms_ownB ou6 pu6.weakM (by rw [cmL_len]; have := HP.out.2.2.2.2.2.1; omega)) (And.intro (pms_ownB k1 (PmL.app (H4.out.2.1.below bw6) (H5.out.2.1.below bw6)) (by rw [List.length_append]; have := HP.out.2.2.2.2.2.2.1; have := HP.out.2.2.2.2.2.2.2; omega)) (And.intro bw6 b6)))
               clear k1 k2 b6 bw6 ou6 pu6 in1)
            | (go_simp; go_at_call 80; (with_reducible refine (closed80 (L := cmL A B) (B := A ++ B) hn ?_ P6.out.1 P6.out.2.1).mono ?_)
               rw [cmL_len]; have := HP.out.2.2.2.2.2.1; omega
               rintro e7 w7 ⟨bk, rfl, k1, k2, k3⟩
               have hsz6 : X + 3 ≤ w6.heap.size := Nat.le_trans hX3 (Nat.le_trans HK.out.2.2.2.2.1 P6.out.2.2.2.size)
               obtain ⟨a7, c7, b7', d7, hb7, hg7⟩ := k3 (List.range (X + 3)) (fun m hm => Nat.lt_of_lt_of_le (List.mem_range.1 hm) hsz6)
               obtain ⟨q0, q1, q2, _⟩ := b81_cells hb7
               have hr7 := (k2.block (X + 2) (by omega)).trans ((P6.out.2.2.2.block (X + 2) (by omega)).trans ((HK.out.2.2.2.2.2.2.2.block (X + 2) (by omega)).trans ((H2.out.block (X + 2) (by rw [HB.out.2.2.2.1]; omega)).trans HB.out.2.2.1)))
               obtain ⟨r0, r1, r2, r3, r4, r5⟩ := box_cells hr7
               have e7 := (k2.cell (p := ⟨X, 0, none⟩) (show X < w6.heap.size by omega)).trans e6
               have H7 := Lib.hid (And.intro hg7 (And.intro hr7 (below_trans P6.out.2.2.1 k2)))
               clear k1 k2 k3 hb7 hg7 hr7))
        all_goals
          go_wp2_with fail
          have hfin : (set3 w7 (X + 1 + 1) (.int .i64 (n : Int)) (.slice a7 n c7) (.slice b7' n d7)).heap[X + 1 + 1]? = some (.cells #[.int .i64 (n : Int), .slice a7 n c7, .slice b7' n d7] 25) := set3_box H7.out.2.1
          obtain ⟨V, hV⟩ : ∃ V, set3 w7 (X + 1 + 1) (.int .i64 (n : Int)) (.slice a7 n c7) (.slice b7' n d7) = V := ⟨_, rfl⟩
          have hKp : Kept w7 V [X + 1 + 1] := hV ▸ set3_kept (by simp)
          rw [hV] at hfin
          unfold set3 at hV
          rw [hV]
          obtain ⟨f0, f1, f2, _⟩ := box_cells hfin
          refine bodyPost_ret (v := .tuple #[.agg #[.int .i64 (n : Int), .slice a7 n c7, .slice b7' n d7], .int .i64 0]) (by simp [results, Tryz.results27, go_sem, f0, f1, f2]) rfl ?_
          refine ⟨a7, c7, b7', d7, rfl, ?_, fun S hS => ?_⟩
          · have h1 := H7.out.2.2
            rw [HB.out.2.2.2.2.2] at h1
            have h2 := h1.size
            exact h1.trans (hKp.below1 (by omega) (by omega))
          · refine ((H7.out.1.kept (hKp.mono (fun q hq => ?_))).congr (cmL_nc g1 g2 HC.out.2.2.2.1 HC.out.2.2.2.2.1)).ext (fun q hq => .inl ?_)
            · rw [List.mem_singleton.1 hq]
              exact List.mem_cons_of_mem _ (List.mem_range.2 (by omega))
            · have := hS q hq
              exact List.mem_cons_of_mem _ (List.mem_range.2 (by omega))
end
end Go.Proofs.YtbejhkojdiadaaaGreat
namespace Go.Proofs.YtbejhkojdiadaaaGreat
open Go.RowKit PlainPm
section
variable {n : Nat}
theorem cell_set_same2 {W : World} {b : Nat} {v : Value} (h : ∃ u, W.cell? ⟨b, 0, none⟩ = some u) : (W.setCell ⟨b, 0, none⟩ v).cell? ⟨b, 0, none⟩ = some v := by
  obtain ⟨u, hu⟩ := h
  exact World.cell?_setCell_same' _ _ _ (by rw [hu]; rfl)
theorem cell_set_ne {W : World} {b b' j : Nat} {v : Value} (h : b ≠ b') : (W.setCell ⟨b', 0, none⟩ v).cell? ⟨b, j, none⟩ = W.cell? ⟨b, j, none⟩ := by
  unfold World.cell?
  have : (W.setCell ⟨b', 0, none⟩ v).heap[b]? = W.heap[b]? := by simp [World.setCell, Array.getElem?_modify, Ne.symm h]
  rw [this]
theorem isSome_set {W : World} {b b' : Nat} {v : Value} (h : ∃ u, W.cell? ⟨b, 0, none⟩ = some u) : ∃ u, (W.setCell ⟨b', 0, none⟩ v).cell? ⟨b, 0, none⟩ = some u := by
  obtain ⟨u, hu⟩ := h
  by_cases e : b = b'
  · subst e; exact ⟨v, cell_set_same2 ⟨u, hu⟩⟩
  · refine ⟨u, ?_⟩
    unfold World.cell? at hu ⊢
    have : (W.setCell ⟨b', 0, none⟩ v).heap[b]? = W.heap[b]? := by simp [World.setCell, Array.getElem?_modify, Ne.symm e]
    rw [this]; exact hu
theorem isSome_below {A W : World} {n : Nat} (k : Below n A W) {p : Addr} (hp : p.block < n) (h : ∃ u, A.cell? p = some u) : ∃ u, W.cell? p = some u := by
  obtain ⟨u, hu⟩ := h
  exact ⟨u, (k.cell hp).trans hu⟩
theorem LvW.up {ab ao bb bo : Nat} {w w' : World} {O : Nat → List Nat} {R : Nat → Nat → Pm n} (h : LvW n w O R ab ao bb bo) (k : Up w w') : LvW n w' O R ab ao bb bo :=
  ⟨fun i hi => by
    obtain ⟨v, hv, g, o, c, rfl, h1, h2, h3, h4⟩ := h.orb i hi
    exact ⟨_, k.cell _ _ hv, g, o, c, rfl, Nat.lt_of_lt_of_le h1 k.size, h2, h3, fun j q hq => k.cell _ _ (h4 j q hq)⟩, fun i hi => by
    obtain ⟨v, hv, g, o, c, rfl, h1, h2, h3, h4⟩ := h.rep i hi
    exact ⟨_, k.cell _ _ hv, g, o, c, rfl, Nat.lt_of_lt_of_le h1 k.size, h2, h3, fun j x hx => by obtain ⟨u, hu, hp⟩ := h4 j x hx; exact ⟨u, k.cell _ _ hu, hp.up k⟩⟩⟩
theorem pmsN_ownM {D : Nat} {w1 w3 : World} {M : List Nat} {v : Value} {us : List Value} {l : List (Pm n)} (ho : Own w3 D v 27 us) (hD : ∀ m ∈ M, m < D) (hp : PmL w1 [] us l) (hb : Below w1.heap.size w1 w3) (hM : ∀ m ∈ M, w1.heap.size ≤ m) (hl : l.length ≤ 1000000) : PmsN w3 M v l := by
  have hlm : us.length ≤ maxLen := by rw [hp.1]; unfold maxLen; omega
  obtain ⟨a, c, e, hr⟩ := ho.row hlm
  refine ⟨a, c, us, by rw [e, hp.1], fun W' k => ?_, ⟨hp.1, fun i x hx => by obtain ⟨u, hu, hpm⟩ := hp.2 i x hx; exact ⟨u, hu, hpm.fresh hb hM⟩⟩⟩
  have ho' : Own W' D v 27 us := ho.keptL k (fun g hg hm => by have h1 := (ho.block_lt hg).2; have := hD g hm; omega)
  obtain ⟨a', c', e', hr'⟩ := ho'.row hlm
  rw [e] at e'
  cases e'
  exact hr'
theorem Own.lowset {w : World} {B b : Nat} {v u : Value} {e : TypeId} {xs : List Value} (h : Own w B v e xs) (hb : b < B) : Own (w.setCell ⟨b, 0, none⟩ u) B v e xs :=
  h.kept (grown_put 0 u) (by
    rcases h.blk with h1 | ⟨g, cur, h1, h2, _, _⟩
    · exact .inl h1
    · exact .inr (fun e => by rw [h1] at e; cases e; omega))
theorem two_set {W : World} {X : Nat} {a b v u : Value} {t s : TypeId} (h2 : W.heap[X + 1 + 1]? = some (.cells #[a] t (0, 0))) (h3 : W.heap[X + 1 + 1 + 1]? = some (.cells #[b] s (0, 0))) :
    ((W.setCell ⟨X + 1 + 1, 0, none⟩ v).setCell ⟨X + 1 + 1 + 1, 0, none⟩ u).heap[X + 1 + 1]? = some (.cells #[v] t (0, 0)) ∧ ((W.setCell ⟨X + 1 + 1, 0, none⟩ v).setCell ⟨X + 1 + 1 + 1, 0, none⟩ u).heap[X + 1 + 1 + 1]? = some (.cells #[u] s (0, 0)) ∧
    Kept W ((W.setCell ⟨X + 1 + 1, 0, none⟩ v).setCell ⟨X + 1 + 1 + 1, 0, none⟩ u) [X + 1 + 1, X + 1 + 1 + 1] ∧ ∀ k, k ≠ X + 1 + 1 → k ≠ X + 1 + 1 + 1 → ((W.setCell ⟨X + 1 + 1, 0, none⟩ v).setCell ⟨X + 1 + 1 + 1, 0, none⟩ u).heap[k]? = W.heap[k]? := by
  have other : ∀ (W : World) (b k : Nat) (v : Value), k ≠ b → (W.setCell ⟨b, 0, none⟩ v).heap[k]? = W.heap[k]? := fun W b k v h => by
    simp [World.setCell, Array.getElem?_modify, Ne.symm h]
  refine ⟨?_, ?_, ?_, fun k h h' => ?_⟩
  · rw [other _ _ _ _ (by omega)]; exact box1_set h2
  · exact box1_set ((other _ _ _ _ (by omega)).trans h3)
  · exact (Kept.ofGrown (grown_put 0 v) (fun k e => by cases e; simp)).trans (Kept.ofGrown (grown_put 0 u) (fun k e => by cases e; simp))
  · rw [other _ _ _ _ h', other _ _ _ _ h]
theorem drew_size' (w : World) : w.drew.heap.size = w.heap.size := rfl
theorem drew_cell' (w : World) (p : Addr) : w.drew.cell? p = w.cell? p := rfl
theorem drew_frozen' (w : World) (p : Addr) : w.drew.frozen? p = w.frozen? p := rfl
theorem al_at {w : World} {X : Nat} (hX : w.heap.size = X) (o : Obj) : (w.alloc o).heap[X]? = some o := hX ▸ World.alloc_heap_new w o
theorem keep3b {X : Nat} {V A B : World} {u0 u1 u2 : Value} (h : A.cell? ⟨X, 0, none⟩ = some u0 ∧ A.cell? ⟨X, 1, none⟩ = some u1 ∧ A.cell? ⟨X, 2, none⟩ = some u2 ∧ Below V.heap.size V A) (k : Below A.heap.size A B) :
    B.cell? ⟨X, 0, none⟩ = some u0 ∧ B.cell? ⟨X, 1, none⟩ = some u1 ∧ B.cell? ⟨X, 2, none⟩ = some u2 ∧ Below V.heap.size V B :=
  ⟨(k.cell (block_lt_of_cell h.1)).trans h.1, (k.cell (block_lt_of_cell h.2.1)).trans h.2.1, (k.cell (block_lt_of_cell h.2.2.1)).trans h.2.2.1, below_trans h.2.2.2 k⟩
end
end Go.Proofs.YtbejhkojdiadaaaGreat
namespace Go.Proofs.YtbejhkojdiadaaaGreat
open Go.RowKit PlainPm
section
variable {n : Nat}
theorem GrG.chk {w : World} {v : Value} {G : Pm n → Prop} (hn : 0 < n ∧ n ≤ 64) (hG : IsG G) (h : GrG w v G) : ∃ os rs, ChV w v n os rs ∧ chkE n os rs = 0 := by
  obtain ⟨T, t, c, _⟩ := h.ch
  refine ⟨_, _, c, ?_⟩
  unfold chkE
  rw [if_pos (by omega), Int.toNat_natCast, if_pos (valid_ofG hG t)]
theorem chkP_l (hn : 0 < n ∧ n ≤ 64) (x : Pm n) : chkPerm x.l = 0 := (chk_iff x.ok.1 (by omega) hn.2).2 x.ok
def mixC (A : List (Pm n)) (p : Pm n) (k : Nat) : List (Pm n) := (A.take k).map (fun a => cj a p) ++ A.drop k
theorem mixC_zero (A : List (Pm n)) (p : Pm n) : mixC A p 0 = A := by simp [mixC]
theorem mixC_get {A : List (Pm n)} {p a : Pm n} {k : Nat} (h : A[k]? = some a) : (mixC A p k)[k]? = some a := by
  have hk := (List.getElem?_eq_some_iff.1 h).1
  unfold mixC
  rw [List.getElem?_append_right (by simp; omega)]
  simp [Nat.min_eq_left (Nat.le_of_lt hk), h]
theorem mixC_set {A : List (Pm n)} {p a : Pm n} {k : Nat} (h : A[k]? = some a) : (mixC A p k).set k (cj a p) = mixC A p (k + 1) := by
  have hk := (List.getElem?_eq_some_iff.1 h).1
  have hd : A.drop k = a :: A.drop (k + 1) := by
    rw [List.drop_eq_getElem_cons hk]
    congr 1
    exact (List.getElem?_eq_some_iff.1 h).2
  unfold mixC
  rw [List.set_append_right _ _ (by simp; omega), hd, List.take_add_one, h]
  simp [Nat.min_eq_left (Nat.le_of_lt hk)]
theorem mixC_all {A : List (Pm n)} {p : Pm n} : mixC A p A.length = A.map (fun a => cj a p) := by simp [mixC]
theorem PmL.setP {w : World} {M : List Nat} {us : List Value} {l : List (Pm n)} {k : Nat} {v : Value} {x : Pm n} (h : PmL w M us l) (hv : PmV w M v x) : PmL w M (us.set k v) (l.set k x) := by
  refine ⟨by simp [h.1], fun i y hy => ?_⟩
  by_cases e : i = k
  · subst e
    have hi : i < (l.set i x).length := (List.getElem?_eq_some_iff.1 hy).1
    rw [List.length_set] at hi
    rw [List.getElem?_set_self hi] at hy
    cases hy
    exact ⟨v, by rw [List.getElem?_set_self (by rw [h.1]; exact hi)], hv⟩
  · rw [List.getElem?_set_ne (Ne.symm e)] at hy
    obtain ⟨u, hu, hp⟩ := h.2 i y hy
    exact ⟨u, by rw [List.getElem?_set_ne (Ne.symm e)]; exact hu, hp⟩
set_option maxRecDepth 100000 in
set_option maxHeartbeats 4000000 in
theorem cnj34 (hn' : 0 < n ∧ n ≤ 8) {w : World} {v1 vx : Value} {G : Pm n → Prop} {p : Pm n} (hG : IsG G) (h1 : GrG w v1 G) (hx : PmV w [] vx p) :
    Calls Tryz.prog 34 #[v1, vx] w fun e w' => ∃ a c b d, e = .returned (.tuple #[.agg #[.int .i64 (n : Int), .slice a n c, .slice b n d], .int .i64 0]) ∧ Below w.heap.size w w' ∧
      ∀ S, (∀ m ∈ S, m < w.heap.size) → GrS w' (.agg #[.int .i64 (n : Int), .slice a n c, .slice b n d]) (CjG G p) S := by
  have hn : 0 < n ∧ n ≤ 64 := ⟨hn'.1, by omega⟩
  obtain ⟨i27, hi27, hz27, hs27, hb27⟩ := info_parts Tryz.info27
  have I27 := Lib.hid (And.intro hi27 (And.intro hz27 (And.intro hs27 hb27)))
  clear hi27 hz27 hs27 hb27
  obtain ⟨os, rs, hch, hc0⟩ := h1.chk hn hG
  have hck := fun (V : World) (hV : Below w.heap.size w V) => chk54 (hch.below hV)
  simp only [hc0] at hck
  obtain ⟨T1, t1, ab, ao, c, bb, bo, e, hv1, hl1⟩ := h1.lev hG ⟨hn.1, hn.2⟩
  subst hv1
  have l1 := fun (V : World) (hV : Below w.heap.size w V) => strong73 (O := orbO T1) (R := PlainPm.repT T1) (c := c) (e := e) hn (t1.chG hG) hl1 hV
  have hC1 := sgen_grp hG t1
  have hs1 := sgen_len2 hG t1
  obtain ⟨A, hA⟩ : ∃ A, sgen n (orbO T1) (PlainPm.repT T1) n = A := ⟨_, rfl⟩
  rw [hA] at l1 hC1 hs1
  obtain ⟨xa, xc, ex, hxi⟩ := PmV.ints (n := n) (by omega) hx
  have hxl := p.ok.1
  rw [hxl] at ex
  subst ex
  have hpc := fun (V : World) (hV : Below w.heap.size w V) => perm_calls (c := xc) (hxi.below hV)
  simp only [chkP_l hn p, hxl] at hpc
  obtain ⟨xb, xo, xcc, exx, _⟩ := id hx
  simp only [Value.slice.injEq, true_and] at exx
  obtain ⟨rfl, rfl⟩ := exx
  obtain ⟨X, hX⟩ : ∃ X, w.heap.size = X := ⟨_, rfl⟩
  obtain ⟨W1, hW1⟩ : ∃ W1, (w.alloc (.cells #[.int .i64 (n : Int), .slice (some ⟨ab, ao, none⟩) n c, .slice (some ⟨bb, bo, none⟩) n e] 25)).alloc (.cells #[.int .i64 0, .slice none 0 0, .slice none 0 0] 25) = W1 := ⟨_, rfl⟩
  have hsz : W1.heap.size = X + 2 := by rw [← hW1]; simp [hX]
  have hwW : Below w.heap.size w W1 := hW1 ▸ alloc_b (alloc_b (Below.refl _ _) _) _
  have k0 : W1.heap[X]? = some (.cells #[.int .i64 (n : Int), .slice (some ⟨ab, ao, none⟩) n c, .slice (some ⟨bb, bo, none⟩) n e] 25) := by
    rw [← hW1]
    exact ((alloc_b (Below.refl _ _) _).block X (by simp; omega)).trans (box_al25 hX _ _ _)
  have k1 : W1.heap[X + 1]? = some (.cells #[.int .i64 0, .slice none 0 0, .slice none 0 0] 25) := by
    rw [← hW1]
    exact box_al25 (by simp [hX]) _ _ _
  obtain ⟨x0, x1, x2, _⟩ := box_cells k0
  have hx0 := And.intro x0 (And.intro x1 (And.intro x2 (Below.refl W1.heap.size W1)))
  have HB := Lib.hid (And.intro k0 (And.intro k1 (And.intro hsz (And.intro hwW hX))))
  have HC := Lib.hid (And.intro hck (And.intro l1 (And.intro hC1 (And.intro hs1 (And.intro hpc hx)))))
  have hnn : ((n : Int) != (n : Int)) = false := by simp
  clear hck l1 hC1 hs1 hpc k0 k1 hsz hwW h1 hx hxi hch hA t1 hl1
  go_enter Tryz.func34, Tryz.ntmps34
  try simp only [hX]
  go_wp2_with (first
    | (go_at_call 73; (with_reducible refine (HC.out.2.1 _ (below_trans HB.out.2.2.2.1 H3.out)).mono ?_)
       rintro e4 w4 ⟨v4, us4, rfl, k1, k2, k3, k4⟩
       obtain ⟨a4, c4, rfl, _⟩ := k1.row (by unfold maxLen; omega)
       have b4 : Below W1.heap.size W1 w4 := below_trans H3.out k4
       obtain ⟨j0, j1, j2, _⟩ := keep3b hx0 b4
       have H4 := Lib.hid (And.intro k1 (And.intro k2 (And.intro k3 (And.intro b4 k4))))
       clear k1 k2 k3 k4 b4)
    | (go_at_call 92; (with_reducible refine (HC.out.2.2.2.2.1 _ (below_trans HB.out.2.2.2.1 H2.out)).mono ?_)
       rintro e3 w3 ⟨rfl, k⟩
       have b3 : Below W1.heap.size W1 w3 := below_trans H2.out k
       obtain ⟨i0, i1, i2, _⟩ := keep3b hx0 b3
       have H3 := Lib.hid b3
       clear k b3)
    | (go_at_call 54; (with_reducible refine (HC.out.1 _ HB.out.2.2.2.1).mono ?_)
       rintro e2 w2 ⟨rfl, k⟩
       obtain ⟨z0, z1, z2, _⟩ := keep3b hx0 k
       have H2 := Lib.hid k
       clear k))
  have hw4 : Below w.heap.size w w4 := below_trans HB.out.2.2.2.1 H4.out.2.2.2.1
  have la := H4.out.2.1.1
  have c36 : A.length ≤ 36 := (cap8 hn'.2 HC.out.2.2.2.1 HC.out.2.2.2.1).1
  obtain ⟨NA, hNA⟩ : ∃ N, us4.length = N := ⟨_, rfl⟩
  have hlen : A.length = NA := la.symm.trans hNA
  rw [hNA] at H4 ⊢
  have hp4 := HC.out.2.2.2.2.2.below hw4
  have HP := Lib.hid (And.intro hlen (And.intro c36 (And.intro hw4 hp4)))
  have hN63 : NA ≤ 9223372036854775807 := by omega
  clear hlen hNA la c36 hw4 hp4
  obtain ⟨N1, hN1⟩ : ∃ N1, (Value.slice a4 NA c4).ownBlock.toList = N1 := ⟨_, rfl⟩
  have p0 : PmL w4 N1 us4 (mixC A p 0) := by
    rw [mixC_zero]
    refine ⟨H4.out.2.1.1, fun i x hx => ?_⟩
    obtain ⟨u, hu, hpm⟩ := H4.out.2.1.2 i x hx
    refine ⟨u, hu, hpm.fresh HP.out.2.2.1 (fun m hm => ?_)⟩
    have h1 := (H4.out.1.block_lt (mem_ob.1 (hN1 ▸ hm))).2
    have h2 := (below_trans HB.out.2.2.2.1 H3.out).size
    omega
  have HN1 := Lib.hid (And.intro hN1 p0)
  clear hN1 p0
  go_loopw [32] (fun i wr => ∃ (k : Nat) (us : List Value), k ≤ NA ∧ i = .int .i64 (k : Int) ∧ us.length = NA ∧ Own wr w3.heap.size (.slice a4 NA c4) 27 us ∧ PmL wr N1 us (mixC A p k) ∧ Below w3.heap.size w3 wr) (fun i _ => NA - (intOf i).toNat)
  case atStart => exact ⟨0, us4, Nat.zero_le _, rfl, H4.out.2.1.1.trans HP.out.1, H4.out.1, HN1.out.2, H4.out.2.2.2.2⟩
  case round =>
    obtain ⟨k, us, hk, rfl, hlu, ho, hpl, hbr⟩ := hrel
    by_cases hka : k < NA
    · have hk1 : (k : Int) < NA := by omega
      obtain ⟨a, ha⟩ : ∃ a, A[k]? = some a := ⟨_, List.getElem?_eq_getElem (by rw [HP.out.1]; exact hka)⟩
      obtain ⟨u, hu, hpu⟩ := hpl.2 k a (mixC_get ha)
      obtain ⟨g, cap, ev, _, _, _, _⟩ := ho.form (by rw [hlu]; omega)
      simp only [Value.slice.injEq] at ev
      obtain ⟨rfl, -, rfl⟩ := ev
      have hc6 := (ho.cell k (by rw [hlu]; exact hka)).trans hu
      obtain ⟨ub, uo, uc, rfl, _⟩ := id hpu
      have h84 := px84 hn hpu.weak (HC.out.2.2.2.2.2.below (below_trans (below_trans HB.out.2.2.2.1 H3.out) hbr))
      have HY := Lib.hid (And.intro h84 (And.intro ho (And.intro hpl (And.intro hbr (And.intro ha hlu)))))
      clear h84 ho hpl hbr ha hlu hu hpu
      go_wp2_with (go_at_call 84; (with_reducible refine HY.out.1.mono ?_); rintro e6 w6 ⟨v6, rfl, k1, k2⟩
                   have o6 := HY.out.2.1.below k2
                   have s0 : w6.cell? ⟨g, k, none⟩ = some (.slice (some ⟨ub, uo, none⟩) n uc) := (k2.cell (block_lt_of_cell hc6)).trans hc6
                   have s1 : w6.frozen? ⟨g, k, none⟩ = false := o6.frozen k
                   obtain ⟨vb, vc, rfl, _⟩ := id k1
                   have H6 := Lib.hid (And.intro o6 (And.intro k1 k2))
                   clear k1 k2 o6)
      have hg1 : g ∈ N1 := HN1.out.1 ▸ mem_ob.2 rfl
      have hz := H6.out.2.1.pm (M := N1) (fun m hm => (HY.out.2.1.block_lt (mem_ob.1 (HN1.out.1 ▸ hm))).1)
      refine ⟨⟨k + 1, us.set k (.slice (some ⟨vb, 0, none⟩) n vc), by omega, by go_num, by rw [List.length_set]; exact HY.out.2.2.2.2.2, H6.out.1.put k _, ?_, ?_⟩, by simp [intOf]; omega⟩
      · rw [← mixC_set HY.out.2.2.2.2.1]
        exact ((HY.out.2.2.1.stp (Stp.below H6.out.2.2)).setP hz).stp ⟨Kept.ofGrown (grown_put k _) (fun j e => by cases e; exact hg1), fun m hm => .inl hm⟩
      · exact ((HY.out.2.2.2.1.trans (H6.out.2.2.mono HY.out.2.2.2.1.size)).grown (grown_put k _) (Nat.le_trans HY.out.2.2.2.1.size H6.out.2.2.size) (fun j e => by cases e; exact (H6.out.1.block_lt rfl).2))
    · have hk1 : ¬ (k : Int) < NA := by omega
      have hkN : k = NA := by omega
      have hpl' : PmL wr N1 us (A.map fun a => cj a p) := by
        have := hpl
        rw [hkN, ← HP.out.1, mixC_all] at this
        exact this
      have hb1 : Below W1.heap.size W1 wr := below_trans H3.out hbr
      obtain ⟨q0, q1, q2, _⟩ := keep3b hx0 hb1
      have K1 := Lib.hid (And.intro (pms_ownB ho hpl'.weakM (by rw [List.length_map]; have := HP.out.2.1; omega)) hb1)
      clear hpl hpl' ho hbr hb1
      go_wp2_with (go_at_call 90; (with_reducible refine (mk90 (L := A.map fun a => cj a p) hn (by rw [List.length_map]; have := HP.out.2.1; omega) K1.out.1).mono ?_); rintro e7 w7 ⟨a7, c7, b7', d7, rfl, k2, k3⟩
                   have hr7 := (k2.block (X + 1) (by have := K1.out.2.size; have := HB.out.2.2.1; omega)).trans ((K1.out.2.block (X + 1) (by rw [HB.out.2.2.1]; omega)).trans HB.out.2.1)
                   obtain ⟨r0, r1, r2, r3, r4, r5⟩ := box_cells hr7
                   have hg7 := k3 (List.range (X + 2)) (fun m hm => by have := List.mem_range.1 hm; have := K1.out.2.size; have := HB.out.2.2.1; omega)
                   have H7 := Lib.hid (And.intro hg7 (And.intro hr7 (below_trans HB.out.2.2.2.1 (below_trans K1.out.2 k2))))
                   clear k2 k3 hg7 hr7)
      have hfin : (set3 w7 (X + 1) (.int .i64 (n : Int)) (.slice a7 n c7) (.slice b7' n d7)).heap[X + 1]? = some (.cells #[.int .i64 (n : Int), .slice a7 n c7, .slice b7' n d7] 25) := set3_box H7.out.2.1
      obtain ⟨V, hV⟩ : ∃ V, set3 w7 (X + 1) (.int .i64 (n : Int)) (.slice a7 n c7) (.slice b7' n d7) = V := ⟨_, rfl⟩
      have hKp : Kept w7 V [X + 1] := hV ▸ set3_kept (by simp)
      rw [hV] at hfin
      unfold set3 at hV
      rw [hV]
      obtain ⟨f0, f1, f2, _⟩ := box_cells hfin
      refine bodyPost_ret (v := .tuple #[.agg #[.int .i64 (n : Int), .slice a7 n c7, .slice b7' n d7], .int .i64 0]) (by simp [results, Tryz.results34, go_sem, f0, f1, f2]) rfl ?_
      refine ⟨a7, c7, b7', d7, rfl, ?_, fun S hS => ?_⟩
      · have h1 := H7.out.2.2
        rw [HB.out.2.2.2.2] at h1
        have h2 := h1.size
        exact h1.trans (hKp.below1 (by omega) (by omega))
      · refine ((H7.out.1.kept (hKp.mono (fun q hq => ?_))).congr (grp_cj HC.out.2.2.1 hG p)).ext (fun q hq => .inl ?_)
        · rw [List.mem_singleton.1 hq]
          exact List.mem_range.2 (by omega)
        · have := hS q hq
          exact List.mem_range.2 (by omega)
end
end Go.Proofs.YtbejhkojdiadaaaGreat
namespace Go.Proofs.YtbejhkojdiadaaaGreat
open Go.RowKit PlainPm
theorem emod_of_tmod {n k : Int} (h : 0 < k) : n % k = if n.tmod k < 0 then n.tmod k + k else n.tmod k := by
  rw [Int.emod_eq_tmod]
  have h2 := Int.tmod_lt_of_pos n (b := k) h
  have h3 := Int.lt_tmod_of_pos n (b := k) h
  by_cases h4 : 0 ≤ n ∨ k ∣ n
  · rw [if_pos h4, if_neg]
    · omega
    · rcases h4 with h4 | h4
      · have := Int.tmod_nonneg k h4; omega
      · rw [Int.tmod_eq_zero_of_dvd h4]; omega
  · rw [if_neg h4]
    have hn : ¬ 0 ≤ n := fun h => h4 (.inl h)
    have hd : n.tmod k ≠ 0 := fun h => h4 (.inr (Int.dvd_of_tmod_eq_zero h))
    have h5 : n.tmod k ≤ 0 := by
      have h6 := Int.tmod_nonneg k (a := -n) (by omega)
      rw [Int.neg_tmod] at h6; omega
    rw [if_pos (by omega)]
    omega
theorem ret_int' {a b : Int} (h : a = b) : Ending.returned (.int .i64 a) = Ending.returned (.int .i64 b) := by rw [h]
theorem pick51 {x n : Int} (hn : 0 < n) (hn2 : n ≤ 1000000) (w : World) : Calls Tryz.prog 51 #[.int .i64 x, .int .i64 n] w fun e w' => e = .returned (.int .i64 (x % n)) ∧ ∃ q, w' = w.drewN q := by
  have hb := emod_of_tmod (n := x) hn
  have h2 := Int.tmod_lt_of_pos x (b := n) hn
  have h3 := Int.lt_tmod_of_pos x (b := n) hn
  have h0 : (n == 0) = false := by simp; omega
  have h0' : n ≠ 0 := by omega
  obtain ⟨r, hr⟩ : ∃ r, x.tmod n = r := ⟨_, rfl⟩
  rw [hr] at hb h2 h3
  by_cases h4 : r < 0
  · rw [if_pos h4] at hb
    have Hb := Lib.hid hb
    clear hb
    go_enter Tryz.func51, Tryz.ntmps51
    go_wp2_with fail
    go_ret
    exact ⟨ret_int' (by rw [Hb.out]), 0, rfl⟩
  · rw [if_neg h4] at hb
    have Hb := Lib.hid hb
    clear hb
    go_enter Tryz.func51, Tryz.ntmps51
    go_wp2_with fail
    go_ret
    exact ⟨ret_int' (by rw [Hb.out]), 0, rfl⟩
structure TkW (w0 w : World) (tk : Nat) (l : List Int) : Prop where
  box : ∃ a c p, w.heap[tk]? = some (.cells #[.slice a l.length c, .int .i64 ((p : Nat) : Int)] 112) ∧ p ≤ l.length ∧ Ints w0 a l
  old : w0.heap.size ≤ tk
  bel : Below w0.heap.size w0 w
theorem TkW.kept {w0 w w' : World} {tk : Nat} {l : List Int} {S : List Nat} (h : TkW w0 w tk l) (k : Kept w w' S) (hs : ∀ m ∈ S, w0.heap.size ≤ m ∧ m ≠ tk) : TkW w0 w' tk l := by
  obtain ⟨⟨a, c, p, h1, h2, h3⟩, h4, h5⟩ := h
  exact ⟨⟨a, c, p, (k.block tk (Array.getElem?_eq_some_iff.1 h1).1 (fun hm => (hs tk hm).2 rfl)).trans h1, h2, h3⟩, h4, h5.trans (k.below h5.size (fun m hm => (hs m hm).1))⟩
theorem TkW.below {w0 w w' : World} {tk : Nat} {l : List Int} (h : TkW w0 w tk l) (k : Below w.heap.size w w') : TkW w0 w' tk l := h.kept (S := []) (Kept.ofBelow k) (by simp)
theorem TkW.lt {w0 w : World} {tk : Nat} {l : List Int} (h : TkW w0 w tk l) : tk < w.heap.size := by
  obtain ⟨⟨a, c, p, h1, _⟩, _⟩ := h
  exact (Array.getElem?_eq_some_iff.1 h1).1
theorem box2_cells {W : World} {Y : Nat} {u v : Value} {t : TypeId} (h : W.heap[Y]? = some (.cells #[u, v] t (0, 0))) : W.cell? ⟨Y, 0, none⟩ = some u ∧ W.cell? ⟨Y, 1, none⟩ = some v ∧ W.frozen? ⟨Y, 1, none⟩ = false := by
  refine ⟨?_, ?_, ?_⟩ <;> simp [World.cell?, World.frozen?, h]
theorem box2_set1 {W : World} {Y : Nat} {u v v' : Value} {t : TypeId} (h : W.heap[Y]? = some (.cells #[u, v] t (0, 0))) : (W.setCell ⟨Y, 1, none⟩ v').heap[Y]? = some (.cells #[u, v'] t (0, 0)) := by
  have hl := (Array.getElem?_eq_some_iff.1 h).1
  have h2 : W.heap[Y] = .cells #[u, v] t (0, 0) := by rw [Array.getElem?_eq_getElem hl] at h; exact Option.some.inj h
  simp [World.setCell, Array.getElem_modify, hl, h2]
set_option maxRecDepth 100000 in
set_option maxHeartbeats 2000000 in
theorem take98 {w0 w : World} {tk : Nat} {l : List Int} (h : TkW w0 w tk l) {n : Int} (hn : n ≤ 1000000) (hn2 : -1000000 ≤ n) :
    Calls Tryz.prog 98 #[.pointer (some ⟨tk, 0, none⟩), .int .i64 n] w fun e w' => ∃ k : Nat, e = .returned (.int .i64 (k : Int)) ∧ (0 < n → (k : Int) < n) ∧ (n ≤ 0 → k = 0) ∧ TkW w0 w' tk l ∧ Kept w w' [tk] := by
  have H := Lib.hid h
  obtain ⟨⟨a, c, p, hbx, hp, hi⟩, hold, hbel⟩ := h
  have hlen := hi.len
  obtain ⟨L, hL⟩ : ∃ L, l.length = L := ⟨_, rfl⟩
  have hat : ∀ (hpl : p < L), ∃ b o, a = some ⟨b, o, none⟩ ∧ w.cell? ⟨b, o + p, none⟩ = some (.int .i64 (l[p]?.getD 0)) ∧ b < w0.heap.size := fun hpl => by
    obtain ⟨b, o, e, hb, hc⟩ := hi.at_ (k := p) (by omega)
    exact ⟨b, o, e, (hbel.cell (p := ⟨b, o + p, none⟩) hb).trans hc, hb⟩
  rw [hL] at hbx hp hlen
  obtain ⟨z0, z1, z2⟩ := box2_cells hbx
  have HH := Lib.hid (And.intro hbx (And.intro hL (And.intro hat (And.intro hi (And.intro hold hbel)))))
  clear hbx hL hi hat hbel
  by_cases hpL : L ≤ p
  · have g1 : decide ((L : Int) ≤ (p : Int)) = true := by simp; omega
    have g2 : decide (L ≤ p) = true := by simp [hpL]
    go_enter Tryz.func98, Tryz.ntmps98
    go_wp2_with fail
    go_quiet (fail)
    go_wp2_with fail
    refine bodyPost_ret (v := .int .i64 ((0 : Nat) : Int)) (by simp [results, Tryz.results98, go_sem]) rfl ?_
    exact ⟨0, rfl, fun h => by simpa using h, fun _ => rfl, H.out.below (below_self_drewN _ _), (Kept.refl _ _).drewN _⟩
  · have g1 : decide ((L : Int) ≤ (p : Int)) = false := by simp; omega
    have g2 : decide (L ≤ p) = false := by simp; omega
    by_cases hn1 : n < 1
    · have g3 : decide (n < 1) = true := by simp [hn1]
      go_enter Tryz.func98, Tryz.ntmps98
      go_wp2_with fail
      go_quiet (fail)
      go_wp2_with fail
      refine bodyPost_ret (v := .int .i64 ((0 : Nat) : Int)) (by simp [results, Tryz.results98, go_sem]) rfl ?_
      exact ⟨0, rfl, fun h => by omega, fun _ => rfl, H.out.below (below_self_drewN _ _), (Kept.refl _ _).drewN _⟩
    · have g3 : decide (n < 1) = false := by simp [hn1]
      obtain ⟨b, o, rfl, hc, hb0⟩ := HH.out.2.2.1 (by omega)
      have hbtk : b ≠ tk := by omega
      obtain ⟨xv, hxv⟩ : ∃ x, l[p]?.getD 0 = x := ⟨_, rfl⟩
      rw [hxv] at hc
      clear hxv
      have hw1 : IntKind.i64.wrap ((p : Int) + 1) = ((p + 1 : Nat) : Int) := by rw [show ((p : Int) + 1) = ((p + 1 : Nat) : Int) by simp]; exact IntWalk.i64_in _ (by omega)
      go_enter Tryz.func98, Tryz.ntmps98
      go_wp2_with fail
      go_quiet (fail)
      go_wp2_with fail
      obtain ⟨W1, hW1⟩ : ∃ W1, (w.drewN nq).setCell ⟨tk, 1, none⟩ (.int .i64 ((p : Int) + 1)) = W1 := ⟨_, rfl⟩
      have hbx1 : W1.heap[tk]? = some (.cells #[.slice (some ⟨b, o, none⟩) L c, .int .i64 ((p : Int) + 1)] 112) := hW1 ▸ box2_set1 (W := w.drewN nq) HH.out.1
      have hk1 : Kept w W1 [tk] := hW1 ▸ ((Kept.refl _ _).drewN nq).trans (Kept.ofGrown (grown_put 1 _) (fun k e => by cases e; exact List.mem_singleton.2 rfl))
      obtain ⟨y0, y1, _⟩ := box2_cells hbx1
      have hc1 : W1.cell? ⟨b, o + p, none⟩ = some (.int .i64 xv) := (hk1.cell (p := ⟨b, o + p, none⟩) (Nat.lt_of_lt_of_le hb0 HH.out.2.2.2.2.2.size) (by simpa using hbtk)).trans hc
      have Hc := Lib.hid (fun q => pick51 (x := xv) (n := n) (by omega) hn (W1.drewN q))
      have hw2 : IntKind.i64.wrap ((p : Int) + 1 - 1) = (p : Int) := by rw [show ((p : Int) + 1 - 1) = (p : Int) by omega]; exact IntWalk.i64_in _ (by omega)
      have hw3 : (p : Int) + 1 - 1 = (p : Int) := by omega
      have hp0 : (0 : Int) ≤ (p : Int) := by omega
      have hpL1 : (p : Int) < (L : Int) := by omega
      have hw4 : IntKind.i64.wrap (p : Int) = (p : Int) := IntWalk.i64_in _ (by omega)
      obtain ⟨r, hr⟩ : ∃ r, xv % n = r := ⟨_, rfl⟩
      rw [hr] at Hc
      have HK := Lib.hid (And.intro hbx1 (And.intro hk1 hr))
      clear hbx1 hk1 hr z0 z1 hc
      rw [hW1]
      clear hW1
      go_quiet ((go_at_call 51; exact Calls.quiet_of (Hc.out _)))
      go_wp2_with fail
      have hr0 : 0 ≤ r := by rw [← HK.out.2.2]; exact Int.emod_nonneg _ (by omega)
      have hrn : r < n := by rw [← HK.out.2.2]; exact Int.emod_lt_of_pos _ (by omega)
      obtain ⟨k, rfl⟩ : ∃ k : Nat, r = (k : Int) := ⟨r.toNat, by omega⟩
      refine bodyPost_ret (v := .int .i64 (k : Int)) (by simp [results, Tryz.results98, go_sem]) rfl ?_
      refine ⟨k, rfl, fun _ => hrn, fun h => by omega, ?_, HK.out.2.1.drewN _⟩
      refine ⟨⟨some ⟨b, o, none⟩, c, p + 1, ?_, by rw [HH.out.2.1]; omega, HH.out.2.2.2.1⟩, HH.out.2.2.2.2.1, ?_⟩
      · rw [HH.out.2.1]
        exact HK.out.1
      · exact below_drewN (HH.out.2.2.2.2.2.trans (HK.out.2.1.below1 HH.out.2.2.2.2.2.size HH.out.2.2.2.2.1)) _
end Go.Proofs.YtbejhkojdiadaaaGreat
namespace Go.Proofs.YtbejhkojdiadaaaGreat
open Go.RowKit PlainPm
theorem ofF_congr {n : Nat} {f g : Nat → Nat} (h : ∀ i, i < n → f i = g i) : ofF n f = ofF n g := by
  unfold ofF
  exact List.map_congr_left fun i hi => by rw [h i (List.mem_range.1 hi)]
theorem ints_setF {n m v : Nat} {f : Nat → Nat} (hm : m < n) : (ints (ofF n f)).set m (.int .i64 (v : Int)) = ints (ofF n fun j => if j = m then v else f j) := by
  apply List.ext_getElem?
  intro i
  rw [List.getElem?_set]
  unfold ints ofF
  by_cases hi : i < n
  · by_cases e : m = i
    · subst e
      simp [hi]
    · rw [if_neg e]
      simp [hi, Ne.symm e]
  · rw [if_neg (by omega)]
    simp [hi]
theorem ofF_len {n : Nat} {f : Nat → Nat} : (ofF n f).length = n := by simp [ofF]
theorem pm_ofF {n : Nat} (x : Pm n) : x.l = ofF n x.at := by
  apply List.ext_getElem?
  intro i
  by_cases hi : i < n
  · rw [x.get hi, ofF_get hi]
  · rw [List.getElem?_eq_none (by have := x.ok.1; omega), List.getElem?_eq_none (by rw [ofF_len]; omega)]
theorem ints_pm {n m : Nat} {x : Pm n} (hm : m < n) : (ints x.l)[m]? = some (.int .i64 (x.at m : Int)) := by
  unfold ints; rw [List.getElem?_map, x.get hm]; rfl
set_option maxHeartbeats 400000 in
theorem one65o {n : Nat} (hn : n ≤ 64) (hn0 : 0 < n) {w : World} :
    Calls Tryz.prog 65 #[.int .i64 (n : Int)] w fun e w' => ∃ g c, e = .returned (.slice (some ⟨g, 0, none⟩) n c) ∧ Own w' w.heap.size (.slice (some ⟨g, 0, none⟩) n c) 3 (ints (PlainPm.one n).l) ∧ Below w.heap.size w w' := by
  obtain ⟨i3, hi3, hz3, hs3, hb3⟩ := info_parts Tryz.info3
  have I3 := Lib.hid (And.intro hi3 (And.intro hz3 (And.intro hs3 hb3)))
  clear hi3 hz3 hs3 hb3
  go_enter Tryz.func65, Tryz.ntmps65
  go_wp2
  go_loopw [3, 4] (fun v i wr => ∃ k : Nat, k ≤ n ∧ i = .int .i64 (k : Int) ∧ Own wr w.heap.size v 3 (ints (ofF k fun i => i)) ∧ Below w.heap.size w wr) (fun _ i _ => n - (intOf i).toNat)
  case atStart => exact ⟨0, by omega, rfl, Own.nil _ _ _, Below.refl _ _⟩
  case round =>
    obtain ⟨k, hk, rfl, ho, hb⟩ := hrel
    by_cases hkn : k < n
    · have hsz : w.heap.size ≤ wr.heap.size := hb.size
      have hl : (ints (ofF k fun i => i)).length < 1099511627776 := by rw [ints_len]; simp [ofF]; omega
      have HP := Lib.hid (And.intro ho hb)
      clear ho hb
      go_wp2_with (at_builtin; refine app1 rfl (.tmp 10) (.tmp 12) 27 3 rfl i3 (.int .i64 0) 8 Tryz.underlying27 I3.out.1 I3.out.2.1 I3.out.2.2.1 I3.out.2.2.2 rfl (by omega) w.heap.size (.int .i64 (k : Int)) u3 (ints (ofF k fun i => i)) rfl HP.out.1 rfl rfl hl hsz ?_; intro v8 w8 k1 k2 k3; have H8 := Lib.hid (And.intro k1 (HP.out.2.grown k2 hsz (fun g hg => (HP.out.1.block_lt hg).2))); clear k1 k2 k3)
      refine ⟨⟨k + 1, by omega, by go_num, ?_, H8.out.2⟩, by simp [intOf]; omega⟩
      have h8 := H8.out.1
      rw [ofF_succ]
      simpa [ints] using h8
    · obtain rfl : k = n := by omega
      have HP := Lib.hid (And.intro ho hb)
      clear ho hb
      go_wp2
      go_ret
      obtain ⟨g, c, rfl, hg1, hg2, hg3, hg4⟩ := HP.out.1.form (by rw [ints_len]; simp [ofF]; omega)
      have h8 := HP.out.1
      have hl : (ints (ofF k fun i => i)).length = k := by rw [ints_len]; simp [ofF]
      rw [hl] at h8 ⊢
      exact ⟨g, c, rfl, h8, HP.out.2⟩
set_option maxRecDepth 100000 in
set_option maxHeartbeats 2000000 in
theorem cycle133 {n f t D g cap : Nat} (hn : n ≤ 64) (hf : f < t) (ht : t ≤ n) {w : World} (ho : Own w D (.slice (some ⟨g, 0, none⟩) n cap) 3 (ints (PlainPm.one n).l)) :
    Calls Tryz.prog 133 #[.slice (some ⟨g, 0, none⟩) n cap, .int .i64 (f : Int), .int .i64 (t : Int)] w fun e w' => e = .returned (.slice (some ⟨g, 0, none⟩) n cap) ∧ Own w' D (.slice (some ⟨g, 0, none⟩) n cap) 3 (ints (cycP n f t hf ht).l) ∧ Kept w w' [g] := by
  obtain ⟨s, hs⟩ : ∃ s, t = s + 1 := ⟨t - 1, by omega⟩
  have hst : IntKind.i64.wrap ((t : Int) - 1) = (s : Int) := by rw [show ((t : Int) - 1) = (s : Int) by omega]; exact IntWalk.i64_in _ (by omega)
  have hst2 : (t : Int) - 1 = (s : Int) := by omega
  have hsn : (s : Int) < n := by omega
  have hs0 : (0 : Int) ≤ (s : Int) := by omega
  have H := Lib.hid ho
  have HS := Lib.hid hs
  have HR := Lib.hid hst2
  clear ho hs hst2
  go_enter Tryz.func133, Tryz.ntmps133
  go_wp2_with fail
  go_loopw [7] (fun i wr => ∃ (m : Nat), f ≤ m ∧ m ≤ t ∧ i = .int .i64 (m : Int) ∧ Own wr D (.slice (some ⟨g, 0, none⟩) n cap) 3 (ints (ofF n (cycF f m))) ∧ Kept w wr [g]) (fun i _ => t - (intOf i).toNat)
  case atStart =>
    refine ⟨f, Nat.le_refl _, by omega, rfl, ?_, Kept.refl _ _⟩
    have := H.out
    rw [pm_ofF] at this
    rwa [ofF_congr (g := cycF f f) fun i hi => by rw [one_at hi]; unfold cycF; rw [if_neg (by omega)]] at this
  case round =>
    obtain ⟨m, hfm, hmt, rfl, ho, hk⟩ := hrel
    by_cases hlt : m < t
    · have hm1 : (m : Int) < t := by omega
      have hmn : (m : Int) < n := by omega
      have hc := ho.cell m (by rw [ints_len, ofF_len]; omega)
      rw [show (ints (ofF n (cycF f m)))[m]? = some (.int .i64 (cycF f m m : Int)) by unfold ints; rw [List.getElem?_map, ofF_get (by omega)]; rfl] at hc
      have hfz := ho.frozen m
      have HK := Lib.hid (And.intro ho hk)
      clear ho hk
      go_wp2_with fail
      refine ⟨⟨m + 1, by omega, by omega, by go_num, ?_, HK.out.2.trans (Kept.ofGrown (grown_put m _) (fun k e => by cases e; exact List.mem_singleton.2 rfl))⟩, by simp [intOf]; omega⟩
      have h2 := HK.out.1.put m (.int .i64 ((m + 1 : Nat) : Int))
      rw [ints_setF (by omega)] at h2
      rw [ofF_congr (g := fun j => if j = m then m + 1 else cycF f m j) fun j hj => by unfold cycF; split <;> split <;> (try split) <;> omega]
      exact h2
    · have hm1 : ¬ (m : Int) < t := by omega
      have hme : m = t := by omega
      have hc := ho.cell s (by rw [ints_len, ofF_len]; omega)
      rw [show (ints (ofF n (cycF f m)))[s]? = some (.int .i64 (cycF f m s : Int)) by unfold ints; rw [List.getElem?_map, ofF_get (by omega)]; rfl] at hc
      have hfz := ho.frozen s
      have HK := Lib.hid (And.intro ho (And.intro hk hme))
      clear ho hk
      go_wp2_with fail
      go_ret
      refine ⟨rfl, ?_, HK.out.2.1.trans (Kept.ofGrown (grown_put s _) (fun k e => by cases e; exact List.mem_singleton.2 rfl))⟩
      have h2 := HK.out.1.put s (.int .i64 (f : Int))
      rw [ints_setF (by omega)] at h2
      show Own _ D _ 3 (ints (ofF n (cycG f t)))
      have e1 := HS.out
      rw [ofF_congr (g := fun j => if j = s then f else cycF f m j) fun j hj => by unfold cycF cycG; split <;> (try split) <;> (try split) <;> (try split) <;> omega]
      exact h2
theorem swp_l {n i k : Nat} {x : Pm n} (hi : i < n) (hk : k < n) : ((ints x.l).set i (.int .i64 (x.at k : Int))).set k (.int .i64 (x.at i : Int)) = ints (swpP x i k hi hk).l := by
  have h1 : (ints x.l).set i (.int .i64 (x.at k : Int)) = ints (ofF n fun j => if j = i then x.at k else x.at j) := by rw [pm_ofF x, ints_setF hi]
  rw [h1, ints_setF hk]
  show ints _ = ints (ofF n _)
  congr 1
  refine ofF_congr fun j hj => ?_
  by_cases e1 : j = i
  · subst e1
    by_cases e2 : j = k
    · rw [if_pos e2, if_pos rfl, ← e2]
    · rw [if_neg e2, if_pos rfl, if_pos rfl]
  · rw [if_neg e1, if_neg e1]
    by_cases e2 : j = k
    · rw [if_pos e2, if_pos e2]
    · rw [if_neg e2, if_neg e2]
def PmOut (n : Nat) (w w' : World) (v : Value) : Prop := ∃ x : Pm n, NewPm w w' v x
set_option maxRecDepth 100000 in
set_option maxHeartbeats 2000000 in
theorem perm132 {w0 w : World} {tk n : Nat} {l : List Int} (hn : 0 < n ∧ n ≤ 64) (h : TkW w0 w tk l) :
    Calls Tryz.prog 132 #[.pointer (some ⟨tk, 0, none⟩), .int .i64 (n : Int)] w fun e w' => ∃ v, e = .returned v ∧ PmOut n w w' v ∧ TkW w0 w' tk l ∧ Kept w w' [tk] := by
  have H := Lib.hid h
  clear h
  go_enter Tryz.func132, Tryz.ntmps132
  go_wp2_with (go_at_call 65; (with_reducible refine (one65o hn.2 hn.1).mono ?_); rintro e2 w2 ⟨g, c, rfl, k1, k2⟩; have H2 := Lib.hid (And.intro k1 k2); clear k1 k2)
  have hgt : g ∉ ([tk] : List Nat) ∧ w.heap.size ≤ g ∧ w0.heap.size ≤ w.heap.size := by
    have h1 : w.heap.size ≤ g := (H2.out.1.block_lt rfl).2
    have h2 := H.out.lt
    exact ⟨fun hm => by have := List.mem_singleton.1 hm; omega, h1, H.out.bel.size⟩
  go_loopw [6, 7] (fun i _ wr => ∃ (m : Nat) (x : Pm n), m ≤ n ∧ i = .int .i64 (m : Int) ∧ Own wr w.heap.size (.slice (some ⟨g, 0, none⟩) n c) 3 (ints x.l) ∧ TkW w0 wr tk l ∧ Kept w wr [tk, g]) (fun i _ _ => n - (intOf i).toNat)
  case atStart => exact ⟨0, PlainPm.one n, by omega, rfl, H2.out.1, H.out.below H2.out.2, Kept.ofBelow H2.out.2⟩
  case round =>
    obtain ⟨m, x, hm, rfl, ho, htk, hk⟩ := hrel
    by_cases hlt : m + 1 < n
    · have hm1 : (m : Int) + 1 < n := by omega
      have hmn : (m : Int) < n := by omega
      have hw1 : IntKind.i64.wrap ((n : Int) - (m : Int)) = (n : Int) - (m : Int) := IntWalk.i64_in _ (by omega)
      have h98 := take98 htk (n := (n : Int) - (m : Int)) (by omega) (by omega)
      have HK := Lib.hid (And.intro ho (And.intro hk h98))
      clear ho htk hk h98
      have hcast : (n : Int) - (m : Int) = ((n - m : Nat) : Int) := by omega
      have HG := Lib.hid (And.intro hgt hcast)
      clear hgt hcast
      go_wp2_with (go_at_call 98; (with_reducible refine HK.out.2.2.mono ?_); rintro e3 w3 ⟨b, rfl, k1, k2, k3, k4⟩
                   have hb := k1 (by omega)
                   have ho3 := HK.out.1.keptL k4 (fun q e => by cases e; exact HG.out.1.1)
                   have hcx := ho3.cell m (by rw [ints_len, x.ok.1]; omega)
                   have hcy := ho3.cell (m + b) (by rw [ints_len, x.ok.1]; omega)
                   rw [ints_pm (by omega)] at hcx hcy
                   have hfx := ho3.frozen m
                   have hfy := ho3.frozen (m + b)
                   have hwb : IntKind.i64.wrap ((m : Int) + (b : Int)) = ((m + b : Nat) : Int) := by rw [show ((m : Int) + (b : Int)) = ((m + b : Nat) : Int) by simp]; exact IntWalk.i64_in _ (by omega)
                   have H3 := Lib.hid (And.intro (show m + b < n by omega) (And.intro ho3 (And.intro k3 k4))); clear k1 k2 k3 k4 ho3 hb)
      have hmb : (m : Int) + (b : Int) < n := by have := H3.out.1; omega
      have hx2 : Own w3 w.heap.size (.slice (some ⟨g, 0, none⟩) n c) 3 (ints x.l) := H3.out.2.1
      have hsw := hx2.put m (.int .i64 (x.at (m + b) : Int))
      have hsw2 := hsw.put (m + b) (.int .i64 (x.at m : Int))
      have heq := swp_l (x := x) (show m < n by omega) H3.out.1
      rw [heq] at hsw2
      have hK3 : Kept w ((w3.setCell ⟨g, m, none⟩ (.int .i64 (x.at (m + b) : Int))).setCell ⟨g, m + b, none⟩ (.int .i64 (x.at m : Int))) [tk, g] := (HK.out.2.1.trans (H3.out.2.2.2.mono (by simp))).trans ((Kept.ofGrown (grown_put m _) (fun k e => by cases e; simp)).trans (Kept.ofGrown (grown_put (m + b) _) (fun k e => by cases e; simp)))
      have hT3 : TkW w0 ((w3.setCell ⟨g, m, none⟩ (.int .i64 (x.at (m + b) : Int))).setCell ⟨g, m + b, none⟩ (.int .i64 (x.at m : Int))) tk l := H3.out.2.2.1.kept (S := [g]) ((Kept.ofGrown (grown_put m _) (fun k e => by cases e; simp)).trans (Kept.ofGrown (grown_put (m + b) _) (fun k e => by cases e; simp))) (fun q hq => by
        rw [List.mem_singleton.1 hq]
        have h1 := HG.out.1
        exact ⟨by omega, fun e => h1.1 (by rw [e]; simp)⟩)
      have HW := Lib.hid (And.intro hsw2 (And.intro hT3 hK3))
      clear hx2 hsw hsw2 hK3 hT3 heq
      by_cases hb0 : b = 0
      · subst hb0
        simp only [Nat.add_zero] at hcy hfy HW hwb
        clear hcy hfy
        go_region
        all_goals
          go_wp2_with fail
          exact ⟨⟨m + 1, _, by omega, by go_num, HW.out.1.drew, HW.out.2.1.below (below_drew (Below.refl _ _)), HW.out.2.2.drewN 1⟩, by simp [intOf]; omega⟩
      · have hne : m + b ≠ m := by omega
        have hne2 : m ≠ m + b := by omega
        go_region
        all_goals
          go_wp2_with fail
          exact ⟨⟨m + 1, _, by omega, by go_num, HW.out.1.drew, HW.out.2.1.below (below_drew (Below.refl _ _)), HW.out.2.2.drewN 1⟩, by simp [intOf]; omega⟩
    · have hm1 : ¬ (m : Int) + 1 < n := by omega
      have HK := Lib.hid (And.intro ho (And.intro htk hk))
      clear ho htk hk
      go_wp2_with fail
      go_ret
      refine ⟨_, rfl, ⟨x, ?_⟩, HK.out.2.1, ⟨HK.out.2.2.os, HK.out.2.2.tape, HK.out.2.2.output, HK.out.2.2.size, fun q hq hm' => HK.out.2.2.block q hq (fun hm2 => ?_)⟩⟩
      · exact NewPm.of_own HK.out.1 (Nat.le_refl _) rfl
      · rcases List.mem_cons.1 hm2 with e | hm2
        · exact hm' (List.mem_singleton.2 e)
        · have := List.mem_singleton.1 hm2; have := hgt.2.1; omega
end Go.Proofs.YtbejhkojdiadaaaGreat
