/- Centre: the reference's. · Centre: the program's. -/
import Derived.Test.YtbejhkojdiadaaaGreatCl01
import Derived.Test.YtbejhkojdiadaaaGreatCl02
import Derived.Test.YtbejhkojdiadaaaGreatCl03
import Derived.Test.YtbejhkojdiadaaaGreatCl04
import Derived.Test.YtbejhkojdiadaaaGreatCl05
import Derived.Test.YtbejhkojdiadaaaGreatCl06
import Derived.Test.YtbejhkojdiadaaaGreatCl07
import Derived.Test.YtbejhkojdiadaaaGreatCl08
import Derived.Test.YtbejhkojdiadaaaGreatCl09
import Derived.Test.YtbejhkojdiadaaaGreatCl10
import Derived.Test.YtbejhkojdiadaaaGreatCl11
import Derived.Test.YtbejhkojdiadaaaGreatCl12
import Derived.Test.YtbejhkojdiadaaaGreatCl13
import Derived.Test.YtbejhkojdiadaaaGreatCl14
import Derived.Test.YtbejhkojdiadaaaGreatCl15
import Derived.Test.YtbejhkojdiadaaaGreatCl16
import Derived.Test.YtbejhkojdiadaaaGreatCl17
import Derived.Test.YtbejhkojdiadaaaGreatCl18
import Derived.Test.YtbejhkojdiadaaaGreatCl19
import Derived.Test.YtbejhkojdiadaaaGreatCl20
import Derived.Test.YtbejhkojdiadaaaGreatCl21
import Derived.Test.YtbejhkojdiadaaaGreatCl22
import Derived.Test.YtbejhkojdiadaaaGreatCl23
import Derived.Test.YtbejhkojdiadaaaGreatCl25
import Derived.Test.YtbejhkojdiadaaaGreatProg
import Derived.WalkKit
import Derived.WalkSpells
import Derived.BigQuiet
import Derived.Deep.QuietTactic
import Derived.Deep.LoopGhost
import Derived.Lib.Hide
import Derived.Maps.AppendAt
import Derived.Deep.AppendLies
import Derived.StillTailTactics
import Derived.Laws.CopyOwn
import Derived.Deep.OwnRows
import Derived.Deep.DeepCutAuto
import Derived.Laws.Cover3
import Derived.Deep.RegionHeld3
import Derived.RangeFuncRecord
import Derived.Lib.SlicesSearch
import Derived.RangeFuncBox
import Derived.RangeFuncLeaves
import Derived.RangeFuncWrites
import Derived.RangeFuncFrom
import Derived.Shelf.Abstract
import Derived.OwnWalkIn
import Derived.TacticsInMore
import Derived.LoopNIn
import Derived.LoopIn
import Derived.Shelf.GgSortFunc.Insertion
import Derived.Shelf.SlIter.Collect
import Derived.Shelf.Sort.Plain
import Derived.Deep.RegionLaw
import Derived.ControlIn
import Derived.Deep.AppendSrc
import Derived.Laws.BytesArg
import Derived.Maps.OwnSet
import Derived.Carry
import Derived.Maps.Range
set_option linter.unusedSimpArgs false
set_option linter.unusedVariables false
namespace Go.Proofs.YtbejhkojdiadaaaGreat
open Go.RowKit PlainPm
section
variable {n : Nat}
noncomputable def comL (B l : List (Pm n)) : List (Pm n) := by
  classical exact l.filter fun x => decide (∀ y ∈ B, x.mul y = y.mul x)
theorem mem_comL {B l : List (Pm n)} {x : Pm n} : x ∈ comL B l ↔ x ∈ l ∧ ∀ y ∈ B, x.mul y = y.mul x := by
  unfold comL; rw [List.mem_filter, decide_eq_true_iff]
theorem comL_sub (B l : List (Pm n)) : (comL B l).Sublist l := by unfold comL; exact List.filter_sublist
theorem comL_snoc {B l : List (Pm n)} {x : Pm n} (h : ∀ y ∈ B, x.mul y = y.mul x) : comL B (l ++ [x]) = comL B l ++ [x] := by
  unfold comL; rw [List.filter_append, List.filter_cons_of_pos (by rw [decide_eq_true_iff]; exact h), List.filter_nil]
theorem comL_skip {B l : List (Pm n)} {x : Pm n} (h : ∃ y ∈ B, ¬ x.mul y = y.mul x) : comL B (l ++ [x]) = comL B l := by
  unfold comL
  rw [List.filter_append, List.filter_cons_of_neg, List.filter_nil, List.append_nil]
  rw [decide_eq_true_iff]
  obtain ⟨y, h1, h2⟩ := h
  exact fun hh => h2 (hh y h1)
theorem comL_nil (B : List (Pm n)) : comL B [] = [] := by unfold comL; rfl
theorem grp_isG {G P : Pm n → Prop} (hG : IsG G) (h : ∀ x, P x ↔ G x) (x : Pm n) : Grp P x ↔ G x :=
  ⟨Grp.sub hG fun s hs => (h s).1 hs, fun hx => Grp.base ((h x).2 hx)⟩
theorem same20p (hn : n ≤ 64) {w : World} {va vb : Value} {x y : Pm n} (ha : PmV w [] va x) (hb : PmV w [] vb y) : Calls Tryz.prog 20 #[va, vb] w fun e w' => e = .returned (.bool (decide (x = y))) ∧ Below w.heap.size w w' := by
  obtain ⟨a, c, rfl, h1⟩ := ha.ints (by omega)
  obtain ⟨b, d, rfl, h2⟩ := hb.ints (by omega)
  refine (same20 _ _ c d _ _ w h1 h2).mono ?_
  rintro e w' ⟨rfl, q, rfl⟩
  refine ⟨?_, below_self_drewN _ _⟩
  by_cases e : x = y
  · subst e; simp
  · rw [decide_eq_false e, decide_eq_false fun h => e (Pm.ext' h)]
set_option maxRecDepth 100000 in
set_option maxHeartbeats 4000000 in
theorem ctr37 (hn' : 0 < n ∧ n ≤ 8) {w : World} {v1 : Value} {G : Pm n → Prop} (hG : IsG G) (h1 : GrG w v1 G) (hsz : ∀ O R, ChG G O R → szF O n 0 ≤ 5040) :
    Calls Tryz.prog 37 #[v1] w fun e w' => ∃ a c b d, e = .returned (.tuple #[.agg #[.int .i64 (n : Int), .slice a n c, .slice b n d], .int .i64 0]) ∧ Below w.heap.size w w' ∧
      ∀ S, (∀ m ∈ S, m < w.heap.size) → GrS w' (.agg #[.int .i64 (n : Int), .slice a n c, .slice b n d]) (CtG G) S := by
  have hn : 0 < n ∧ n ≤ 64 := ⟨hn'.1, by omega⟩
  obtain ⟨i27, hi27, hz27, hs27, hb27⟩ := info_parts Tryz.info27
  have I27 := Lib.hid (And.intro hi27 (And.intro hz27 (And.intro hs27 hb27)))
  clear hi27 hz27 hs27 hb27
  have hls : ∀ V, Below w.heap.size w V → ∃ O R, ChG G O R ∧ Calls Tryz.prog 87 #[v1] V fun e w' => ∃ v us, e = .returned (.tuple #[v, .int .i64 0]) ∧ Own w' V.heap.size v 27 us ∧ PmL w' v.ownBlock.toList us (elsF O R n 0 (PlainPm.one n)) ∧ Below V.heap.size V w' := fun V hV => by
    obtain ⟨O, R, hc, hl⟩ := list87 hn' hG (h1.below hV)
    exact ⟨O, R, hc, hl (hsz O R hc)⟩
  obtain ⟨_, _, ab, ao, c, bb, bo, e, hv1, _⟩ := h1.lev hG ⟨hn.1, hn.2⟩
  subst hv1
  obtain ⟨T2, t2, ch2, _⟩ := h1.ch
  have l2 : ∀ V, Below w.heap.size w V → Calls Tryz.prog 46 #[cv n ab ao c bb bo e] V fun e w' => ∃ v us, e = .returned v ∧ Own w' V.heap.size v 27 us ∧ PmL w [] us (PlainPm.agen T2) ∧ us.length ≤ 4096 ∧ Below V.heap.size V w' := fun V hV => (strong46g hn hG t2 ch2 hV).mono (by
    rintro e w' ⟨v, us, k0, k1, k2, k3, k4⟩
    exact ⟨v, us, k0, k1, pml_rv hn.1 k2, Nat.le_trans k3 (Nat.mul_le_mul hn.2 hn.2), k4⟩)
  have hC2 := agen_grp hG t2
  obtain ⟨B, hB⟩ : ∃ B, PlainPm.agen T2 = B := ⟨_, rfl⟩
  rw [hB] at l2 hC2
  obtain ⟨X, hX⟩ : ∃ X, w.heap.size = X := ⟨_, rfl⟩
  obtain ⟨W1, hW1⟩ : ∃ W1, (w.alloc (.cells #[.int .i64 (n : Int), .slice (some ⟨ab, ao, none⟩) n c, .slice (some ⟨bb, bo, none⟩) n e] 25)).alloc (.cells #[.int .i64 0, .slice none 0 0, .slice none 0 0] 25) = W1 := ⟨_, rfl⟩
  have hsz1 : W1.heap.size = X + 2 := by rw [← hW1]; simp [hX]
  have hwW : Below w.heap.size w W1 := hW1 ▸ alloc_b (alloc_b (Below.refl _ _) _) _
  have k0 : W1.heap[X]? = some (.cells #[.int .i64 (n : Int), .slice (some ⟨ab, ao, none⟩) n c, .slice (some ⟨bb, bo, none⟩) n e] 25) := by
    rw [← hW1]
    exact ((alloc_b (Below.refl _ _) _).block X (by simp; omega)).trans (box_al25 hX _ _ _)
  have k1 : W1.heap[X + 1]? = some (.cells #[.int .i64 0, .slice none 0 0, .slice none 0 0] 25) := by
    rw [← hW1]
    exact box_al25 (by simp [hX]) _ _ _
  obtain ⟨x0, x1, x2, _⟩ := box_cells k0
  have HB := Lib.hid (And.intro k0 (And.intro k1 (And.intro hsz1 (And.intro hwW hX))))
  have hx0 := And.intro x0 (And.intro x1 (And.intro x2 (Below.refl W1.heap.size W1)))
  have HC := Lib.hid (And.intro hls (And.intro l2 hC2))
  clear hls l2 hC2 k0 k1 hsz1 hwW h1 t2 hB
  go_enter Tryz.func37, Tryz.ntmps37
  try rw [hX]
  go_wp2_with (first
    | (go_at_call 46; (with_reducible refine (HC.out.2.1 _ (below_trans HB.out.2.2.2.1 H3.out.2.2.2.2)).mono ?_)
       rintro e4 w4 ⟨v4, us4, rfl, k1, k2, k3, k4⟩
       obtain ⟨a4, c4, rfl, k5⟩ := k1.row (by unfold maxLen; omega)
       have H4 := Lib.hid (And.intro k1 (And.intro k2 (And.intro k3 (And.intro k4 k5))))
       clear k1 k2 k3 k4 k5)
    | (go_at_call 87; obtain ⟨O, R, hch, h87⟩ := HC.out.1 _ HB.out.2.2.2.1; (with_reducible refine h87.mono ?_)
       clear h87
       rintro e3 w3 ⟨v3, us3, rfl, k1, k2, k3⟩
       have hl3 : us3.length ≤ 5040 := by rw [k2.1, els_len hch (Nat.zero_add n)]; exact hsz O R hch
       obtain ⟨a3, c3, rfl, k5⟩ := k1.row (by unfold maxLen; omega)
       obtain ⟨i0, i1, i2, _⟩ := keep3b hx0 k3
       have H3 := Lib.hid (And.intro hch (And.intro k2 (And.intro k5 (And.intro hl3 k3))))
       clear k1 k2 k3 k5 hch hl3))
  obtain ⟨L0, hL0⟩ : ∃ L, elsF O R n 0 (PlainPm.one n) = L := ⟨_, rfl⟩
  have b14 : Below W1.heap.size W1 w4 := below_trans H3.out.2.2.2.2 H4.out.2.2.2.1
  obtain ⟨j0, j1, j2, _⟩ := keep3b hx0 b14
  obtain ⟨N, hN⟩ : ∃ N, us3.length = N := ⟨_, rfl⟩
  have hN5 : N ≤ 5040 := by rw [← hN]; exact H3.out.2.2.2.1
  have hLN : L0.length = N := by have := H3.out.2.1.1; rw [hL0] at this; rw [← this, hN]
  have hpL : PmL w4 [] us3 L0 := by have := H3.out.2.1.weakM.below H4.out.2.2.2.1; rwa [hL0] at this
  have hrL : Row w4 a3 us3 := H3.out.2.2.1.below H4.out.2.2.2.1
  have hmL : ∀ x, x ∈ L0 ↔ G x := fun x => by rw [← hL0]; exact mem_all H3.out.1
  obtain ⟨NB, hNB⟩ : ∃ N, us4.length = N := ⟨_, rfl⟩
  have hBN : B.length = NB := H4.out.2.1.1.symm.trans hNB
  have hNB6 : NB ≤ 4096 := by rw [← hNB]; exact H4.out.2.2.1
  have hpB : PmsV w4 [] (.slice a4 NB c4) B := by
    have := pms_ownB H4.out.1 (H4.out.2.1.below (below_trans HB.out.2.2.2.1 b14)) (by omega)
    rwa [hNB] at this
  rw [hNB, hN]
  have HD := Lib.hid (And.intro hpL (And.intro hrL (And.intro hmL (And.intro hLN (And.intro b14 (And.intro hBN hpB))))))
  clear hpL hrL hmL hLN b14 hBN hpB hNB hN
  go_loopw [7, 8, 9, 10] (fun l i _ _ wi => ∃ (k : Nat) (ms : List Value), k ≤ N ∧ i = .int .i64 (k : Int) ∧ Own wi w4.heap.size l 27 ms ∧ PmL w4 [] ms (comL B (L0.take k)) ∧ Below w4.heap.size w4 wi) (fun _ i _ _ _ => N - (intOf i).toNat)
  case atStart => exact ⟨0, [], Nat.zero_le _, rfl, Own.nil _ _ _, by rw [List.take_zero, comL_nil]; exact ⟨rfl, fun i x hx => by simp at hx⟩, Below.refl _ _⟩
  case round =>
    obtain ⟨k, ms, hk, rfl, hown, hpl, hbi⟩ := hrel
    obtain ⟨wp, rfl⟩ : ∃ wp, wp = wr := ⟨_, rfl⟩
    by_cases hkN : k < N
    · have hk1 : (k : Int) < N := by omega
      obtain ⟨x, hx⟩ : ∃ x, L0[k]? = some x := ⟨_, List.getElem?_eq_getElem (by rw [HD.out.2.2.2.1]; exact hkN)⟩
      obtain ⟨u, hu, hpu⟩ := HD.out.1.2 k x hx
      obtain ⟨g6, o6, rfl, _, hc6⟩ := HD.out.2.1.2 k u hu
      obtain ⟨b6b, b6o, b6c, rfl, _⟩ := id hpu
      have HK := Lib.hid (And.intro hown (And.intro hpl (And.intro hbi (And.intro hx hpu))))
      have hc6p := (hbi.cell (block_lt_of_cell hc6)).trans hc6
      clear hown hpl hx hpu hu hbi
      go_wp2_with fail
      go_loopw [9, 10] (fun s i wq => ∃ (q : Nat) (t : Bool), q ≤ NB ∧ s = .bool t ∧ i = .int .i64 (q : Int) ∧ Below wp.heap.size wp wq ∧ (t = true → ∀ j, j < q → ∀ y, B[j]? = some y → x.mul y = y.mul x) ∧ (t = false → ∃ y ∈ B, ¬ x.mul y = y.mul x)) (fun _ i _ => NB - (intOf i).toNat)
      case atStart => exact ⟨0, true, Nat.zero_le _, rfl, rfl, Below.refl _ _, fun _ j hj => by omega, fun h => by cases h⟩
      case round =>
        obtain ⟨q, t, hq, rfl, rfl, hbq, ht, hf⟩ := hrel
        have hboq : Below w4.heap.size w4 wr := below_trans HK.out.2.2.1 hbq
        by_cases hq1 : t = true ∧ q < NB
        · obtain ⟨rfl, hqB⟩ := hq1
          have hq2 : (q : Int) < NB := by omega
          obtain ⟨y, hy⟩ : ∃ y, B[q]? = some y := ⟨_, List.getElem?_eq_getElem (by rw [HD.out.2.2.2.2.2.1]; exact hqB)⟩
          obtain ⟨_, _, ev5, hB63, hatB⟩ := pms_at HD.out.2.2.2.2.2.2
          rw [HD.out.2.2.2.2.2.1] at ev5
          simp only [Value.slice.injEq, true_and] at ev5
          obtain ⟨rfl, rfl⟩ := ev5
          obtain ⟨g7, o7, u7, rfl, hc7, hp7⟩ := hatB q y hy
          have hc7i := (hboq.cell (block_lt_of_cell hc7)).trans hc7
          have hc6i := (hbq.cell (block_lt_of_cell hc6p)).trans hc6p
          obtain ⟨b7b, b7o, b7c, rfl, _⟩ := id hp7
          have hA := fun (V : World) (hV : Below wr.heap.size wr V) => mul49 hn.2 hn.1 (HK.out.2.2.2.2.below (below_trans hboq hV)) (hp7.below (below_trans hboq hV))
          have hBB := fun (V : World) (hV : Below wr.heap.size wr V) => mul49 hn.2 hn.1 (hp7.below (below_trans hboq hV)) (HK.out.2.2.2.2.below (below_trans hboq hV))
          have hz0 := And.intro hc6i (And.intro hc7i (Below.refl wr.heap.size wr))
          have HY := Lib.hid (And.intro hA (And.intro hBB (And.intro hbq (And.intro (ht rfl) (And.intro hy hboq)))))
          clear hA hBB hbq ht hy hf hboq hp7 hatB
          go_wp2_with fail
          go_region_held3 (fun V => V.cell? ⟨g6, o6 + k, none⟩ = some (.slice (some ⟨b6b, b6o, none⟩) n b6c) ∧ V.cell? ⟨g7, o7 + q, none⟩ = some (.slice (some ⟨b7b, b7o, none⟩) n b7c) ∧ Below wr.heap.size wr V)
            (first
              | with_reducible assumption
              | with_reducible exact hz0
              | exact keep2c hz0 (below_drw (Below.refl _ _))
              | exact keep2c hz0 (below_self_drewN _ _)
              | exact keep2c hz0 b8
              | exact keep2c hz0 b7
              | exact keep2c hz0 b6
              | fail)
            (first
              | (go_at_call 20; (with_reducible refine (same20p hn.2 nA2 nB2).mono ?_); rintro e8 w8 ⟨rfl, k2⟩; have b8 : Below wr.heap.size wr w8 := below_trans b7 k2; clear k2)
              | (go_at_call 49; (with_reducible refine (HY.out.2.1 _ b6).mono ?_); rintro e7 w7 ⟨v7, rfl, k1, k2⟩; have nB2 : PmV w7 [] v7 (y.mul x) := k1.pm (by simp); have nA2 := nA.below k2; have b7 : Below wr.heap.size wr w7 := below_trans b6 k2; clear k1 k2)
              | (go_at_call 49; (with_reducible refine (HY.out.1 _ b6).mono ?_); rintro e7 w7 ⟨v7, rfl, k1, k2⟩; have nA2 : PmV w7 [] v7 (x.mul y) := k1.pm (by simp); have nB2 := nB.below k2; have b7 : Below wr.heap.size wr w7 := below_trans b6 k2; clear k1 k2)
              | (go_at_call 49; (with_reducible refine (HY.out.1 _ (by first | exact Below.refl _ _ | exact below_drw (Below.refl _ _) | exact below_self_drewN _ _)).mono ?_); rintro e6 w6 ⟨v6, rfl, k1, k2⟩; have b6 : Below wr.heap.size wr w6 := below_trans (by first | exact Below.refl _ _ | exact below_drw (Below.refl _ _) | exact below_self_drewN _ _) k2; have nA : PmV w6 [] v6 (x.mul y) := k1.pm (by simp); clear k1 k2)
              | (go_at_call 49; (with_reducible refine (HY.out.2.1 _ (by first | exact Below.refl _ _ | exact below_drw (Below.refl _ _) | exact below_self_drewN _ _)).mono ?_); rintro e6 w6 ⟨v6, rfl, k1, k2⟩; have b6 : Below wr.heap.size wr w6 := below_trans (by first | exact Below.refl _ _ | exact below_drw (Below.refl _ _) | exact below_self_drewN _ _) k2; have nB : PmV w6 [] v6 (y.mul x) := k1.pm (by simp); clear k1 k2))
          all_goals
            go_wp2_with fail
            refine ⟨⟨q + 1, decide (x.mul y = y.mul x), by omega, rfl, by go_num, below_trans HY.out.2.2.1 b8, fun h j hj y' hy' => ?_, fun h => ⟨y, List.mem_of_getElem? HY.out.2.2.2.2.1, of_decide_eq_false h⟩⟩, by simp [intOf]; omega⟩
            by_cases e9 : j = q
            · subst e9
              rw [HY.out.2.2.2.2.1] at hy'
              cases hy'
              exact of_decide_eq_true h
            · exact HY.out.2.2.2.1 j (by omega) y' hy'
        · cases t with
          | true =>
            have hqB : q = NB := Nat.le_antisymm hq (Nat.le_of_not_lt fun h => hq1 ⟨rfl, h⟩)
            subst hqB
            have hq2 : ¬ (q : Int) < q := by omega
            have hall : ∀ y ∈ B, x.mul y = y.mul x := fun y hy => by
              obtain ⟨i, hi⟩ := List.mem_iff_getElem?.1 hy
              exact ht rfl i (by have h1 := (List.getElem?_eq_some_iff.1 hi).1; have h2 := HD.out.2.2.2.2.2.1; omega) y hi
            have hown := HK.out.1.below hbq
            have hD : w4.heap.size ≤ wr.heap.size := hboq.size
            have hc6i := (hbq.cell (block_lt_of_cell hc6p)).trans hc6p
            have hml : ms.length < 1099511627776 := by
              have h1 := HK.out.2.1.1
              have h2 := (comL_sub B (L0.take k)).length_le
              rw [List.length_take] at h2
              omega
            have HY := Lib.hid (And.intro hall (And.intro hown (And.intro hbq hboq)))
            clear hall hown hbq hboq ht hf hq1
            go_wp2_with (at_builtin; refine app1 rfl (.tmp 57) (.tmp 62) 44 27 rfl i27 (.slice none 0 0) 24 Tryz.underlying44 I27.out.1 I27.out.2.1 I27.out.2.2.1 I27.out.2.2.2 rfl (by omega) w4.heap.size (.slice (some ⟨b6b, b6o, none⟩) n b6c) _ ms rfl HY.out.2.1 rfl rfl hml hD ?_; intro v8 w8 k1 k2 k3; have H8 := Lib.hid (And.intro k1 (And.intro k2 k3)); clear k1 k2 k3)
            refine ⟨⟨k + 1, ms ++ [.slice (some ⟨b6b, b6o, none⟩) n b6c], by omega, by go_num, H8.out.1, ?_, ?_⟩, by simp [intOf]; omega⟩
            · rw [List.take_add_one, HK.out.2.2.2.1, Option.toList_some, comL_snoc HY.out.1]
              exact HK.out.2.1.snoc HK.out.2.2.2.2
            · exact HY.out.2.2.2.grown H8.out.2.1 hD (fun g e => (HY.out.2.1.block_lt e).2)
          | false =>
            have HY := Lib.hid (And.intro (hf rfl) (And.intro hbq hboq))
            clear hbq hboq ht hf hq1
            go_wp2_with fail
            refine ⟨⟨k + 1, ms, by omega, by go_num, HK.out.1.below HY.out.2.1, ?_, HY.out.2.2⟩, by simp [intOf]; omega⟩
            rw [List.take_add_one, HK.out.2.2.2.1, Option.toList_some, comL_skip HY.out.1]
            exact HK.out.2.1
    · have hk1 : ¬ (k : Int) < N := by omega
      have hkN' : k = N := by omega
      have hpl' : PmL w4 [] ms (comL B L0) := by
        have := hpl
        rwa [hkN', ← HD.out.2.2.2.1, List.take_length] at this
      have hle := (comL_sub B L0).length_le
      rw [HD.out.2.2.2.1] at hle
      have hpv := pms_ownB hown (hpl'.below hbi) (by omega)
      have hres := grp_isG (P := (· ∈ comL B L0)) (CtG.isG hG) (fun x => by rw [mem_comL, HD.out.2.2.1, ct_gens HC.out.2.2])
      have hbW : Below W1.heap.size W1 wp := below_trans HD.out.2.2.2.2.1 hbi
      obtain ⟨q0, q1, q2, _⟩ := keep3b hx0 hbW
      have hqb : W1.heap.size ≤ wp.heap.size := hbW.size
      have hr7 := (hbW.block (X + 1) (by rw [HB.out.2.2.1]; omega)).trans HB.out.2.1
      have hwwp : Below w.heap.size w wp := below_trans HB.out.2.2.2.1 hbW
      have HY := Lib.hid (And.intro hres (And.intro hpv (And.intro hbW (And.intro hr7 hwwp))))
      clear hres hpv hbW hr7 hwwp hown hpl hpl' hbi
      go_wp2_with (go_at_call 75; (with_reducible refine (chain75 (L := comL B L0) hn (by omega) HY.out.2.1).mono ?_); rintro e7 w7 ⟨a7, c7, b7', d7, rfl, k2, k3⟩
                   have hr9 := (k2.block (X + 1) (by have := HB.out.2.2.1; omega)).trans HY.out.2.2.2.1
                   obtain ⟨r0, r1, r2, r3, r4, r5⟩ := box_cells hr9
                   have hg7 := k3 (List.range (X + 2)) (fun m hm => by have := List.mem_range.1 hm; have := HB.out.2.2.1; omega)
                   have H7 := Lib.hid (And.intro hg7 (And.intro hr9 (below_trans HY.out.2.2.2.2 k2)))
                   clear k2 k3 hg7 hr9)
      have hfin : (set3 w7 (X + 1) (.int .i64 (n : Int)) (.slice a7 n c7) (.slice b7' n d7)).heap[X + 1]? = some (.cells #[.int .i64 (n : Int), .slice a7 n c7, .slice b7' n d7] 25) := set3_box H7.out.2.1
      obtain ⟨V, hV⟩ : ∃ V, set3 w7 (X + 1) (.int .i64 (n : Int)) (.slice a7 n c7) (.slice b7' n d7) = V := ⟨_, rfl⟩
      have hKp : Kept w7 V [X + 1] := hV ▸ set3_kept (by simp)
      rw [hV] at hfin
      unfold set3 at hV
      rw [hV]
      obtain ⟨f0, f1, f2, _⟩ := box_cells hfin
      refine bodyPost_ret (v := .tuple #[.agg #[.int .i64 (n : Int), .slice a7 n c7, .slice b7' n d7], .int .i64 0]) (by simp [results, Tryz.results37, go_sem, f0, f1, f2]) rfl ?_
      refine ⟨a7, c7, b7', d7, rfl, ?_, fun S hS => ?_⟩
      · have h1 := H7.out.2.2
        rw [HB.out.2.2.2.2] at h1
        have h2 := h1.size
        exact h1.trans (hKp.below1 (by omega) (by omega))
      · refine ((H7.out.1.kept (hKp.mono (fun q hq => ?_))).congr HY.out.1).ext (fun q hq => .inl ?_)
        · rw [List.mem_singleton.1 hq]
          exact List.mem_range.2 (by omega)
        · have := hS q hq
          exact List.mem_range.2 (by omega)
end
end Go.Proofs.YtbejhkojdiadaaaGreat
namespace Go.Proofs.YtbejhkojdiadaaaGreat
open Go.RowKit PlainPm
section
variable {n : Nat}
theorem equal95p (hn : n ≤ 64) {w : World} {va vb : Value} {x y : Pm n} (ha : PmV w [] va x) (hb : PmV w [] vb y) : Calls Tryz.prog 95 #[va, vb] w fun e w' => e = .returned (.bool (decide (x = y))) ∧ Below w.heap.size w w' := by
  obtain ⟨a, c, rfl, h1⟩ := ha.ints (by omega)
  obtain ⟨b, d, rfl, h2⟩ := hb.ints (by omega)
  refine (equal95 _ _ c d _ _ w h1 h2).mono ?_
  rintro e w' ⟨rfl, q, rfl⟩
  refine ⟨?_, below_self_drewN _ _⟩
  by_cases e : x = y
  · subst e; simp
  · rw [decide_eq_false e, decide_eq_false fun h => e (Pm.ext' h)]
set_option maxRecDepth 100000 in
set_option maxHeartbeats 2000000 in
theorem pred94 (hn : 0 < n ∧ n ≤ 64) {x y : Pm n} {vx vy : Value} {p : Nat} {w : World} (hc : w.cell? ⟨p, 0, none⟩ = some vx) (hp : p < w.heap.size) (hx : PmV w [] vx x) (hy : PmV w [] vy y) :
    Calls Tryz.prog 94 #[vy, .pointer (some ⟨p, 0, none⟩)] w fun e w' => ∃ t : Bool, e = .returned (.bool t) ∧ (t = true ↔ ¬ x.mul y = y.mul x) ∧ Below w.heap.size w w' := by
  have h84 := px84 hn hx hy
  obtain ⟨b, o, c, rfl, _⟩ := id hx
  have H := Lib.hid (And.intro h84 (And.intro hx hp))
  clear h84 hx hy
  go_enter Tryz.func94, Tryz.ntmps94
  go_wp2_with (first
    | (go_at_call 95; (with_reducible refine (equal95p hn.2 (H.out.2.1.below H2.out.2) H2.out.1).mono ?_); rintro e3 w3 ⟨rfl, k⟩; have H3 := Lib.hid (below_trans H2.out.2 k); clear k)
    | (go_at_call 84; (with_reducible refine H.out.1.mono ?_); rintro e2 w2 ⟨v2, rfl, k1, k2⟩
       have c2 := (k2.cell (p := ⟨p, 0, none⟩) H.out.2.2).trans hc
       have H2 := Lib.hid (And.intro (show PmV w2 [] v2 (cj x y) from k1.pm (by simp)) k2); clear k1 k2))
  refine bodyPost_ret (v := .bool (!decide (x = cj x y))) (by simp [results, Tryz.results94, go_sem]) rfl ?_
  refine ⟨_, rfl, ?_, H3.out⟩
  rw [← cj_comm]
  simp
  exact ⟨fun h e => h e.symm, fun h e => h e.symm⟩
set_option maxRecDepth 100000 in
set_option maxHeartbeats 2000000 in
theorem idx127 (hn : 0 < n ∧ n ≤ 64) {x : Pm n} {vx : Value} {p NB c : Nat} {a : Option Addr} {B : List (Pm n)} {w : World} (hB : PmsV w [] (.slice a NB c) B) (hNB : B.length = NB) (hc : w.cell? ⟨p, 0, none⟩ = some vx) (hp : p < w.heap.size) (hx : PmV w [] vx x) :
    Calls Tryz.prog 127 #[.slice a NB c, .func (.func 94) #[] #[.pointer (some ⟨p, 0, none⟩)]] w fun e w' => ∃ r : Int, e = .returned (.int .i64 r) ∧ ((0 ≤ r ∧ ∃ y ∈ B, ¬ x.mul y = y.mul x) ∨ (r = -1 ∧ ∀ y ∈ B, x.mul y = y.mul x)) ∧ Below w.heap.size w w' := by
  obtain ⟨_, _, q4, hB63, hat⟩ := pms_at hB
  rw [hNB] at q4 hB63
  simp only [Value.slice.injEq, true_and] at q4
  obtain ⟨rfl, rfl⟩ := q4
  have H := Lib.hid (And.intro hat (And.intro hx (And.intro hc (And.intro hp hNB))))
  clear hat hx hc hNB hB
  go_enter Tryz.func127, Tryz.ntmps127
  go_wp2_with fail
  go_loopw [5, 8] (fun _ i wr => ∃ (k : Nat), k ≤ NB ∧ i = .int .i64 (k : Int) ∧ Below w.heap.size w wr ∧ ∀ j y, j < k → B[j]? = some y → x.mul y = y.mul x) (fun _ i _ => NB - (intOf i).toNat)
  case atStart => exact ⟨0, by omega, rfl, Below.refl _ _, fun j y hj => by omega⟩
  case round =>
    obtain ⟨k, hk, rfl, hb, hno⟩ := hrel
    by_cases hkl : k < NB
    · obtain ⟨y, hy⟩ : ∃ y, B[k]? = some y := ⟨_, List.getElem?_eq_getElem (by rw [H.out.2.2.2.2]; exact hkl)⟩
      obtain ⟨g6, o6, u6, rfl, hc6, hp6⟩ := H.out.1 k y hy
      have hc6r := (hb.cell (block_lt_of_cell hc6)).trans hc6
      have hcall := pred94 hn ((hb.cell (p := ⟨p, 0, none⟩) H.out.2.2.2.1).trans H.out.2.2.1) (Nat.lt_of_lt_of_le H.out.2.2.2.1 hb.size) (H.out.2.1.below hb) (hp6.below hb)
      obtain ⟨yb, yo, yc, rfl, _⟩ := id hp6
      have HC := Lib.hid (And.intro hcall (And.intro hno (And.intro hy hb)))
      have hk1 : (k : Int) < NB := by omega
      clear hcall hno hy hb hp6
      by_cases e : x.mul y = y.mul x
      · have He := Lib.hid e
        clear e
        go_wp2_with (go_at_call 94; (with_reducible refine HC.out.1.mono ?_); rintro e1 w1 ⟨t, rfl, ht, kk⟩
                     have ht2 : t = false := by cases t with | false => rfl | true => exact absurd He.out (ht.1 rfl)
                     subst ht2
                     have H1 := Lib.hid kk; clear kk ht)
        refine ⟨⟨k + 1, by omega, by go_num, below_trans HC.out.2.2.2 H1.out, fun j y' hj hy' => ?_⟩, by simp [intOf]; omega⟩
        by_cases ej : j = k
        · subst ej; rw [HC.out.2.2.1] at hy'; cases hy'; exact He.out
        · exact HC.out.2.1 j y' (by omega) hy'
      · have He := Lib.hid e
        clear e
        go_wp2_with (go_at_call 94; (with_reducible refine HC.out.1.mono ?_); rintro e1 w1 ⟨t, rfl, ht, kk⟩
                     have ht2 : t = true := ht.2 He.out
                     subst ht2
                     have H1 := Lib.hid kk; clear kk ht)
        refine bodyPost_ret (v := .int .i64 (k : Int)) (by simp [results, Tryz.results127, go_sem]) rfl ?_
        exact ⟨k, rfl, .inl ⟨by omega, y, List.mem_of_getElem? HC.out.2.2.1, He.out⟩, below_trans HC.out.2.2.2 H1.out⟩
    · have hk1 : ¬ (k : Int) < NB := by omega
      have HC := Lib.hid (And.intro hno hb)
      clear hno hb
      go_wp2_with fail
      refine bodyPost_ret (v := .int .i64 (-1)) (by simp [results, Tryz.results127, go_sem]) rfl ?_
      refine ⟨-1, rfl, .inr ⟨rfl, fun y hy => ?_⟩, HC.out.2⟩
      obtain ⟨i, hi⟩ := List.mem_iff_getElem?.1 hy
      exact HC.out.1 i y (by have h1 := (List.getElem?_eq_some_iff.1 hi).1; have h2 := H.out.2.2.2.2; omega) hi
set_option maxRecDepth 100000 in
set_option maxHeartbeats 2000000 in
theorem con93 (hn : 0 < n ∧ n ≤ 64) {x : Pm n} {vx : Value} {p NB c : Nat} {a : Option Addr} {B : List (Pm n)} {w : World} (hB : PmsV w [] (.slice a NB c) B) (hNB : B.length = NB) (hc : w.cell? ⟨p, 0, none⟩ = some vx) (hp : p < w.heap.size) (hx : PmV w [] vx x) :
    Calls Tryz.prog 93 #[.slice a NB c, .func (.func 94) #[] #[.pointer (some ⟨p, 0, none⟩)]] w fun e w' => ∃ t : Bool, e = .returned (.bool t) ∧ (t = true ↔ ∃ y ∈ B, ¬ x.mul y = y.mul x) ∧ Below w.heap.size w w' := by
  have h127 := idx127 hn hB hNB hc hp hx
  have H := Lib.hid h127
  clear h127 hB hNB hc hx
  go_enter Tryz.func93, Tryz.ntmps93
  go_wp2_with (go_at_call 127; (with_reducible refine H.out.mono ?_); rintro e1 w1 ⟨r, rfl, hr, k⟩; have H1 := Lib.hid (And.intro hr k); clear hr k)
  refine bodyPost_ret (v := .bool (decide (0 ≤ r))) (by simp [results, Tryz.results93, go_sem]) rfl ?_
  refine ⟨_, rfl, ?_, H1.out.2⟩
  rcases H1.out.1 with ⟨h1, h2⟩ | ⟨h1, h2⟩
  · simp [h1]; exact h2
  · subst h1; simp
    exact fun y hy => h2 y hy
theorem PmsV.upx {w w' : World} {v : Value} {l : List (Pm n)} (h : PmsV w [] v l) (k : Up w w') : PmsV w' [] v l := by
  obtain ⟨a, c, vs, rfl, h1, h2⟩ := h
  exact ⟨a, c, vs, rfl, h1.up k, h2.up k⟩
set_option maxRecDepth 100000 in
set_option maxHeartbeats 4000000 in
theorem ctr36 (hn' : 0 < n ∧ n ≤ 8) {w : World} {v1 : Value} {G : Pm n → Prop} (hG : IsG G) (h1 : GrG w v1 G) (hsz : ∀ O R, ChG G O R → szF O n 0 ≤ 5040) :
    Calls Tryz.prog 36 #[v1] w fun e w' => ∃ a c b2 d, e = .returned (.tuple #[.agg #[.int .i64 (n : Int), .slice a n c, .slice b2 n d], .int .i64 0]) ∧ Below w.heap.size w w' ∧
      ∀ S, (∀ m ∈ S, m < w.heap.size) → GrS w' (.agg #[.int .i64 (n : Int), .slice a n c, .slice b2 n d]) (CtG G) S := by
  have hn : 0 < n ∧ n ≤ 64 := ⟨hn'.1, by omega⟩
  obtain ⟨T1, t1, ab, ao, c, bb, bo, e, hv1, hlv⟩ := h1.lev hG ⟨hn.1, hn.2⟩
  have hst2 := fun (V : World) (hV : Below w.heap.size w V) => strong73 (O := orbO T1) (R := PlainPm.repT T1) (c := c) (e := e) hn (t1.chG hG) hlv hV
  have hs2 := sgen_grp hG t1
  have h83 := fun (V : World) (hV : Below w.heap.size w V) => elems83 (w := V) hn' hG (h1.below hV) hsz
  subst hv1
  obtain ⟨X, hX⟩ : ∃ X, w.heap.size = X := ⟨_, rfl⟩
  obtain ⟨W1, hW1⟩ : ∃ W1, (w.alloc (.cells #[.int .i64 (n : Int), .slice (some ⟨ab, ao, none⟩) n c, .slice (some ⟨bb, bo, none⟩) n e] 25)).alloc (.cells #[.int .i64 0, .slice none 0 0, .slice none 0 0] 25) = W1 := ⟨_, rfl⟩
  have hszw : W1.heap.size = X + 2 := by rw [← hW1]; simp [hX]
  have hwW : Below w.heap.size w W1 := hW1 ▸ alloc_b (alloc_b (Below.refl _ _) _) _
  have k0 : W1.heap[X]? = some (.cells #[.int .i64 (n : Int), .slice (some ⟨ab, ao, none⟩) n c, .slice (some ⟨bb, bo, none⟩) n e] 25) := by
    rw [← hW1]
    exact ((alloc_b (Below.refl _ _) _).block X (by simp; omega)).trans (box_al25 hX _ _ _)
  have k1 : W1.heap[X + 1]? = some (.cells #[.int .i64 0, .slice none 0 0, .slice none 0 0] 25) := by
    rw [← hW1]
    exact box_al25 (by simp [hX]) _ _ _
  obtain ⟨x0, x1, x2, _⟩ := box_cells k0
  have HB := Lib.hid (And.intro k0 (And.intro k1 (And.intro hszw hwW)))
  have HC := Lib.hid (And.intro hst2 (And.intro hs2 h83))
  have hx0 := And.intro x0 (And.intro x1 (And.intro x2 (Below.refl W1.heap.size W1)))
  clear hst2 hs2 h83 hlv h1 k0 k1 hszw hwW
  go_enter Tryz.func36, Tryz.ntmps36
  try simp only [hX]
  go_wp2_with (first
    | (go_at_call 73; (with_reducible refine (HC.out.1 _ (below_trans HB.out.2.2.2 H3.out.2.2)).mono ?_); rintro e4 w4 ⟨v4, us4, rfl, k1, k2, k3, k4⟩
       obtain ⟨a4, c4, rfl, k5⟩ := k1.row (by unfold maxLen; omega)
       obtain ⟨w5, c5, hr5, hE5, hb5, hs5⟩ := (H3.out.2.1.below k4).range
       have H4 := Lib.hid (And.intro k1 (And.intro k2 (And.intro k3 (And.intro k4 (And.intro hE5 (And.intro hb5 hs5))))))
       clear k1 k2 k3 k4 k5 hE5 hb5 hs5)
    | (go_at_call 83; (with_reducible refine (HC.out.2.2 _ HB.out.2.2.2).mono ?_); rintro e3 w3 ⟨b, rfl, k1, k2, k3⟩
       obtain ⟨i0, i1, i2, _⟩ := keep3b hx0 k3
       have H3 := Lib.hid (And.intro k1 (And.intro k2 k3)); clear k1 k2 k3))
  obtain ⟨r, hr⟩ : ∃ r, w4.heap.size = r := ⟨_, rfl⟩
  try simp only [hr]
  obtain ⟨B, hB⟩ : ∃ B, sgen n (orbO T1) (PlainPm.repT T1) n = B := ⟨_, rfl⟩
  rw [hB] at H4 HC
  have b14 : Below W1.heap.size W1 w4 := below_trans H3.out.2.2 H4.out.2.2.2.1
  have b15 : Below W1.heap.size W1 w5 := below_trans b14 H4.out.2.2.2.2.2.1
  have hbl : us4.length = B.length := H4.out.2.1.1
  obtain ⟨nb, hnb⟩ : ∃ nb, us4.length = nb := ⟨_, rfl⟩
  have hnb6 : nb ≤ 4096 := by have := H4.out.2.2.1; omega
  have hpB : PmsV w5 [] (.slice a4 nb c4) B := by
    have := pms_ownB (H4.out.1.below H4.out.2.2.2.2.2.1) (H4.out.2.1.below (below_trans HB.out.2.2.2 b15)) (by omega)
    rwa [hnb] at this
  rw [hnb]
  have hbW0 : W1.heap.size ≤ b := by have h8 := H3.out.1; omega
  have hrW0 : W1.heap.size ≤ r := by rw [← hr]; exact b14.size
  have hEr := H4.out.2.2.2.2.1
  rw [hr] at hEr
  have HD := Lib.hid (And.intro hpB (And.intro b15 (And.intro (hbl.symm.trans hnb) hEr)))
  clear hpB b14 b15 hbl hnb hEr hr
  go_loopw [7, 8] (fun _ _ wr => ∃ (A L : Pm n → Prop) (ct : Nat), ElR wr [] b r 5040 A L ct ∧ (∀ x, A x → G x) ∧ (∀ x, CtG G x → A x) ∧ (∀ x, A x → ¬ L x → ∀ y ∈ B, x.mul y = y.mul x) ∧ Up w5 wr ∧ Below W1.heap.size W1 wr) (fun _ _ wr => wr.rangeLeft b r)
  case atStart => exact ⟨G, G, c5, HD.out.2.2.2, fun x h => h, fun x h => h.1, fun x h1 h2 => absurd h1 h2, Up.refl _, HD.out.2.1⟩
  case round =>
    obtain ⟨A, L, ct, hE, hAG, hkp, hcm, hup, hb⟩ := hrel
    have hleft := hE.left
    rcases hE.next hn.2 0 with ⟨hno, hrun⟩ | ⟨x, v, w6, c6, hLx, hpm, hrun, hE6, hc6, hg6, hs6, hen⟩
    · have HP := Lib.hid (And.intro hE.owns (And.intro (fun x => (⟨fun h => (ct_gens HC.out.2.1 x).2 ⟨hAG x h, fun y hy => hcm x h (hno x) y hy⟩, fun h => hkp x h⟩ : A x ↔ CtG G x)) hb))
      obtain ⟨q0, q1, q2, _⟩ := keep3b hx0 hb
      have hXr := (hb.block (X + 1) (by have := HB.out.2.2.1; omega)).trans HB.out.2.1
      have HX := Lib.hid hXr
      clear hE hAG hkp hcm hup hb hleft hno hXr
      go_wp2_with (go_at_call 86; (with_reducible refine (gath86 hn HP.out.1).mono ?_); rintro e6 w6 ⟨a6, c6, b6, d6, rfl, k1, k2⟩
                   have hX6 := (k1.block (X + 1) (Array.getElem?_eq_some_iff.1 HX.out).1).trans HX.out
                   obtain ⟨z0', z1', z2', zf1, zf2, zf0⟩ := box_cells hX6
                   have H6 := Lib.hid (And.intro k1 (And.intro k2 hX6)); clear k1 k2 hX6)
      have hfin : (set3 w6 (X + 1) (.int .i64 (n : Int)) (.slice a6 n c6) (.slice b6 n d6)).heap[X + 1]? = some (.cells #[.int .i64 (n : Int), .slice a6 n c6, .slice b6 n d6] 25) := set3_box H6.out.2.2
      obtain ⟨V, hV⟩ : ∃ V, set3 w6 (X + 1) (.int .i64 (n : Int)) (.slice a6 n c6) (.slice b6 n d6) = V := ⟨_, rfl⟩
      have hKp : Kept w6 V [X + 1] := hV ▸ set3_kept (by simp)
      rw [hV] at hfin
      unfold set3 at hV
      rw [hV]
      obtain ⟨f0, f1, f2, _⟩ := box_cells hfin
      refine bodyPost_ret (v := .tuple #[.agg #[.int .i64 (n : Int), .slice a6 n c6, .slice b6 n d6], .int .i64 0]) (by simp [results, Tryz.results36, go_sem, f0, f1, f2]) rfl ?_
      have hw6 : Below w.heap.size w w6 := below_trans (below_trans HB.out.2.2.2 HP.out.2.2) H6.out.1
      refine ⟨a6, c6, b6, d6, rfl, ?_, fun S hS => ?_⟩
      · have := hw6.trans (hKp.below hw6.size (fun m hm => by rw [List.mem_singleton.1 hm]; omega))
        rwa [hX] at this
      · have hlt := HP.out.2.2.size
        have hlt2 := HB.out.2.2.1
        refine (((H6.out.2.1 ((X + 1) :: S) (fun m hm => ?_)).kept (hKp.mono (fun q hq => by rw [List.mem_singleton.1 hq]; exact List.mem_cons_self ..))).congr (grp_isG (CtG.isG hG) HP.out.2.1)).ext (fun q hq => .inl (List.mem_cons_of_mem _ hq))
        rcases List.mem_cons.1 hm with h | h
        · omega
        · have := hS m h; omega
    · have htn : Turn wr w6 (some r) := ⟨hg6, fun q e9 => by cases e9; obtain ⟨_, a0, s0, d0, e0, h0⟩ := hE.blk; exact ⟨_, h0, rfl⟩⟩
      obtain ⟨yb, yo, yc, rfl, _⟩ := id hpm
      obtain ⟨P, hP⟩ : ∃ P, w6.heap.size = P := ⟨_, rfl⟩
      have hb6 := hb.grown hg6 hb.size (fun q e9 => by cases e9; exact hrW0)
      have hup6 := hup.trans htn.up
      obtain ⟨W7, hW7⟩ : ∃ W7, (w6.alloc (.cells #[.slice none 0 0] 27)).setCell ⟨P, 0, none⟩ (.slice (some ⟨yb, yo, none⟩) n yc) = W7 := ⟨_, rfl⟩
      have z6 : (w6.alloc (.cells #[.slice none 0 0] 27)).heap[P]? = some (.cells #[.slice none 0 0] 27) := al_at hP _
      have hz7 : W7.heap[P]? = some (.cells #[.slice (some ⟨yb, yo, none⟩) n yc] 27) := hW7 ▸ box1_set z6
      have k7 : Kept (w6.alloc (.cells #[.slice none 0 0] 27)) W7 [P] := hW7 ▸ Kept.ofGrown (grown_put 0 _) (fun k e => by cases e; exact List.mem_singleton.2 rfl)
      have b67 : Below w6.heap.size w6 W7 := (alloc_b (Below.refl _ _) _).trans (k7.below1 (by simp) (by omega))
      obtain ⟨c70, _⟩ := box1_cells hz7
      have hcon := con93 hn ((HD.out.1.upx hup6).below b67) HD.out.2.2.1 c70 (by have h9 := (Array.getElem?_eq_some_iff.1 hz7).1; exact h9) (hpm.below b67)
      have HQ := Lib.hid (And.intro (hE6.below b67) (And.intro hAG (And.intro hkp (And.intro hcm (And.intro hleft (And.intro hc6 (And.intro hcon (And.intro (hup6.trans (Up.below b67)) (And.intro (below_trans hb6 b67) hLx)))))))))
      obtain ⟨z60, z61⟩ := box1_cells z6
      clear hE hAG hkp hcm hleft hup hb hLx hpm hc6 hg6 hs6 htn hE6 hb6 hup6 hz7 k7 b67 hcon c70 z6
      by_cases he : ∃ y ∈ B, ¬ x.mul y = y.mul x
      · have He := Lib.hid he
        clear he
        go_wp2_with (go_at_call 93; (try simp only [hP]); (try simp only [hW7]); (with_reducible refine HQ.out.2.2.2.2.2.2.1.mono ?_); rintro e8 w8 ⟨t, rfl, ht, kk⟩
                     have ht2 : t = true := ht.2 He.out
                     subst ht2
                     obtain ⟨w9, c9, hrun9, hE9, hc9, hg9⟩ := (HQ.out.1.below kk).drop hn.2 x 0
                     have hmb := (HQ.out.1.below kk).owns.blk
                     have H8 := Lib.hid (And.intro kk (And.intro hE9 (And.intro hc9 (And.intro hg9 hmb))))
                     clear kk ht hE9 hc9 hg9 hmb)
        obtain ⟨es, cl, hmb⟩ := H8.out.2.2.2.2
        have htn : Turn w8 w9 (some b) := ⟨H8.out.2.2.2.1, fun q9 e9 => by cases e9; exact ⟨_, hmb, rfl⟩⟩
        have hb8 := below_trans HQ.out.2.2.2.2.2.2.2.2.1 H8.out.1
        refine ⟨⟨_, _, c9, H8.out.2.1, fun z hz => HQ.out.2.1 z hz.1, fun z hz => ⟨HQ.out.2.2.1 z hz, fun e9 => ?_⟩, fun z hz hnl y hy => ?_, (HQ.out.2.2.2.2.2.2.2.1.trans (Up.below H8.out.1)).trans htn.up, hb8.grown H8.out.2.2.2.1 hb8.size (fun q9 e9 => by cases e9; exact hbW0)⟩, ?_⟩
        · obtain ⟨y, hy, hne⟩ := He.out
          rw [e9] at hz
          exact hne (((ct_gens HC.out.2.1 x).1 hz).2 y hy)
        · exact HQ.out.2.2.2.1 z hz.1 (fun hl => hnl ⟨⟨hl, hz.2⟩, hz.2⟩) y hy
        · rw [H8.out.2.1.left, HQ.out.2.2.2.2.1]
          exact Nat.lt_of_le_of_lt H8.out.2.2.1 HQ.out.2.2.2.2.2.1
      · have He := Lib.hid he
        clear he
        go_wp2_with (go_at_call 93; (try simp only [hP]); (try simp only [hW7]); (with_reducible refine HQ.out.2.2.2.2.2.2.1.mono ?_); rintro e8 w8 ⟨t, rfl, ht, kk⟩
                     have ht2 : t = false := by cases t with | false => rfl | true => exact absurd (ht.1 rfl) He.out
                     subst ht2
                     have H8 := Lib.hid kk
                     clear kk ht)
        have hE8 := HQ.out.1.below H8.out
        refine ⟨⟨_, _, _, hE8, HQ.out.2.1, HQ.out.2.2.1, fun z hz hnl y hy => ?_, HQ.out.2.2.2.2.2.2.2.1.trans (Up.below H8.out), below_trans HQ.out.2.2.2.2.2.2.2.2.1 H8.out⟩, ?_⟩
        · by_cases e9 : z = x
          · rw [e9]
            exact Classical.byContradiction fun hne => He.out ⟨y, hy, hne⟩
          · exact HQ.out.2.2.2.1 z hz (fun hl => hnl ⟨hl, e9⟩) y hy
        · rw [hE8.left, HQ.out.2.2.2.2.1]
          exact HQ.out.2.2.2.2.2.1
end
end Go.Proofs.YtbejhkojdiadaaaGreat
