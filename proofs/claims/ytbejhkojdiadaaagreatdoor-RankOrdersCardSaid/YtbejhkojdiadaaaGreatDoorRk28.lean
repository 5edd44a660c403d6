/- RankOrders walked. -/
import Derived.Test.YtbejhkojdiadaaaGreatDoorRk01
import Derived.Test.YtbejhkojdiadaaaGreatDoorRk02
import Derived.Test.YtbejhkojdiadaaaGreatDoorRk03
import Derived.Test.YtbejhkojdiadaaaGreatDoorRk04
import Derived.Test.YtbejhkojdiadaaaGreatDoorRk05
import Derived.Test.YtbejhkojdiadaaaGreatDoorRk06
import Derived.Test.YtbejhkojdiadaaaGreatDoorRk07
import Derived.Test.YtbejhkojdiadaaaGreatDoorRk08
import Derived.Test.YtbejhkojdiadaaaGreatDoorRk09
import Derived.Test.YtbejhkojdiadaaaGreatDoorRk10
import Derived.Test.YtbejhkojdiadaaaGreatDoorRk11
import Derived.Test.YtbejhkojdiadaaaGreatDoorRk12
import Derived.Test.YtbejhkojdiadaaaGreatDoorRk13
import Derived.Test.YtbejhkojdiadaaaGreatDoorRk14
import Derived.Test.YtbejhkojdiadaaaGreatDoorRk15
import Derived.Test.YtbejhkojdiadaaaGreatDoorRk16
import Derived.Test.YtbejhkojdiadaaaGreatDoorRk17
import Derived.Test.YtbejhkojdiadaaaGreatDoorRk18
import Derived.Test.YtbejhkojdiadaaaGreatDoorRk19
import Derived.Test.YtbejhkojdiadaaaGreatDoorRk20
import Derived.Test.YtbejhkojdiadaaaGreatDoorRk21
import Derived.Test.YtbejhkojdiadaaaGreatDoorRk22
import Derived.Test.YtbejhkojdiadaaaGreatDoorProg
import Derived.WalkKit
import Derived.WalkSpells
import Derived.BigQuiet
import Derived.Deep.QuietTactic
import Derived.Deep.LoopGhost
import Derived.Lib.Hide
import Derived.Maps.AppendAt
import Derived.Deep.AppendLies
import Derived.StillTailTactics
import Derived.Laws.CopyOwn
import Derived.Deep.OwnRows
import Derived.Deep.DeepCutAuto
import Derived.Laws.Cover3
import Derived.Deep.RegionHeld3
import Derived.RangeFuncRecord
import Derived.Lib.SlicesSearch
import Derived.RangeFuncBox
import Derived.RangeFuncLeaves
import Derived.RangeFuncWrites
import Derived.RangeFuncFrom
import Derived.Shelf.Abstract
import Derived.OwnWalkIn
import Derived.TacticsInMore
import Derived.LoopNIn
import Derived.LoopIn
import Derived.Shelf.GgSortFunc.Insertion
import Derived.Shelf.SlIter.Collect
import Derived.Shelf.Sort.Plain
import Derived.Deep.RegionLaw
import Derived.ControlIn
import Derived.Deep.AppendSrc
import Derived.Sort.BigQuietIn
import Derived.Laws.BytesArg
import Derived.Laws.IdiomStrings
import Derived.Maps.OwnSet
import Derived.Carry
import Derived.Shelf.SlLaysF
import Derived.Shelf.SlSortCmp.Whole1
set_option linter.unusedSimpArgs false
set_option linter.unusedVariables false
namespace Go.Proofs.YtbejhkojdiadaaaGreatDoor
open Go.RowKit PlainPm

theorem same_pms {n : Nat} (hn : n ≤ 64) {w : World} {u u' : Value} {L : List (Pm n)} (hl : L.length ≤ 1000000) (h : PmsV w [] u L) (h' : PmsV w [] u' L) : Calls Tryz.prog 16 #[u, u'] w fun e w' => e = .returned (.bool true) ∧ Below w.heap.size w w' :=
  (same47p hn hl hl h h').mono fun _ _ ⟨he, hb⟩ => ⟨he.true_ rfl, hb⟩
set_option maxRecDepth 100000 in
set_option maxHeartbeats 8000000 in
theorem rankOrdersW {w : World} {a1 : Option Addr} {c1 : Nat} {l : List Int} {K : Int} (hi : Ints w a1 l) : Calls Tryz.prog 5 #[.slice a1 l.length c1, .int .i64 K] w fun e w' => e = .returned (.bool true) ∧ Below w.heap.size w w' := by
  obtain ⟨m1, hm1⟩ : ∃ m, l.length = m := ⟨_, rfl⟩
  rw [hm1]
  have H := Lib.hid (And.intro hi hm1)
  clear hi hm1
  go_enter Tryz.func5, Tryz.ntmps5
  go_wp2_with fail
  go_at_call 4
  (with_reducible refine rankKnownW.mono ?_)
  rintro e1 w1 ⟨rfl, k1⟩
  have h97 : Calls Tryz.prog 22 #[.slice a1 m1 c1, .int .i64 6] w1 _ := H.out.2 ▸ groupOf97 (c := c1) (most := 6) (by omega) (H.out.1.below k1)
  have H1 := Lib.hid (And.intro k1 h97)
  clear k1 h97
  go_wp2_with fail
  go_at_call 22
  (with_reducible refine H1.out.2.mono ?_)
  rintro e3 w3 ⟨n, v3, rfl, hn, ⟨Lg, hlg, hp⟩, k⟩
  obtain ⟨a3, c3, us3, rfl, hr3, hpl3⟩ := id hp
  obtain ⟨m3, hm3⟩ : ∃ m, Lg.length = m := ⟨_, rfl⟩
  rw [hm3] at hp hlg ⊢
  obtain ⟨W3, hW3⟩ : ∃ W3, w3.alloc (.cells #[.int .i64 (n : Int), .slice a3 m3 c3] 49) = W3 := ⟨_, rfl⟩
  have b3 : Below w3.heap.size w3 W3 := hW3 ▸ alloc_b (Below.refl _ _) _
  obtain ⟨Y, hY⟩ : ∃ Y, w3.heap.size = Y := ⟨_, rfl⟩
  have y3 : W3.heap[Y]? = some (.cells #[.int .i64 (n : Int), .slice a3 m3 c3] 49) := hW3 ▸ al_at hY _
  obtain ⟨s0, s1, s2⟩ := box2_cells y3
  have h45 : Calls Tryz.prog 23 #[.int .i64 (n : Int), .slice a3 m3 c3, .int .i64 720] W3 _ := elements45 (n := n) (most := 720) ⟨hn.1, by omega⟩ hm3 (by omega) (hp.below b3) (fac_le6 hn.2) (by omega)
  have H3 := Lib.hid (And.intro hn (And.intro (And.intro hlg (And.intro hm3 (hp.below b3))) (And.intro (below_trans H1.out.1 (below_trans k b3)) (And.intro y3 h45))))
  clear hp k b3 y3 h45 hr3 hpl3 hm3 hlg hn
  go_wp2_with fail
  go_at_call 23
  (with_reducible refine H3.out.2.2.2.2.mono ?_)
  rintro e4 w4 ⟨v4, rfl, hE, k4⟩
  obtain ⟨E, hE1, hE2, hE3⟩ := (hE.lst (M := []) (by have := H3.out.1; omega) (by simp)).now
  have hAll : AllE E (Grp (· ∈ Lg)) := ⟨hE2, hE3⟩
  have hE720 : E.length ≤ 720 := Nat.le_trans (pm_card (sorted_nodup hE2)) (fac_le6 H3.out.1.2)
  have hEpos : 0 < E.length := List.length_pos_of_mem ((hE3 (PlainPm.one n)).2 Grp.one)
  obtain ⟨_, c4, rfl, _, hat4⟩ := pms_at hE1
  obtain ⟨g4, o4, _, rfl, _⟩ := hat4 0 _ (List.getElem?_eq_getElem hEpos)
  obtain ⟨m4, hm4⟩ : ∃ m, E.length = m := ⟨_, rfl⟩
  rw [hm4] at hE720 hEpos hE1 ⊢
  have hy4 := (k4.block Y (Array.getElem?_eq_some_iff.1 H3.out.2.2.2.1).1).trans H3.out.2.2.2.1
  obtain ⟨x0, x1, x2⟩ := box2_cells hy4
  have h99 : Calls Tryz.prog 24 #[.agg #[.int .i64 (n : Int), .slice a3 m3 c3]] w4 _ := of99 (n := n) ⟨H3.out.1.1, by have := H3.out.1; omega⟩ H3.out.2.1.2.1 (by have := H3.out.2.1.1; omega) (H3.out.2.1.2.2.below k4)
  have HE := Lib.hid (And.intro hAll (And.intro hm4 (And.intro hE1 hat4)))
  have H4 := Lib.hid (And.intro (below_trans H3.out.2.2.1 k4) (And.intro hy4 h99))
  clear hE hE1 hE2 hE3 hAll hm4 hat4 k4 hy4 h99 s0 s1 s2 hW3
  go_wp2_with fail
  go_at_call 24
  (with_reducible refine H4.out.2.2.mono ?_)
  rintro e5 w5 ⟨a5, c5, b5, d5, rfl, k5, k5g⟩
  obtain ⟨X, hX⟩ : ∃ X, w5.heap.size = X := ⟨_, rfl⟩
  obtain ⟨W5, hW5⟩ : ∃ W5, w5.alloc (.cells #[.int .i64 (n : Int), .slice a5 n c5, .slice b5 n d5] 25) = W5 := ⟨_, rfl⟩
  have b5' : Below w5.heap.size w5 W5 := hW5 ▸ alloc_b (Below.refl _ _) _
  have z5 : W5.heap[X]? = some (.cells #[.int .i64 (n : Int), .slice a5 n c5, .slice b5 n d5] 25) := hW5 ▸ box_al25 hX _ _ _
  obtain ⟨i0, i1, i2, _⟩ := box_cells z5
  have kb5 := below_trans k5 b5'
  have hy5 := (kb5.block Y (Array.getElem?_eq_some_iff.1 H4.out.2.1).1).trans H4.out.2.1
  have hg5 : GrG W5 (.agg #[.int .i64 (n : Int), .slice a5 n c5, .slice b5 n d5]) (Grp (· ∈ Lg)) := ((k5g [] (by simp)).now).below b5'
  have hn8 : 0 < n ∧ n ≤ 8 := ⟨H3.out.1.1, by have := H3.out.1; omega⟩
  have HW5 := Lib.hid (And.intro (And.intro (below_trans H4.out.1 kb5) kb5) (And.intro z5 (And.intro hy5 (And.intro hg5 hn8))))
  clear k5 k5g b5' z5 kb5 hy5 hg5 hn8 x0 x1 x2
  have hl10 := list_in HW5.out.2.2.2.2 Grp.isG HW5.out.2.2.2.1 HE.out.1 (by have := HE.out.2.1; omega)
  rw [HE.out.2.1] at hl10
  have HL := Lib.hid hl10
  clear hl10
  go_wp2_with fail
  go_at_call 10
  (with_reducible refine HL.out.mono ?_)
  rintro e6 w6 ⟨a6, c6, rfl, hp6, k6⟩
  obtain ⟨kk, hkk⟩ : ∃ q : Nat, K % (m4 : Int) = (q : Int) := ⟨(K % (m4 : Int)).toNat, (Int.toNat_of_nonneg (Int.emod_nonneg _ (by omega))).symm⟩
  have hkm : kk < m4 := by have h9 := Int.emod_lt_of_pos K (b := (m4 : Int)) (by omega); omega
  have hpk : Calls Tryz.prog 25 #[.int .i64 K, .int .i64 (m4 : Int)] w6 fun e w' => e = .returned (.int .i64 (kk : Int)) ∧ Below w6.heap.size w6 w' := (pick51 (x := K) (n := (m4 : Int)) (by omega) (by omega) w6).mono fun _ _ ⟨h1, q, h2⟩ => ⟨by rw [h1, hkk], by rw [h2]; exact below_self_drewN _ _⟩
  have H6 := Lib.hid (And.intro k6 (And.intro hp6 hpk))
  clear k6 hp6 hpk hkk i0 i1 i2 hW5
  go_wp2_with fail
  go_at_call 25
  (with_reducible refine H6.out.2.2.mono ?_)
  rintro e7 w7 ⟨rfl, k7⟩
  obtain ⟨x, hx⟩ : ∃ x, E[kk]? = some x := ⟨_, List.getElem?_eq_getElem (by rw [HE.out.2.1]; exact hkm)⟩
  have k57 := below_trans H6.out.1 k7
  have kb47 := below_trans HW5.out.1.2 k57
  obtain ⟨g7, o7, u7, e7', hc7, hp7⟩ := HE.out.2.2.2 kk x hx
  cases e7'
  have hc7' := (kb47.cell (block_lt_of_cell hc7)).trans hc7
  obtain ⟨ub, uo, uc, rfl, _⟩ := id hp7
  have zz := (k57.block X (Array.getElem?_eq_some_iff.1 HW5.out.2.1).1).trans HW5.out.2.1
  obtain ⟨j0, j1, j2, _⟩ := box_cells zz
  have hz0 := And.intro hc7' (And.intro (And.intro j0 (And.intro j1 j2)) (Below.refl w7.heap.size w7))
  have hkI : (kk : Int) < (m4 : Int) := by omega
  have hx7 := hp7.below kb47
  have hg7 := HW5.out.2.2.2.1.below k57
  have hrk := fun (V : World) (hV : Below w7.heap.size w7 V) => rank_in HW5.out.2.2.2.2 Grp.isG (hg7.below hV) HE.out.1 hx (hx7.below hV)
  have H7 := Lib.hid (And.intro k57 (And.intro hx (And.intro hx7 (And.intro k7 hc7))))
  clear k7 k57 kb47 hc7 hc7' hp7 zz hx hx7 hg7 j0 j1 j2
  go_wp2_with fail
  go_region_held3 (fun W => W.cell? ⟨g4, o4 + kk, none⟩ = some (.slice (some ⟨ub, uo, none⟩) n uc) ∧ (W.cell? ⟨X, 0, none⟩ = some (.int .i64 (n : Int)) ∧ W.cell? ⟨X, 1, none⟩ = some (.slice a5 n c5) ∧ W.cell? ⟨X, 2, none⟩ = some (.slice b5 n d5)) ∧ Below w7.heap.size w7 W)
    (first
      | with_reducible assumption
      | with_reducible exact hz0
      | exact keep4z hz0 (below_drw (Below.refl _ _))
      | exact keep4z hz0 (below_self_drewN _ _)
      | exact keep4z hz0 b8
      | exact keep4z hz0 (below_drw b8)
      | exact keep4z hz0 (below_trans b8 (below_self_drewN _ _))
      | fail)
    (first
      | (go_at_call 19; (with_reducible refine (hrk _ (by first | exact Below.refl _ _ | exact below_drw (Below.refl _ _) | exact below_self_drewN _ _)).mono ?_); rintro e8 V ⟨rfl, k⟩; have b8 : Below w7.heap.size w7 V := below_trans (by first | exact Below.refl _ _ | exact below_drw (Below.refl _ _) | exact below_self_drewN _ _) k; clear k))
  have k58 := below_trans H7.out.1 b8
  have hg8 := HW5.out.2.2.2.1.below k58
  have zz := (k58.block X (Array.getElem?_eq_some_iff.1 HW5.out.2.1).1).trans HW5.out.2.1
  obtain ⟨j0, j1, j2, _⟩ := box_cells zz
  have hun := unr_in HW5.out.2.2.2.2 Grp.isG hg8 HE.out.1 H7.out.2.1
  have H8 := Lib.hid (And.intro k58 (And.intro hun b8))
  clear zz k58 hg8 hun b8 hz0 hrk
  go_wp2_with fail
  go_at_call 18
  (with_reducible refine H8.out.2.1.mono ?_)
  rintro e9 w9 ⟨a9, c9, rfl, p9, k9⟩
  have k59 := below_trans H8.out.1 k9
  have k79 := below_trans H8.out.2.2 k9
  have kb49 := below_trans HW5.out.1.2 k59
  obtain ⟨g7, o7, u7, e7', hc7, hp7⟩ := HE.out.2.2.2 kk x H7.out.2.1
  cases e7'
  obtain ⟨_, _, _, eu, _⟩ := id H7.out.2.2.1
  cases eu
  have hu7 : u7 = .slice (some ⟨ub, uo, none⟩) n uc := Option.some.inj (hc7.symm.trans H7.out.2.2.2.2)
  subst hu7
  have hc9 := (kb49.cell (block_lt_of_cell hc7)).trans hc7
  have zz := (k59.block X (Array.getElem?_eq_some_iff.1 HW5.out.2.1).1).trans HW5.out.2.1
  obtain ⟨q0, q1, q2, _⟩ := box_cells zz
  have hz0 := And.intro hc9 (And.intro (And.intro q0 (And.intro q1 q2)) (Below.refl w9.heap.size w9))
  have hg9 := HW5.out.2.2.2.1.below k59
  have hx9 := H7.out.2.2.1.below k79
  have hG : Grp (· ∈ Lg) x := (HE.out.1.2 x).1 (List.mem_of_getElem? H7.out.2.1)
  have hle : ∀ (V : World), Below w9.heap.size w9 V → Calls Tryz.prog 21 #[.agg #[.int .i64 (n : Int), .slice a5 n c5, .slice b5 n d5], .slice (some ⟨ub, uo, none⟩) n uc] V fun e w' => ∃ a c, e = .returned (.tuple #[.slice a n c, .int .i64 0]) ∧ PmV w' [] (.slice a n c) (PlainPm.one n) ∧ Below V.heap.size V w' := fun V hV =>
    (least_in HW5.out.2.2.2.2 Grp.isG (hg9.below hV) (hx9.below hV)).mono fun _ _ ⟨a, c, z, h1, h2, h3, h4⟩ => ⟨a, c, h1, LeastOf.one Grp.isG hG h2 ▸ h3, h4⟩
  have H9 := Lib.hid (And.intro (And.intro k59 (And.intro k79 (And.intro kb49 hc7))) (And.intro p9 hx9))
  clear k9 k59 k79 kb49 hc7 hp7 hc9 zz hg9 hx9 p9 j0 j1 j2 hG q0 q1 q2
  go_wp2_with fail
  go_region_held3 (fun W => W.cell? ⟨g4, o4 + kk, none⟩ = some (.slice (some ⟨ub, uo, none⟩) n uc) ∧ (W.cell? ⟨X, 0, none⟩ = some (.int .i64 (n : Int)) ∧ W.cell? ⟨X, 1, none⟩ = some (.slice a5 n c5) ∧ W.cell? ⟨X, 2, none⟩ = some (.slice b5 n d5)) ∧ Below w9.heap.size w9 W)
    (first
      | with_reducible assumption
      | with_reducible exact hz0
      | exact keep4z hz0 (below_drw (Below.refl _ _))
      | exact keep4z hz0 (below_self_drewN _ _)
      | exact keep4z hz0 b10
      | exact keep4z hz0 (below_drw b10)
      | exact keep4z hz0 (below_trans b10 (below_self_drewN _ _))
      | fail)
    (first
      | (go_at_call 21; (with_reducible refine (hle _ (by first | exact Below.refl _ _ | exact below_drw (Below.refl _ _) | exact below_self_drewN _ _)).mono ?_); rintro e10 V10 ⟨a10, c10, rfl, p10, k⟩; have b10 : Below w9.heap.size w9 V10 := below_trans (by first | exact Below.refl _ _ | exact below_drw (Below.refl _ _) | exact below_self_drewN _ _) k; clear k))
  have h16 := same_pms (n := n) (by have := HW5.out.2.2.2.2.2; omega) (by have := HE.out.2.1; omega) (H6.out.2.1.below (below_trans H7.out.2.2.2.1 (below_trans H9.out.1.2.1 b10))) (HE.out.2.2.1.below (below_trans H9.out.1.2.2.1 b10))
  have H10 := Lib.hid (And.intro b10 (And.intro p10 h16))
  clear b10 p10 h16 hz0 hle
  go_wp2_with fail
  go_at_call 16
  (with_reducible refine H10.out.2.2.mono ?_)
  rintro e11 w11 ⟨rfl, k11⟩
  have k911 := below_trans H10.out.1 k11
  have hc11 := ((below_trans H9.out.1.2.2.1 k911).cell (block_lt_of_cell H9.out.1.2.2.2)).trans H9.out.1.2.2.2
  have h20 := same20p (n := n) (by have := HW5.out.2.2.2.2.2; omega) (H9.out.2.1.below k911) (H9.out.2.2.below k911)
  rw [decide_eq_true rfl] at h20
  have H11 := Lib.hid (And.intro k911 (And.intro h20 k11))
  clear k11 k911 h20
  go_wp2_with fail
  go_at_call 20
  (with_reducible refine H11.out.2.1.mono ?_)
  rintro e12 w12 ⟨rfl, k12⟩
  have k5_12 := below_trans H9.out.1.1 (below_trans H11.out.1 k12)
  have hy12 := (k5_12.block Y (Array.getElem?_eq_some_iff.1 HW5.out.2.2.1).1).trans HW5.out.2.2.1
  obtain ⟨y0, y1, y2⟩ := box2_cells hy12
  have H12 := Lib.hid k12
  have h26 := one65 (n := n) (w := w12) (by have := HW5.out.2.2.2.2.2; omega) HW5.out.2.2.2.2.1
  have H26 := Lib.hid h26
  clear k12 k5_12 hy12 h26 hc11
  go_wp2_with fail
  go_at_call 26
  (with_reducible refine H26.out.mono ?_)
  rintro e13 w13 ⟨v13, rfl, k1, k13⟩
  have h20 := same20p (n := n) (by have := HW5.out.2.2.2.2.2; omega) (H10.out.2.1.below (below_trans H11.out.2.2 (below_trans H12.out k13))) (k1.pm (M := []) (by simp))
  rw [decide_eq_true rfl] at h20
  have H13 := Lib.hid (And.intro k13 h20)
  clear k1 k13 h20
  go_wp2_with fail
  go_at_call 20
  (with_reducible refine H13.out.2.mono ?_)
  rintro e14 w14 ⟨rfl, k14⟩
  go_wp2_with fail
  go_ret
  exact ⟨rfl, below_trans HW5.out.1.1 (below_trans H9.out.1.1 (below_trans H11.out.1 (below_trans H12.out (below_trans H13.out.1 k14))))⟩
end Go.Proofs.YtbejhkojdiadaaaGreatDoor
