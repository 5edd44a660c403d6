/- closure's pair and the reference's both: the checks of two chains. -/
import Derived.Test.YtbejhkojdiadaaaGreatCl01
import Derived.Test.YtbejhkojdiadaaaGreatCl02
import Derived.Test.YtbejhkojdiadaaaGreatCl03
import Derived.Test.YtbejhkojdiadaaaGreatCl04
import Derived.Test.YtbejhkojdiadaaaGreatCl05
import Derived.Test.YtbejhkojdiadaaaGreatCl06
import Derived.Test.YtbejhkojdiadaaaGreatCl07
import Derived.Test.YtbejhkojdiadaaaGreatCl08
import Derived.Test.YtbejhkojdiadaaaGreatCl09
import Derived.Test.YtbejhkojdiadaaaGreatCl10
import Derived.Test.YtbejhkojdiadaaaGreatCl12
import Derived.Test.YtbejhkojdiadaaaGreatCl13
import Derived.Test.YtbejhkojdiadaaaGreatCl14
import Derived.Test.YtbejhkojdiadaaaGreatCl15
import Derived.Test.YtbejhkojdiadaaaGreatProg
import Derived.WalkKit
import Derived.WalkSpells
import Derived.BigQuiet
import Derived.Deep.QuietTactic
import Derived.Deep.LoopGhost
import Derived.Lib.Hide
import Derived.Maps.AppendAt
import Derived.Deep.AppendLies
import Derived.StillTailTactics
import Derived.Laws.CopyOwn
import Derived.Deep.OwnRows
import Derived.Deep.DeepCutAuto
import Derived.Laws.Cover3
import Derived.Deep.RegionHeld3
import Derived.RangeFuncRecord
import Derived.Lib.SlicesSearch
import Derived.RangeFuncBox
import Derived.RangeFuncLeaves
import Derived.RangeFuncWrites
import Derived.RangeFuncFrom
import Derived.Shelf.Abstract
import Derived.OwnWalkIn
import Derived.TacticsInMore
import Derived.LoopNIn
import Derived.LoopIn
import Derived.Shelf.GgSortFunc.Insertion
import Derived.Shelf.SlIter.Collect
import Derived.Shelf.Sort.Plain
import Derived.Deep.RegionLaw
import Derived.ControlIn
set_option linter.unusedSimpArgs false
set_option linter.unusedVariables false
namespace Go.Proofs.YtbejhkojdiadaaaGreat
open Go.RowKit PlainPm
noncomputable def pairE (d1 : Int) (os1 : List (List Int)) (rs1 : List (List (List Int))) (d2 : Int) (os2 : List (List Int)) (rs2 : List (List (List Int))) : Int :=
  if chkE d1 os1 rs1 ≠ 0 then chkE d1 os1 rs1 else if chkE d2 os2 rs2 ≠ 0 then chkE d2 os2 rs2 else if d1 ≠ d2 then 10 else 0
set_option maxRecDepth 100000 in
set_option maxHeartbeats 2000000 in
theorem pair70 {w : World} {v1 v2 : Value} {d1 d2 : Int} {os1 os2 : List (List Int)} {rs1 rs2 : List (List (List Int))} (h1 : ChV w v1 d1 os1 rs1) (h2 : ChV w v2 d2 os2 rs2) :
    Calls Tryz.prog 70 #[v1, v2] w fun e w' => e = .returned (.int .i64 (pairE d1 os1 rs1 d2 os2 rs2)) ∧ Below w.heap.size w w' := by
  have hc1 := fun (V : World) (hV : Below w.heap.size w V) => chk54 (h1.below hV)
  have hc2 := fun (V : World) (hV : Below w.heap.size w V) => chk54 (h2.below hV)
  obtain ⟨a1, b1, c1, e1, rfl, _⟩ := h1
  obtain ⟨a2, b2, c2, e2, rfl, _⟩ := h2
  obtain ⟨E1, hE1⟩ : ∃ E, chkE d1 os1 rs1 = E := ⟨_, rfl⟩
  obtain ⟨E2, hE2⟩ : ∃ E, chkE d2 os2 rs2 = E := ⟨_, rfl⟩
  obtain ⟨r, hr⟩ : ∃ r, pairE d1 os1 rs1 d2 os2 rs2 = r := ⟨_, rfl⟩
  have hre : r = if E1 ≠ 0 then E1 else if E2 ≠ 0 then E2 else if d1 ≠ d2 then 10 else 0 := by rw [← hr, ← hE1, ← hE2]; rfl
  rw [hE1] at hc1
  rw [hE2] at hc2
  rw [hr]
  obtain ⟨X, hX⟩ : ∃ X, w.heap.size = X := ⟨_, rfl⟩
  obtain ⟨u1, hu1⟩ : ∃ u, (.slice a1 os1.length b1 : Value) = u := ⟨_, rfl⟩
  obtain ⟨W1, hW1⟩ : ∃ W1, (w.alloc (.cells #[.int .i64 d1, .slice a1 os1.length b1, .slice c1 rs1.length e1] 25)).alloc (.cells #[.int .i64 d2, .slice a2 os2.length b2, .slice c2 rs2.length e2] 25) = W1 := ⟨_, rfl⟩
  have hb1 : Below w.heap.size w W1 := hW1 ▸ alloc_b (alloc_b (Below.refl _ _) _) _
  have hk1 : W1.heap[X]? = some (.cells #[.int .i64 d1, .slice a1 os1.length b1, .slice c1 rs1.length e1] 25) := by
    rw [← hW1]
    exact ((alloc_b (Below.refl _ _) _).block X (by simp; omega)).trans (box_al25 hX _ _ _)
  have hk2 : W1.heap[X + 1]? = some (.cells #[.int .i64 d2, .slice a2 os2.length b2, .slice c2 rs2.length e2] 25) := by
    rw [← hW1]
    exact box_al25 (by simp [hX]) _ _ _
  obtain ⟨x0, x1, x2, _⟩ := box_cells hk1
  have HC := Lib.hid (And.intro hc1 (And.intro hc2 (And.intro hb1 (And.intro hk1 (And.intro hk2 hre)))))
  clear hc1 hc2 hb1 hk1 hk2 hE1 hE2 hr hu1 u1 hre
  have HX := Lib.hid hX
  by_cases z1 : E1 = 0
  · have n1 : (E1 != 0) = false := by simp [z1]
    have Z1 := Lib.hid z1
    clear z1
    by_cases z2 : E2 = 0
    · have n2 : (E2 != 0) = false := by simp [z2]
      have Z2 := Lib.hid z2
      clear z2
      by_cases zd : d1 = d2
      · have n3 : (d1 != d2) = false := by simp [zd]
        have Zd := Lib.hid zd
        clear zd
        go_enter Tryz.func70, Tryz.ntmps70
        try rw [hX]
        go_wp2_with (first
          | (go_at_call 54; (with_reducible refine (HC.out.2.1 _ (below_trans HC.out.2.2.1 H2.out)).mono ?_); rintro e w3 ⟨rfl, k1⟩; have k2 := (k1.block X (Nat.lt_of_lt_of_le (Array.getElem?_eq_some_iff.1 HC.out.2.2.2.1).1 H2.out.size)).trans ((H2.out.block X (Array.getElem?_eq_some_iff.1 HC.out.2.2.2.1).1).trans HC.out.2.2.2.1); have k3 := (k1.block (X + 1) (Nat.lt_of_lt_of_le (Array.getElem?_eq_some_iff.1 HC.out.2.2.2.2.1).1 H2.out.size)).trans ((H2.out.block (X + 1) (Array.getElem?_eq_some_iff.1 HC.out.2.2.2.2.1).1).trans HC.out.2.2.2.2.1); obtain ⟨t0, _⟩ := box_cells k2; obtain ⟨s0, _⟩ := box_cells k3; have H3 := Lib.hid k1; clear k1 k2 k3)
          | (go_at_call 54; (with_reducible refine (HC.out.1 _ HC.out.2.2.1).mono ?_); rintro e w2 ⟨rfl, k1⟩; have k3 := (k1.block (X + 1) (Array.getElem?_eq_some_iff.1 HC.out.2.2.2.2.1).1).trans HC.out.2.2.2.2.1; obtain ⟨y0, y1, y2, _⟩ := box_cells k3; have H2 := Lib.hid k1; clear k1 k3))
        go_ret
        have hv := HC.out.2.2.2.2.2
        rw [if_neg (by simp [Z1.out]), if_neg (by simp [Z2.out]), if_neg (by simp [Zd.out])] at hv
        have hb := below_trans HC.out.2.2.1 (below_trans H2.out H3.out)
        rw [HX.out] at hb
        exact ⟨by rw [hv]; rfl, hb⟩
      · have n3 : (d1 != d2) = true := by simp [zd]
        have Zd := Lib.hid zd
        clear zd
        go_enter Tryz.func70, Tryz.ntmps70
        try rw [hX]
        go_wp2_with (first
          | (go_at_call 54; (with_reducible refine (HC.out.2.1 _ (below_trans HC.out.2.2.1 H2.out)).mono ?_); rintro e w3 ⟨rfl, k1⟩; have k2 := (k1.block X (Nat.lt_of_lt_of_le (Array.getElem?_eq_some_iff.1 HC.out.2.2.2.1).1 H2.out.size)).trans ((H2.out.block X (Array.getElem?_eq_some_iff.1 HC.out.2.2.2.1).1).trans HC.out.2.2.2.1); have k3 := (k1.block (X + 1) (Nat.lt_of_lt_of_le (Array.getElem?_eq_some_iff.1 HC.out.2.2.2.2.1).1 H2.out.size)).trans ((H2.out.block (X + 1) (Array.getElem?_eq_some_iff.1 HC.out.2.2.2.2.1).1).trans HC.out.2.2.2.2.1); obtain ⟨t0, _⟩ := box_cells k2; obtain ⟨s0, _⟩ := box_cells k3; have H3 := Lib.hid k1; clear k1 k2 k3)
          | (go_at_call 54; (with_reducible refine (HC.out.1 _ HC.out.2.2.1).mono ?_); rintro e w2 ⟨rfl, k1⟩; have k3 := (k1.block (X + 1) (Array.getElem?_eq_some_iff.1 HC.out.2.2.2.2.1).1).trans HC.out.2.2.2.2.1; obtain ⟨y0, y1, y2, _⟩ := box_cells k3; have H2 := Lib.hid k1; clear k1 k3))
        go_ret
        have hv := HC.out.2.2.2.2.2
        rw [if_neg (by simp [Z1.out]), if_neg (by simp [Z2.out]), if_pos Zd.out] at hv
        have hb := below_trans HC.out.2.2.1 (below_trans H2.out H3.out)
        rw [HX.out] at hb
        exact ⟨by rw [hv]; rfl, hb⟩
    · have n2 : (E2 != 0) = true := by simp [z2]
      have Z2 := Lib.hid z2
      clear z2
      go_enter Tryz.func70, Tryz.ntmps70
      try rw [hX]
      go_wp2_with (first
        | (go_at_call 54; (with_reducible refine (HC.out.2.1 _ (below_trans HC.out.2.2.1 H2.out)).mono ?_); rintro e w3 ⟨rfl, k1⟩; have k2 := (k1.block X (Nat.lt_of_lt_of_le (Array.getElem?_eq_some_iff.1 HC.out.2.2.2.1).1 H2.out.size)).trans ((H2.out.block X (Array.getElem?_eq_some_iff.1 HC.out.2.2.2.1).1).trans HC.out.2.2.2.1); have k3 := (k1.block (X + 1) (Nat.lt_of_lt_of_le (Array.getElem?_eq_some_iff.1 HC.out.2.2.2.2.1).1 H2.out.size)).trans ((H2.out.block (X + 1) (Array.getElem?_eq_some_iff.1 HC.out.2.2.2.2.1).1).trans HC.out.2.2.2.2.1); obtain ⟨t0, _⟩ := box_cells k2; obtain ⟨s0, _⟩ := box_cells k3; have H3 := Lib.hid k1; clear k1 k2 k3)
        | (go_at_call 54; (with_reducible refine (HC.out.1 _ HC.out.2.2.1).mono ?_); rintro e w2 ⟨rfl, k1⟩; have k3 := (k1.block (X + 1) (Array.getElem?_eq_some_iff.1 HC.out.2.2.2.2.1).1).trans HC.out.2.2.2.2.1; obtain ⟨y0, y1, y2, _⟩ := box_cells k3; have H2 := Lib.hid k1; clear k1 k3))
      go_ret
      have hv := HC.out.2.2.2.2.2
      rw [if_neg (by simp [Z1.out]), if_pos Z2.out] at hv
      have hb := below_trans HC.out.2.2.1 (below_trans H2.out H3.out)
      rw [HX.out] at hb
      exact ⟨by rw [hv]; rfl, hb⟩
  · have n1 : (E1 != 0) = true := by simp [z1]
    have Z1 := Lib.hid z1
    clear z1
    go_enter Tryz.func70, Tryz.ntmps70
    try rw [hX]
    go_wp2_with (first
      | (go_at_call 54; (with_reducible refine (HC.out.2.1 _ (below_trans HC.out.2.2.1 H2.out)).mono ?_); rintro e w3 ⟨rfl, k1⟩; have k2 := (k1.block X (Nat.lt_of_lt_of_le (Array.getElem?_eq_some_iff.1 HC.out.2.2.2.1).1 H2.out.size)).trans ((H2.out.block X (Array.getElem?_eq_some_iff.1 HC.out.2.2.2.1).1).trans HC.out.2.2.2.1); have k3 := (k1.block (X + 1) (Nat.lt_of_lt_of_le (Array.getElem?_eq_some_iff.1 HC.out.2.2.2.2.1).1 H2.out.size)).trans ((H2.out.block (X + 1) (Array.getElem?_eq_some_iff.1 HC.out.2.2.2.2.1).1).trans HC.out.2.2.2.2.1); obtain ⟨t0, _⟩ := box_cells k2; obtain ⟨s0, _⟩ := box_cells k3; have H3 := Lib.hid k1; clear k1 k2 k3)
      | (go_at_call 54; (with_reducible refine (HC.out.1 _ HC.out.2.2.1).mono ?_); rintro e w2 ⟨rfl, k1⟩; have k3 := (k1.block (X + 1) (Array.getElem?_eq_some_iff.1 HC.out.2.2.2.2.1).1).trans HC.out.2.2.2.2.1; obtain ⟨y0, y1, y2, _⟩ := box_cells k3; have H2 := Lib.hid k1; clear k1 k3))
    go_ret
    have hv := HC.out.2.2.2.2.2
    rw [if_pos Z1.out] at hv
    have hb := below_trans HC.out.2.2.1 H2.out
    rw [HX.out] at hb
    exact ⟨by rw [hv]; rfl, hb⟩

set_option maxRecDepth 100000 in
set_option maxHeartbeats 2000000 in
theorem pair74 {w : World} {v1 v2 : Value} {d1 d2 : Int} {os1 os2 : List (List Int)} {rs1 rs2 : List (List (List Int))} (h1 : ChV w v1 d1 os1 rs1) (h2 : ChV w v2 d2 os2 rs2) :
    Calls Tryz.prog 74 #[v1, v2] w fun e w' => e = .returned (.int .i64 (pairE d1 os1 rs1 d2 os2 rs2)) ∧ Below w.heap.size w w' := by
  have hc1 := fun (V : World) (hV : Below w.heap.size w V) => chk56 (h1.below hV)
  have hc2 := fun (V : World) (hV : Below w.heap.size w V) => chk56 (h2.below hV)
  obtain ⟨a1, b1, c1, e1, rfl, _⟩ := h1
  obtain ⟨a2, b2, c2, e2, rfl, _⟩ := h2
  obtain ⟨E1, hE1⟩ : ∃ E, chkE d1 os1 rs1 = E := ⟨_, rfl⟩
  obtain ⟨E2, hE2⟩ : ∃ E, chkE d2 os2 rs2 = E := ⟨_, rfl⟩
  obtain ⟨r, hr⟩ : ∃ r, pairE d1 os1 rs1 d2 os2 rs2 = r := ⟨_, rfl⟩
  have hre : r = if E1 ≠ 0 then E1 else if E2 ≠ 0 then E2 else if d1 ≠ d2 then 10 else 0 := by rw [← hr, ← hE1, ← hE2]; rfl
  rw [hE1] at hc1
  rw [hE2] at hc2
  rw [hr]
  obtain ⟨X, hX⟩ : ∃ X, w.heap.size = X := ⟨_, rfl⟩
  obtain ⟨u1, hu1⟩ : ∃ u, (.slice a1 os1.length b1 : Value) = u := ⟨_, rfl⟩
  obtain ⟨W1, hW1⟩ : ∃ W1, (w.alloc (.cells #[.int .i64 d1, .slice a1 os1.length b1, .slice c1 rs1.length e1] 25)).alloc (.cells #[.int .i64 d2, .slice a2 os2.length b2, .slice c2 rs2.length e2] 25) = W1 := ⟨_, rfl⟩
  have hb1 : Below w.heap.size w W1 := hW1 ▸ alloc_b (alloc_b (Below.refl _ _) _) _
  have hk1 : W1.heap[X]? = some (.cells #[.int .i64 d1, .slice a1 os1.length b1, .slice c1 rs1.length e1] 25) := by
    rw [← hW1]
    exact ((alloc_b (Below.refl _ _) _).block X (by simp; omega)).trans (box_al25 hX _ _ _)
  have hk2 : W1.heap[X + 1]? = some (.cells #[.int .i64 d2, .slice a2 os2.length b2, .slice c2 rs2.length e2] 25) := by
    rw [← hW1]
    exact box_al25 (by simp [hX]) _ _ _
  obtain ⟨x0, x1, x2, _⟩ := box_cells hk1
  have HC := Lib.hid (And.intro hc1 (And.intro hc2 (And.intro hb1 (And.intro hk1 (And.intro hk2 hre)))))
  clear hc1 hc2 hb1 hk1 hk2 hE1 hE2 hr hu1 u1 hre
  have HX := Lib.hid hX
  by_cases z1 : E1 = 0
  · have n1 : (E1 != 0) = false := by simp [z1]
    have Z1 := Lib.hid z1
    clear z1
    by_cases z2 : E2 = 0
    · have n2 : (E2 != 0) = false := by simp [z2]
      have Z2 := Lib.hid z2
      clear z2
      by_cases zd : d1 = d2
      · have n3 : (d1 != d2) = false := by simp [zd]
        have Zd := Lib.hid zd
        clear zd
        go_enter Tryz.func74, Tryz.ntmps74
        try rw [hX]
        go_wp2_with (first
          | (go_at_call 56; (with_reducible refine (HC.out.2.1 _ (below_trans HC.out.2.2.1 H2.out)).mono ?_); rintro e w3 ⟨rfl, k1⟩; have k2 := (k1.block X (Nat.lt_of_lt_of_le (Array.getElem?_eq_some_iff.1 HC.out.2.2.2.1).1 H2.out.size)).trans ((H2.out.block X (Array.getElem?_eq_some_iff.1 HC.out.2.2.2.1).1).trans HC.out.2.2.2.1); have k3 := (k1.block (X + 1) (Nat.lt_of_lt_of_le (Array.getElem?_eq_some_iff.1 HC.out.2.2.2.2.1).1 H2.out.size)).trans ((H2.out.block (X + 1) (Array.getElem?_eq_some_iff.1 HC.out.2.2.2.2.1).1).trans HC.out.2.2.2.2.1); obtain ⟨t0, _⟩ := box_cells k2; obtain ⟨s0, _⟩ := box_cells k3; have H3 := Lib.hid k1; clear k1 k2 k3)
          | (go_at_call 56; (with_reducible refine (HC.out.1 _ HC.out.2.2.1).mono ?_); rintro e w2 ⟨rfl, k1⟩; have k3 := (k1.block (X + 1) (Array.getElem?_eq_some_iff.1 HC.out.2.2.2.2.1).1).trans HC.out.2.2.2.2.1; obtain ⟨y0, y1, y2, _⟩ := box_cells k3; have H2 := Lib.hid k1; clear k1 k3))
        go_ret
        have hv := HC.out.2.2.2.2.2
        rw [if_neg (by simp [Z1.out]), if_neg (by simp [Z2.out]), if_neg (by simp [Zd.out])] at hv
        have hb := below_trans HC.out.2.2.1 (below_trans H2.out H3.out)
        rw [HX.out] at hb
        exact ⟨by rw [hv]; rfl, hb⟩
      · have n3 : (d1 != d2) = true := by simp [zd]
        have Zd := Lib.hid zd
        clear zd
        go_enter Tryz.func74, Tryz.ntmps74
        try rw [hX]
        go_wp2_with (first
          | (go_at_call 56; (with_reducible refine (HC.out.2.1 _ (below_trans HC.out.2.2.1 H2.out)).mono ?_); rintro e w3 ⟨rfl, k1⟩; have k2 := (k1.block X (Nat.lt_of_lt_of_le (Array.getElem?_eq_some_iff.1 HC.out.2.2.2.1).1 H2.out.size)).trans ((H2.out.block X (Array.getElem?_eq_some_iff.1 HC.out.2.2.2.1).1).trans HC.out.2.2.2.1); have k3 := (k1.block (X + 1) (Nat.lt_of_lt_of_le (Array.getElem?_eq_some_iff.1 HC.out.2.2.2.2.1).1 H2.out.size)).trans ((H2.out.block (X + 1) (Array.getElem?_eq_some_iff.1 HC.out.2.2.2.2.1).1).trans HC.out.2.2.2.2.1); obtain ⟨t0, _⟩ := box_cells k2; obtain ⟨s0, _⟩ := box_cells k3; have H3 := Lib.hid k1; clear k1 k2 k3)
          | (go_at_call 56; (with_reducible refine (HC.out.1 _ HC.out.2.2.1).mono ?_); rintro e w2 ⟨rfl, k1⟩; have k3 := (k1.block (X + 1) (Array.getElem?_eq_some_iff.1 HC.out.2.2.2.2.1).1).trans HC.out.2.2.2.2.1; obtain ⟨y0, y1, y2, _⟩ := box_cells k3; have H2 := Lib.hid k1; clear k1 k3))
        go_ret
        have hv := HC.out.2.2.2.2.2
        rw [if_neg (by simp [Z1.out]), if_neg (by simp [Z2.out]), if_pos Zd.out] at hv
        have hb := below_trans HC.out.2.2.1 (below_trans H2.out H3.out)
        rw [HX.out] at hb
        exact ⟨by rw [hv]; rfl, hb⟩
    · have n2 : (E2 != 0) = true := by simp [z2]
      have Z2 := Lib.hid z2
      clear z2
      go_enter Tryz.func74, Tryz.ntmps74
      try rw [hX]
      go_wp2_with (first
        | (go_at_call 56; (with_reducible refine (HC.out.2.1 _ (below_trans HC.out.2.2.1 H2.out)).mono ?_); rintro e w3 ⟨rfl, k1⟩; have k2 := (k1.block X (Nat.lt_of_lt_of_le (Array.getElem?_eq_some_iff.1 HC.out.2.2.2.1).1 H2.out.size)).trans ((H2.out.block X (Array.getElem?_eq_some_iff.1 HC.out.2.2.2.1).1).trans HC.out.2.2.2.1); have k3 := (k1.block (X + 1) (Nat.lt_of_lt_of_le (Array.getElem?_eq_some_iff.1 HC.out.2.2.2.2.1).1 H2.out.size)).trans ((H2.out.block (X + 1) (Array.getElem?_eq_some_iff.1 HC.out.2.2.2.2.1).1).trans HC.out.2.2.2.2.1); obtain ⟨t0, _⟩ := box_cells k2; obtain ⟨s0, _⟩ := box_cells k3; have H3 := Lib.hid k1; clear k1 k2 k3)
        | (go_at_call 56; (with_reducible refine (HC.out.1 _ HC.out.2.2.1).mono ?_); rintro e w2 ⟨rfl, k1⟩; have k3 := (k1.block (X + 1) (Array.getElem?_eq_some_iff.1 HC.out.2.2.2.2.1).1).trans HC.out.2.2.2.2.1; obtain ⟨y0, y1, y2, _⟩ := box_cells k3; have H2 := Lib.hid k1; clear k1 k3))
      go_ret
      have hv := HC.out.2.2.2.2.2
      rw [if_neg (by simp [Z1.out]), if_pos Z2.out] at hv
      have hb := below_trans HC.out.2.2.1 (below_trans H2.out H3.out)
      rw [HX.out] at hb
      exact ⟨by rw [hv]; rfl, hb⟩
  · have n1 : (E1 != 0) = true := by simp [z1]
    have Z1 := Lib.hid z1
    clear z1
    go_enter Tryz.func74, Tryz.ntmps74
    try rw [hX]
    go_wp2_with (first
      | (go_at_call 56; (with_reducible refine (HC.out.2.1 _ (below_trans HC.out.2.2.1 H2.out)).mono ?_); rintro e w3 ⟨rfl, k1⟩; have k2 := (k1.block X (Nat.lt_of_lt_of_le (Array.getElem?_eq_some_iff.1 HC.out.2.2.2.1).1 H2.out.size)).trans ((H2.out.block X (Array.getElem?_eq_some_iff.1 HC.out.2.2.2.1).1).trans HC.out.2.2.2.1); have k3 := (k1.block (X + 1) (Nat.lt_of_lt_of_le (Array.getElem?_eq_some_iff.1 HC.out.2.2.2.2.1).1 H2.out.size)).trans ((H2.out.block (X + 1) (Array.getElem?_eq_some_iff.1 HC.out.2.2.2.2.1).1).trans HC.out.2.2.2.2.1); obtain ⟨t0, _⟩ := box_cells k2; obtain ⟨s0, _⟩ := box_cells k3; have H3 := Lib.hid k1; clear k1 k2 k3)
      | (go_at_call 56; (with_reducible refine (HC.out.1 _ HC.out.2.2.1).mono ?_); rintro e w2 ⟨rfl, k1⟩; have k3 := (k1.block (X + 1) (Array.getElem?_eq_some_iff.1 HC.out.2.2.2.2.1).1).trans HC.out.2.2.2.2.1; obtain ⟨y0, y1, y2, _⟩ := box_cells k3; have H2 := Lib.hid k1; clear k1 k3))
    go_ret
    have hv := HC.out.2.2.2.2.2
    rw [if_pos Z1.out] at hv
    have hb := below_trans HC.out.2.2.1 H2.out
    rw [HX.out] at hb
    exact ⟨by rw [hv]; rfl, hb⟩

end Go.Proofs.YtbejhkojdiadaaaGreat
