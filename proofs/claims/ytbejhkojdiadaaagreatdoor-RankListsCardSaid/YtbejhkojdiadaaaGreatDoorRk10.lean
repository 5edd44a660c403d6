/- The region of the reference's chain with two appends. -/
import Derived.Test.YtbejhkojdiadaaaGreatDoorRk01
import Derived.Test.YtbejhkojdiadaaaGreatDoorRk02
import Derived.Test.YtbejhkojdiadaaaGreatDoorRk03
import Derived.Test.YtbejhkojdiadaaaGreatDoorRk04
import Derived.Test.YtbejhkojdiadaaaGreatDoorRk06
import Derived.Test.YtbejhkojdiadaaaGreatDoorRk07
import Derived.Test.YtbejhkojdiadaaaGreatDoorProg
import Derived.WalkKit
import Derived.WalkSpells
import Derived.BigQuiet
import Derived.Deep.QuietTactic
import Derived.Deep.LoopGhost
import Derived.Lib.Hide
import Derived.Maps.AppendAt
import Derived.Deep.AppendLies
import Derived.StillTailTactics
import Derived.Laws.CopyOwn
import Derived.Deep.OwnRows
import Derived.Deep.DeepCutAuto
import Derived.Laws.Cover3
import Derived.Deep.RegionHeld3
import Derived.RangeFuncBox
import Derived.RangeFuncLeaves
import Derived.RangeFuncWrites
import Derived.RangeFuncFrom
import Derived.Shelf.Abstract
import Derived.OwnWalkIn
import Derived.TacticsInMore
import Derived.LoopNIn
import Derived.LoopIn
import Derived.Shelf.GgSortFunc.Insertion
import Derived.Shelf.SlIter.Collect
import Derived.Shelf.Sort.Plain
import Derived.Deep.RegionLaw
set_option linter.unusedSimpArgs false
set_option linter.unusedVariables false
namespace Go.Proofs.YtbejhkojdiadaaaGreatDoor
open Go.RowKit PlainPm
noncomputable def reg131 : Code := cR (cR (cR (cB (cL (cR (cO (cB (cR (cL (cR (cR (Tryz.f71.body.getD .skip))))))))))))
set_option maxRecDepth 100000 in
set_option maxHeartbeats 8000000 in
theorem reg131_wp {wi : World} {X L lr : Nat} {pa ra : Option Addr} {pc rc : Nat} {vO vR a0 : Value} {csO csR : List Value} (c0 c1 c2 c4 c7 c8 c9 c10 c11 c12 c13 c14 c15 c16 c17 c18 c19 c20 c21 c22 c23 c24 c25 c26 c27 c28 c29 c30 c31 c32 c33 c34 c35 c36 c37 c38 c39 c40 c41 c42 c43 c44 c45 c46 c47 c48 : Value)
    (hC : wi.heap[X + 1]? = some (.cells #[a0, vO, vR] 25)) (hO : Own wi (X + 2) vO 40 csO) (hR : Own wi (X + 2) vR 28 csR) (hsw : X + 2 ≤ wi.heap.size) (hcO : csO.length < 1000000) (hcR : csR.length < 1000000) :
    Code.wp Tryz.prog reg131 (OnlyNormal fun a W => ∃ (v8 v9 : Value) (w8 w9 : World) (d36 d37 d38 d39 d40 d41 d42 d43 d44 d45 d46 d47 : Value), Own w8 (X + 2) v8 40 (csO ++ [.slice pa L pc]) ∧ wi.grownBy w8 vO.ownBlock ∧ Own w9 (X + 2) v9 28 (csR ++ [.slice ra lr rc]) ∧ w8.grownBy w9 vR.ownBlock ∧ w9.heap[X + 1]? = some (.cells #[a0, vO, vR] 25) ∧
      W = (w9.setCell ⟨X + 1, 1, none⟩ v8).setCell ⟨X + 1, 2, none⟩ v9 ∧ a = ⟨#[c0, c1, c2, .pointer (some ⟨X + 1, 0, none⟩), c4, .slice pa L pc, .slice ra lr rc, c7, c8, c9, c10, c11, c12, c13, c14, c15, c16, c17, c18, c19, c20, c21, c22, c23, c24, c25, c26, c27, c28, c29, c30, c31, c32, c33, c34, c35, d36, d37, d38, d39, d40, d41, d42, d43, d44, d45, d46, d47, c48], []⟩) ⟨#[c0, c1, c2, .pointer (some ⟨X + 1, 0, none⟩), c4, .slice pa L pc, .slice ra lr rc, c7, c8, c9, c10, c11, c12, c13, c14, c15, c16, c17, c18, c19, c20, c21, c22, c23, c24, c25, c26, c27, c28, c29, c30, c31, c32, c33, c34, c35, c36, c37, c38, c39, c40, c41, c42, c43, c44, c45, c46, c47, c48], []⟩ wi := by
  obtain ⟨i26, hi26, hz26, hs26, hb26⟩ := info_parts Tryz.info40
  obtain ⟨i44, hi44, hz44, hs44, hb44⟩ := info_parts Tryz.info28
  have I26 := Lib.hid (And.intro hi26 (And.intro hz26 (And.intro hs26 hb26)))
  have I44 := Lib.hid (And.intro hi44 (And.intro hz44 (And.intro hs44 hb44)))
  clear hi26 hz26 hs26 hb26 hi44 hz44 hs44 hb44
  have nbi : X + 1 ≠ wi.heap.size := by omega
  have lbi : X + 1 < wi.heap.size := by omega
  have nbi2 : X + 1 ≠ wi.heap.size + 1 := by omega
  have lbi2 : X + 1 < wi.heap.size + 1 := by omega
  have hC0 := box_cells hC
  obtain ⟨z0, z1, z2, z3, z4, z5⟩ := hC0
  have HB := Lib.hid (And.intro hC (And.intro hO hR))
  clear hC hO hR
  conv => arg 2; whnf
  go_region_law
    (first
      | (
         refine step_app1 ?_ (.tmp 37) (.tmp 39) 22 40 ?_ i26 (.slice none 0 0) 24 Tryz.underlying22 I26.out.1 I26.out.2.1 I26.out.2.2.1 I26.out.2.2.2 ?_ ?_ (X + 2) (.slice pa L pc) vO csO ?_ wi HB.out.2.1 ?_ ?_ ?_ hcO hsw ?_
         rfl
         rfl
         rfl
         omega
         rfl
         (repeat (first | exact Below.refl _ _ | exact below_self_drewN _ _ | refine alloc_b ?_ _ | refine below_drw ?_ | refine below_drewN ?_ _))
         exact ⟨_, rfl, by simp⟩
         rfl
         intro v8 w8 k1 k2 k3 k4
         obtain ⟨G8, cap8, rfl, -⟩ := k1.form (by simp)
         simp only [List.length_append, List.length_singleton] at k1
         have hC8 := grp_box HB.out.1 HB.out.2.1 k2
         have bc := box_cells hC8
         obtain ⟨t0, t1, t2, t3, t4, t5⟩ := bc
         have hR8 := HB.out.2.2.kept k2 (HB.out.2.2.ne_type HB.out.2.1 (by decide))
         have hkeep := grp_keep HB.out.2.1 k3
         have hsw8 : X + 2 ≤ w8.heap.size := Nat.le_trans hsw k2.size
         have nb8 : X + 1 ≠ w8.heap.size := by omega
         have lb8 : X + 1 < w8.heap.size := by omega
         have nb82 : X + 1 ≠ w8.heap.size + 1 := by omega
         have lb82 : X + 1 < w8.heap.size + 1 := by omega
         have H8 := Lib.hid (And.intro k1 (And.intro k2 (And.intro trivial (And.intro hR8 hC8))))
         clear k1 k2 k3 k4 hR8 hC8)
      | (refine step_app1 ?_ (.tmp 42) (.tmp 44) 23 28 ?_ i44 (.slice none 0 0) 24 Tryz.underlying23 I44.out.1 I44.out.2.1 I44.out.2.2.1 I44.out.2.2.2 ?_ ?_ (X + 2) (.slice ra lr rc) vR csR ?_ w8 H8.out.2.2.2.1 ?_ ?_ ?_ hcR hsw8 ?_
         rfl
         rfl
         rfl
         omega
         rfl
         (repeat (first | exact Below.refl _ _ | exact below_self_drewN _ _ | refine alloc_b ?_ _ | refine below_drw ?_ | refine below_drewN ?_ _))
         first | exact ⟨_, rfl, by simp⟩ | exact ⟨_, rfl, hkeep ⟨wi.heap.size, 0, none⟩ _ (by simp) (by simp)⟩ | exact ⟨_, rfl, hkeep ⟨wi.heap.size + 1, 0, none⟩ _ (by simp) (by simp)⟩
         rfl
         intro v9 w9 k1 k2 k3 k4
         obtain ⟨G9, cap9, rfl, -⟩ := k1.form (by simp)
         simp only [List.length_append, List.length_singleton] at k1
         have hC9 := grp_box H8.out.2.2.2.2 H8.out.2.2.2.1 k2
         have bc := box_cells hC9
         obtain ⟨t10, t11, t12, t13, t14, t15⟩ := bc
         have H9 := Lib.hid (And.intro k1 (And.intro k2 (And.intro trivial hC9)))
         clear k1 k2 k3 k4 hC9 hkeep))
  all_goals exact ⟨_, _, _, _, _, _, _, _, _, _, _, _, _, _, _, _, H8.out.1, H8.out.2.1, H9.out.1, H9.out.2.1, H9.out.2.2.2, rfl, rfl⟩
end Go.Proofs.YtbejhkojdiadaaaGreatDoor
