/- RankLeast walked. -/
import Derived.Test.YtbejhkojdiadaaaGreatDoorRk01
import Derived.Test.YtbejhkojdiadaaaGreatDoorRk02
import Derived.Test.YtbejhkojdiadaaaGreatDoorRk03
import Derived.Test.YtbejhkojdiadaaaGreatDoorRk04
import Derived.Test.YtbejhkojdiadaaaGreatDoorRk05
import Derived.Test.YtbejhkojdiadaaaGreatDoorRk06
import Derived.Test.YtbejhkojdiadaaaGreatDoorRk07
import Derived.Test.YtbejhkojdiadaaaGreatDoorRk08
import Derived.Test.YtbejhkojdiadaaaGreatDoorRk09
import Derived.Test.YtbejhkojdiadaaaGreatDoorRk10
import Derived.Test.YtbejhkojdiadaaaGreatDoorRk11
import Derived.Test.YtbejhkojdiadaaaGreatDoorRk12
import Derived.Test.YtbejhkojdiadaaaGreatDoorRk13
import Derived.Test.YtbejhkojdiadaaaGreatDoorRk14
import Derived.Test.YtbejhkojdiadaaaGreatDoorRk15
import Derived.Test.YtbejhkojdiadaaaGreatDoorRk16
import Derived.Test.YtbejhkojdiadaaaGreatDoorRk17
import Derived.Test.YtbejhkojdiadaaaGreatDoorRk18
import Derived.Test.YtbejhkojdiadaaaGreatDoorRk19
import Derived.Test.YtbejhkojdiadaaaGreatDoorRk20
import Derived.Test.YtbejhkojdiadaaaGreatDoorRk21
import Derived.Test.YtbejhkojdiadaaaGreatDoorRk22
import Derived.Test.YtbejhkojdiadaaaGreatDoorProg
import Derived.WalkKit
import Derived.WalkSpells
import Derived.BigQuiet
import Derived.Deep.QuietTactic
import Derived.Deep.LoopGhost
import Derived.Lib.Hide
import Derived.Maps.AppendAt
import Derived.Deep.AppendLies
import Derived.StillTailTactics
import Derived.Laws.CopyOwn
import Derived.Deep.OwnRows
import Derived.Deep.DeepCutAuto
import Derived.Laws.Cover3
import Derived.Deep.RegionHeld3
import Derived.RangeFuncRecord
import Derived.Lib.SlicesSearch
import Derived.RangeFuncBox
import Derived.RangeFuncLeaves
import Derived.RangeFuncWrites
import Derived.RangeFuncFrom
import Derived.Shelf.Abstract
import Derived.OwnWalkIn
import Derived.TacticsInMore
import Derived.LoopNIn
import Derived.LoopIn
import Derived.Shelf.GgSortFunc.Insertion
import Derived.Shelf.SlIter.Collect
import Derived.Shelf.Sort.Plain
import Derived.Deep.RegionLaw
import Derived.ControlIn
import Derived.Deep.AppendSrc
import Derived.Sort.BigQuietIn
import Derived.Laws.BytesArg
import Derived.Laws.IdiomStrings
import Derived.Maps.OwnSet
import Derived.Carry
import Derived.Shelf.SlLaysF
import Derived.Shelf.SlSortCmp.Whole1
set_option linter.unusedSimpArgs false
set_option linter.unusedVariables false
namespace Go.Proofs.YtbejhkojdiadaaaGreatDoor
open Go.RowKit PlainPm

section
variable {n : Nat}
theorem keep1b {V A B : World} {p : Addr} {u : Value} (h : A.cell? p = some u ∧ Below V.heap.size V A) (k : Below A.heap.size A B) : B.cell? p = some u ∧ Below V.heap.size V B := ⟨(k.cell (block_lt_of_cell h.1)).trans h.1, below_trans h.2 k⟩
theorem permT {w0 w : World} {tk : Nat} {l : List Int} (hn : 0 < n ∧ n ≤ 64) (h : TkW w0 w tk l) :
    Calls Tryz.prog 27 #[.pointer (some ⟨tk, 0, none⟩), .int .i64 (n : Int)] w fun e w' => ∃ v, e = .returned v ∧ PmOut n w w' v ∧ TkW w0 w' tk l ∧ Kept w w' [tk] ∧ TkW w0 w tk l :=
  (perm132 hn h).mono fun _ _ ⟨v, h1, h2, h3, h4⟩ => ⟨v, h1, h2, h3, h4, h⟩
theorem perm_b {V w7 U w8 : World} {Z : Nat} {l : List Int} (b7 : Below V.heap.size V w7) (hk : Below w7.heap.size w7 U) (k4 : TkW V U Z l) (k3 : Kept U w8 [Z]) : Below V.heap.size V w8 :=
  (below_trans b7 hk).trans (k3.below (below_trans b7 hk).size (fun m hm => by rw [List.mem_singleton.1 hm]; exact k4.old))
theorem size1 (U : World) (o : Obj) : (U.alloc o).heap.size = U.heap.size + 1 := by simp
theorem new_tk (hn : 0 < n) {W w7 U V : World} {v : Value} {x : Pm n} {Z : Nat} {l : List Int} (h : NewPm W w7 v x) (hb : Below w7.heap.size w7 U) (ht : TkW V U Z l) : PmV U [Z] v x := by
  obtain ⟨b, c, rfl, h1, h2, h3⟩ := h
  refine ⟨b, 0, c, rfl, fun hm => ?_, Nat.lt_of_lt_of_le h2 hb.size, fun i hi => ?_⟩
  · obtain ⟨a, c', p, hbx, _⟩ := ht.box
    have e := (hb.cell (p := ⟨b, 0, none⟩) h2).trans (h3 0 hn)
    rw [List.mem_singleton.1 hm] at e
    simp [World.cell?, hbx] at e
  · rw [Nat.zero_add]
    exact (hb.cell (p := ⟨b, i, none⟩) h2).trans (h3 i hi)
theorem pend {V U w7 : World} {Z Z' : Nat} {l l' : List Int} (k4 : TkW V U Z l) (k3 : Kept U w7 [Z]) (h : TkW V U Z' l') (hne : Z ≠ Z') : TkW V w7 Z' l' :=
  h.kept k3 (fun m hm => by rw [List.mem_singleton.1 hm]; exact ⟨k4.old, hne⟩)
theorem tk_new {V U : World} {Z m c : Nat} {a : Option Addr} {l : List Int} (hl : l.length = m) (hi : Ints V a l) (hZ : U.heap.size = Z) (hb : Below V.heap.size V U) : TkW V (U.alloc (.cells #[.slice a m c, .int .i64 0] 60)) Z l :=
  ⟨⟨a, c, 0, by rw [hl]; exact al_at hZ _, Nat.zero_le _, hi⟩, by rw [← hZ]; exact hb.size, alloc_b hb _⟩
end
set_option maxRecDepth 100000 in
set_option maxHeartbeats 8000000 in
theorem rankLeastW {w : World} {a1 a2 a9 : Option Addr} {c1 c2 c9 : Nat} {l l2 l9 : List Int} (hi : Ints w a1 l) (hi2 : Ints w a2 l2) (hi9 : Ints w a9 l9) : Calls Tryz.prog 6 #[.slice a1 l.length c1, .slice a2 l2.length c2, .slice a9 l9.length c9] w fun e w' => e = .returned (.bool true) ∧ Below w.heap.size w w' := by
  obtain ⟨m1, hm1⟩ : ∃ m, l.length = m := ⟨_, rfl⟩
  obtain ⟨m2, hm2⟩ : ∃ m, l2.length = m := ⟨_, rfl⟩
  obtain ⟨m9, hm9⟩ : ∃ m, l9.length = m := ⟨_, rfl⟩
  rw [hm1, hm2, hm9]
  have H := Lib.hid (And.intro hi hm1)
  have HI := Lib.hid (And.intro (And.intro hi2 hm2) (And.intro hi9 hm9))
  clear hi hm1 hi2 hm2 hi9 hm9
  go_enter Tryz.func6, Tryz.ntmps6
  go_wp2_with fail
  go_at_call 4
  (with_reducible refine rankKnownW.mono ?_)
  rintro e1 w1 ⟨rfl, k1⟩
  have h97 : Calls Tryz.prog 22 #[.slice a1 m1 c1, .int .i64 6] w1 _ := H.out.2 ▸ groupOf97 (c := c1) (most := 6) (by omega) (H.out.1.below k1)
  have H1 := Lib.hid (And.intro k1 h97)
  clear k1 h97
  go_wp2_with fail
  go_at_call 22
  (with_reducible refine H1.out.2.mono ?_)
  rintro e3 w3 ⟨n, v3, rfl, hn, ⟨Lg, hlg, hp⟩, k⟩
  obtain ⟨a3, c3, us3, rfl, hr3, hpl3⟩ := id hp
  obtain ⟨m3, hm3⟩ : ∃ m, Lg.length = m := ⟨_, rfl⟩
  rw [hm3] at hp hlg ⊢
  obtain ⟨W3, hW3⟩ : ∃ W3, w3.alloc (.cells #[.int .i64 (n : Int), .slice a3 m3 c3] 49) = W3 := ⟨_, rfl⟩
  have b3 : Below w3.heap.size w3 W3 := hW3 ▸ alloc_b (Below.refl _ _) _
  obtain ⟨Y, hY⟩ : ∃ Y, w3.heap.size = Y := ⟨_, rfl⟩
  have y3 : W3.heap[Y]? = some (.cells #[.int .i64 (n : Int), .slice a3 m3 c3] 49) := hW3 ▸ al_at hY _
  obtain ⟨s0, s1, s2⟩ := box2_cells y3
  have h45 : Calls Tryz.prog 23 #[.int .i64 (n : Int), .slice a3 m3 c3, .int .i64 720] W3 _ := elements45 (n := n) (most := 720) ⟨hn.1, by omega⟩ hm3 (by omega) (hp.below b3) (fac_le6 hn.2) (by omega)
  have H3 := Lib.hid (And.intro hn (And.intro (And.intro hlg (And.intro hm3 (hp.below b3))) (And.intro (below_trans H1.out.1 (below_trans k b3)) (And.intro y3 h45))))
  clear hp k b3 y3 h45 hr3 hpl3 hm3 hlg hn
  go_wp2_with fail
  go_at_call 23
  (with_reducible refine H3.out.2.2.2.2.mono ?_)
  rintro e4 w4 ⟨v4, rfl, hE, k4⟩
  obtain ⟨E, hE1, hE2, hE3⟩ := (hE.lst (M := []) (by have := H3.out.1; omega) (by simp)).now
  have hAll : AllE E (Grp (· ∈ Lg)) := ⟨hE2, hE3⟩
  have hE720 : E.length ≤ 720 := Nat.le_trans (pm_card (sorted_nodup hE2)) (fac_le6 H3.out.1.2)
  have hEpos : 0 < E.length := List.length_pos_of_mem ((hE3 (PlainPm.one n)).2 Grp.one)
  obtain ⟨_, c4, rfl, _, hat4⟩ := pms_at hE1
  obtain ⟨g4, o4, _, rfl, _⟩ := hat4 0 _ (List.getElem?_eq_getElem hEpos)
  obtain ⟨m4, hm4⟩ : ∃ m, E.length = m := ⟨_, rfl⟩
  rw [hm4] at hE720 hEpos hE1 ⊢
  have hy4 := (k4.block Y (Array.getElem?_eq_some_iff.1 H3.out.2.2.2.1).1).trans H3.out.2.2.2.1
  obtain ⟨x0, x1, x2⟩ := box2_cells hy4
  have h99 : Calls Tryz.prog 24 #[.agg #[.int .i64 (n : Int), .slice a3 m3 c3]] w4 _ := of99 (n := n) ⟨H3.out.1.1, by have := H3.out.1; omega⟩ H3.out.2.1.2.1 (by have := H3.out.2.1.1; omega) (H3.out.2.1.2.2.below k4)
  have HE := Lib.hid (And.intro hAll (And.intro hm4 (And.intro hE1 hat4)))
  have H4 := Lib.hid (And.intro (below_trans H3.out.2.2.1 k4) (And.intro hy4 h99))
  clear hE hE1 hE2 hE3 hAll hm4 hat4 k4 hy4 h99 s0 s1 s2 hW3
  go_wp2_with fail
  go_at_call 24
  (with_reducible refine H4.out.2.2.mono ?_)
  rintro e5 w5 ⟨a5, c5, b5, d5, rfl, k5, k5g⟩
  obtain ⟨X, hX⟩ : ∃ X, w5.heap.size = X := ⟨_, rfl⟩
  obtain ⟨W5, hW5⟩ : ∃ W5, w5.alloc (.cells #[.int .i64 (n : Int), .slice a5 n c5, .slice b5 n d5] 25) = W5 := ⟨_, rfl⟩
  have b5' : Below w5.heap.size w5 W5 := hW5 ▸ alloc_b (Below.refl _ _) _
  have z5 : W5.heap[X]? = some (.cells #[.int .i64 (n : Int), .slice a5 n c5, .slice b5 n d5] 25) := hW5 ▸ box_al25 hX _ _ _
  obtain ⟨i0, i1, i2, _⟩ := box_cells z5
  have kb5 := below_trans k5 b5'
  have hy5 := (kb5.block Y (Array.getElem?_eq_some_iff.1 H4.out.2.1).1).trans H4.out.2.1
  have hg5 : GrG W5 (.agg #[.int .i64 (n : Int), .slice a5 n c5, .slice b5 n d5]) (Grp (· ∈ Lg)) := ((k5g [] (by simp)).now).below b5'
  have hn8 : 0 < n ∧ n ≤ 8 := ⟨H3.out.1.1, by have := H3.out.1; omega⟩
  have HW5 := Lib.hid (And.intro (And.intro (below_trans H4.out.1 kb5) kb5) (And.intro z5 (And.intro hy5 (And.intro hg5 hn8))))
  clear k5 k5g b5' z5 kb5 hy5 hg5 hn8 x0 x1 x2
  have tk2 := fun (U : World) (Z : Nat) (W : World) (hk : Below (U.alloc (.cells #[.slice a2 m2 c2, .int .i64 0] 60)).heap.size (U.alloc (.cells #[.slice a2 m2 c2, .int .i64 0] 60)) W) (hZ : U.heap.size = Z) (hb : Below W5.heap.size W5 U) => (tk_new (c := c2) HI.out.1.2 (HI.out.1.1.below HW5.out.1.1) hZ hb).below hk
  have tk9 := fun (U : World) (Z : Nat) (W : World) (hk : Below (U.alloc (.cells #[.slice a9 m9 c9, .int .i64 0] 60)).heap.size (U.alloc (.cells #[.slice a9 m9 c9, .int .i64 0] 60)) W) (hZ : U.heap.size = Z) (hb : Below W5.heap.size W5 U) => (tk_new (c := c9) HI.out.2.2 (HI.out.2.1.below HW5.out.1.1) hZ hb).below hk
  have TK2 := Lib.hid tk2
  have TK9 := Lib.hid tk9
  have hn64 : 0 < n ∧ n ≤ 64 := ⟨HW5.out.2.2.2.2.1, by have := HW5.out.2.2.2.2.2; omega⟩
  have HN := Lib.hid hn64
  clear tk2 tk9 hn64
  obtain ⟨x0, x1, x2⟩ := box2_cells HW5.out.2.2.1
  have hz0 := And.intro x0 (Below.refl W5.heap.size W5)
  go_wp2_with fail
  go_cut [12, 13] (fun z e wx => ∃ x y : Pm n, PmV wx [] z x ∧ PmV wx [] e y ∧ Below W5.heap.size W5 wx)
  case first =>
    go_region_held3 (fun W => W.cell? ⟨Y, 0, none⟩ = some (.int .i64 (n : Int)) ∧ Below W5.heap.size W5 W)
      (first
        | with_reducible assumption
        | with_reducible exact hz0
        | (refine keep1b hz0 ?_; (repeat' (first | exact Below.refl _ _ | exact b8 | exact b7 | apply below_drw | refine alloc_b ?_ _)); done)
        | fail)
      (first
        | (go_at_call 27; (with_reducible refine (permT (w0 := W5) (l := l2) HN.out ?h0).mono ?_)
           case h0 => (first | exact hTp | (refine TkW.below hTp ?_; (first | exact Below.refl _ _ | ((first | apply below_drw | refine alloc_b ?_ _); (first | exact Below.refl _ _ | ((first | apply below_drw | refine alloc_b ?_ _); (first | exact Below.refl _ _ | ((first | apply below_drw | refine alloc_b ?_ _); (first | exact Below.refl _ _ | ((first | apply below_drw | refine alloc_b ?_ _); (first | exact Below.refl _ _ | ((first | apply below_drw | refine alloc_b ?_ _); (first | exact Below.refl _ _ | ((first | apply below_drw | refine alloc_b ?_ _); (exact Below.refl _ _)))))))))))))) | (apply TK2.out; (first | exact Below.refl _ _ | ((first | apply below_drw | refine alloc_b ?_ _); (first | exact Below.refl _ _ | ((first | apply below_drw | refine alloc_b ?_ _); (first | exact Below.refl _ _ | ((first | apply below_drw | refine alloc_b ?_ _); (first | exact Below.refl _ _ | ((first | apply below_drw | refine alloc_b ?_ _); (first | exact Below.refl _ _ | ((first | apply below_drw | refine alloc_b ?_ _); (first | exact Below.refl _ _ | ((first | apply below_drw | refine alloc_b ?_ _); (exact Below.refl _ _))))))))))))); (first | rfl | exact size1 _ _); (refine below_trans b7 ?_; (first | exact Below.refl _ _ | ((first | apply below_drw | refine alloc_b ?_ _); (first | exact Below.refl _ _ | ((first | apply below_drw | refine alloc_b ?_ _); (first | exact Below.refl _ _ | ((first | apply below_drw | refine alloc_b ?_ _); (first | exact Below.refl _ _ | ((first | apply below_drw | refine alloc_b ?_ _); (first | exact Below.refl _ _ | ((first | apply below_drw | refine alloc_b ?_ _); (first | exact Below.refl _ _ | ((first | apply below_drw | refine alloc_b ?_ _); (exact Below.refl _ _))))))))))))))))
           rintro e8 w8 ⟨v8, rfl, ⟨x8, k1⟩, k2, k3, k4⟩
           have b8 : Below W5.heap.size W5 w8 := perm_b b7 (by (first | exact Below.refl _ _ | ((first | apply below_drw | refine alloc_b ?_ _); (first | exact Below.refl _ _ | ((first | apply below_drw | refine alloc_b ?_ _); (first | exact Below.refl _ _ | ((first | apply below_drw | refine alloc_b ?_ _); (first | exact Below.refl _ _ | ((first | apply below_drw | refine alloc_b ?_ _); (first | exact Below.refl _ _ | ((first | apply below_drw | refine alloc_b ?_ _); (first | exact Below.refl _ _ | ((first | apply below_drw | refine alloc_b ?_ _); (exact Below.refl _ _)))))))))))))) k4 k3
           have p7 := ((new_tk HN.out.1 n7 (by (first | exact Below.refl _ _ | ((first | apply below_drw | refine alloc_b ?_ _); (first | exact Below.refl _ _ | ((first | apply below_drw | refine alloc_b ?_ _); (first | exact Below.refl _ _ | ((first | apply below_drw | refine alloc_b ?_ _); (first | exact Below.refl _ _ | ((first | apply below_drw | refine alloc_b ?_ _); (first | exact Below.refl _ _ | ((first | apply below_drw | refine alloc_b ?_ _); (first | exact Below.refl _ _ | ((first | apply below_drw | refine alloc_b ?_ _); (exact Below.refl _ _)))))))))))))) k4).kept k3).weak
           have p8 : PmV w8 [] v8 x8 := k1.pm (by simp)
           clear k1 k2 k3 k4)
        | (go_at_call 27; (with_reducible refine (permT (w0 := W5) (l := l9) HN.out ?h0).mono ?_)
           case h0 => (first | exact hTp | (refine TkW.below hTp ?_; (first | exact Below.refl _ _ | ((first | apply below_drw | refine alloc_b ?_ _); (first | exact Below.refl _ _ | ((first | apply below_drw | refine alloc_b ?_ _); (first | exact Below.refl _ _ | ((first | apply below_drw | refine alloc_b ?_ _); (first | exact Below.refl _ _ | ((first | apply below_drw | refine alloc_b ?_ _); (first | exact Below.refl _ _ | ((first | apply below_drw | refine alloc_b ?_ _); (first | exact Below.refl _ _ | ((first | apply below_drw | refine alloc_b ?_ _); (exact Below.refl _ _)))))))))))))) | (apply TK9.out; (first | exact Below.refl _ _ | ((first | apply below_drw | refine alloc_b ?_ _); (first | exact Below.refl _ _ | ((first | apply below_drw | refine alloc_b ?_ _); (first | exact Below.refl _ _ | ((first | apply below_drw | refine alloc_b ?_ _); (first | exact Below.refl _ _ | ((first | apply below_drw | refine alloc_b ?_ _); (first | exact Below.refl _ _ | ((first | apply below_drw | refine alloc_b ?_ _); (first | exact Below.refl _ _ | ((first | apply below_drw | refine alloc_b ?_ _); (exact Below.refl _ _))))))))))))); (first | rfl | exact size1 _ _); (refine below_trans b7 ?_; (first | exact Below.refl _ _ | ((first | apply below_drw | refine alloc_b ?_ _); (first | exact Below.refl _ _ | ((first | apply below_drw | refine alloc_b ?_ _); (first | exact Below.refl _ _ | ((first | apply below_drw | refine alloc_b ?_ _); (first | exact Below.refl _ _ | ((first | apply below_drw | refine alloc_b ?_ _); (first | exact Below.refl _ _ | ((first | apply below_drw | refine alloc_b ?_ _); (first | exact Below.refl _ _ | ((first | apply below_drw | refine alloc_b ?_ _); (exact Below.refl _ _))))))))))))))))
           rintro e8 w8 ⟨v8, rfl, ⟨x8, k1⟩, k2, k3, k4⟩
           have b8 : Below W5.heap.size W5 w8 := perm_b b7 (by (first | exact Below.refl _ _ | ((first | apply below_drw | refine alloc_b ?_ _); (first | exact Below.refl _ _ | ((first | apply below_drw | refine alloc_b ?_ _); (first | exact Below.refl _ _ | ((first | apply below_drw | refine alloc_b ?_ _); (first | exact Below.refl _ _ | ((first | apply below_drw | refine alloc_b ?_ _); (first | exact Below.refl _ _ | ((first | apply below_drw | refine alloc_b ?_ _); (first | exact Below.refl _ _ | ((first | apply below_drw | refine alloc_b ?_ _); (exact Below.refl _ _)))))))))))))) k4 k3
           have p7 := ((new_tk HN.out.1 n7 (by (first | exact Below.refl _ _ | ((first | apply below_drw | refine alloc_b ?_ _); (first | exact Below.refl _ _ | ((first | apply below_drw | refine alloc_b ?_ _); (first | exact Below.refl _ _ | ((first | apply below_drw | refine alloc_b ?_ _); (first | exact Below.refl _ _ | ((first | apply below_drw | refine alloc_b ?_ _); (first | exact Below.refl _ _ | ((first | apply below_drw | refine alloc_b ?_ _); (first | exact Below.refl _ _ | ((first | apply below_drw | refine alloc_b ?_ _); (exact Below.refl _ _)))))))))))))) k4).kept k3).weak
           have p8 : PmV w8 [] v8 x8 := k1.pm (by simp)
           clear k1 k2 k3 k4)
        | (go_at_call 27; (with_reducible refine (permT (w0 := W5) (l := l2) HN.out ?h0).mono ?_)
           case h0 => (apply TK2.out; (first | exact Below.refl _ _ | ((first | apply below_drw | refine alloc_b ?_ _); (first | exact Below.refl _ _ | ((first | apply below_drw | refine alloc_b ?_ _); (first | exact Below.refl _ _ | ((first | apply below_drw | refine alloc_b ?_ _); (first | exact Below.refl _ _ | ((first | apply below_drw | refine alloc_b ?_ _); (first | exact Below.refl _ _ | ((first | apply below_drw | refine alloc_b ?_ _); (first | exact Below.refl _ _ | ((first | apply below_drw | refine alloc_b ?_ _); (exact Below.refl _ _))))))))))))); (first | rfl | exact size1 _ _); ((first | exact Below.refl _ _ | ((first | apply below_drw | refine alloc_b ?_ _); (first | exact Below.refl _ _ | ((first | apply below_drw | refine alloc_b ?_ _); (first | exact Below.refl _ _ | ((first | apply below_drw | refine alloc_b ?_ _); (first | exact Below.refl _ _ | ((first | apply below_drw | refine alloc_b ?_ _); (first | exact Below.refl _ _ | ((first | apply below_drw | refine alloc_b ?_ _); (first | exact Below.refl _ _ | ((first | apply below_drw | refine alloc_b ?_ _); (exact Below.refl _ _)))))))))))))))
           rintro e7 w7 ⟨v7, rfl, ⟨x7, n7⟩, k2, k3, k4⟩
           have b7 : Below W5.heap.size W5 w7 := perm_b (Below.refl _ _) (by (first | exact Below.refl _ _ | ((first | apply below_drw | refine alloc_b ?_ _); (first | exact Below.refl _ _ | ((first | apply below_drw | refine alloc_b ?_ _); (first | exact Below.refl _ _ | ((first | apply below_drw | refine alloc_b ?_ _); (first | exact Below.refl _ _ | ((first | apply below_drw | refine alloc_b ?_ _); (first | exact Below.refl _ _ | ((first | apply below_drw | refine alloc_b ?_ _); (first | exact Below.refl _ _ | ((first | apply below_drw | refine alloc_b ?_ _); (exact Below.refl _ _)))))))))))))) k4 k3
           try (have hTp : TkW W5 w7 (W5.heap.size + 1) l9 := by
                  refine pend k4 k3 ?h5 ?h6
                  case h6 => omega
                  case h5 => (apply TK9.out; (first | exact Below.refl _ _ | ((first | apply below_drw | refine alloc_b ?_ _); (first | exact Below.refl _ _ | ((first | apply below_drw | refine alloc_b ?_ _); (first | exact Below.refl _ _ | ((first | apply below_drw | refine alloc_b ?_ _); (first | exact Below.refl _ _ | ((first | apply below_drw | refine alloc_b ?_ _); (first | exact Below.refl _ _ | ((first | apply below_drw | refine alloc_b ?_ _); (first | exact Below.refl _ _ | ((first | apply below_drw | refine alloc_b ?_ _); (exact Below.refl _ _))))))))))))); (first | rfl | exact size1 _ _); ((first | exact Below.refl _ _ | ((first | apply below_drw | refine alloc_b ?_ _); (first | exact Below.refl _ _ | ((first | apply below_drw | refine alloc_b ?_ _); (first | exact Below.refl _ _ | ((first | apply below_drw | refine alloc_b ?_ _); (first | exact Below.refl _ _ | ((first | apply below_drw | refine alloc_b ?_ _); (first | exact Below.refl _ _ | ((first | apply below_drw | refine alloc_b ?_ _); (first | exact Below.refl _ _ | ((first | apply below_drw | refine alloc_b ?_ _); (exact Below.refl _ _))))))))))))))))
           try (have hTp : TkW W5 w7 W5.heap.size l9 := by
                  refine pend k4 k3 ?h5 ?h6
                  case h6 => omega
                  case h5 => (apply TK9.out; (first | exact Below.refl _ _ | ((first | apply below_drw | refine alloc_b ?_ _); (first | exact Below.refl _ _ | ((first | apply below_drw | refine alloc_b ?_ _); (first | exact Below.refl _ _ | ((first | apply below_drw | refine alloc_b ?_ _); (first | exact Below.refl _ _ | ((first | apply below_drw | refine alloc_b ?_ _); (first | exact Below.refl _ _ | ((first | apply below_drw | refine alloc_b ?_ _); (first | exact Below.refl _ _ | ((first | apply below_drw | refine alloc_b ?_ _); (exact Below.refl _ _))))))))))))); (first | rfl | exact size1 _ _); ((first | exact Below.refl _ _ | ((first | apply below_drw | refine alloc_b ?_ _); (first | exact Below.refl _ _ | ((first | apply below_drw | refine alloc_b ?_ _); (first | exact Below.refl _ _ | ((first | apply below_drw | refine alloc_b ?_ _); (first | exact Below.refl _ _ | ((first | apply below_drw | refine alloc_b ?_ _); (first | exact Below.refl _ _ | ((first | apply below_drw | refine alloc_b ?_ _); (first | exact Below.refl _ _ | ((first | apply below_drw | refine alloc_b ?_ _); (exact Below.refl _ _))))))))))))))))
           clear k2 k3 k4)
        | (go_at_call 27; (with_reducible refine (permT (w0 := W5) (l := l9) HN.out ?h0).mono ?_)
           case h0 => (apply TK9.out; (first | exact Below.refl _ _ | ((first | apply below_drw | refine alloc_b ?_ _); (first | exact Below.refl _ _ | ((first | apply below_drw | refine alloc_b ?_ _); (first | exact Below.refl _ _ | ((first | apply below_drw | refine alloc_b ?_ _); (first | exact Below.refl _ _ | ((first | apply below_drw | refine alloc_b ?_ _); (first | exact Below.refl _ _ | ((first | apply below_drw | refine alloc_b ?_ _); (first | exact Below.refl _ _ | ((first | apply below_drw | refine alloc_b ?_ _); (exact Below.refl _ _))))))))))))); (first | rfl | exact size1 _ _); ((first | exact Below.refl _ _ | ((first | apply below_drw | refine alloc_b ?_ _); (first | exact Below.refl _ _ | ((first | apply below_drw | refine alloc_b ?_ _); (first | exact Below.refl _ _ | ((first | apply below_drw | refine alloc_b ?_ _); (first | exact Below.refl _ _ | ((first | apply below_drw | refine alloc_b ?_ _); (first | exact Below.refl _ _ | ((first | apply below_drw | refine alloc_b ?_ _); (first | exact Below.refl _ _ | ((first | apply below_drw | refine alloc_b ?_ _); (exact Below.refl _ _)))))))))))))))
           rintro e7 w7 ⟨v7, rfl, ⟨x7, n7⟩, k2, k3, k4⟩
           have b7 : Below W5.heap.size W5 w7 := perm_b (Below.refl _ _) (by (first | exact Below.refl _ _ | ((first | apply below_drw | refine alloc_b ?_ _); (first | exact Below.refl _ _ | ((first | apply below_drw | refine alloc_b ?_ _); (first | exact Below.refl _ _ | ((first | apply below_drw | refine alloc_b ?_ _); (first | exact Below.refl _ _ | ((first | apply below_drw | refine alloc_b ?_ _); (first | exact Below.refl _ _ | ((first | apply below_drw | refine alloc_b ?_ _); (first | exact Below.refl _ _ | ((first | apply below_drw | refine alloc_b ?_ _); (exact Below.refl _ _)))))))))))))) k4 k3
           try (have hTp : TkW W5 w7 (W5.heap.size + 1) l2 := by
                  refine pend k4 k3 ?h5 ?h6
                  case h6 => omega
                  case h5 => (apply TK2.out; (first | exact Below.refl _ _ | ((first | apply below_drw | refine alloc_b ?_ _); (first | exact Below.refl _ _ | ((first | apply below_drw | refine alloc_b ?_ _); (first | exact Below.refl _ _ | ((first | apply below_drw | refine alloc_b ?_ _); (first | exact Below.refl _ _ | ((first | apply below_drw | refine alloc_b ?_ _); (first | exact Below.refl _ _ | ((first | apply below_drw | refine alloc_b ?_ _); (first | exact Below.refl _ _ | ((first | apply below_drw | refine alloc_b ?_ _); (exact Below.refl _ _))))))))))))); (first | rfl | exact size1 _ _); ((first | exact Below.refl _ _ | ((first | apply below_drw | refine alloc_b ?_ _); (first | exact Below.refl _ _ | ((first | apply below_drw | refine alloc_b ?_ _); (first | exact Below.refl _ _ | ((first | apply below_drw | refine alloc_b ?_ _); (first | exact Below.refl _ _ | ((first | apply below_drw | refine alloc_b ?_ _); (first | exact Below.refl _ _ | ((first | apply below_drw | refine alloc_b ?_ _); (first | exact Below.refl _ _ | ((first | apply below_drw | refine alloc_b ?_ _); (exact Below.refl _ _))))))))))))))))
           try (have hTp : TkW W5 w7 W5.heap.size l2 := by
                  refine pend k4 k3 ?h5 ?h6
                  case h6 => omega
                  case h5 => (apply TK2.out; (first | exact Below.refl _ _ | ((first | apply below_drw | refine alloc_b ?_ _); (first | exact Below.refl _ _ | ((first | apply below_drw | refine alloc_b ?_ _); (first | exact Below.refl _ _ | ((first | apply below_drw | refine alloc_b ?_ _); (first | exact Below.refl _ _ | ((first | apply below_drw | refine alloc_b ?_ _); (first | exact Below.refl _ _ | ((first | apply below_drw | refine alloc_b ?_ _); (first | exact Below.refl _ _ | ((first | apply below_drw | refine alloc_b ?_ _); (exact Below.refl _ _))))))))))))); (first | rfl | exact size1 _ _); ((first | exact Below.refl _ _ | ((first | apply below_drw | refine alloc_b ?_ _); (first | exact Below.refl _ _ | ((first | apply below_drw | refine alloc_b ?_ _); (first | exact Below.refl _ _ | ((first | apply below_drw | refine alloc_b ?_ _); (first | exact Below.refl _ _ | ((first | apply below_drw | refine alloc_b ?_ _); (first | exact Below.refl _ _ | ((first | apply below_drw | refine alloc_b ?_ _); (first | exact Below.refl _ _ | ((first | apply below_drw | refine alloc_b ?_ _); (exact Below.refl _ _))))))))))))))))
           clear k2 k3 k4))
    all_goals go_wp2_with fail
    all_goals go_meet
    all_goals first | exact ⟨x7, x8, p7, p8, b8⟩ | exact ⟨x8, x7, p8, p7, b8⟩
  case rest =>
    obtain ⟨x, y, px, py, bw⟩ := hcut
    have hg := HW5.out.2.2.2.1.below bw
    have zz := (bw.block X (Array.getElem?_eq_some_iff.1 HW5.out.2.1).1).trans HW5.out.2.1
    obtain ⟨j0, j1, j2, _⟩ := box_cells zz
    have h21 := least_in HW5.out.2.2.2.2 Grp.isG hg px
    have HC := Lib.hid (And.intro bw (And.intro px (And.intro py (And.intro hg h21))))
    clear bw px py hg zz h21
    go_wp2_with fail
    go_at_call 21
    (with_reducible refine HC.out.2.2.2.2.mono ?_)
    rintro e6 w6 ⟨a6, c6, za, rfl, hza, pa, k6⟩
    have k56 := below_trans HC.out.1 k6
    have zz := (k56.block X (Array.getElem?_eq_some_iff.1 HW5.out.2.1).1).trans HW5.out.2.1
    obtain ⟨q0, q1, q2, _⟩ := box_cells zz
    have h21 := least_in HW5.out.2.2.2.2 Grp.isG (HC.out.2.2.2.1.below k6) (HC.out.2.2.1.below k6)
    have H6 := Lib.hid (And.intro k6 (And.intro hza (And.intro pa h21)))
    clear k6 k56 zz hza pa h21 j0 j1 j2
    go_wp2_with fail
    go_at_call 21
    (with_reducible refine H6.out.2.2.2.mono ?_)
    rintro e7 w7 ⟨a7, c7, zb, rfl, hzb, pb, k7⟩
    have k47 : Below w4.heap.size w4 w7 := below_trans HW5.out.1.2 (below_trans HC.out.1 (below_trans H6.out.1 k7))
    have kw7 : Below w.heap.size w w7 := below_trans HW5.out.1.1 (below_trans HC.out.1 (below_trans H6.out.1 k7))
    have H7 := Lib.hid (And.intro (And.intro k47 kw7) (And.intro (And.intro H6.out.2.1 (H6.out.2.2.1.below k7)) (And.intro (And.intro hzb pb) (And.intro (HC.out.2.1.below (below_trans H6.out.1 k7)) (HC.out.2.2.1.below (below_trans H6.out.1 k7))))))
    clear k7 k47 kw7 hzb pb q0 q1 q2
    go_wp2_with fail
    go_loopw [18, 19, 20, 21] (fun bb tt ii _ wr => ∃ (b t : Bool) (i : Nat), bb = .bool b ∧ tt = .bool t ∧ ii = .int .i64 (i : Int) ∧ i ≤ m4 ∧ LeaI E x za i b ∧ LeaI E x y i t ∧ Below w7.heap.size w7 wr) (fun _ _ ii _ _ => m4 - (intOf ii).toNat)
    case atStart => exact ⟨false, false, 0, rfl, rfl, rfl, by omega, LeaI.start _ _ _, LeaI.start _ _ _, Below.refl _ _⟩
    case round =>
      obtain ⟨b, t, i, rfl, rfl, rfl, him, hb, ht, kr⟩ := hrel
      by_cases hlt : i < m4
      · have hI : (i : Int) < (m4 : Int) := by omega
        obtain ⟨g, hg⟩ : ∃ g, E[i]? = some g := ⟨_, List.getElem?_eq_getElem (by rw [HE.out.2.1]; exact hlt)⟩
        obtain ⟨g8, o8, u8, e8', hc8, hp8⟩ := HE.out.2.2.2 i g hg
        cases e8'
        have k4r := below_trans H7.out.1.1 kr
        have hc8' := (k4r.cell (block_lt_of_cell hc8)).trans hc8
        have h28 := mul49 HN.out.2 HN.out.1 (hp8.below k4r) (H7.out.2.2.2.1.below kr)
        obtain ⟨ub, uo, uc, rfl, _⟩ := id hp8
        have hno : ¬ lexLt (g.mul x) za := fun h => by
          rcases H6.out.2.1.2 g ((HE.out.1.2 g).1 (List.mem_of_getElem? hg)) with e | e
          · rw [e] at h; exact lexLt_irrefl _ h
          · exact lexLt_asymm h e
        have HR := Lib.hid (And.intro (And.intro hb ht) (And.intro kr (And.intro hg (And.intro h28 (And.intro him hno)))))
        clear hb ht kr hg hc8 hp8 k4r h28 hno him hlt
        go_wp2_with fail
        go_at_call 28
        (with_reducible refine HR.out.2.2.2.1.mono ?_)
        rintro e8 w8 ⟨v8, rfl, n8, k8⟩
        have p8 : PmV w8 [] v8 (g.mul x) := n8.pm (by simp)
        have kr8 := below_trans HR.out.2.1 k8
        have h29 := less135 HN.out.2 p8 (H7.out.2.1.2.below kr8)
        have H8 := Lib.hid (And.intro p8 (And.intro kr8 h29))
        clear n8 p8 k8 kr8 h29
        go_wp2_with fail
        go_at_call 29
        (with_reducible refine H8.out.2.2.mono ?_)
        rintro e9 w9 ⟨h1, k9⟩
        have h2 := h1.false_ HR.out.2.2.2.2.2
        subst h2
        have kr9 := below_trans H8.out.2.1 k9
        have H9 := Lib.hid (And.intro (And.intro k9 kr9) (And.intro (same20p HN.out.2 (H8.out.1.below k9) (H7.out.2.1.2.below kr9)) (fun (V : World) (hV : Below w9.heap.size w9 V) => same20p HN.out.2 (H8.out.1.below (below_trans k9 hV)) (H7.out.2.2.2.2.below (below_trans kr9 hV)))))
        clear h1 k9 kr9
        cases b with
        | true =>
          cases t with
          | true =>
            go_wp2_with fail
            exact ⟨⟨true, true, i + 1, rfl, rfl, by go_num, by omega, HR.out.1.1.step (t := decide (g.mul x = za)) HR.out.2.2.1 (by simp), HR.out.1.2.step (t := decide (g.mul x = y)) HR.out.2.2.1 (by simp), H9.out.1.2⟩, by simp [intOf]; omega⟩
          | false =>
            go_wp2_with fail
            go_at_call 20
            (with_reducible refine (H9.out.2.2 _ (Below.refl _ _)).mono ?_)
            rintro e10 w10 ⟨rfl, k10⟩
            have H10 := Lib.hid k10
            clear k10
            go_wp2_with fail
            exact ⟨⟨true, decide (g.mul x = y), i + 1, rfl, rfl, by go_num, by omega, HR.out.1.1.step (t := decide (g.mul x = za)) HR.out.2.2.1 (by simp), HR.out.1.2.step (t := decide (g.mul x = y)) HR.out.2.2.1 (by simp), below_trans H9.out.1.2 H10.out⟩, by simp [intOf]; omega⟩
        | false =>
          go_wp2_with fail
          go_at_call 20
          (with_reducible refine H9.out.2.1.mono ?_)
          rintro e10 w10 ⟨rfl, k10⟩
          have H10 := Lib.hid k10
          clear k10
          cases t with
          | true =>
            go_wp2_with fail
            exact ⟨⟨decide (g.mul x = za), true, i + 1, rfl, rfl, by go_num, by omega, HR.out.1.1.step (t := decide (g.mul x = za)) HR.out.2.2.1 (by simp), HR.out.1.2.step (t := decide (g.mul x = y)) HR.out.2.2.1 (by simp), below_trans H9.out.1.2 H10.out⟩, by simp [intOf]; omega⟩
          | false =>
            go_wp2_with fail
            go_at_call 20
            (with_reducible refine (H9.out.2.2 _ H10.out).mono ?_)
            rintro e11 w11 ⟨rfl, k11⟩
            have H11 := Lib.hid k11
            clear k11
            go_wp2_with fail
            exact ⟨⟨decide (g.mul x = za), decide (g.mul x = y), i + 1, rfl, rfl, by go_num, by omega, HR.out.1.1.step (t := decide (g.mul x = za)) HR.out.2.2.1 (by simp), HR.out.1.2.step (t := decide (g.mul x = y)) HR.out.2.2.1 (by simp), below_trans H9.out.1.2 (below_trans H10.out H11.out)⟩, by simp [intOf]; omega⟩
      · have hI : ¬ (i : Int) < (m4 : Int) := by omega
        obtain rfl : i = E.length := by have := HE.out.2.1; omega
        have hb1 : b = true := (hb.fin HE.out.1.2).2 (by obtain ⟨q, hq, e⟩ := H6.out.2.1.1; exact ⟨q, hq, e.symm⟩)
        subst hb1
        obtain ⟨d, hd⟩ : ∃ d, decide (za = zb) = d := ⟨_, rfl⟩
        have htd : t = d := by
          have h1 := ht.fin HE.out.1.2
          rw [← LeastOf.iff Grp.isG H6.out.2.1 H7.out.2.2.1.1] at h1
          rw [← hd]
          cases t with
          | true => rw [decide_eq_true (h1.1 rfl)]
          | false => rw [decide_eq_false (fun e => by have := h1.2 e; cases this)]
        subst htd
        have h20 := same20p HN.out.2 (H7.out.2.1.2.below kr) (H7.out.2.2.1.2.below kr)
        rw [hd] at h20
        have HR := Lib.hid (And.intro kr h20)
        clear hb ht kr h20 hd him hlt
        go_wp2_with fail
        go_at_call 20
        (with_reducible refine HR.out.2.mono ?_)
        rintro e8 w8 ⟨rfl, k8⟩
        have hdd : (t == t) = true := by simp
        go_wp2_with fail
        go_ret
        exact ⟨rfl, below_trans H7.out.1.2 (below_trans HR.out.1 k8)⟩
end Go.Proofs.YtbejhkojdiadaaaGreatDoor
