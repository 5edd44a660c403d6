/- rank.List of a group of more than 5040 elements. · List: the error roads. · rank.Cosets: the error roads. · Plain: the examples of chapter 9, its least elements and its cosets. · Both sides of List and Index say the same, whatever the chains. · The reference's Cosets: the error roads. · Both sides of Cosets say the same, whatever the chains. · The law's vast: chains that are too large. -/
import Derived.Test.YtbejhkojdiadaaaGreatDoorRk01
import Derived.Test.YtbejhkojdiadaaaGreatDoorRk02
import Derived.Test.YtbejhkojdiadaaaGreatDoorRk03
import Derived.Test.YtbejhkojdiadaaaGreatDoorRk04
import Derived.Test.YtbejhkojdiadaaaGreatDoorRk05
import Derived.Test.YtbejhkojdiadaaaGreatDoorRk06
import Derived.Test.YtbejhkojdiadaaaGreatDoorRk07
import Derived.Test.YtbejhkojdiadaaaGreatDoorRk08
import Derived.Test.YtbejhkojdiadaaaGreatDoorRk09
import Derived.Test.YtbejhkojdiadaaaGreatDoorRk10
import Derived.Test.YtbejhkojdiadaaaGreatDoorRk11
import Derived.Test.YtbejhkojdiadaaaGreatDoorRk12
import Derived.Test.YtbejhkojdiadaaaGreatDoorRk13
import Derived.Test.YtbejhkojdiadaaaGreatDoorRk14
import Derived.Test.YtbejhkojdiadaaaGreatDoorRk15
import Derived.Test.YtbejhkojdiadaaaGreatDoorRk16
import Derived.Test.YtbejhkojdiadaaaGreatDoorRk17
import Derived.Test.YtbejhkojdiadaaaGreatDoorRk18
import Derived.Test.YtbejhkojdiadaaaGreatDoorRk19
import Derived.Test.YtbejhkojdiadaaaGreatDoorRk20
import Derived.Test.YtbejhkojdiadaaaGreatDoorRl01
import Derived.Test.YtbejhkojdiadaaaGreatDoorRl02
import Derived.Test.YtbejhkojdiadaaaGreatDoorRl03
import Derived.Test.YtbejhkojdiadaaaGreatDoorRl04
import Derived.Test.YtbejhkojdiadaaaGreatDoorProg
import Derived.WalkKit
import Derived.WalkSpells
import Derived.BigQuiet
import Derived.Deep.QuietTactic
import Derived.Deep.LoopGhost
import Derived.Lib.Hide
import Derived.Maps.AppendAt
import Derived.Deep.AppendLies
import Derived.StillTailTactics
import Derived.Laws.CopyOwn
import Derived.Deep.OwnRows
import Derived.Deep.DeepCutAuto
import Derived.Laws.Cover3
import Derived.Deep.RegionHeld3
import Derived.RangeFuncRecord
import Derived.Lib.SlicesSearch
import Derived.RangeFuncBox
import Derived.RangeFuncLeaves
import Derived.RangeFuncWrites
import Derived.RangeFuncFrom
import Derived.Shelf.Abstract
import Derived.OwnWalkIn
import Derived.TacticsInMore
import Derived.LoopNIn
import Derived.LoopIn
import Derived.Shelf.GgSortFunc.Insertion
import Derived.Shelf.SlIter.Collect
import Derived.Shelf.Sort.Plain
import Derived.Deep.RegionLaw
import Derived.ControlIn
import Derived.Deep.AppendSrc
import Derived.Sort.BigQuietIn
import Derived.Laws.BytesArg
import Derived.Laws.IdiomStrings
import Derived.Maps.OwnSet
import Derived.Carry
import Derived.Shelf.SlLaysF
import Derived.Shelf.SlSortCmp.Whole1
set_option linter.unusedSimpArgs false
set_option linter.unusedVariables false
namespace Go.Proofs.YtbejhkojdiadaaaGreatDoor
open Go.RowKit PlainPm
attribute [local go_sem] Oper.semAt_some
section
variable {n : Nat}
structure LsO (X Y D : Nat) (v : Value) (us : List Value) (s : List (Pm n)) (M : List Nat) (A : World) : Prop where
  m : M = Y :: (X + 1) :: (X + 1 + 1) :: v.ownBlock.toList
  y : A.heap[Y]? = some (.cells #[v] 28 (0, 0))
  own : Own A D v 41 us
  len : us.length = s.length
  cap : s.length ≤ 5040
  r1 : A.heap[X + 1]? = some (.cells #[.slice none 0 0] 28 (0, 0))
  r2 : A.heap[X + 1 + 1]? = some (.cells #[.int .i64 0] 29 (0, 0))
theorem LsO.lt {X Y D : Nat} {v : Value} {us : List Value} {s : List (Pm n)} {M : List Nat} {A : World} (h : LsO X Y D v us s M A) : ∀ m ∈ M, m < A.heap.size := fun m hm => by
  rw [h.m] at hm
  rcases List.mem_cons.1 hm with e | hm
  · rw [e]; exact (Array.getElem?_eq_some_iff.1 h.y).1
  · rcases List.mem_cons.1 hm with e | hm
    · rw [e]; exact (Array.getElem?_eq_some_iff.1 h.r1).1
    · rcases List.mem_cons.1 hm with e | hm
      · rw [e]; exact (Array.getElem?_eq_some_iff.1 h.r2).1
      · exact (h.own.block_lt (mem_ob.1 hm)).1
theorem LsO.turn {X Y D : Nat} {v : Value} {us : List Value} {s : List (Pm n)} {M : List Nat} {A B : World} {row : Option Nat} (h : LsO X Y D v us s M A) (k : Turn A B row) : LsO X Y D v us s M B :=
  ⟨h.m, k.cells h.y, h.own.turn k, h.len, h.cap, k.cells h.r1, k.cells h.r2⟩
theorem LsO.grow {X Y D : Nat} {v v' u : Value} {us : List Value} {s : List (Pm n)} {x : Pm n} {M : List Nat} {A w7 w11 : World} (h : LsO X Y D v us s M A) (hY : Y < D) (hXY : X + 2 < Y) (hs : s.length < 5040) (b7 : Below A.heap.size A w7)
    (o : Own w11 D v' 41 (us ++ [u])) (g : w7.grownBy w11 v.ownBlock) (loc : v'.ownBlock = v.ownBlock ∨ ∃ g, v'.ownBlock = some g ∧ w7.heap.size ≤ g) :
    ∃ M', LsO X Y D v' (us ++ [u]) (s ++ [x]) M' (w11.setCell ⟨Y, 0, none⟩ v') ∧ Stp A M (w11.setCell ⟨Y, 0, none⟩ v') M' := by
  have hyM : Y ∈ M := by rw [h.m]; exact List.mem_cons_self ..
  have hvM : ∀ k, v.ownBlock = some k → k ∈ M := fun k e => by rw [h.m]; exact List.mem_cons_of_mem _ (List.mem_cons_of_mem _ (List.mem_cons_of_mem _ (mem_ob.2 e)))
  have keep : ∀ k t u0, k < D → A.heap[k]? = some (.cells #[u0] t (0, 0)) → w11.heap[k]? = some (.cells #[u0] t (0, 0)) := fun k t u0 hk hc => by
    have lt := (Array.getElem?_eq_some_iff.1 hc).1
    have c7 := (b7.block k lt).trans hc
    exact (g.block k (Array.getElem?_eq_some_iff.1 c7).1 (fun e => by have := (h.own.block_lt e.symm).2; omega)).trans c7
  have y11 := keep Y _ _ hY h.y
  have other : ∀ k, k ≠ Y → (w11.setCell ⟨Y, 0, none⟩ v').heap[k]? = w11.heap[k]? := fun k hk => by
    simp [World.setCell, Array.getElem?_modify, Ne.symm hk]
  have K2 : Kept w7 w11 M := Kept.ofGrown g hvM
  have K3 : Kept w11 (w11.setCell ⟨Y, 0, none⟩ v') M := Kept.ofGrown (grown_put 0 v') (fun k e => by cases e; exact hyM)
  have hnew : ∀ m ∈ Y :: (X + 1) :: (X + 1 + 1) :: v'.ownBlock.toList, m ∈ M ∨ w7.heap.size ≤ m := fun m hm => by
    have old : ∀ q, q ∈ Y :: (X + 1) :: (X + 1 + 1) :: v.ownBlock.toList → q ∈ M := fun q hq => by rw [h.m]; exact hq
    rcases List.mem_cons.1 hm with e | hm
    · exact .inl (e ▸ hyM)
    · rcases List.mem_cons.1 hm with e | hm
      · exact .inl (old m (by simp [e]))
      · rcases List.mem_cons.1 hm with e | hm
        · exact .inl (old m (by simp [e]))
        · have hm := mem_ob.1 hm
          rcases loc with h1 | ⟨k, h1, h2⟩
          · exact .inl (hvM m (by rw [← h1]; exact hm))
          · rw [h1] at hm; cases hm; exact .inr h2
  have S7 : Stp w7 M (w11.setCell ⟨Y, 0, none⟩ v') (Y :: (X + 1) :: (X + 1 + 1) :: v'.ownBlock.toList) := ⟨K2.trans K3, hnew⟩
  exact ⟨_, ⟨rfl, box1_set y11, o.lowset hY, by simp [h.len], by simp; omega, (other _ (by omega)).trans (keep _ _ _ (by omega) h.r1), (other _ (by omega)).trans (keep _ _ _ (by omega) h.r2)⟩, (Stp.below b7).trans S7⟩
set_option maxRecDepth 100000 in
set_option maxHeartbeats 4000000 in
theorem list125o (hn' : 0 < n ∧ n ≤ 8) {w : World} {v1 : Value} {G : Pm n → Prop} (hG : IsG G) (h1 : GrG w v1 G) :
    ∃ O R, ChG G O R ∧ (5040 < szF O n 0 → Calls Tryz.prog 10 #[v1] w fun e w' => e = .returned (.tuple #[.slice none 0 0, .int .i64 5]) ∧ Below w.heap.size w w') := by
  have hn : 0 < n ∧ n ≤ 64 := ⟨hn'.1, by omega⟩
  obtain ⟨os, rs, hch, hc0⟩ := h1.chk hn hG
  have hck := fun (V : World) (hV : Below w.heap.size w V) => chk54 (hch.below hV)
  simp only [hc0] at hck
  obtain ⟨T1, t1, ab, ao, c, bb, bo, e, hv1, hl1⟩ := h1.lev hG ⟨hn.1, hn.2⟩
  subst hv1
  have hC := t1.chG hG
  obtain ⟨O, hO⟩ : ∃ O, orbO T1 = O := ⟨_, rfl⟩
  obtain ⟨R, hR⟩ : ∃ R, PlainPm.repT T1 = R := ⟨_, rfl⟩
  have hC' : ChG G O R := by rw [← hO, ← hR]; exact hC
  rw [hO, hR] at hl1
  refine ⟨O, R, hC', fun hsz => ?_⟩
  have hFl := els_len hC' (f := n) (i := 0) (y := PlainPm.one n) (Nat.zero_add n)
  obtain ⟨F, hF⟩ : ∃ F, elsF O R n 0 (PlainPm.one n) = F := ⟨_, rfl⟩
  rw [hF] at hFl
  have hF5 : 5040 < F.length := by omega
  obtain ⟨i27, hi27, hz27, hs27, hb27⟩ := info_parts Tryz.info41
  have I27 := Lib.hid (And.intro hi27 (And.intro hz27 (And.intro hs27 hb27)))
  clear hi27 hz27 hs27 hb27
  obtain ⟨X, hX⟩ : ∃ X, w.heap.size = X := ⟨_, rfl⟩
  obtain ⟨W1, hW1⟩ : ∃ W1, (((w.alloc (.cells #[.int .i64 (n : Int), .slice (some ⟨ab, ao, none⟩) n c, .slice (some ⟨bb, bo, none⟩) n e] 25)).alloc (.cells #[.slice none 0 0] 28)).alloc (.cells #[.int .i64 0] 29)) = W1 := ⟨_, rfl⟩
  have hszw : W1.heap.size = X + 3 := by rw [← hW1]; simp [hX]
  have hwW : Below w.heap.size w W1 := hW1 ▸ alloc_b (alloc_b (alloc_b (Below.refl _ _) _) _) _
  have k0 : W1.heap[X]? = some (.cells #[.int .i64 (n : Int), .slice (some ⟨ab, ao, none⟩) n c, .slice (some ⟨bb, bo, none⟩) n e] 25) := by
    rw [← hW1]
    exact ((alloc_b (alloc_b (Below.refl _ _) _) _).block X (by simp; omega)).trans (box_al25 hX _ _ _)
  have k1 : W1.heap[X + 1]? = some (.cells #[.slice none 0 0] 28 (0, 0)) := by
    rw [← hW1]
    exact ((alloc_b (Below.refl _ _) _).block (X + 1) (by simp; omega)).trans (al_at (by simp [hX]) _)
  have k2 : W1.heap[X + 2]? = some (.cells #[.int .i64 0] 29 (0, 0)) := by
    rw [← hW1]
    exact al_at (by simp [hX]) _
  obtain ⟨x0, x1, x2, _⟩ := box_cells k0
  obtain ⟨x3, x3f⟩ := box1_cells k1
  obtain ⟨x4, x4f⟩ := box1_cells k2
  have HA := Lib.hid (And.intro hck (And.intro hC' (And.intro hl1 (And.intro hF (And.intro hF5 hwW)))))
  have HB := Lib.hid (And.intro k0 (And.intro k1 (And.intro k2 hszw)))
  clear hck hC' hl1 hF hF5 hC hO hR hwW k0 k1 k2 hszw h1 hch t1 hFl
  refine (callsIn_wide (n := 9)).1 ?_
  have w54 : Fence.wide.fn 37 := trivial
  have w59 : Fence.wide.fn 39 := trivial
  have w67 : Fence.wide.fn 40 := trivial
  have w151 : Fence.wide.fn 38 := trivial
  have wd : Fence.wide.depth = none := rfl
  refine callsIn_of_wp_marks Tryz.func10 rfl trivial ?_ rfl
  simp only [Tryz.ntmps10, List.size_toArray, List.length_cons, List.length_nil, Nat.reduceAdd, Nat.reduceSub, Array.replicate_succ, Array.replicate_zero, List.push_toArray, List.append_toArray, List.nil_append, List.cons_append]
  try simp only [hX]
  gi_wp2_with (gi_at_call 37; (with_reducible refine (callsIn_wide.2 (HA.out.1 _ HA.out.2.2.2.2.2)).mono ?_); rintro e2 w2 ⟨rfl, k⟩; have H2 := Lib.hid k; clear k)
  obtain ⟨Y, hY⟩ : ∃ Y, w2.heap.size = Y := ⟨_, rfl⟩
  obtain ⟨w3, hw3⟩ : ∃ w3, w2.alloc (.cells #[.slice none 0 0] 28) = w3 := ⟨_, rfl⟩
  rw [hw3, hY]
  have b23 : Below w2.heap.size w2 w3 := hw3 ▸ alloc_b (Below.refl _ _) _
  have b13 : Below W1.heap.size W1 w3 := below_trans H2.out b23
  have y3 : w3.heap[Y]? = some (.cells #[.slice none 0 0] 28 (0, 0)) := by rw [← hw3]; exact al_at hY _
  have hs3 : w3.heap.size = Y + 1 := by rw [← hw3]; simp [hY]
  have hXY : X + 3 ≤ Y := by have := H2.out.size; rw [HB.out.2.2.2, hY] at this; exact this
  have hz0 : w3.cell? ⟨X, 0, none⟩ = some (.int .i64 (n : Int)) ∧ w3.cell? ⟨X, 1, none⟩ = some (.slice (some ⟨ab, ao, none⟩) n c) ∧ w3.cell? ⟨X, 2, none⟩ = some (.slice (some ⟨bb, bo, none⟩) n e) ∧ Below w3.heap.size w3 w3 :=
    ⟨(b13.cell (block_lt_of_cell x0)).trans x0, (b13.cell (block_lt_of_cell x1)).trans x1, (b13.cell (block_lt_of_cell x2)).trans x2, Below.refl _ _⟩
  obtain ⟨z0, z1, z2, _⟩ := id hz0
  have HD := Lib.hid (And.intro b13 (And.intro y3 (And.intro hs3 hXY)))
  clear b23 b13 y3 hs3 hXY hw3 hY
  refine wpIn_wide.2 ?_
  go_region_held3 (fun V => V.cell? ⟨X, 0, none⟩ = some (.int .i64 (n : Int)) ∧ V.cell? ⟨X, 1, none⟩ = some (.slice (some ⟨ab, ao, none⟩) n c) ∧ V.cell? ⟨X, 2, none⟩ = some (.slice (some ⟨bb, bo, none⟩) n e) ∧ Below w3.heap.size w3 V)
    (first
      | with_reducible assumption
      | with_reducible exact hz0
      | (refine keep3b hz0 ?_; (repeat' (first | exact Below.refl _ _ | exact b5 | exact b4 | apply below_drw)); done)
      | fail)
    (first
    | (go_at_call 38; (with_reducible refine els151.mono ?_); rintro e8 w5 ⟨I2, C2, P2, rfl, k1, k2, k3, k4, k5, k6, k7⟩
       have b5 : Below w3.heap.size w3 w5 := below_trans (by (repeat' (first | exact b4 | apply below_drw))) k7
       obtain ⟨v0, v1, v2, _⟩ := keep3b hz0 b5
       have H5 := Lib.hid (And.intro k1 (And.intro k2 (And.intro k3 (And.intro k4 (And.intro k5 (And.intro k6 k7)))))); clear k1 k2 k3 k4 k5 k6 k7)
    | (go_at_call 39; (with_reducible refine (one59 hn.2).mono ?_); rintro e7 w4 ⟨v7, rfl, k1, k2⟩; obtain ⟨xb, xc, rfl, k3⟩ := id k1
       have b4 : Below w3.heap.size w3 w4 := below_trans (by (repeat' (first | exact Below.refl _ _ | apply below_drw))) k2
       obtain ⟨u0, u1, u2, _⟩ := keep3b hz0 b4
       have H4 := Lib.hid (And.intro k1 k2); clear k1 k2 k3))
  gi_wp2
  have hY3 := HD.out.2.2.1
  have hXY := HD.out.2.2.2
  have s45 := H5.out.2.2.2.2.2.2.size
  have s4 := b4.size
  have s5 := b5.size
  have b15 : Below W1.heap.size W1 w5 := below_trans HD.out.1 b5
  have bw5 : Below w.heap.size w w5 := below_trans HA.out.2.2.2.2.2 b15
  have hseq := els172 hn HA.out.2.1 (ab := ab) (ao := ao) (c := c) (bb := bb) (bo := bo) (e := e) (F := F) n 0 (Nat.zero_add n) (w := w5) (I := I2) (C := C2) (P := P2) (vy := .slice (some ⟨xb, 0, none⟩) n xc) (y := PlainPm.one n) (M0 := [Y, X + 1, X + 1 + 1]) (s0 := []) H5.out.1 H5.out.2.1 H5.out.2.2.1
    (fun hm => by have h2 := H5.out.2.2.2.1; simp at hm; omega) (fun hm => by have h2 := H5.out.2.2.2.2.1; simp at hm; omega) (fun hm => by have h2 := H5.out.2.2.2.2.2.1; simp at hm; omega)
    ((H4.out.1.pm (M := [Y, X + 1, X + 1 + 1]) (fun m hm => by show m < w3.heap.size; simp at hm; omega)).below H5.out.2.2.2.2.2.2)
    (fun W' hk => HA.out.2.2.1.below (bw5.trans (hk.below bw5.size (fun m hm => by simp at hm; omega))))
    (by rw [List.nil_append, HA.out.2.2.2.1]; exact List.prefix_refl _)
  rw [List.nil_append, HA.out.2.2.2.1] at hseq
  have y5 : w5.heap[Y]? = some (.cells #[.slice none 0 0] 28 (0, 0)) := (b5.block Y (by omega)).trans HD.out.2.1
  have r1 : w5.heap[X + 1]? = some (.cells #[.slice none 0 0] 28 (0, 0)) := (b15.block (X + 1) (by have := HB.out.2.2.2; omega)).trans HB.out.2.1
  have r2 : w5.heap[X + 1 + 1]? = some (.cells #[.int .i64 0] 29 (0, 0)) := (b15.block (X + 1 + 1) (by have := HB.out.2.2.2; omega)).trans HB.out.2.2.1
  have HE := Lib.hid (And.intro b15 (And.intro bw5 (And.intro y5 (And.intro r1 r2))))
  clear b15 bw5 y5 r1 r2
  have HX3 := Lib.hid (show X + 2 < Y by have := HD.out.2.2.2; omega)
  refine wpIn_rangeY (gf := 77) (lb := #[.pointer (some ⟨I2, 0, none⟩), .pointer (some ⟨C2, 0, none⟩), .pointer (some ⟨P2, 0, none⟩)]) rfl (enters_of Tryz.func77 (by kernel_rfl) rfl)
    (Prod.fst : Value × Pm n → Value) rfl [Y, X + 1, X + 1 + 1] (fun m hm => by simp at hm; omega)
    (fun s M A => ∃ v us, LsO X Y (Y + 1) v us s M A) (fun A => A.heap[X + 1]? = some (.cells #[.slice none 0 0] 28 (0, 0)) ∧ A.heap[X + 1 + 1]? = some (.cells #[.int .i64 5] 29 (0, 0))) elCore (elGood F) elNx (fun s => s = F) [] hseq ?own ?ownx ?good ?core ⟨_, [], rfl, HE.out.2.2.1, Own.nil _ _ _, rfl, by simp, HE.out.2.2.2.1, HE.out.2.2.2.2⟩
    (fun q => { tmps := #[cv n ab ao c bb bo e, .pointer (some ⟨X, 0, none⟩), .pointer (some ⟨X + 1, 0, none⟩), .pointer (some ⟨X + 1 + 1, 0, none⟩), .int .i64 0, .pointer (some ⟨Y, 0, none⟩), q.1,
      .agg #[.int .i64 (n : Int), .slice (some ⟨ab, ao, none⟩) n c, .slice (some ⟨bb, bo, none⟩) n e], .int .i64 0, .int .i64 0, .bool false, undef, .agg #[.int .i64 (n : Int), .slice (some ⟨ab, ao, none⟩) n c, .slice (some ⟨bb, bo, none⟩) n e], .pointer (some ⟨X, 0, none⟩), .int .i64 (n : Int), .slice (some ⟨xb, 0, none⟩) n xc,
      .func (.func 77) #[] #[.pointer (some ⟨I2, 0, none⟩), .pointer (some ⟨C2, 0, none⟩), .pointer (some ⟨P2, 0, none⟩)], q.1, undef, undef, undef, undef, undef, undef, undef, undef, undef], defers := [] }) ?assign ?body ?done ?stop
  case own =>
    rintro ⟨s', M'⟩ A B row ⟨v, us, h⟩ hAB hr
    exact ⟨v, us, h.turn ⟨hAB, fun r e => (hr r e).2⟩⟩
  case ownx => exact fun u A B row h hAB hr => ⟨(Turn.cells ⟨hAB, fun r e => (hr r e).2⟩ h.1), (Turn.cells ⟨hAB, fun r e => (hr r e).2⟩ h.2)⟩
  case good =>
    intro s' M' q' A B row h hg hr
    exact ⟨h.1.up (Turn.up ⟨hg, fun r e => (hr r e).2⟩), h.2⟩
  case core =>
    rintro s' M' A ⟨v, us, h⟩
    exact ⟨trivial, h.lt⟩
  case assign =>
    intro nn l x A K hK
    gi_wp2
    exact hK
  case body =>
    rintro nn l s M ⟨vx, x⟩ A ⟨v, us, hI⟩ ⟨hpm, hpx⟩ hst
    dsimp only at hpm hpx ⊢
    by_cases hsl : s.length < 5040
    · skip
      have hul : us.length < 5040 := by rw [hI.len]; exact hsl
      obtain ⟨av, cv', ev, _⟩ := hI.own.row (by unfold maxLen; omega)
      subst ev
      obtain ⟨yc, yf⟩ := box1_cells hI.y
      have k67 := fun (V : World) (hV : Below A.heap.size A V) => clone67v hn (hpm.below hV)
      obtain ⟨xb', xo', xcp, rfl, _⟩ := id hpm
      have g1 : ((us.length : Int) == 5040) = false := by simp; omega
      have HB2 := Lib.hid (And.intro hI (And.intro hpm (And.intro k67 hul)))
      clear hI hpm hpx hst k67 hseq hsl hul
      gi_wp2
      refine wpIn_region_any (by kernel_rfl) ?_
      change wpAnyIn _ _ _ _ _ _ _ _ _ (World.drew _)
      refine wpAnyIn_ready (rs := [0, 1]) (by kernel_rfl) (by simp) ?_
      refine AllReadyIn.cons rfl (fun K hK => ?_) (AllReadyIn.cons rfl (fun K hK => ?_) (AllReadyIn.nil))
      · go_simp
        refine hK _ _ ?_
        clear hK K
        refine wpAnyIn_ready (rs := [1]) (by kernel_rfl) (by simp) ?_
        refine AllReadyIn.cons rfl (fun K hK => ?_) (AllReadyIn.nil)
        go_simp
        refine hK _ _ ?_
        clear hK K
        refine wpAnyIn_ready (rs := [2]) (by kernel_rfl) (by simp) ?_
        refine AllReadyIn.cons rfl (fun K hK => ?_) (AllReadyIn.nil)
        go_simp
        (with_reducible refine (callsR (HB2.out.2.2.1 _ ?_)).mono ?_)
        · exact below_drw (Below.refl _ _)
        rintro e7 w7 ⟨v7, rfl, k1, k2⟩
        obtain ⟨cb, cc, rfl, k3⟩ := id k1
        have b7 : Below A.heap.size A w7 := below_trans (below_drw (Below.refl _ _)) k2
        have y7 : w7.heap[Y]? = some (.cells #[.slice av us.length cv'] 28 (0, 0)) := (b7.block Y (Array.getElem?_eq_some_iff.1 HB2.out.1.y).1).trans HB2.out.1.y
        have ltY7 : Y < w7.heap.size := (Array.getElem?_eq_some_iff.1 y7).1
        obtain ⟨y7c, y7f⟩ := box1_cells y7
        refine hK _ _ ?_
        clear hK K
        refine wpAnyIn_ready (rs := [3]) (by kernel_rfl) (by simp) ?_
        refine AllReadyIn.cons rfl (fun K hK => ?_) (AllReadyIn.nil)
        go_simp
        refine hK _ _ ?_
        clear hK K
        refine wpAnyIn_ready (rs := [4]) (by kernel_rfl) (by simp) ?_
        refine AllReadyIn.cons rfl (fun K hK => ?_) (AllReadyIn.nil)
        refine app1Op (.tmp 21) (.tmp 24) 28 41 rfl i27 (.slice none 0 0) 24 Tryz.underlying28 I27.out.1 I27.out.2.1 I27.out.2.2.1 I27.out.2.2.2 rfl (by omega) (Y + 1) (.slice (some ⟨cb, 0, none⟩) n cc) (.slice av us.length cv') us rfl (HB2.out.1.own.below b7) rfl rfl (by have := HB2.out.2.2.2; omega) (by omega) ?_
        intro v' w11 k4 k5 k6
        obtain ⟨G', cap, ev', -⟩ := k4.form (by simp)
        rw [List.length_append, List.length_singleton] at ev'
        subst ev'
        have y11 := (k5.block Y ltY7 (fun e => own_ne (HB2.out.1.own.below b7) y7 (by decide) e.symm)).trans y7
        obtain ⟨y11c, y11f⟩ := box1_cells y11
        obtain ⟨M', hI', hS'⟩ := HB2.out.1.grow (x := x) (by omega) HX3.out (by rw [← HB2.out.1.len]; exact HB2.out.2.2.2) b7 k4 k5 k6
        refine hK _ _ ?_
        clear hK K
        refine wpAnyIn_ready (rs := [5]) (by kernel_rfl) (by simp) ?_
        refine AllReadyIn.cons rfl (fun K hK => ?_) (AllReadyIn.nil)
        go_simp
        refine hK _ _ ?_
        clear hK K
        refine wpAnyIn_done (by kernel_rfl) ?_ _
        exact ⟨_, M', rfl, ⟨_, _, hI'⟩, hS'⟩
      · go_simp
        refine hK _ _ ?_
        clear hK K
        refine wpAnyIn_ready (rs := [0, 2]) (by kernel_rfl) (by simp) ?_
        refine AllReadyIn.cons rfl (fun K hK => ?_) (AllReadyIn.cons rfl (fun K hK => ?_) (AllReadyIn.nil))
        · go_simp
          refine hK _ _ ?_
          clear hK K
          refine wpAnyIn_ready (rs := [2]) (by kernel_rfl) (by simp) ?_
          refine AllReadyIn.cons rfl (fun K hK => ?_) (AllReadyIn.nil)
          go_simp
          (with_reducible refine (callsR (HB2.out.2.2.1 _ ?_)).mono ?_)
          · exact below_drw (Below.refl _ _)
          rintro e7 w7 ⟨v7, rfl, k1, k2⟩
          obtain ⟨cb, cc, rfl, k3⟩ := id k1
          have b7 : Below A.heap.size A w7 := below_trans (below_drw (Below.refl _ _)) k2
          have y7 : w7.heap[Y]? = some (.cells #[.slice av us.length cv'] 28 (0, 0)) := (b7.block Y (Array.getElem?_eq_some_iff.1 HB2.out.1.y).1).trans HB2.out.1.y
          have ltY7 : Y < w7.heap.size := (Array.getElem?_eq_some_iff.1 y7).1
          obtain ⟨y7c, y7f⟩ := box1_cells y7
          refine hK _ _ ?_
          clear hK K
          refine wpAnyIn_ready (rs := [3]) (by kernel_rfl) (by simp) ?_
          refine AllReadyIn.cons rfl (fun K hK => ?_) (AllReadyIn.nil)
          go_simp
          refine hK _ _ ?_
          clear hK K
          refine wpAnyIn_ready (rs := [4]) (by kernel_rfl) (by simp) ?_
          refine AllReadyIn.cons rfl (fun K hK => ?_) (AllReadyIn.nil)
          refine app1Op (.tmp 21) (.tmp 24) 28 41 rfl i27 (.slice none 0 0) 24 Tryz.underlying28 I27.out.1 I27.out.2.1 I27.out.2.2.1 I27.out.2.2.2 rfl (by omega) (Y + 1) (.slice (some ⟨cb, 0, none⟩) n cc) (.slice av us.length cv') us rfl (HB2.out.1.own.below b7) rfl rfl (by have := HB2.out.2.2.2; omega) (by omega) ?_
          intro v' w11 k4 k5 k6
          obtain ⟨G', cap, ev', -⟩ := k4.form (by simp)
          rw [List.length_append, List.length_singleton] at ev'
          subst ev'
          have y11 := (k5.block Y ltY7 (fun e => own_ne (HB2.out.1.own.below b7) y7 (by decide) e.symm)).trans y7
          obtain ⟨y11c, y11f⟩ := box1_cells y11
          obtain ⟨M', hI', hS'⟩ := HB2.out.1.grow (x := x) (by omega) HX3.out (by rw [← HB2.out.1.len]; exact HB2.out.2.2.2) b7 k4 k5 k6
          refine hK _ _ ?_
          clear hK K
          refine wpAnyIn_ready (rs := [5]) (by kernel_rfl) (by simp) ?_
          refine AllReadyIn.cons rfl (fun K hK => ?_) (AllReadyIn.nil)
          go_simp
          refine hK _ _ ?_
          clear hK K
          refine wpAnyIn_done (by kernel_rfl) ?_ _
          exact ⟨_, M', rfl, ⟨_, _, hI'⟩, hS'⟩
        · go_simp
          (with_reducible refine (callsR (HB2.out.2.2.1 _ ?_)).mono ?_)
          · exact below_drw (Below.refl _ _)
          rintro e7 w7 ⟨v7, rfl, k1, k2⟩
          obtain ⟨cb, cc, rfl, k3⟩ := id k1
          have b7 : Below A.heap.size A w7 := below_trans (below_drw (Below.refl _ _)) k2
          have y7 : w7.heap[Y]? = some (.cells #[.slice av us.length cv'] 28 (0, 0)) := (b7.block Y (Array.getElem?_eq_some_iff.1 HB2.out.1.y).1).trans HB2.out.1.y
          have ltY7 : Y < w7.heap.size := (Array.getElem?_eq_some_iff.1 y7).1
          obtain ⟨y7c, y7f⟩ := box1_cells y7
          refine hK _ _ ?_
          clear hK K
          refine wpAnyIn_ready (rs := [0, 3]) (by kernel_rfl) (by simp) ?_
          refine AllReadyIn.cons rfl (fun K hK => ?_) (AllReadyIn.cons rfl (fun K hK => ?_) (AllReadyIn.nil))
          · go_simp
            refine hK _ _ ?_
            clear hK K
            refine wpAnyIn_ready (rs := [3]) (by kernel_rfl) (by simp) ?_
            refine AllReadyIn.cons rfl (fun K hK => ?_) (AllReadyIn.nil)
            go_simp
            refine hK _ _ ?_
            clear hK K
            refine wpAnyIn_ready (rs := [4]) (by kernel_rfl) (by simp) ?_
            refine AllReadyIn.cons rfl (fun K hK => ?_) (AllReadyIn.nil)
            refine app1Op (.tmp 21) (.tmp 24) 28 41 rfl i27 (.slice none 0 0) 24 Tryz.underlying28 I27.out.1 I27.out.2.1 I27.out.2.2.1 I27.out.2.2.2 rfl (by omega) (Y + 1) (.slice (some ⟨cb, 0, none⟩) n cc) (.slice av us.length cv') us rfl (HB2.out.1.own.below b7) rfl rfl (by have := HB2.out.2.2.2; omega) (by omega) ?_
            intro v' w11 k4 k5 k6
            obtain ⟨G', cap, ev', -⟩ := k4.form (by simp)
            rw [List.length_append, List.length_singleton] at ev'
            subst ev'
            have y11 := (k5.block Y ltY7 (fun e => own_ne (HB2.out.1.own.below b7) y7 (by decide) e.symm)).trans y7
            obtain ⟨y11c, y11f⟩ := box1_cells y11
            obtain ⟨M', hI', hS'⟩ := HB2.out.1.grow (x := x) (by omega) HX3.out (by rw [← HB2.out.1.len]; exact HB2.out.2.2.2) b7 k4 k5 k6
            refine hK _ _ ?_
            clear hK K
            refine wpAnyIn_ready (rs := [5]) (by kernel_rfl) (by simp) ?_
            refine AllReadyIn.cons rfl (fun K hK => ?_) (AllReadyIn.nil)
            go_simp
            refine hK _ _ ?_
            clear hK K
            refine wpAnyIn_done (by kernel_rfl) ?_ _
            exact ⟨_, M', rfl, ⟨_, _, hI'⟩, hS'⟩
          · go_simp
            refine hK _ _ ?_
            clear hK K
            refine wpAnyIn_ready (rs := [0]) (by kernel_rfl) (by simp) ?_
            refine AllReadyIn.cons rfl (fun K hK => ?_) (AllReadyIn.nil)
            go_simp
            refine hK _ _ ?_
            clear hK K
            refine wpAnyIn_ready (rs := [4]) (by kernel_rfl) (by simp) ?_
            refine AllReadyIn.cons rfl (fun K hK => ?_) (AllReadyIn.nil)
            refine app1Op (.tmp 21) (.tmp 24) 28 41 rfl i27 (.slice none 0 0) 24 Tryz.underlying28 I27.out.1 I27.out.2.1 I27.out.2.2.1 I27.out.2.2.2 rfl (by omega) (Y + 1) (.slice (some ⟨cb, 0, none⟩) n cc) (.slice av us.length cv') us rfl (HB2.out.1.own.below b7) rfl rfl (by have := HB2.out.2.2.2; omega) (by omega) ?_
            intro v' w11 k4 k5 k6
            obtain ⟨G', cap, ev', -⟩ := k4.form (by simp)
            rw [List.length_append, List.length_singleton] at ev'
            subst ev'
            have y11 := (k5.block Y ltY7 (fun e => own_ne (HB2.out.1.own.below b7) y7 (by decide) e.symm)).trans y7
            obtain ⟨y11c, y11f⟩ := box1_cells y11
            obtain ⟨M', hI', hS'⟩ := HB2.out.1.grow (x := x) (by omega) HX3.out (by rw [← HB2.out.1.len]; exact HB2.out.2.2.2) b7 k4 k5 k6
            refine hK _ _ ?_
            clear hK K
            refine wpAnyIn_ready (rs := [5]) (by kernel_rfl) (by simp) ?_
            refine AllReadyIn.cons rfl (fun K hK => ?_) (AllReadyIn.nil)
            go_simp
            refine hK _ _ ?_
            clear hK K
            refine wpAnyIn_done (by kernel_rfl) ?_ _
            exact ⟨_, M', rfl, ⟨_, _, hI'⟩, hS'⟩
    · have hs5 : s.length = 5040 := by have := hI.cap; omega
      have hu5 : us.length = 5040 := by rw [hI.len]; exact hs5
      obtain ⟨av, cv', ev, _⟩ := hI.own.row (by unfold maxLen; omega)
      subst ev
      obtain ⟨yc, yf⟩ := box1_cells hI.y
      obtain ⟨r1c, r1f⟩ := box1_cells hI.r1
      obtain ⟨r2c, r2f⟩ := box1_cells hI.r2
      have g1 : ((us.length : Int) == 5040) = true := by simp; omega
      have HB2 := Lib.hid hI
      clear hI hpm hpx hst hseq hsl
      gi_wp2
      obtain ⟨q1, q2, qk, qo⟩ := two_setG (v := .slice none 0 0) (u := .int .i64 5) (show X + 1 ≠ X + 1 + 1 by omega) HB2.out.r1 HB2.out.r2
      exact ⟨⟨q1, q2⟩, qk.mono (fun m hm => by rw [HB2.out.m]; simp at hm ⊢; rcases hm with h | h <;> simp [h])⟩
  case done =>
    rintro D9 s M W5 hD9 hfin ⟨v, us, hI⟩ hst hdef
    have hsF : s = F := hfin
    subst hsF
    have h1 := hI.cap
    have h2 := HA.out.2.2.2.2.1
    omega
  case stop =>
    rintro D9 W5 hD9 ⟨r1, r2⟩ hk hdef
    obtain ⟨r1c, r1f⟩ := box1_cells r1
    obtain ⟨r2c, r2f⟩ := box1_cells r2
    have hX9 : X + 1 + 1 < D9 := by omega
    have htn : Turn W5 (W5.putObj D9 (.deferred none)) (some D9) := ⟨grownBy_putObj' W5 D9 (.deferred none), fun r er => by cases er; exact ⟨_, hdef, rfl⟩⟩
    gi_wp2
    refine ⟨by simp, .inl ⟨_, _, rfl, run_takeDeferred hdef, ?_⟩⟩
    obtain ⟨c2, _⟩ := box1_cells (htn.cells r1)
    obtain ⟨c3, _⟩ := box1_cells (htn.cells r2)
    refine ⟨.tuple #[.slice none 0 0, .int .i64 5], by simp [results, Tryz.results10, go_sem, c2, c3], rfl, ?_⟩
    have hbW : Below w.heap.size w W5 := HE.out.2.1.trans (hk.below HE.out.2.1.size (fun m hm => by simp at hm; omega))
    have := hbW.grown (grownBy_putObj' W5 D9 (.deferred none)) hbW.size (fun k e => by cases e; have := HE.out.2.1.size; omega)
    first | exact this | (rw [hX] at this; exact this)
end
end Go.Proofs.YtbejhkojdiadaaaGreatDoor
namespace Go.Proofs.YtbejhkojdiadaaaGreatDoor
open Go.RowKit PlainPm
section
variable {w : World} {v1 : Value} {d : Int} {os : List (List Int)} {rs : List (List (List Int))}
set_option maxRecDepth 100000 in
set_option maxHeartbeats 2000000 in
theorem list87e (h1 : ChV w v1 d os rs) (hE : chkE d os rs ≠ 0) : Calls Tryz.prog 11 #[v1] w fun e w' => e = .returned (.tuple #[.slice none 0 0, .int .i64 (chkE d os rs)]) ∧ Below w.heap.size w w' := by
  have hpr := fun (V : World) (hV : Below w.heap.size w V) => chk56 (h1.below hV)
  obtain ⟨r, hr⟩ : ∃ r, chkE d os rs = r := ⟨_, rfl⟩
  rw [hr] at hpr hE ⊢
  have hne : (r != 0) = true := by simp [hE]
  obtain ⟨a1, b1, c1, e1, rfl, _⟩ := h1
  obtain ⟨X, hX⟩ : ∃ X, w.heap.size = X := ⟨_, rfl⟩
  obtain ⟨W1, hW1⟩ : ∃ W1, w.alloc (.cells #[.int .i64 d, .slice a1 os.length b1, .slice c1 rs.length e1] 25) = W1 := ⟨_, rfl⟩
  have hwW : Below w.heap.size w W1 := hW1 ▸ alloc_b (Below.refl _ _) _
  have k0 : W1.heap[X]? = some (.cells #[.int .i64 d, .slice a1 os.length b1, .slice c1 rs.length e1] 25) := hW1 ▸ box_al25 hX _ _ _
  obtain ⟨x0, x1, x2, _⟩ := box_cells k0
  have HB := Lib.hid (And.intro hpr hwW)
  clear hpr hwW k0 hr hE
  go_enter Tryz.func11, Tryz.ntmps11
  try rw [hX]
  go_wp2_with (go_at_call 41; (with_reducible refine (HB.out.1 _ HB.out.2).mono ?_); rintro e2 w2 ⟨rfl, k⟩; have H2 := Lib.hid (below_trans HB.out.2 k); clear k)
  refine bodyPost_ret (v := .tuple #[.slice none 0 0, .int .i64 r]) (by simp [results, Tryz.results11, go_sem]) rfl ?_
  exact ⟨rfl, by have h := H2.out; rwa [hX] at h⟩
set_option maxRecDepth 100000 in
set_option maxHeartbeats 2000000 in
theorem list125e (h1 : ChV w v1 d os rs) (hE : chkE d os rs ≠ 0) : Calls Tryz.prog 10 #[v1] w fun e w' => e = .returned (.tuple #[.slice none 0 0, .int .i64 (chkE d os rs)]) ∧ Below w.heap.size w w' := by
  have hpr := fun (V : World) (hV : Below w.heap.size w V) => chk54 (h1.below hV)
  obtain ⟨r, hr⟩ : ∃ r, chkE d os rs = r := ⟨_, rfl⟩
  rw [hr] at hpr hE ⊢
  have hne : (r != 0) = true := by simp [hE]
  obtain ⟨a1, b1, c1, e1, rfl, _⟩ := h1
  obtain ⟨X, hX⟩ : ∃ X, w.heap.size = X := ⟨_, rfl⟩
  obtain ⟨W1, hW1⟩ : ∃ W1, ((w.alloc (.cells #[.int .i64 d, .slice a1 os.length b1, .slice c1 rs.length e1] 25)).alloc (.cells #[.slice none 0 0] 28)).alloc (.cells #[.int .i64 0] 29) = W1 := ⟨_, rfl⟩
  have hwW : Below w.heap.size w W1 := hW1 ▸ alloc_b (alloc_b (alloc_b (Below.refl _ _) _) _) _
  have hsz : W1.heap.size = X + 3 := by rw [← hW1]; simp [hX]
  have k0 : W1.heap[X]? = some (.cells #[.int .i64 d, .slice a1 os.length b1, .slice c1 rs.length e1] 25) := by
    rw [← hW1]
    exact ((alloc_b (alloc_b (Below.refl _ _) _) _).block X (by simp; omega)).trans (box_al25 hX _ _ _)
  have k2 : W1.heap[X + 1]? = some (.cells #[.slice none 0 0] 28) := by
    rw [← hW1]
    exact ((alloc_b (Below.refl _ _) _).block (X + 1) (by simp; omega)).trans (al_at (by simp [hX]) _)
  have k3 : W1.heap[X + 1 + 1]? = some (.cells #[.int .i64 0] 29) := by
    rw [← hW1]
    exact al_at (by simp [hX]) _
  obtain ⟨x0, x1, x2, _⟩ := box_cells k0
  have H := Lib.hid (And.intro hpr (And.intro hwW (And.intro k2 (And.intro k3 hsz))))
  clear hpr hwW k0 k2 k3 hr hE hsz
  go_enter Tryz.func10, Tryz.ntmps10
  try simp only [hX]
  go_wp2_with (go_at_call 37; (with_reducible refine (H.out.1 _ H.out.2.1).mono ?_); rintro e2 w2 ⟨rfl, k⟩
               have r2 := (k.block (X + 1) (by have := H.out.2.2.2.2; omega)).trans H.out.2.2.1
               have r3 := (k.block (X + 1 + 1) (by have := H.out.2.2.2.2; omega)).trans H.out.2.2.2.1
               obtain ⟨r2c, r2f⟩ := box1_cells r2
               obtain ⟨r3c, r3f⟩ := box1_cells r3
               have H2 := Lib.hid (And.intro k (And.intro r2 r3)); clear k r2 r3)
  obtain ⟨q2, q3, qk, qo⟩ := two_setG (v := .slice none 0 0) (u := .int .i64 r) (show X + 1 ≠ X + 1 + 1 by omega) H2.out.2.1 H2.out.2.2
  obtain ⟨W6, hW6⟩ : ∃ W6, (w2.setCell ⟨X + 1, 0, none⟩ (.slice none 0 0)).setCell ⟨X + 1 + 1, 0, none⟩ (.int .i64 r) = W6 := ⟨_, rfl⟩
  rw [hW6] at q2 q3 qk qo ⊢
  obtain ⟨c2', _⟩ := box1_cells q2
  obtain ⟨c3', _⟩ := box1_cells q3
  refine bodyPost_ret (v := .tuple #[.slice none 0 0, .int .i64 r]) (by simp [results, Tryz.results10, go_sem, c2', c3']) rfl ?_
  refine ⟨rfl, ?_⟩
  have h := below_trans H.out.2.1 H2.out.1
  have h2 := h.size
  have h3 := h.trans (qk.below (D := w.heap.size) h2 (fun m hm => by
    rcases List.mem_cons.1 hm with e | hm
    · omega
    · rw [List.mem_singleton.1 hm]; omega))
  rwa [hX] at h3
end
section
variable {n : Nat}
set_option maxRecDepth 100000 in
set_option maxHeartbeats 4000000 in
theorem list87o (hn' : 0 < n ∧ n ≤ 8) {w : World} {v1 : Value} {G : Pm n → Prop} (hG : IsG G) (h1 : GrG w v1 G) :
    ∃ O R, ChG G O R ∧ (5040 < szF O n 0 → Calls Tryz.prog 11 #[v1] w fun e w' => e = .returned (.tuple #[.slice none 0 0, .int .i64 5]) ∧ Below w.heap.size w w') := by
  have hn : 0 < n ∧ n ≤ 64 := ⟨hn'.1, by omega⟩
  obtain ⟨os, rs, hch, hc0⟩ := h1.chk hn hG
  have hck := fun (V : World) (hV : Below w.heap.size w V) => chk56 (hch.below hV)
  simp only [hc0] at hck
  obtain ⟨T1, t1, ab, ao, c, bb, bo, e, hv1, hl1⟩ := h1.lev hG ⟨hn.1, hn.2⟩
  subst hv1
  have hC := t1.chG hG
  obtain ⟨O, hO⟩ : ∃ O, orbO T1 = O := ⟨_, rfl⟩
  obtain ⟨R, hR⟩ : ∃ R, PlainPm.repT T1 = R := ⟨_, rfl⟩
  have hC' : ChG G O R := by rw [← hO, ← hR]; exact hC
  rw [hO, hR] at hl1
  refine ⟨O, R, hC', fun hsz => ?_⟩
  have hel := els_un hC' (f := n) (i := 0) (y := PlainPm.one n) (Nat.zero_add n)
  obtain ⟨F, hF⟩ : ∃ F, elsF O R n 0 (PlainPm.one n) = F := ⟨_, rfl⟩
  rw [hF] at hel
  obtain ⟨Z, hZ⟩ : ∃ Z, szF O n 0 = Z := ⟨_, rfl⟩
  rw [hZ] at hsz hel
  have hs57 := fun (V : World) (hV : Below w.heap.size w V) => siz57 (c := c) (e := e) hn'.1 hn'.2 hC' (hl1.below hV)
  obtain ⟨i27, hi27, hz27, hs27, hb27⟩ := info_parts Tryz.info41
  have I27 := Lib.hid (And.intro hi27 (And.intro hz27 (And.intro hs27 hb27)))
  clear hi27 hz27 hs27 hb27
  obtain ⟨X, hX⟩ : ∃ X, w.heap.size = X := ⟨_, rfl⟩
  obtain ⟨W1, hW1⟩ : ∃ W1, w.alloc (.cells #[.int .i64 (n : Int), .slice (some ⟨ab, ao, none⟩) n c, .slice (some ⟨bb, bo, none⟩) n e] 25) = W1 := ⟨_, rfl⟩
  have hszw : W1.heap.size = X + 1 := by rw [← hW1]; simp [hX]
  have hwW : Below w.heap.size w W1 := hW1 ▸ alloc_b (Below.refl _ _) _
  have k0 : W1.heap[X]? = some (.cells #[.int .i64 (n : Int), .slice (some ⟨ab, ao, none⟩) n c, .slice (some ⟨bb, bo, none⟩) n e] 25) := by
    rw [← hW1]
    exact box_al25 hX _ _ _
  obtain ⟨x0, x1, x2, _⟩ := box_cells k0
  have hx0 := And.intro x0 (And.intro x1 (And.intro x2 (Below.refl W1.heap.size W1)))
  have HC := Lib.hid (And.intro hck (And.intro hs57 (And.intro hC' (And.intro hl1 (And.intro hel (And.intro hZ hwW))))))
  clear hck hs57 hC' hl1 hel hC hO hR hF hwW k0 h1 hch t1
  go_enter Tryz.func11, Tryz.ntmps11
  try simp only [hX]
  go_wp2_with (first
    | (go_at_call 42; (with_reducible refine (HC.out.2.1 _ (below_trans HC.out.2.2.2.2.2.2 H2.out)).mono ?_); rintro e3 w3 ⟨gs, sc, rfl, k1, k2⟩
       have b3 : Below W1.heap.size W1 w3 := below_trans H2.out k2
       obtain ⟨y0, y1, y2, _⟩ := keep3b hx0 b3
       have s0 : w3.cell? ⟨gs, 0, none⟩ = some (.int .i64 (Z : Int)) := by have := k1.2 0 (Nat.zero_le _); rw [Nat.sub_zero, HC.out.2.2.2.2.2.1] at this; exact this
       have hz2 : decide ((5040 : Int) < (Z : Int)) = true := by simp; omega
       have hz3 : ((Z : Int) > 5040) = True := by simp; omega
       have hn1 : (0 : Int) < (n : Int) + 1 := by omega
       have H3 := Lib.hid (And.intro k1 b3)
       clear k1 k2 b3)
    | (go_at_call 41; (with_reducible refine (HC.out.1 _ HC.out.2.2.2.2.2.2).mono ?_); rintro e2 w2 ⟨rfl, k⟩; obtain ⟨z0, z1, z2, _⟩ := keep3b hx0 k; have H2 := Lib.hid k; clear k))
  refine bodyPost_ret (v := .tuple #[.slice none 0 0, .int .i64 5]) (by simp [results, Tryz.results11, go_sem]) rfl ?_
  exact ⟨rfl, by have h := below_trans HC.out.2.2.2.2.2.2 H3.out.2; first | exact h | rwa [hX] at h⟩
end
end Go.Proofs.YtbejhkojdiadaaaGreatDoor
namespace Go.Proofs.YtbejhkojdiadaaaGreatDoor
open Go.RowKit PlainPm
variable {w : World} {v1 v2 : Value} {d1 d2 : Int} {os1 os2 : List (List Int)} {rs1 rs2 : List (List (List Int))}
set_option maxRecDepth 100000 in
set_option maxHeartbeats 2000000 in
theorem cosets14e (h1 : ChV w v1 d1 os1 rs1) (h2 : ChV w v2 d2 os2 rs2) (hE : pairE d1 os1 rs1 d2 os2 rs2 ≠ 0) :
    Calls Tryz.prog 14 #[v1, v2] w fun r w' => r = .returned (.tuple #[.slice none 0 0, .int .i64 (pairE d1 os1 rs1 d2 os2 rs2)]) ∧ Below w.heap.size w w' := by
  have hbl := fun (V : World) (hV : Below w.heap.size w V) => part44e (h1.below hV) (h2.below hV) hE
  obtain ⟨r, hr⟩ : ∃ r, pairE d1 os1 rs1 d2 os2 rs2 = r := ⟨_, rfl⟩
  rw [hr] at hbl hE ⊢
  have hne : (r != 0) = true := by simp [hE]
  have hne2 : (r == 0) = false := by simp [hE]
  obtain ⟨a1, m1, c1, e1, rfl, _⟩ := h1
  obtain ⟨a2, m2, c2, e2, rfl, _⟩ := h2
  obtain ⟨X, hX⟩ : ∃ X, w.heap.size = X := ⟨_, rfl⟩
  obtain ⟨W0, hW0⟩ : ∃ W0, ((w.alloc (.cells #[.int .i64 d1, .slice a1 os1.length m1, .slice c1 rs1.length e1] 25)).alloc (.cells #[.int .i64 d2, .slice a2 os2.length m2, .slice c2 rs2.length e2] 25)) = W0 := ⟨_, rfl⟩
  have hF : Below w.heap.size w W0 ∧ W0.heap[X]? = some (.cells #[.int .i64 d1, .slice a1 os1.length m1, .slice c1 rs1.length e1] 25) ∧ W0.heap[X + 1]? = some (.cells #[.int .i64 d2, .slice a2 os2.length m2, .slice c2 rs2.length e2] 25) := by
    refine ⟨?_, ?_, ?_⟩
    · rw [← hW0]; exact alloc_b (alloc_b (Below.refl _ _) _) _
    · rw [← hW0, ← hX]; exact ((alloc_b (Below.refl _ _) _).block _ (by simp)).trans (box_al25 rfl _ _ _)
    · rw [← hW0]; exact box_al25 (by simp [hX]) _ _ _
  obtain ⟨q0, q1, q2, _⟩ := box_cells hF.2.1
  obtain ⟨p0, p1, p2, _⟩ := box_cells hF.2.2
  have hwW := hF.1
  have H := Lib.hid hbl
  clear hbl hF hE hr
  go_enter Tryz.func14, Tryz.ntmps14
  go_wp2_with (go_at_call 44; (with_reducible refine (H.out _ hwW).mono ?_); rintro e1 w1 ⟨rfl, k⟩
               have H1 := Lib.hid k; clear k)
  go_ret2
  exact ⟨rfl, below_trans hwW H1.out⟩
set_option maxRecDepth 100000 in
set_option maxHeartbeats 2000000 in
theorem cosets14n {n : Nat} (hn' : 0 < n ∧ n ≤ 8) {w : World} {v1 v2 : Value} {G1 G2 : Pm n → Prop} (hG1 : IsG G1) (hG2 : IsG G2) (h1 : GrG w v1 G1) (h2 : GrG w v2 G2) (hs : ¬ ∀ x, G1 x → G2 x) :
    Calls Tryz.prog 14 #[v1, v2] w fun r w' => r = .returned (.tuple #[.slice none 0 0, .int .i64 18]) ∧ Below w.heap.size w w' := by
  have hn : 0 < n ∧ n ≤ 64 := ⟨hn'.1, by omega⟩
  have hbl := fun (V : World) (hV : Below w.heap.size w V) => part44n hn hG1 hG2 (h1.below hV) (h2.below hV) hs
  obtain ⟨T, t, ab, ao, c, bb, bo, e, hv1, hl1⟩ := h1.lev hG1 ⟨hn.1, hn.2⟩
  obtain ⟨T', t', ab', ao', c', bb', bo', e', hv2, hl2⟩ := h2.lev hG2 ⟨hn.1, hn.2⟩
  subst hv1 hv2
  unfold cv at hbl ⊢
  obtain ⟨X, hX⟩ : ∃ X, w.heap.size = X := ⟨_, rfl⟩
  obtain ⟨W0, hW0⟩ : ∃ W0, ((w.alloc (.cells #[.int .i64 (n : Int), .slice (some ⟨ab, ao, none⟩) n c, .slice (some ⟨bb, bo, none⟩) n e] 25)).alloc (.cells #[.int .i64 (n : Int), .slice (some ⟨ab', ao', none⟩) n c', .slice (some ⟨bb', bo', none⟩) n e'] 25)) = W0 := ⟨_, rfl⟩
  have hF : Below w.heap.size w W0 ∧ W0.heap[X]? = some (.cells #[.int .i64 (n : Int), .slice (some ⟨ab, ao, none⟩) n c, .slice (some ⟨bb, bo, none⟩) n e] 25) ∧ W0.heap[X + 1]? = some (.cells #[.int .i64 (n : Int), .slice (some ⟨ab', ao', none⟩) n c', .slice (some ⟨bb', bo', none⟩) n e'] 25) := by
    refine ⟨?_, ?_, ?_⟩
    · rw [← hW0]; exact alloc_b (alloc_b (Below.refl _ _) _) _
    · rw [← hW0, ← hX]; exact ((alloc_b (Below.refl _ _) _).block _ (by simp)).trans (box_al25 rfl _ _ _)
    · rw [← hW0]; exact box_al25 (by simp [hX]) _ _ _
  obtain ⟨q0, q1, q2, _⟩ := box_cells hF.2.1
  obtain ⟨p0, p1, p2, _⟩ := box_cells hF.2.2
  have hwW := hF.1
  have H := Lib.hid hbl
  clear hbl hF h1 h2 hl1 hl2
  go_enter Tryz.func14, Tryz.ntmps14
  go_wp2_with (go_at_call 44; (with_reducible refine (H.out _ hwW).mono ?_); rintro e1 w1 ⟨rfl, k⟩
               have H1 := Lib.hid k; clear k)
  go_ret2
  exact ⟨rfl, below_trans hwW H1.out⟩
end Go.Proofs.YtbejhkojdiadaaaGreatDoor
namespace Go.Proofs.YtbejhkojdiadaaaGreatDoor
open Go.RowKit PlainPm
section
variable {n : Nat}
theorem cos_of {G1 G2 : Pm n → Prop} {O O2 : Nat → List Nat} {R R2 : Nat → Nat → Pm n} (h : ChG G1 O R) (h2 : ChG G2 O2 R2) : CosSet G1 G2 (cosF O R (elsF O2 R2 n 0 (PlainPm.one n))) :=
  ⟨(els_lt h2 (Nat.zero_add n) h2.isG.one).filter _, fun x => mem_cosF.trans (and_congr (mem_all h2) (leastC_iff h x).symm)⟩
end
end Go.Proofs.YtbejhkojdiadaaaGreatDoor
namespace Go.Proofs.YtbejhkojdiadaaaGreatDoor
open Go.RowKit PlainPm
def IsRows (w : World) (v : Value) (xs : List (List Int)) : Prop := ∃ a c, v = .slice a xs.length c ∧ Rows w a xs
theorem IsRows.below {w w' : World} {v : Value} {xs : List (List Int)} (h : IsRows w v xs) (k : Below w.heap.size w w') : IsRows w' v xs := by
  obtain ⟨a, c, e, h⟩ := h
  exact ⟨a, c, e, h.below k⟩
theorem IsRows.nil (w : World) : IsRows w (.slice none 0 0) [] := ⟨none, 0, rfl, [], Row.nil, rfl, fun i u xs h => by simp at h⟩
theorem PmsV.rows {n : Nat} (hn : n ≤ 64) {w : World} {v : Value} {L : List (Pm n)} (h : PmsV w [] v L) : IsRows w v (L.map (·.l)) := by
  obtain ⟨a, c, vs, rfl, h1, h2⟩ := h
  refine ⟨a, c, by rw [List.length_map], vs, h1, by rw [List.length_map]; exact h2.1, fun i u xs hu hx => ?_⟩
  rw [List.getElem?_map] at hx
  cases hL : L[i]? with
  | none => rw [hL] at hx; cases hx
  | some x =>
    rw [hL] at hx
    cases hx
    obtain ⟨u', h3, h4⟩ := h2.2 i x hL
    rw [hu] at h3; cases h3
    obtain ⟨a', c', e, hi⟩ := h4.ints (by omega)
    exact ⟨a', c', e, hi⟩
theorem rows_same {w : World} {u u' : Value} {xs : List (List Int)} (h : IsRows w u xs) (h' : IsRows w u' xs) : Calls Tryz.prog 16 #[u, u'] w fun e w' => e = .returned (.bool true) ∧ Below w.heap.size w w' := by
  obtain ⟨a, c, rfl, h1⟩ := h
  obtain ⟨b, d, rfl, h2⟩ := h'
  refine (same47 a b c d xs xs w h1 h2).mono ?_
  rintro e w' ⟨rfl, q, rfl⟩
  exact ⟨by simp, below_self_drewN _ _⟩
theorem pair_val {d1 d2 : Int} {os1 os2 : List (List Int)} {rs1 rs2 : List (List (List Int))} (h : pairE d1 os1 rs1 d2 os2 rs2 = 0) : chkE d1 os1 rs1 = 0 ∧ chkE d2 os2 rs2 = 0 ∧ d1 = d2 := by
  unfold pairE at h
  by_cases h1 : chkE d1 os1 rs1 ≠ 0
  · rw [if_pos h1] at h; exact absurd h h1
  rw [if_neg h1] at h
  by_cases h2 : chkE d2 os2 rs2 ≠ 0
  · rw [if_pos h2] at h; exact absurd h h2
  rw [if_neg h2] at h
  by_cases h3 : d1 ≠ d2
  · rw [if_pos h3] at h; cases h
  exact ⟨by omega, by omega, by omega⟩
section
variable {w : World} {v v1 v2 : Value} {d d1 d2 : Int} {os os1 os2 : List (List Int)} {rs rs1 rs2 : List (List (List Int))}
theorem chain_grp (h : ChV w v d os rs) (hc : CapV w v) (hd : ¬ (8 < d ∧ d ≤ 64)) (h0 : chkE d os rs = 0) : ∃ n : Nat, d = n ∧ (0 < n ∧ n ≤ 8) ∧ GrG w v (Grp (n := n) (· ∈ grpV n os rs)) := by
  obtain ⟨h1, h2, h3⟩ := chkE_zero h0
  obtain ⟨n, rfl⟩ : ∃ n : Nat, d = n := ⟨d.toNat, by omega⟩
  rw [Int.toNat_natCast] at h3
  exact ⟨n, rfl, ⟨by omega, by omega⟩, grg_of h hc h3⟩
theorem list_in11 {n : Nat} {G : Pm n → Prop} {E : List (Pm n)} (hn : 0 < n ∧ n ≤ 8) (hG : IsG G) (h : GrG w v G) (hE : AllE E G) (h5 : E.length ≤ 5040) :
    Calls Tryz.prog 11 #[v] w fun e w' => ∃ a c, e = .returned (.tuple #[.slice a E.length c, .int .i64 0]) ∧ PmsV w' [] (.slice a E.length c) E ∧ Below w.heap.size w w' := by
  obtain ⟨O, R, hC, hcal⟩ := list87 hn hG h
  refine (hcal (by rw [hE.len hC]; exact h5)).mono ?_
  rintro e w' ⟨v', us, rfl, k1, k2, k3⟩
  rw [els_all hC hE] at k2
  have hul : us.length = E.length := k2.1
  obtain ⟨a, c, rfl, _⟩ := k1.row (by rw [hul]; unfold maxLen; omega)
  have hv := pms_ownB k1 (k2.extM (M' := []) (by simp)) (by omega)
  rw [hul] at hv
  exact ⟨a, c, by rw [hul], hv, k3⟩
theorem lists (h : ChV w v d os rs) (hc : CapV w v) (hd : ¬ (8 < d ∧ d ≤ 64)) : ∃ xs E,
    (∀ V, Below w.heap.size w V → Calls Tryz.prog 10 #[v] V fun e w' => ∃ u, e = .returned (.tuple #[u, .int .i64 E]) ∧ IsRows w' u xs ∧ Below V.heap.size V w') ∧
    (∀ V, Below w.heap.size w V → Calls Tryz.prog 11 #[v] V fun e w' => ∃ u, e = .returned (.tuple #[u, .int .i64 E]) ∧ IsRows w' u xs ∧ Below V.heap.size V w') := by
  by_cases h0 : chkE d os rs = 0
  · obtain ⟨n, rfl, hn, hg⟩ := chain_grp h hc hd h0
    obtain ⟨os', rs', _, _, _, hC⟩ := hg.vals ⟨hn.1, by omega⟩ Grp.isG
    have hE : AllE (elsF (orbV n os' rs') (repV n os' rs') n 0 (PlainPm.one n)) (Grp (n := n) (· ∈ grpV n os rs)) := ⟨els_lt hC (Nat.zero_add n) Grp.isG.one, fun x => mem_all hC⟩
    generalize elsF (orbV n os' rs') (repV n os' rs') n 0 (PlainPm.one n) = E at hE
    by_cases h5 : E.length ≤ 5040
    · refine ⟨E.map (·.l), 0, fun V hV => (list_in hn Grp.isG (hg.below hV) hE h5).mono ?_, fun V hV => (list_in11 hn Grp.isG (hg.below hV) hE h5).mono ?_⟩
      · rintro e w' ⟨a, c, rfl, k1, k2⟩
        exact ⟨_, rfl, k1.rows (by omega), k2⟩
      · rintro e w' ⟨a, c, rfl, k1, k2⟩
        exact ⟨_, rfl, k1.rows (by omega), k2⟩
    · refine ⟨[], 5, fun V hV => ?_, fun V hV => ?_⟩
      · obtain ⟨O, R, hC', hcal⟩ := list125o hn Grp.isG (hg.below hV)
        refine (hcal (by rw [hE.len hC']; omega)).mono ?_
        rintro e w' ⟨rfl, k2⟩
        exact ⟨_, rfl, .nil _, k2⟩
      · obtain ⟨O, R, hC', hcal⟩ := list87o hn Grp.isG (hg.below hV)
        refine (hcal (by rw [hE.len hC']; omega)).mono ?_
        rintro e w' ⟨rfl, k2⟩
        exact ⟨_, rfl, .nil _, k2⟩
  · refine ⟨[], chkE d os rs, fun V hV => (list125e (h.below hV) h0).mono ?_, fun V hV => (list87e (h.below hV) h0).mono ?_⟩
    · rintro e w' ⟨rfl, k2⟩
      exact ⟨_, rfl, .nil _, k2⟩
    · rintro e w' ⟨rfl, k2⟩
      exact ⟨_, rfl, .nil _, k2⟩
theorem pair_grp (h1 : ChV w v1 d1 os1 rs1) (h2 : ChV w v2 d2 os2 rs2) (hc1 : CapV w v1) (hc2 : CapV w v2) (hd : ¬ (8 < d1 ∧ d1 ≤ 64)) (h0 : pairE d1 os1 rs1 d2 os2 rs2 = 0) :
    ∃ n : Nat, (0 < n ∧ n ≤ 8) ∧ ∃ G1 G2 : Pm n → Prop, IsG G1 ∧ IsG G2 ∧ GrG w v1 G1 ∧ GrG w v2 G2 := by
  obtain ⟨e1, e2, rfl⟩ := pair_val h0
  obtain ⟨n, rfl, hn, g1⟩ := chain_grp h1 hc1 hd e1
  obtain ⟨m, e, _, g2⟩ := chain_grp h2 hc2 hd e2
  obtain rfl : n = m := by omega
  exact ⟨n, hn, _, _, Grp.isG, Grp.isG, g1, g2⟩
theorem idxs (h1 : ChV w v1 d1 os1 rs1) (h2 : ChV w v2 d2 os2 rs2) (hc1 : CapV w v1) (hc2 : CapV w v2) (hd : ¬ (8 < d1 ∧ d1 ≤ 64)) : ∃ (P : ByteArray → Prop) (E : Int), (∀ t t', P t → P t' → t = t') ∧
    (∀ V, Below w.heap.size w V → Calls Tryz.prog 12 #[v1, v2] V fun e w' => ∃ t, e = .returned (.tuple #[.string t, .int .i64 E]) ∧ P t ∧ Below V.heap.size V w') ∧
    (∀ V, Below w.heap.size w V → Calls Tryz.prog 13 #[v1, v2] V fun e w' => ∃ t, e = .returned (.tuple #[.string t, .int .i64 E]) ∧ P t ∧ Below V.heap.size V w') := by
  by_cases h0 : pairE d1 os1 rs1 d2 os2 rs2 = 0
  · obtain ⟨n, hn, G1, G2, i1, i2, g1, g2⟩ := pair_grp h1 h2 hc1 hc2 hd h0
    by_cases hs : ∀ x, G1 x → G2 x
    · obtain ⟨p1, q1, _, _, _, hC1⟩ := g1.vals ⟨hn.1, by omega⟩ i1
      obtain ⟨p2, q2, _, _, _, hC2⟩ := g2.vals ⟨hn.1, by omega⟩ i2
      refine ⟨fun t => IsNum t (szF (orbV n p2 q2) n 0 / szF (orbV n p1 q1) n 0), 0, fun t t' => IsNum.ext, fun V hV => (index12y hn i1 i2 (g1.below hV) (g2.below hV) hs).mono ?_, fun V hV => (index13y hn i1 i2 (g1.below hV) (g2.below hV) hs).mono ?_⟩
      · rintro e w' ⟨t, rfl, k1, k2⟩
        exact ⟨t, rfl, k1 _ _ _ _ hC1 hC2, k2⟩
      · rintro e w' ⟨t, rfl, k1, k2⟩
        exact ⟨t, rfl, k1 _ _ _ _ hC1 hC2, k2⟩
    · refine ⟨fun t => t = ⟨#[]⟩, 18, fun t t' e e' => e.trans e'.symm, fun V hV => (index12n hn i1 i2 (g1.below hV) (g2.below hV) hs).mono ?_, fun V hV => (index13n hn i1 i2 (g1.below hV) (g2.below hV) hs).mono ?_⟩
      · rintro e w' ⟨rfl, k2⟩
        exact ⟨_, rfl, rfl, k2⟩
      · rintro e w' ⟨rfl, k2⟩
        exact ⟨_, rfl, rfl, k2⟩
  · refine ⟨fun t => t = ⟨#[]⟩, pairE d1 os1 rs1 d2 os2 rs2, fun t t' e e' => e.trans e'.symm, fun V hV => (index12e (h1.below hV) (h2.below hV) h0).mono ?_, fun V hV => (index13e (h1.below hV) (h2.below hV) h0).mono ?_⟩
    · rintro e w' ⟨rfl, k2⟩
      exact ⟨_, rfl, rfl, k2⟩
    · rintro e w' ⟨rfl, k2⟩
      exact ⟨_, rfl, rfl, k2⟩
end
end Go.Proofs.YtbejhkojdiadaaaGreatDoor
namespace Go.Proofs.YtbejhkojdiadaaaGreatDoor
open Go.RowKit PlainPm
variable {w : World} {v1 v2 : Value} {d1 d2 : Int} {os1 os2 : List (List Int)} {rs1 rs2 : List (List (List Int))}
set_option maxRecDepth 100000 in
set_option maxHeartbeats 2000000 in
theorem cosets15e (h1 : ChV w v1 d1 os1 rs1) (h2 : ChV w v2 d2 os2 rs2) (hE : pairE d1 os1 rs1 d2 os2 rs2 ≠ 0) :
    Calls Tryz.prog 15 #[v1, v2] w fun r w' => r = .returned (.tuple #[.slice none 0 0, .int .i64 (pairE d1 os1 rs1 d2 os2 rs2)]) ∧ Below w.heap.size w w' := by
  have hbl := fun (V : World) (hV : Below w.heap.size w V) => index13e (h1.below hV) (h2.below hV) hE
  obtain ⟨r, hr⟩ : ∃ r, pairE d1 os1 rs1 d2 os2 rs2 = r := ⟨_, rfl⟩
  rw [hr] at hbl hE ⊢
  have hne : (r != 0) = true := by simp [hE]
  have hne2 : (r == 0) = false := by simp [hE]
  obtain ⟨a1, m1, c1, e1, rfl, _⟩ := h1
  obtain ⟨a2, m2, c2, e2, rfl, _⟩ := h2
  obtain ⟨X, hX⟩ : ∃ X, w.heap.size = X := ⟨_, rfl⟩
  obtain ⟨W0, hW0⟩ : ∃ W0, ((w.alloc (.cells #[.int .i64 d1, .slice a1 os1.length m1, .slice c1 rs1.length e1] 25)).alloc (.cells #[.int .i64 d2, .slice a2 os2.length m2, .slice c2 rs2.length e2] 25)) = W0 := ⟨_, rfl⟩
  have hF : Below w.heap.size w W0 ∧ W0.heap[X]? = some (.cells #[.int .i64 d1, .slice a1 os1.length m1, .slice c1 rs1.length e1] 25) ∧ W0.heap[X + 1]? = some (.cells #[.int .i64 d2, .slice a2 os2.length m2, .slice c2 rs2.length e2] 25) := by
    refine ⟨?_, ?_, ?_⟩
    · rw [← hW0]; exact alloc_b (alloc_b (Below.refl _ _) _) _
    · rw [← hW0, ← hX]; exact ((alloc_b (Below.refl _ _) _).block _ (by simp)).trans (box_al25 rfl _ _ _)
    · rw [← hW0]; exact box_al25 (by simp [hX]) _ _ _
  obtain ⟨q0, q1, q2, _⟩ := box_cells hF.2.1
  obtain ⟨p0, p1, p2, _⟩ := box_cells hF.2.2
  have hwW := hF.1
  have H := Lib.hid hbl
  clear hbl hF hE hr
  go_enter Tryz.func15, Tryz.ntmps15
  go_wp2_with (go_at_call 13; (with_reducible refine (H.out _ hwW).mono ?_); rintro e1 w1 ⟨rfl, k⟩
               have H1 := Lib.hid k; clear k)
  go_ret2
  exact ⟨rfl, below_trans hwW H1.out⟩
set_option maxRecDepth 100000 in
set_option maxHeartbeats 2000000 in
theorem cosets15n {n : Nat} (hn' : 0 < n ∧ n ≤ 8) {w : World} {v1 v2 : Value} {G1 G2 : Pm n → Prop} (hG1 : IsG G1) (hG2 : IsG G2) (h1 : GrG w v1 G1) (h2 : GrG w v2 G2) (hs : ¬ ∀ x, G1 x → G2 x) :
    Calls Tryz.prog 15 #[v1, v2] w fun r w' => r = .returned (.tuple #[.slice none 0 0, .int .i64 18]) ∧ Below w.heap.size w w' := by
  have hn : 0 < n ∧ n ≤ 64 := ⟨hn'.1, by omega⟩
  have hbl := fun (V : World) (hV : Below w.heap.size w V) => index13n hn' hG1 hG2 (h1.below hV) (h2.below hV) hs
  obtain ⟨T, t, ab, ao, c, bb, bo, e, hv1, hl1⟩ := h1.lev hG1 ⟨hn.1, hn.2⟩
  obtain ⟨T', t', ab', ao', c', bb', bo', e', hv2, hl2⟩ := h2.lev hG2 ⟨hn.1, hn.2⟩
  subst hv1 hv2
  unfold cv at hbl ⊢
  obtain ⟨X, hX⟩ : ∃ X, w.heap.size = X := ⟨_, rfl⟩
  obtain ⟨W0, hW0⟩ : ∃ W0, ((w.alloc (.cells #[.int .i64 (n : Int), .slice (some ⟨ab, ao, none⟩) n c, .slice (some ⟨bb, bo, none⟩) n e] 25)).alloc (.cells #[.int .i64 (n : Int), .slice (some ⟨ab', ao', none⟩) n c', .slice (some ⟨bb', bo', none⟩) n e'] 25)) = W0 := ⟨_, rfl⟩
  have hF : Below w.heap.size w W0 ∧ W0.heap[X]? = some (.cells #[.int .i64 (n : Int), .slice (some ⟨ab, ao, none⟩) n c, .slice (some ⟨bb, bo, none⟩) n e] 25) ∧ W0.heap[X + 1]? = some (.cells #[.int .i64 (n : Int), .slice (some ⟨ab', ao', none⟩) n c', .slice (some ⟨bb', bo', none⟩) n e'] 25) := by
    refine ⟨?_, ?_, ?_⟩
    · rw [← hW0]; exact alloc_b (alloc_b (Below.refl _ _) _) _
    · rw [← hW0, ← hX]; exact ((alloc_b (Below.refl _ _) _).block _ (by simp)).trans (box_al25 rfl _ _ _)
    · rw [← hW0]; exact box_al25 (by simp [hX]) _ _ _
  obtain ⟨q0, q1, q2, _⟩ := box_cells hF.2.1
  obtain ⟨p0, p1, p2, _⟩ := box_cells hF.2.2
  have hwW := hF.1
  have H := Lib.hid hbl
  clear hbl hF h1 h2 hl1 hl2
  go_enter Tryz.func15, Tryz.ntmps15
  go_wp2_with (go_at_call 13; (with_reducible refine (H.out _ hwW).mono ?_); rintro e1 w1 ⟨rfl, k⟩
               have H1 := Lib.hid k; clear k)
  go_ret2
  exact ⟨rfl, below_trans hwW H1.out⟩
end Go.Proofs.YtbejhkojdiadaaaGreatDoor
namespace Go.Proofs.YtbejhkojdiadaaaGreatDoor
open Go.RowKit PlainPm
section
variable {w : World} {v1 v2 : Value} {d1 d2 : Int} {os1 os2 : List (List Int)} {rs1 rs2 : List (List (List Int))}
theorem cos_rd {n : Nat} (hn : n ≤ 64) {B : Nat} {w' : World} {v : Value} {c : Int} {CL : List (Pm n)} (h : (CL.length ≤ 5040 ∧ c = 0 ∧ ∃ us, Own w' B v 41 us ∧ PmL w' [] us CL) ∨ (5040 < CL.length ∧ c = 5 ∧ v = .slice none 0 0)) :
    (CL.length ≤ 5040 ∧ c = 0 ∧ IsRows w' v (CL.map (·.l))) ∨ (¬ CL.length ≤ 5040 ∧ c = 5 ∧ IsRows w' v []) := by
  rcases h with ⟨h1, h2, us, k1, k2⟩ | ⟨h1, h2, rfl⟩
  · exact .inl ⟨h1, h2, (pms_ownB k1 k2 (by omega)).rows hn⟩
  · exact .inr ⟨by omega, h2, .nil _⟩
theorem coss (h1 : ChV w v1 d1 os1 rs1) (h2 : ChV w v2 d2 os2 rs2) (hc1 : CapV w v1) (hc2 : CapV w v2) (hd : ¬ (8 < d1 ∧ d1 ≤ 64)) : ∃ xs E,
    (∀ V, Below w.heap.size w V → Calls Tryz.prog 14 #[v1, v2] V fun e w' => ∃ u, e = .returned (.tuple #[u, .int .i64 E]) ∧ IsRows w' u xs ∧ Below V.heap.size V w') ∧
    (∀ V, Below w.heap.size w V → Calls Tryz.prog 15 #[v1, v2] V fun e w' => ∃ u, e = .returned (.tuple #[u, .int .i64 E]) ∧ IsRows w' u xs ∧ Below V.heap.size V w') := by
  by_cases h0 : pairE d1 os1 rs1 d2 os2 rs2 = 0
  · obtain ⟨n, hn, G1, G2, i1, i2, g1, g2⟩ := pair_grp h1 h2 hc1 hc2 hd h0
    by_cases hs : ∀ x, G1 x → G2 x
    · obtain ⟨p1, q1, _, _, _, hC1⟩ := g1.vals ⟨hn.1, by omega⟩ i1
      obtain ⟨p2, q2, _, _, _, hC2⟩ := g2.vals ⟨hn.1, by omega⟩ i2
      obtain ⟨CL, hCL⟩ : ∃ CL, CosSet G1 G2 CL := ⟨_, cos_of hC1 hC2⟩
      have c14 := fun (V : World) (hV : Below w.heap.size w V) => cosets14 hn i1 i2 (g1.below hV) (g2.below hV) hs hCL
      have c15 := fun (V : World) (hV : Below w.heap.size w V) => cosets15 hn i1 i2 (g1.below hV) (g2.below hV) hs hCL
      by_cases h5 : CL.length ≤ 5040
      · refine ⟨CL.map (·.l), 0, fun V hV => (c14 V hV).mono ?_, fun V hV => (c15 V hV).mono ?_⟩
        · rintro e w' ⟨v, c, rfl, k1, k2⟩
          rcases cos_rd (by omega) k1 with ⟨_, rfl, k3⟩ | ⟨k3, _⟩
          · exact ⟨_, rfl, k3, k2⟩
          · exact absurd h5 k3
        · rintro e w' ⟨v, c, rfl, k1, k2⟩
          rcases cos_rd (by omega) k1 with ⟨_, rfl, k3⟩ | ⟨k3, _⟩
          · exact ⟨_, rfl, k3, k2⟩
          · exact absurd h5 k3
      · refine ⟨[], 5, fun V hV => (c14 V hV).mono ?_, fun V hV => (c15 V hV).mono ?_⟩
        · rintro e w' ⟨v, c, rfl, k1, k2⟩
          rcases cos_rd (by omega) k1 with ⟨k3, _⟩ | ⟨_, rfl, k3⟩
          · exact absurd k3 h5
          · exact ⟨_, rfl, k3, k2⟩
        · rintro e w' ⟨v, c, rfl, k1, k2⟩
          rcases cos_rd (by omega) k1 with ⟨k3, _⟩ | ⟨_, rfl, k3⟩
          · exact absurd k3 h5
          · exact ⟨_, rfl, k3, k2⟩
    · refine ⟨[], 18, fun V hV => (cosets14n hn i1 i2 (g1.below hV) (g2.below hV) hs).mono ?_, fun V hV => (cosets15n hn i1 i2 (g1.below hV) (g2.below hV) hs).mono ?_⟩
      · rintro e w' ⟨rfl, k2⟩
        exact ⟨_, rfl, .nil _, k2⟩
      · rintro e w' ⟨rfl, k2⟩
        exact ⟨_, rfl, .nil _, k2⟩
  · refine ⟨[], pairE d1 os1 rs1 d2 os2 rs2, fun V hV => (cosets14e (h1.below hV) (h2.below hV) h0).mono ?_, fun V hV => (cosets15e (h1.below hV) (h2.below hV) h0).mono ?_⟩
    · rintro e w' ⟨rfl, k2⟩
      exact ⟨_, rfl, .nil _, k2⟩
    · rintro e w' ⟨rfl, k2⟩
      exact ⟨_, rfl, .nil _, k2⟩
end
end Go.Proofs.YtbejhkojdiadaaaGreatDoor
namespace Go.Proofs.YtbejhkojdiadaaaGreatDoor
open Go.RowKit PlainPm
set_option maxRecDepth 100000 in
set_option maxHeartbeats 2000000 in
theorem vast10 {w : World} {v : Value} {d : Int} {os : List (List Int)} {rs : List (List (List Int))} (h : ChV w v d os rs) :
    Calls Tryz.prog 8 #[v] w fun e w' => (∃ B, e = .returned (.bool B) ∧ (B = false → ¬ (8 < d ∧ d ≤ 64))) ∧ Below w.heap.size w w' := by
  obtain ⟨a, c, b, e, rfl, h1, h2⟩ := h
  obtain ⟨X, hX⟩ : ∃ X, w.heap.size = X := ⟨_, rfl⟩
  obtain ⟨lo, hlo⟩ : ∃ l, os.length = l := ⟨_, rfl⟩
  obtain ⟨lr, hlr⟩ : ∃ l, rs.length = l := ⟨_, rfl⟩
  rw [hlo, hlr]
  obtain ⟨W1, hW1⟩ : ∃ W1, W1 = w.alloc (.cells #[.int .i64 d, .slice a lo c, .slice b lr e] 25) := ⟨_, rfl⟩
  have hbw : Below w.heap.size w W1 := by rw [hW1]; exact alloc_b (Below.refl _ _) _
  obtain ⟨x0, x1, x2⟩ : W1.cell? ⟨X, 0, none⟩ = some (.int .i64 d) ∧ W1.cell? ⟨X, 1, none⟩ = some (.slice a lo c) ∧ W1.cell? ⟨X, 2, none⟩ = some (.slice b lr e) := by rw [hW1]; exact box3a w _ _ _ X hX
  have hm1 := h1.len
  have hm2 := h2.len
  rw [hlo] at hm1
  rw [hlr] at hm2
  have H := Lib.hid (And.intro h1 (And.intro h2 (And.intro hlo (And.intro hlr (And.intro hbw hX)))))
  clear h1 h2 hlo hlr hbw
  by_cases hA : 8 < d ∧ d ≤ 64
  · have g1 : decide (8 < d) = true := by simp [hA.1]
    have g2 : decide (d ≤ 64) = true := by simp [hA.2]
    clear hA x0 x1 x2
    go_enter Tryz.func8, Tryz.ntmps8
    try rw [hX]
    go_wp2_with fail
    go_ret
    refine ⟨⟨true, rfl, fun h => by cases h⟩, ?_⟩
    rw [← hW1]; have := H.out.2.2.2.2.1; rwa [H.out.2.2.2.2.2] at this
  · have HA := Lib.hid hA
    have hg : decide (8 < d) = false ∨ (decide (8 < d) = true ∧ decide (d ≤ 64) = false) := by
      by_cases h8 : 8 < d
      · exact .inr ⟨by simp [h8], by simp; omega⟩
      · exact .inl (by simp [h8])
    clear hA
    by_cases hlo12 : 12 < lo
    · have g3 : decide ((12 : Int) < (lo : Int)) = true := by simp; omega
      have g4 : decide (12 < lo) = true := by simp [hlo12]
      clear x0 x1 x2
      rcases hg with g1 | ⟨g1, g2⟩
      all_goals
        go_enter Tryz.func8, Tryz.ntmps8
        try rw [hX]
        go_wp2_with fail
        go_ret
        refine ⟨⟨true, rfl, fun h => by cases h⟩, ?_⟩
        rw [← hW1]; have := H.out.2.2.2.2.1; rwa [H.out.2.2.2.2.2] at this
    by_cases hlr12 : 12 < lr
    · have g3 : decide ((12 : Int) < (lo : Int)) = false := by simp; omega
      have g4 : decide (12 < lo) = false := by simp [hlo12]
      have g5 : decide ((12 : Int) < (lr : Int)) = true := by simp; omega
      have g6 : decide (12 < lr) = true := by simp [hlr12]
      clear x0 x1 x2
      rcases hg with g1 | ⟨g1, g2⟩
      all_goals
        go_enter Tryz.func8, Tryz.ntmps8
        try rw [hX]
        go_wp2_with fail
        go_ret
        refine ⟨⟨true, rfl, fun h => by cases h⟩, ?_⟩
        rw [← hW1]; have := H.out.2.2.2.2.1; rwa [H.out.2.2.2.2.2] at this
    have g3 : decide ((12 : Int) < (lo : Int)) = false := by simp; omega
    have g4 : decide (12 < lo) = false := by simp [hlo12]
    have g5 : decide ((12 : Int) < (lr : Int)) = false := by simp; omega
    have g6 : decide (12 < lr) = false := by simp [hlr12]
    have hlo13 : lo ≤ 12 := by omega
    have hlr13 : lr ≤ 12 := by omega
    clear hlo12 hlr12
    rcases hg with g1 | ⟨g1, g2⟩
    all_goals
      go_enter Tryz.func8, Tryz.ntmps8
      try rw [hX]
      go_wp2_with fail
      try rw [← hW1]
      clear hW1
      go_loopw [3] (fun i wr => ∃ (k : Nat), k ≤ lo ∧ i = .int .i64 (k : Int) ∧ wr = W1) (fun i _ => lo - (intOf i).toNat)
      case atStart => exact ⟨0, by omega, rfl, rfl⟩
      case round =>
        obtain ⟨k, hk, rfl, rfl⟩ := hrel
        by_cases hkl : k < lo
        · obtain ⟨ag, ao, ab, ac, hae, _, hac, _⟩ := (H.out.1.below H.out.2.2.2.2.1).at_ (k := k) (by rw [H.out.2.2.1]; exact hkl)
          subst hae
          obtain ⟨L, hL⟩ : ∃ L, (os[k]?.getD []).length = L := ⟨_, rfl⟩
          rw [hL] at hac
          clear hL
          have hk1 : (k : Int) < lo := by omega
          by_cases hL12 : 12 < L
          · have e1 : decide ((12 : Int) < (L : Int)) = true := by simp; omega
            go_wp2_with fail
            go_ret
            refine ⟨⟨true, rfl, fun h => by cases h⟩, ?_⟩
            have := H.out.2.2.2.2.1; rwa [H.out.2.2.2.2.2] at this
          · have e1 : decide ((12 : Int) < (L : Int)) = false := by simp; omega
            go_wp2_with fail
            exact ⟨⟨k + 1, by omega, by go_num, trivial⟩, by simp [intOf]; omega⟩
        · obtain rfl : k = lo := by omega
          have hk1 : ¬ (k : Int) < k := by omega
          go_wp2_with fail
          go_loopw [4, 5] (fun i _ wq => ∃ (m : Nat), m ≤ lr ∧ i = .int .i64 (m : Int) ∧ wq = wr) (fun i _ _ => lr - (intOf i).toNat)
          case atStart => exact ⟨0, by omega, rfl, rfl⟩
          case round =>
            obtain ⟨m, hm, rfl, rfl⟩ := hrel
            by_cases hml : m < lr
            · obtain ⟨bg, bo, bb, bc, hbe, _, hbc, hri⟩ := (H.out.2.1.below H.out.2.2.2.2.1).at_ (k := m) (by rw [H.out.2.2.2.1]; exact hml)
              subst hbe
              have hRm := hri.len
              obtain ⟨R, hR⟩ : ∃ R, (rs[m]?.getD []).length = R := ⟨_, rfl⟩
              rw [hR] at hbc hRm
              have HR := Lib.hid (And.intro hR hri)
              clear hR hri
              have hm1' : (m : Int) < lr := by omega
              by_cases hR12 : 12 < R
              · have e1 : decide ((12 : Int) < (R : Int)) = true := by simp; omega
                go_wp2_with fail
                go_ret
                refine ⟨⟨true, rfl, fun h => by cases h⟩, ?_⟩
                have := H.out.2.2.2.2.1; rwa [H.out.2.2.2.2.2] at this
              · have e1 : decide ((12 : Int) < (R : Int)) = false := by simp; omega
                go_wp2_with fail
                obtain ⟨wo, rfl⟩ : ∃ wo : World, wo = wr := ⟨_, rfl⟩
                go_loopw [5] (fun i wq => ∃ (q : Nat), q ≤ R ∧ i = .int .i64 (q : Int) ∧ wq = wo) (fun i _ => R - (intOf i).toNat)
                case atStart => exact ⟨0, by omega, rfl, rfl⟩
                case round =>
                  obtain ⟨q, hq, rfl, rfl⟩ := hrel
                  by_cases hqR : q < R
                  · obtain ⟨cg, co, cb, cc, hce, _, hcc, _⟩ := HR.out.2.at_ (k := q) (by rw [HR.out.1]; exact hqR)
                    subst hce
                    obtain ⟨Q, hQ⟩ : ∃ Q, (((rs[m]?.getD [])[q]?).getD []).length = Q := ⟨_, rfl⟩
                    rw [hQ] at hcc
                    clear hQ
                    have hq1 : (q : Int) < R := by omega
                    by_cases hQ12 : 12 < Q
                    · have e2 : decide ((12 : Int) < (Q : Int)) = true := by simp; omega
                      go_wp2_with fail
                      go_ret
                      refine ⟨⟨true, rfl, fun h => by cases h⟩, ?_⟩
                      have := H.out.2.2.2.2.1; rwa [H.out.2.2.2.2.2] at this
                    · have e2 : decide ((12 : Int) < (Q : Int)) = false := by simp; omega
                      go_wp2_with fail
                      exact ⟨⟨q + 1, by omega, by go_num, trivial⟩, by simp [intOf]; omega⟩
                  · obtain rfl : q = R := by omega
                    have hq1 : ¬ (q : Int) < q := by omega
                    go_wp2_with fail
                    exact ⟨⟨m + 1, by omega, by go_num, trivial⟩, by simp [intOf]; omega⟩
            · obtain rfl : m = lr := by omega
              have hm1' : ¬ (m : Int) < m := by omega
              go_wp2_with fail
              refine bodyPost_ret (v := .bool false) (by simp [results, Tryz.results8, go_sem]) rfl ?_
              refine ⟨by first | exact ⟨false, rfl, fun _ => HA.out⟩ | exact .inl ⟨rfl, fun h8 => by have h9 := HA.out; omega⟩, ?_⟩
              have := H.out.2.2.2.2.1; rwa [H.out.2.2.2.2.2] at this
end Go.Proofs.YtbejhkojdiadaaaGreatDoor
