/- List: the program's. · Plain: the least elements of the cosets of a group in another one, and how many there are. · The law's awake: the chapter's examples. · Rank's functions at the chain of a group: by the list of all elements. · Regions within a round of a range over a function: they go as they go outside, where no operation defers. -/
import Derived.Test.YtbejhkojdiadaaaGreatDoorRk01
import Derived.Test.YtbejhkojdiadaaaGreatDoorRk02
import Derived.Test.YtbejhkojdiadaaaGreatDoorRk03
import Derived.Test.YtbejhkojdiadaaaGreatDoorRk04
import Derived.Test.YtbejhkojdiadaaaGreatDoorRk05
import Derived.Test.YtbejhkojdiadaaaGreatDoorRk06
import Derived.Test.YtbejhkojdiadaaaGreatDoorRk07
import Derived.Test.YtbejhkojdiadaaaGreatDoorRk08
import Derived.Test.YtbejhkojdiadaaaGreatDoorRk09
import Derived.Test.YtbejhkojdiadaaaGreatDoorRk10
import Derived.Test.YtbejhkojdiadaaaGreatDoorRk11
import Derived.Test.YtbejhkojdiadaaaGreatDoorRk12
import Derived.Test.YtbejhkojdiadaaaGreatDoorRk13
import Derived.Test.YtbejhkojdiadaaaGreatDoorRk14
import Derived.Test.YtbejhkojdiadaaaGreatDoorRk15
import Derived.Test.YtbejhkojdiadaaaGreatDoorRk16
import Derived.Test.YtbejhkojdiadaaaGreatDoorProg
import Derived.Sort.BigQuietIn
import Derived.WalkKit
import Derived.WalkSpells
import Derived.BigQuiet
import Derived.Deep.QuietTactic
import Derived.Deep.LoopGhost
import Derived.Lib.Hide
import Derived.Maps.AppendAt
import Derived.Deep.AppendLies
import Derived.StillTailTactics
import Derived.Laws.CopyOwn
import Derived.Deep.OwnRows
import Derived.Deep.DeepCutAuto
import Derived.Laws.Cover3
import Derived.Deep.RegionHeld3
import Derived.RangeFuncRecord
import Derived.Lib.SlicesSearch
import Derived.RangeFuncBox
import Derived.RangeFuncLeaves
import Derived.RangeFuncWrites
import Derived.RangeFuncFrom
import Derived.Shelf.Abstract
import Derived.OwnWalkIn
import Derived.TacticsInMore
import Derived.LoopNIn
import Derived.LoopIn
import Derived.Shelf.GgSortFunc.Insertion
import Derived.Shelf.SlIter.Collect
import Derived.Shelf.Sort.Plain
import Derived.Deep.RegionLaw
import Derived.ControlIn
import Derived.Deep.AppendSrc
set_option linter.unusedSimpArgs false
set_option linter.unusedVariables false
namespace Go.Proofs.YtbejhkojdiadaaaGreatDoor
open Go.RowKit PlainPm
attribute [local go_sem] Oper.semAt_some
theorem app1Op {F : Fence} {N : Nat} {P : Program} {w : World} {o : Oper} {a : Act} {Q : Exit → Act → World → Prop} {K : Act → World → Prop} (s x : Operand) (T e : TypeId)
    (ho : o.op = .call { callee := .builtin .append, args := #[s, x], argTypes := #[T, T] })
    (i : TypeInfo) (z : Value) (bytes : Nat) (ht : P.underlying T = some (.slice e)) (hi : P.info? e = some i) (hz : i.zero = some z)
    (hsize : i.size = 1) (hby : i.bytes = bytes) (hzs : z.cells.size = 1) (hb64 : bytes ≤ 64)
    (B : Nat) (u : Value) (v : Value) (xs : List Value) (hs : a.eval s = v) (hown : Own w B v e xs) (hx : a.eval x = .slice (some ⟨w.heap.size, 0, none⟩) 1 1)
    (h1 : u.oneCell' = true) (hlen : xs.length < 1099511627776) (hB : B ≤ w.heap.size)
    (h : ∀ v' w', Own w' B v' e (xs ++ [u]) → w.grownBy w' v.ownBlock → (v'.ownBlock = v.ownBlock ∨ ∃ g, v'.ownBlock = some g ∧ w.heap.size ≤ g) → K (a.put o.dst v') w') :
    o.wpIn F N P a (w.alloc (.cells #[u] e)) K Q := by
  obtain ⟨v', w', hr, h2, h3, _, h5⟩ := run_append_own_at (P := P) (w.alloc (.cells #[u] e)) B T o.type e i z 1 bytes ht hi hz hsize hby hzs (by omega) v xs.length xs (hown.alloc _) ⟨w.heap.size, 0, none⟩ 1 1 [u] rfl (cell_one_new _ _ _)
    (by intro y hy; rw [List.mem_singleton.1 hy]; exact h1) (by unfold maxLen; omega) (Nat.le_trans (Nat.mul_le_mul_left _ hb64) (by omega)) (by simp; omega)
  unfold Oper.wpIn
  refine ⟨?_, ?_⟩
  · simp [Oper.about, ho, resolve, Target.leads, Sem.run_pure]
  · rw [Oper.semAt_plain F _ _ (by rw [ho]; intro c hc'; cases hc')]
    simp [execOp, ho, resolve, invoke, builtin, hs, hx, hr, Result.andThen]
    refine h _ _ (by unfold Own; rw [List.length_append]; exact h2) ((grown_alloc w _ _).trans h3) ?_
    rcases h5 with h5 | h5
    · exact .inl h5
    · exact .inr ⟨_, h5, by simp⟩
section
variable {n : Nat}
structure LsI (S : List Nat) (Y D : Nat) (v : Value) (us : List Value) (s : List (Pm n)) (M : List Nat) (A : World) : Prop where
  m : M = Y :: v.ownBlock.toList
  y : A.heap[Y]? = some (.cells #[v] 28 (0, 0))
  own : Own A D v 41 us
  pml : PmL A (S ++ M) us s
  sl : ∀ m ∈ S, m < A.heap.size
theorem PmL.kept' {w w' : World} {M M' S : List Nat} {us : List Value} {l : List (Pm n)} (h : PmL w M us l) (k : Kept w w' S) (hS : ∀ m ∈ S, m ∈ M) (hM : ∀ m ∈ M', m ∈ M) : PmL w' M' us l :=
  ⟨h.1, fun i x hx => by obtain ⟨u, hu, hp⟩ := h.2 i x hx; exact ⟨u, hu, (hp.kept (k.mono hS)).ext (fun m hm => .inl (hM m hm))⟩⟩
theorem Kept.trans' {a b c : World} {S S' : List Nat} (h : Kept a b S) (k : Kept b c S') : Kept a c (S ++ S') :=
  (h.mono (fun m hm => List.mem_append_left _ hm)).trans (k.mono (fun m hm => List.mem_append_right _ hm))
theorem clone67v (hn : 0 < n ∧ n ≤ 64) {w : World} {M : List Nat} {v : Value} {x : Pm n} (h : PmV w M v x) : Calls Tryz.prog 40 #[v] w fun e w' => ∃ v', e = .returned v' ∧ NewPm w w' v' x ∧ Below w.heap.size w w' := by
  obtain ⟨a, c, rfl, hi⟩ := h.ints (by omega)
  have hl := x.ok.1
  refine (clone67 a c x.l w hi (by omega)).mono ?_
  rintro e w' ⟨v, rfl, ho, hb⟩
  obtain ⟨g, cap, rfl, _⟩ := ho.form (by rw [ints_len]; omega)
  rw [ints_len, hl] at ho ⊢
  exact ⟨_, rfl, NewPm.of_own ho (Nat.le_refl _) rfl, hb⟩
theorem LsI.lt {S : List Nat} {Y D : Nat} {v : Value} {us : List Value} {s : List (Pm n)} {M : List Nat} {A : World} (h : LsI S Y D v us s M A) : ∀ m ∈ M, m < A.heap.size := fun m hm => by
  rw [h.m] at hm
  rcases List.mem_cons.1 hm with e | hm
  · rw [e]; exact (Array.getElem?_eq_some_iff.1 h.y).1
  · exact (h.own.block_lt (mem_ob.1 hm)).1
theorem LsI.turn {S : List Nat} {Y D : Nat} {v : Value} {us : List Value} {s : List (Pm n)} {M : List Nat} {A B : World} {row : Option Nat} (h : LsI S Y D v us s M A) (k : Turn A B row) : LsI S Y D v us s M B :=
  ⟨h.m, k.cells h.y, h.own.turn k, h.pml.up k.up, fun m hm => Nat.lt_of_lt_of_le (h.sl m hm) k.up.size⟩
theorem LsI.grow {S : List Nat} {Y D : Nat} {v v' u : Value} {us : List Value} {s : List (Pm n)} {x : Pm n} {M : List Nat} {A w7 w11 : World} (h : LsI S Y D v us s M A) (hY : Y < D) (b7 : Below A.heap.size A w7) (hu : NewPm A w7 u x)
    (o : Own w11 D v' 41 (us ++ [u])) (g : w7.grownBy w11 v.ownBlock) (loc : v'.ownBlock = v.ownBlock ∨ ∃ g, v'.ownBlock = some g ∧ w7.heap.size ≤ g) :
    ∃ M', LsI S Y D v' (us ++ [u]) (s ++ [x]) M' (w11.setCell ⟨Y, 0, none⟩ v') ∧ Stp A M (w11.setCell ⟨Y, 0, none⟩ v') M' := by
  have hyM : Y ∈ M := by rw [h.m]; exact List.mem_cons_self ..
  have hvM : ∀ k, v.ownBlock = some k → k ∈ M := fun k e => by rw [h.m]; exact List.mem_cons_of_mem _ (mem_ob.2 e)
  have ltY := (Array.getElem?_eq_some_iff.1 h.y).1
  have y7 : w7.heap[Y]? = some (.cells #[v] 28 (0, 0)) := (b7.block Y ltY).trans h.y
  have y11 : w11.heap[Y]? = some (.cells #[v] 28 (0, 0)) := (g.block Y (Array.getElem?_eq_some_iff.1 y7).1 (fun e => by have := (h.own.block_lt e.symm).2; omega)).trans y7
  have K2 : Kept w7 w11 M := Kept.ofGrown g hvM
  have K3 : Kept w11 (w11.setCell ⟨Y, 0, none⟩ v') M := Kept.ofGrown (grown_put 0 v') (fun k e => by cases e; exact hyM)
  have hnew : ∀ m ∈ Y :: v'.ownBlock.toList, m ∈ M ∨ w7.heap.size ≤ m := fun m hm => by
    rcases List.mem_cons.1 hm with e | hm
    · exact .inl (e ▸ hyM)
    · have hm := mem_ob.1 hm
      rcases loc with h1 | ⟨k, h1, h2⟩
      · exact .inl (hvM m (by rw [← h1]; exact hm))
      · rw [h1] at hm; cases hm; exact .inr h2
  have S7 : Stp w7 M (w11.setCell ⟨Y, 0, none⟩ v') (Y :: v'.ownBlock.toList) := ⟨K2.trans K3, hnew⟩
  have SA : Stp A M (w11.setCell ⟨Y, 0, none⟩ v') (Y :: v'.ownBlock.toList) := (Stp.below b7).trans S7
  have app : ∀ {B C : World} {N N' : List Nat}, Stp B N C N' → Stp B (S ++ N) C (S ++ N') := fun {B C N N'} hk => ⟨hk.kept.mono (fun m hm => List.mem_append_right _ hm), fun m hm => by
    rcases List.mem_append.1 hm with h1 | h1
    · exact .inl (List.mem_append_left _ h1)
    · rcases hk.new m h1 with h2 | h2
      · exact .inl (List.mem_append_right _ h2)
      · exact .inr h2⟩
  exact ⟨_, ⟨rfl, box1_set y11, o.lowset hY, (h.pml.stp (app SA)).snoc ((hu.pm (fun m hm => by
    rcases List.mem_append.1 hm with h1 | h1
    · exact h.sl m h1
    · exact h.lt m h1)).stp (app S7)), fun m hm => Nat.lt_of_lt_of_le (h.sl m hm) SA.kept.size⟩, SA⟩
theorem two_setG {W : World} {p q : Nat} {a b v u : Value} {t s : TypeId} (hpq : p ≠ q) (h2 : W.heap[p]? = some (.cells #[a] t (0, 0))) (h3 : W.heap[q]? = some (.cells #[b] s (0, 0))) :
    ((W.setCell ⟨p, 0, none⟩ v).setCell ⟨q, 0, none⟩ u).heap[p]? = some (.cells #[v] t (0, 0)) ∧ ((W.setCell ⟨p, 0, none⟩ v).setCell ⟨q, 0, none⟩ u).heap[q]? = some (.cells #[u] s (0, 0)) ∧
    Kept W ((W.setCell ⟨p, 0, none⟩ v).setCell ⟨q, 0, none⟩ u) [p, q] ∧ ∀ k, k ≠ p → k ≠ q → ((W.setCell ⟨p, 0, none⟩ v).setCell ⟨q, 0, none⟩ u).heap[k]? = W.heap[k]? := by
  have other : ∀ (W : World) (b k : Nat) (v : Value), k ≠ b → (W.setCell ⟨b, 0, none⟩ v).heap[k]? = W.heap[k]? := fun W b k v h => by
    simp [World.setCell, Array.getElem?_modify, Ne.symm h]
  have e2 := box1_set (v' := v) h2
  have e3 : (W.setCell ⟨p, 0, none⟩ v).heap[q]? = some (.cells #[b] s (0, 0)) := (other _ _ _ _ (Ne.symm hpq)).trans h3
  refine ⟨(other _ _ _ _ hpq).trans e2, box1_set e3, ⟨rfl, rfl, rfl, by simp [World.setCell], fun k hk hn => ?_⟩, fun k h1 h2 => (other _ _ _ _ h2).trans (other _ _ _ _ h1)⟩
  exact (other _ _ _ _ (fun e => hn (by simp [e]))).trans (other _ _ _ _ (fun e => hn (by simp [e])))
set_option maxRecDepth 100000 in
set_option maxHeartbeats 4000000 in
theorem list125 (hn' : 0 < n ∧ n ≤ 8) {w : World} {v1 : Value} {G : Pm n → Prop} (hG : IsG G) (h1 : GrG w v1 G) :
    ∃ O R, ChG G O R ∧ (szF O n 0 ≤ 5040 → Calls Tryz.prog 10 #[v1] w fun e w' => ∃ v us, e = .returned (.tuple #[v, .int .i64 0]) ∧ Own w' w.heap.size v 41 us ∧ PmL w' v.ownBlock.toList us (elsF O R n 0 (PlainPm.one n)) ∧ Below w.heap.size w w') := by
  have hn : 0 < n ∧ n ≤ 64 := ⟨hn'.1, by omega⟩
  obtain ⟨os, rs, hch, hc0⟩ := h1.chk hn hG
  have hck := fun (V : World) (hV : Below w.heap.size w V) => chk54 (hch.below hV)
  simp only [hc0] at hck
  obtain ⟨T1, t1, ab, ao, c, bb, bo, e, hv1, hl1⟩ := h1.lev hG ⟨hn.1, hn.2⟩
  subst hv1
  have hC := t1.chG hG
  obtain ⟨O, hO⟩ : ∃ O, orbO T1 = O := ⟨_, rfl⟩
  obtain ⟨R, hR⟩ : ∃ R, PlainPm.repT T1 = R := ⟨_, rfl⟩
  have hC' : ChG G O R := by rw [← hO, ← hR]; exact hC
  rw [hO, hR] at hl1
  refine ⟨O, R, hC', fun hsz => ?_⟩
  have hFl := els_len hC' (f := n) (i := 0) (y := PlainPm.one n) (Nat.zero_add n)
  obtain ⟨F, hF⟩ : ∃ F, elsF O R n 0 (PlainPm.one n) = F := ⟨_, rfl⟩
  rw [hF] at hFl ⊢
  have hF5 : F.length ≤ 5040 := by omega
  obtain ⟨i27, hi27, hz27, hs27, hb27⟩ := info_parts Tryz.info41
  have I27 := Lib.hid (And.intro hi27 (And.intro hz27 (And.intro hs27 hb27)))
  clear hi27 hz27 hs27 hb27
  obtain ⟨X, hX⟩ : ∃ X, w.heap.size = X := ⟨_, rfl⟩
  obtain ⟨W1, hW1⟩ : ∃ W1, (((w.alloc (.cells #[.int .i64 (n : Int), .slice (some ⟨ab, ao, none⟩) n c, .slice (some ⟨bb, bo, none⟩) n e] 25)).alloc (.cells #[.slice none 0 0] 28)).alloc (.cells #[.int .i64 0] 29)) = W1 := ⟨_, rfl⟩
  have hszw : W1.heap.size = X + 3 := by rw [← hW1]; simp [hX]
  have hwW : Below w.heap.size w W1 := hW1 ▸ alloc_b (alloc_b (alloc_b (Below.refl _ _) _) _) _
  have k0 : W1.heap[X]? = some (.cells #[.int .i64 (n : Int), .slice (some ⟨ab, ao, none⟩) n c, .slice (some ⟨bb, bo, none⟩) n e] 25) := by
    rw [← hW1]
    exact ((alloc_b (alloc_b (Below.refl _ _) _) _).block X (by simp; omega)).trans (box_al25 hX _ _ _)
  have k1 : W1.heap[X + 1]? = some (.cells #[.slice none 0 0] 28 (0, 0)) := by
    rw [← hW1]
    exact ((alloc_b (Below.refl _ _) _).block (X + 1) (by simp; omega)).trans (al_at (by simp [hX]) _)
  have k2 : W1.heap[X + 2]? = some (.cells #[.int .i64 0] 29 (0, 0)) := by
    rw [← hW1]
    exact al_at (by simp [hX]) _
  obtain ⟨x0, x1, x2, _⟩ := box_cells k0
  obtain ⟨x3, x3f⟩ := box1_cells k1
  obtain ⟨x4, x4f⟩ := box1_cells k2
  have HA := Lib.hid (And.intro hck (And.intro hC' (And.intro hl1 (And.intro hF (And.intro hF5 hwW)))))
  have HB := Lib.hid (And.intro k0 (And.intro k1 (And.intro k2 hszw)))
  clear hck hC' hl1 hF hF5 hC hO hR hwW k0 k1 k2 hszw h1 hch t1 hFl
  refine (callsIn_wide (n := 9)).1 ?_
  have w54 : Fence.wide.fn 37 := trivial
  have w59 : Fence.wide.fn 39 := trivial
  have w67 : Fence.wide.fn 40 := trivial
  have w151 : Fence.wide.fn 38 := trivial
  have wd : Fence.wide.depth = none := rfl
  refine callsIn_of_wp_marks Tryz.func10 rfl trivial ?_ rfl
  simp only [Tryz.ntmps10, List.size_toArray, List.length_cons, List.length_nil, Nat.reduceAdd, Nat.reduceSub, Array.replicate_succ, Array.replicate_zero, List.push_toArray, List.append_toArray, List.nil_append, List.cons_append]
  try simp only [hX]
  gi_wp2_with (gi_at_call 37; (with_reducible refine (callsIn_wide.2 (HA.out.1 _ HA.out.2.2.2.2.2)).mono ?_); rintro e2 w2 ⟨rfl, k⟩; have H2 := Lib.hid k; clear k)
  obtain ⟨Y, hY⟩ : ∃ Y, w2.heap.size = Y := ⟨_, rfl⟩
  obtain ⟨w3, hw3⟩ : ∃ w3, w2.alloc (.cells #[.slice none 0 0] 28) = w3 := ⟨_, rfl⟩
  rw [hw3, hY]
  have b23 : Below w2.heap.size w2 w3 := hw3 ▸ alloc_b (Below.refl _ _) _
  have b13 : Below W1.heap.size W1 w3 := below_trans H2.out b23
  have y3 : w3.heap[Y]? = some (.cells #[.slice none 0 0] 28 (0, 0)) := by rw [← hw3]; exact al_at hY _
  have hs3 : w3.heap.size = Y + 1 := by rw [← hw3]; simp [hY]
  have hXY : X + 3 ≤ Y := by have := H2.out.size; rw [HB.out.2.2.2, hY] at this; exact this
  have hz0 : w3.cell? ⟨X, 0, none⟩ = some (.int .i64 (n : Int)) ∧ w3.cell? ⟨X, 1, none⟩ = some (.slice (some ⟨ab, ao, none⟩) n c) ∧ w3.cell? ⟨X, 2, none⟩ = some (.slice (some ⟨bb, bo, none⟩) n e) ∧ Below w3.heap.size w3 w3 :=
    ⟨(b13.cell (block_lt_of_cell x0)).trans x0, (b13.cell (block_lt_of_cell x1)).trans x1, (b13.cell (block_lt_of_cell x2)).trans x2, Below.refl _ _⟩
  obtain ⟨z0, z1, z2, _⟩ := id hz0
  have HD := Lib.hid (And.intro b13 (And.intro y3 (And.intro hs3 hXY)))
  clear b23 b13 y3 hs3 hXY hw3 hY
  refine wpIn_wide.2 ?_
  go_region_held3 (fun V => V.cell? ⟨X, 0, none⟩ = some (.int .i64 (n : Int)) ∧ V.cell? ⟨X, 1, none⟩ = some (.slice (some ⟨ab, ao, none⟩) n c) ∧ V.cell? ⟨X, 2, none⟩ = some (.slice (some ⟨bb, bo, none⟩) n e) ∧ Below w3.heap.size w3 V)
    (first
      | with_reducible assumption
      | with_reducible exact hz0
      | (refine keep3b hz0 ?_; (repeat' (first | exact Below.refl _ _ | exact b5 | exact b4 | apply below_drw)); done)
      | fail)
    (first
    | (go_at_call 38; (with_reducible refine els151.mono ?_); rintro e8 w5 ⟨I2, C2, P2, rfl, k1, k2, k3, k4, k5, k6, k7⟩
       have b5 : Below w3.heap.size w3 w5 := below_trans (by (repeat' (first | exact b4 | apply below_drw))) k7
       obtain ⟨v0, v1, v2, _⟩ := keep3b hz0 b5
       have H5 := Lib.hid (And.intro k1 (And.intro k2 (And.intro k3 (And.intro k4 (And.intro k5 (And.intro k6 k7)))))); clear k1 k2 k3 k4 k5 k6 k7)
    | (go_at_call 39; (with_reducible refine (one59 hn.2).mono ?_); rintro e7 w4 ⟨v7, rfl, k1, k2⟩; obtain ⟨xb, xc, rfl, k3⟩ := id k1
       have b4 : Below w3.heap.size w3 w4 := below_trans (by (repeat' (first | exact Below.refl _ _ | apply below_drw))) k2
       obtain ⟨u0, u1, u2, _⟩ := keep3b hz0 b4
       have H4 := Lib.hid (And.intro k1 k2); clear k1 k2 k3))
  gi_wp2
  have hY3 := HD.out.2.2.1
  have hXY := HD.out.2.2.2
  have s45 := H5.out.2.2.2.2.2.2.size
  have s4 := b4.size
  have s5 := b5.size
  have b15 : Below W1.heap.size W1 w5 := below_trans HD.out.1 b5
  have bw5 : Below w.heap.size w w5 := below_trans HA.out.2.2.2.2.2 b15
  have hseq := els172 hn HA.out.2.1 (ab := ab) (ao := ao) (c := c) (bb := bb) (bo := bo) (e := e) (F := F) n 0 (Nat.zero_add n) (w := w5) (I := I2) (C := C2) (P := P2) (vy := .slice (some ⟨xb, 0, none⟩) n xc) (y := PlainPm.one n) (M0 := [Y]) (s0 := []) H5.out.1 H5.out.2.1 H5.out.2.2.1
    (fun hm => by have h1 := List.mem_singleton.1 hm; have h2 := H5.out.2.2.2.1; omega) (fun hm => by have h1 := List.mem_singleton.1 hm; have h2 := H5.out.2.2.2.2.1; omega) (fun hm => by have h1 := List.mem_singleton.1 hm; have h2 := H5.out.2.2.2.2.2.1; omega)
    ((H4.out.1.pm (M := [Y]) (fun m hm => by rw [List.mem_singleton.1 hm]; show Y < w3.heap.size; omega)).below H5.out.2.2.2.2.2.2)
    (fun W' hk => HA.out.2.2.1.below (bw5.trans (hk.below bw5.size (fun m hm => by rw [List.mem_singleton.1 hm]; omega))))
    (by rw [List.nil_append, HA.out.2.2.2.1]; exact List.prefix_refl _)
  rw [List.nil_append, HA.out.2.2.2.1] at hseq
  have y5 : w5.heap[Y]? = some (.cells #[.slice none 0 0] 28 (0, 0)) := (b5.block Y (by omega)).trans HD.out.2.1
  have HE := Lib.hid (And.intro b15 (And.intro bw5 y5))
  clear b15 bw5 y5
  refine wpIn_rangeY (gf := 77) (lb := #[.pointer (some ⟨I2, 0, none⟩), .pointer (some ⟨C2, 0, none⟩), .pointer (some ⟨P2, 0, none⟩)]) rfl (enters_of Tryz.func77 (by kernel_rfl) rfl)
    (Prod.fst : Value × Pm n → Value) rfl [Y] (fun m hm => by rw [List.mem_singleton.1 hm]; omega)
    (fun s M A => ∃ v us, LsI [X + 1, X + 1 + 1] Y (Y + 1) v us s M A) (fun _ => False) elCore (elGood F) elNx (fun s => s = F) [] hseq ?own ?ownx ?good ?core ⟨_, [], rfl, HE.out.2.2, Own.nil _ _ _, ⟨rfl, fun k x hx => by simp at hx⟩, fun m hm => by rcases List.mem_cons.1 hm with h | hm; omega; rw [List.mem_singleton.1 hm]; omega⟩
    (fun q => { tmps := #[cv n ab ao c bb bo e, .pointer (some ⟨X, 0, none⟩), .pointer (some ⟨X + 1, 0, none⟩), .pointer (some ⟨X + 1 + 1, 0, none⟩), .int .i64 0, .pointer (some ⟨Y, 0, none⟩), q.1,
      .agg #[.int .i64 (n : Int), .slice (some ⟨ab, ao, none⟩) n c, .slice (some ⟨bb, bo, none⟩) n e], .int .i64 0, .int .i64 0, .bool false, undef, .agg #[.int .i64 (n : Int), .slice (some ⟨ab, ao, none⟩) n c, .slice (some ⟨bb, bo, none⟩) n e], .pointer (some ⟨X, 0, none⟩), .int .i64 (n : Int), .slice (some ⟨xb, 0, none⟩) n xc,
      .func (.func 77) #[] #[.pointer (some ⟨I2, 0, none⟩), .pointer (some ⟨C2, 0, none⟩), .pointer (some ⟨P2, 0, none⟩)], q.1, undef, undef, undef, undef, undef, undef, undef, undef, undef], defers := [] }) ?assign ?body ?done ?stop
  case own =>
    rintro ⟨s', M'⟩ A B row ⟨v, us, h⟩ hAB hr
    exact ⟨v, us, h.turn ⟨hAB, fun r e => (hr r e).2⟩⟩
  case ownx => exact fun u A B row h hAB hr => h
  case good =>
    intro s' M' q' A B row h hg hr
    exact ⟨h.1.up (Turn.up ⟨hg, fun r e => (hr r e).2⟩), h.2⟩
  case core =>
    rintro s' M' A ⟨v, us, h⟩
    exact ⟨trivial, h.lt⟩
  case assign =>
    intro nn l x A K hK
    gi_wp2
    exact hK
  case body =>
    rintro nn l s M ⟨vx, x⟩ A ⟨v, us, hI⟩ ⟨hpm, hpx⟩ hst
    dsimp only at hpm hpx ⊢
    have hsl : s.length < 5040 := by
      have h1 := hpx.length_le
      have h2 := HA.out.2.2.2.2.1
      rw [List.length_append, List.length_singleton] at h1
      omega
    have hul : us.length < 5040 := by rw [hI.pml.1]; exact hsl
    obtain ⟨av, cv', ev, _⟩ := hI.own.row (by unfold maxLen; omega)
    subst ev
    obtain ⟨yc, yf⟩ := box1_cells hI.y
    have k67 := fun (V : World) (hV : Below A.heap.size A V) => clone67v hn (hpm.below hV)
    obtain ⟨xb', xo', xcp, rfl, _⟩ := id hpm
    have g1 : ((us.length : Int) == 5040) = false := by simp; omega
    have HB2 := Lib.hid (And.intro hI (And.intro hpm (And.intro k67 hul)))
    clear hI hpm hpx hst k67 hseq hsl hul
    gi_wp2
    refine wpIn_region_any (by kernel_rfl) ?_
    change wpAnyIn _ _ _ _ _ _ _ _ _ (World.drew _)
    refine wpAnyIn_ready (rs := [0, 1]) (by kernel_rfl) (by simp) ?_
    refine AllReadyIn.cons rfl (fun K hK => ?_) (AllReadyIn.cons rfl (fun K hK => ?_) (AllReadyIn.nil))
    · go_simp
      refine hK _ _ ?_
      clear hK K
      refine wpAnyIn_ready (rs := [1]) (by kernel_rfl) (by simp) ?_
      refine AllReadyIn.cons rfl (fun K hK => ?_) (AllReadyIn.nil)
      go_simp
      refine hK _ _ ?_
      clear hK K
      refine wpAnyIn_ready (rs := [2]) (by kernel_rfl) (by simp) ?_
      refine AllReadyIn.cons rfl (fun K hK => ?_) (AllReadyIn.nil)
      go_simp
      (with_reducible refine (callsR (HB2.out.2.2.1 _ ?_)).mono ?_)
      · exact below_drw (Below.refl _ _)
      rintro e7 w7 ⟨v7, rfl, k1, k2⟩
      obtain ⟨cb, cc, rfl, k3⟩ := id k1
      have b7 : Below A.heap.size A w7 := below_trans (below_drw (Below.refl _ _)) k2
      have y7 : w7.heap[Y]? = some (.cells #[.slice av us.length cv'] 28 (0, 0)) := (b7.block Y (Array.getElem?_eq_some_iff.1 HB2.out.1.y).1).trans HB2.out.1.y
      have ltY7 : Y < w7.heap.size := (Array.getElem?_eq_some_iff.1 y7).1
      obtain ⟨y7c, y7f⟩ := box1_cells y7
      refine hK _ _ ?_
      clear hK K
      refine wpAnyIn_ready (rs := [3]) (by kernel_rfl) (by simp) ?_
      refine AllReadyIn.cons rfl (fun K hK => ?_) (AllReadyIn.nil)
      go_simp
      refine hK _ _ ?_
      clear hK K
      refine wpAnyIn_ready (rs := [4]) (by kernel_rfl) (by simp) ?_
      refine AllReadyIn.cons rfl (fun K hK => ?_) (AllReadyIn.nil)
      refine app1Op (.tmp 21) (.tmp 24) 28 41 rfl i27 (.slice none 0 0) 24 Tryz.underlying28 I27.out.1 I27.out.2.1 I27.out.2.2.1 I27.out.2.2.2 rfl (by omega) (Y + 1) (.slice (some ⟨cb, 0, none⟩) n cc) (.slice av us.length cv') us rfl (HB2.out.1.own.below b7) rfl rfl (by have := HB2.out.2.2.2; omega) (by omega) ?_
      intro v' w11 k4 k5 k6
      obtain ⟨G', cap, ev', -⟩ := k4.form (by simp)
      rw [List.length_append, List.length_singleton] at ev'
      subst ev'
      have y11 := (k5.block Y ltY7 (fun e => own_ne (HB2.out.1.own.below b7) y7 (by decide) e.symm)).trans y7
      obtain ⟨y11c, y11f⟩ := box1_cells y11
      obtain ⟨M', hI', hS'⟩ := HB2.out.1.grow (Nat.lt_succ_self _) b7 (k1.from (by simp [drew_size'])) k4 k5 k6
      refine hK _ _ ?_
      clear hK K
      refine wpAnyIn_ready (rs := [5]) (by kernel_rfl) (by simp) ?_
      refine AllReadyIn.cons rfl (fun K hK => ?_) (AllReadyIn.nil)
      go_simp
      refine hK _ _ ?_
      clear hK K
      refine wpAnyIn_done (by kernel_rfl) ?_ _
      exact ⟨_, M', rfl, ⟨_, _, hI'⟩, hS'⟩
    · go_simp
      refine hK _ _ ?_
      clear hK K
      refine wpAnyIn_ready (rs := [0, 2]) (by kernel_rfl) (by simp) ?_
      refine AllReadyIn.cons rfl (fun K hK => ?_) (AllReadyIn.cons rfl (fun K hK => ?_) (AllReadyIn.nil))
      · go_simp
        refine hK _ _ ?_
        clear hK K
        refine wpAnyIn_ready (rs := [2]) (by kernel_rfl) (by simp) ?_
        refine AllReadyIn.cons rfl (fun K hK => ?_) (AllReadyIn.nil)
        go_simp
        (with_reducible refine (callsR (HB2.out.2.2.1 _ ?_)).mono ?_)
        · exact below_drw (Below.refl _ _)
        rintro e7 w7 ⟨v7, rfl, k1, k2⟩
        obtain ⟨cb, cc, rfl, k3⟩ := id k1
        have b7 : Below A.heap.size A w7 := below_trans (below_drw (Below.refl _ _)) k2
        have y7 : w7.heap[Y]? = some (.cells #[.slice av us.length cv'] 28 (0, 0)) := (b7.block Y (Array.getElem?_eq_some_iff.1 HB2.out.1.y).1).trans HB2.out.1.y
        have ltY7 : Y < w7.heap.size := (Array.getElem?_eq_some_iff.1 y7).1
        obtain ⟨y7c, y7f⟩ := box1_cells y7
        refine hK _ _ ?_
        clear hK K
        refine wpAnyIn_ready (rs := [3]) (by kernel_rfl) (by simp) ?_
        refine AllReadyIn.cons rfl (fun K hK => ?_) (AllReadyIn.nil)
        go_simp
        refine hK _ _ ?_
        clear hK K
        refine wpAnyIn_ready (rs := [4]) (by kernel_rfl) (by simp) ?_
        refine AllReadyIn.cons rfl (fun K hK => ?_) (AllReadyIn.nil)
        refine app1Op (.tmp 21) (.tmp 24) 28 41 rfl i27 (.slice none 0 0) 24 Tryz.underlying28 I27.out.1 I27.out.2.1 I27.out.2.2.1 I27.out.2.2.2 rfl (by omega) (Y + 1) (.slice (some ⟨cb, 0, none⟩) n cc) (.slice av us.length cv') us rfl (HB2.out.1.own.below b7) rfl rfl (by have := HB2.out.2.2.2; omega) (by omega) ?_
        intro v' w11 k4 k5 k6
        obtain ⟨G', cap, ev', -⟩ := k4.form (by simp)
        rw [List.length_append, List.length_singleton] at ev'
        subst ev'
        have y11 := (k5.block Y ltY7 (fun e => own_ne (HB2.out.1.own.below b7) y7 (by decide) e.symm)).trans y7
        obtain ⟨y11c, y11f⟩ := box1_cells y11
        obtain ⟨M', hI', hS'⟩ := HB2.out.1.grow (Nat.lt_succ_self _) b7 (k1.from (by simp [drew_size'])) k4 k5 k6
        refine hK _ _ ?_
        clear hK K
        refine wpAnyIn_ready (rs := [5]) (by kernel_rfl) (by simp) ?_
        refine AllReadyIn.cons rfl (fun K hK => ?_) (AllReadyIn.nil)
        go_simp
        refine hK _ _ ?_
        clear hK K
        refine wpAnyIn_done (by kernel_rfl) ?_ _
        exact ⟨_, M', rfl, ⟨_, _, hI'⟩, hS'⟩
      · go_simp
        (with_reducible refine (callsR (HB2.out.2.2.1 _ ?_)).mono ?_)
        · exact below_drw (Below.refl _ _)
        rintro e7 w7 ⟨v7, rfl, k1, k2⟩
        obtain ⟨cb, cc, rfl, k3⟩ := id k1
        have b7 : Below A.heap.size A w7 := below_trans (below_drw (Below.refl _ _)) k2
        have y7 : w7.heap[Y]? = some (.cells #[.slice av us.length cv'] 28 (0, 0)) := (b7.block Y (Array.getElem?_eq_some_iff.1 HB2.out.1.y).1).trans HB2.out.1.y
        have ltY7 : Y < w7.heap.size := (Array.getElem?_eq_some_iff.1 y7).1
        obtain ⟨y7c, y7f⟩ := box1_cells y7
        refine hK _ _ ?_
        clear hK K
        refine wpAnyIn_ready (rs := [0, 3]) (by kernel_rfl) (by simp) ?_
        refine AllReadyIn.cons rfl (fun K hK => ?_) (AllReadyIn.cons rfl (fun K hK => ?_) (AllReadyIn.nil))
        · go_simp
          refine hK _ _ ?_
          clear hK K
          refine wpAnyIn_ready (rs := [3]) (by kernel_rfl) (by simp) ?_
          refine AllReadyIn.cons rfl (fun K hK => ?_) (AllReadyIn.nil)
          go_simp
          refine hK _ _ ?_
          clear hK K
          refine wpAnyIn_ready (rs := [4]) (by kernel_rfl) (by simp) ?_
          refine AllReadyIn.cons rfl (fun K hK => ?_) (AllReadyIn.nil)
          refine app1Op (.tmp 21) (.tmp 24) 28 41 rfl i27 (.slice none 0 0) 24 Tryz.underlying28 I27.out.1 I27.out.2.1 I27.out.2.2.1 I27.out.2.2.2 rfl (by omega) (Y + 1) (.slice (some ⟨cb, 0, none⟩) n cc) (.slice av us.length cv') us rfl (HB2.out.1.own.below b7) rfl rfl (by have := HB2.out.2.2.2; omega) (by omega) ?_
          intro v' w11 k4 k5 k6
          obtain ⟨G', cap, ev', -⟩ := k4.form (by simp)
          rw [List.length_append, List.length_singleton] at ev'
          subst ev'
          have y11 := (k5.block Y ltY7 (fun e => own_ne (HB2.out.1.own.below b7) y7 (by decide) e.symm)).trans y7
          obtain ⟨y11c, y11f⟩ := box1_cells y11
          obtain ⟨M', hI', hS'⟩ := HB2.out.1.grow (Nat.lt_succ_self _) b7 (k1.from (by simp [drew_size'])) k4 k5 k6
          refine hK _ _ ?_
          clear hK K
          refine wpAnyIn_ready (rs := [5]) (by kernel_rfl) (by simp) ?_
          refine AllReadyIn.cons rfl (fun K hK => ?_) (AllReadyIn.nil)
          go_simp
          refine hK _ _ ?_
          clear hK K
          refine wpAnyIn_done (by kernel_rfl) ?_ _
          exact ⟨_, M', rfl, ⟨_, _, hI'⟩, hS'⟩
        · go_simp
          refine hK _ _ ?_
          clear hK K
          refine wpAnyIn_ready (rs := [0]) (by kernel_rfl) (by simp) ?_
          refine AllReadyIn.cons rfl (fun K hK => ?_) (AllReadyIn.nil)
          go_simp
          refine hK _ _ ?_
          clear hK K
          refine wpAnyIn_ready (rs := [4]) (by kernel_rfl) (by simp) ?_
          refine AllReadyIn.cons rfl (fun K hK => ?_) (AllReadyIn.nil)
          refine app1Op (.tmp 21) (.tmp 24) 28 41 rfl i27 (.slice none 0 0) 24 Tryz.underlying28 I27.out.1 I27.out.2.1 I27.out.2.2.1 I27.out.2.2.2 rfl (by omega) (Y + 1) (.slice (some ⟨cb, 0, none⟩) n cc) (.slice av us.length cv') us rfl (HB2.out.1.own.below b7) rfl rfl (by have := HB2.out.2.2.2; omega) (by omega) ?_
          intro v' w11 k4 k5 k6
          obtain ⟨G', cap, ev', -⟩ := k4.form (by simp)
          rw [List.length_append, List.length_singleton] at ev'
          subst ev'
          have y11 := (k5.block Y ltY7 (fun e => own_ne (HB2.out.1.own.below b7) y7 (by decide) e.symm)).trans y7
          obtain ⟨y11c, y11f⟩ := box1_cells y11
          obtain ⟨M', hI', hS'⟩ := HB2.out.1.grow (Nat.lt_succ_self _) b7 (k1.from (by simp [drew_size'])) k4 k5 k6
          refine hK _ _ ?_
          clear hK K
          refine wpAnyIn_ready (rs := [5]) (by kernel_rfl) (by simp) ?_
          refine AllReadyIn.cons rfl (fun K hK => ?_) (AllReadyIn.nil)
          go_simp
          refine hK _ _ ?_
          clear hK K
          refine wpAnyIn_done (by kernel_rfl) ?_ _
          exact ⟨_, M', rfl, ⟨_, _, hI'⟩, hS'⟩
  case done =>
    rintro D9 s M W5 hD9 hfin ⟨v, us, hI⟩ hst hdef
    have hsF : s = F := hfin
    subst hsF
    have hM := hI.m
    subst hM
    have r1 : W5.heap[X + 1]? = some (.cells #[.slice none 0 0] 28 (0, 0)) := (hst.kept.block (X + 1) (by omega) (fun hm => by have := List.mem_singleton.1 hm; omega)).trans ((HE.out.1.block (X + 1) (by have := HB.out.2.2.2; omega)).trans HB.out.2.1)
    have r2 : W5.heap[X + 1 + 1]? = some (.cells #[.int .i64 0] 29 (0, 0)) := (hst.kept.block (X + 1 + 1) (by omega) (fun hm => by have := List.mem_singleton.1 hm; omega)).trans ((HE.out.1.block (X + 1 + 1) (by have := HB.out.2.2.2; omega)).trans HB.out.2.2.1)
    obtain ⟨r1c, r1f⟩ := box1_cells r1
    obtain ⟨r2c, r2f⟩ := box1_cells r2
    obtain ⟨yc, yf⟩ := box1_cells hI.y
    have hul : us.length ≤ 5040 := by have h1 := hI.pml.1; have h2 := HA.out.2.2.2.2.1; omega
    obtain ⟨av, cv', ev, _⟩ := hI.own.row (by unfold maxLen; omega)
    subst ev
    have HF := Lib.hid (And.intro hI (And.intro hst (And.intro hD9 (And.intro r1 (And.intro r2 hdef)))))
    clear hI hst hfin hD9 r1 r2 hdef hseq
    gi_wp2
    obtain ⟨q1, q2, qk, qo⟩ := two_setG (v := .slice av us.length cv') (u := .int .i64 0) (by omega) HF.out.2.2.2.1 HF.out.2.2.2.2.1
    obtain ⟨W6, hW6⟩ : ∃ W6, (W5.setCell ⟨X + 1, 0, none⟩ (.slice av us.length cv')).setCell ⟨X + 1 + 1, 0, none⟩ (.int .i64 0) = W6 := ⟨_, rfl⟩
    have o6 : Own W6 (Y + 1) (.slice av us.length cv') 41 us := hW6 ▸ (HF.out.1.own.lowset (by omega)).lowset (by omega)
    rw [hW6] at q1 q2 qk qo ⊢
    have hX9 : X + 1 + 1 < D9 := by have := HF.out.2.2.1; omega
    have hd6 := (qo D9 (by omega) (by omega)).trans HF.out.2.2.2.2.2
    have htn : Turn W6 (W6.putObj D9 (.deferred none)) (some D9) := ⟨grownBy_putObj' W6 D9 (.deferred none), fun r er => by cases er; exact ⟨_, hd6, rfl⟩⟩
    refine ⟨by simp, .inl ⟨_, _, rfl, run_takeDeferred hd6, ?_⟩⟩
    obtain ⟨c2, _⟩ := box1_cells (htn.cells q1)
    obtain ⟨c3, _⟩ := box1_cells (htn.cells q2)
    refine ⟨.tuple #[.slice av us.length cv', .int .i64 0], by simp [results, Tryz.results10, go_sem, c2, c3], _, us, rfl, (o6.turn htn).mono (by omega), ?_, ?_⟩
    · have h1 := HF.out.1.pml.kept' (M' := (Value.slice av us.length cv').ownBlock.toList) qk (fun m hm => List.mem_append_left _ hm) (fun m hm => List.mem_append_right _ (List.mem_cons_of_mem _ hm))
      exact h1.up htn.up
    · have hbW : Below w.heap.size w W6 := HE.out.2.1.trans ((HF.out.2.1.kept.trans' qk).below HE.out.2.1.size (fun m hm => by
        rcases List.mem_append.1 hm with h | h
        · rw [List.mem_singleton.1 h]; omega
        · rcases List.mem_cons.1 h with h | h
          · omega
          · rw [List.mem_singleton.1 h]; omega))
      have := hbW.grown (grownBy_putObj' W6 D9 (.deferred none)) hbW.size (fun k e => by cases e; have := HF.out.2.2.1; have := HE.out.2.1.size; omega)
      rwa [hX] at this
  case stop => exact fun D W h1 h2 => h2.elim
end
end Go.Proofs.YtbejhkojdiadaaaGreatDoor
namespace Go.Proofs.YtbejhkojdiadaaaGreatDoor
open PlainPm
variable {n : Nat} {G G2 : Pm n → Prop} {O : Nat → List Nat} {R : Nat → Nat → Pm n}
theorem lst_mem (h : ChG G O R) : ∀ (f i : Nat) (y : Pm n), i + f = n → ∃ g, G g ∧ Fx i g ∧ lstF O R f i y = g.mul y
  | 0, i, y, hf => ⟨PlainPm.one n, h.isG.one, Fx.one (by omega), by rw [lstF, Pm.one_mul]⟩
  | f + 1, i, y, hf => by
    have hi : i < n := by omega
    obtain ⟨h1, h2, h3⟩ := h.rep i hi _ (h.best_mem hi y)
    obtain ⟨g, k1, k2, k3⟩ := lst_mem h f (i + 1) ((R i (best y (O i) ((O i).headD 0))).mul y) (by omega)
    refine ⟨g.mul (R i (best y (O i) ((O i).headD 0))), h.isG.mul k1 h1, (k2.mono (by omega)).mul (by omega) h2, ?_⟩
    rw [lstF, k3, Pm.mul_assoc]
theorem lst_least (h : ChG G O R) : ∀ (f i : Nat) (y : Pm n), i + f = n → ∀ g, G g → Fx i g → g.mul y = lstF O R f i y ∨ lexLt (lstF O R f i y) (g.mul y)
  | 0, i, y, hf, g, hg, hx => by
    have hi : i = n := by omega
    subst hi
    left
    rw [lstF, Fx.all hx, Pm.one_mul]
  | f + 1, i, y, hf, g, hg, hx => by
    have hi : i < n := by omega
    have hbm := h.best_mem hi y
    obtain ⟨h1, h2, h3⟩ := h.rep i hi _ hbm
    have hbs := (best_spec y (O i) ((O i).headD 0)).2.2
    obtain ⟨q, hq⟩ : ∃ q, best y (O i) ((O i).headD 0) = q := ⟨_, rfl⟩
    rw [hq] at hbm h1 h2 h3 hbs
    have hgo : g.at i ∈ O i := (h.mem i hi _).2 ⟨g, hg, hx, rfl⟩
    have hle : y.at q ≤ y.at (g.at i) := hbs _ hgo
    rw [lstF, hq]
    obtain ⟨g', k1, k2, k3⟩ := lst_mem h f (i + 1) ((R i q).mul y) (by omega)
    by_cases he : g.at i = q
    · have hx' : Fx (i + 1) (g.mul (R i q).inv) := by
        refine (hx.mul (by omega) (h2.inv (by omega))).succ ?_
        have := (R i q).inv_of (i := i) hi
        rw [h3] at this
        rw [Pm.mul_at _ _ hi, he, this]
      have := lst_least h f (i + 1) ((R i q).mul y) (by omega) _ (h.isG.mul hg (h.isG.inv h1)) hx'
      rwa [← Pm.mul_assoc, Pm.inv_mul_cancel] at this
    · right
      have hgl := h.lt i hi _ hgo
      have hql := h.lt i hi _ hbm
      have hlt : y.at q < y.at (g.at i) := by
        rcases Nat.lt_or_ge (y.at q) (y.at (g.at i)) with h9 | h9
        · exact h9
        · exact absurd (y.inj hgl hql (by omega)) he
      refine ⟨i, hi, fun j hj => ?_, ?_⟩
      · rw [k3, Pm.mul_at _ _ (by omega), k2 j (by omega), Pm.mul_at _ _ (by omega), h2 j hj, Pm.mul_at _ _ (by omega), hx j hj]
      · rw [k3, Pm.mul_at _ _ hi, k2 i (by omega), Pm.mul_at _ _ hi, h3, Pm.mul_at _ _ hi]
        exact hlt
def lstC (O : Nat → List Nat) (R : Nat → Nat → Pm n) (x : Pm n) : Pm n := lstF O R n 0 x
theorem fx0 (x : Pm n) : Fx 0 x := fun j hj => absurd hj (by omega)
theorem lstC_mem (h : ChG G O R) (x : Pm n) : ∃ g, G g ∧ lstC O R x = g.mul x := by
  obtain ⟨g, h1, _, h2⟩ := lst_mem h n 0 x (by omega)
  exact ⟨g, h1, h2⟩
theorem lstC_least (h : ChG G O R) {x g : Pm n} (hg : G g) : g.mul x = lstC O R x ∨ lexLt (lstC O R x) (g.mul x) := lst_least h n 0 x (by omega) g hg (fx0 g)
theorem lstC_coset (h : ChG G O R) {x g : Pm n} (hg : G g) : lstC O R (g.mul x) = lstC O R x := by
  obtain ⟨a, ha, ea⟩ := lstC_mem h (g.mul x)
  obtain ⟨b, hb, eb⟩ := lstC_mem h x
  have h1 := lstC_least h (x := x) (h.isG.mul ha hg)
  rw [Pm.mul_assoc, ← ea] at h1
  have h2 := lstC_least h (x := g.mul x) (h.isG.mul hb (h.isG.inv hg))
  rw [← Pm.mul_assoc, Pm.inv_mul_cancel, ← eb] at h2
  rcases h1 with h1 | h1
  · exact h1
  · rcases h2 with h2 | h2
    · exact h2.symm
    · exact (lexLt_asymm h1 h2).elim
theorem lstC_idem (h : ChG G O R) (x : Pm n) : lstC O R (lstC O R x) = lstC O R x := by
  obtain ⟨g, hg, e⟩ := lstC_mem h x
  rw [e, lstC_coset h hg, e]
instance : DecidableEq (Pm n) := fun x y => if h : ∀ i, i < n → x.at i = y.at i then isTrue (Pm.ext h) else isFalse (fun e => h (fun i _ => by rw [e]))
def cosF (O : Nat → List Nat) (R : Nat → Nat → Pm n) (E : List (Pm n)) : List (Pm n) := E.filter fun x => decide (lstC O R x = x)
theorem mem_cosF {E : List (Pm n)} {x : Pm n} : x ∈ cosF O R E ↔ x ∈ E ∧ lstC O R x = x := by simp [cosF, List.mem_filter]
theorem cos_count (h : ChG G O R) {E1 E2 : List (Pm n)} (h1 : E1.Nodup) (h2 : E2.Nodup) (m1 : ∀ x, x ∈ E1 ↔ G x) (m2 : ∀ x, x ∈ E2 ↔ G2 x) (hG2 : IsG G2) (hs : ∀ x, G x → G2 x) : E2.length = (cosF O R E2).length * E1.length := by
  have hl : ∀ (C : List (Pm n)), (C.flatMap fun r => E1.map fun y => y.mul r).length = C.length * E1.length := by
    intro C
    induction C with
    | nil => simp
    | cons c C ih => rw [List.flatMap_cons, List.length_append, ih, List.length_map, List.length_cons, Nat.succ_mul]; omega
  rw [← hl]
  refine Nat.le_antisymm (sub_len h2 fun x hx => ?_) (sub_len ?_ fun x hx => ?_)
  · obtain ⟨g, hg, e⟩ := lstC_mem h x
    refine List.mem_flatMap.2 ⟨lstC O R x, mem_cosF.2 ⟨(m2 _).2 (by rw [e]; exact hG2.mul (hs g hg) ((m2 x).1 hx)), lstC_idem h x⟩, List.mem_map.2 ⟨g.inv, (m1 _).2 (h.isG.inv hg), ?_⟩⟩
    rw [e, ← Pm.mul_assoc, Pm.inv_mul, Pm.one_mul]
  · refine List.nodup_iff_pairwise_ne.2 (pairwise_flatMap (q := (· ≠ ·)) (List.nodup_iff_pairwise_ne.1 (h2.sublist List.filter_sublist)) (fun r hr => ?_) (fun a ha b hb hab x hx y hy => ?_))
    · refine List.pairwise_map.2 ((List.nodup_iff_pairwise_ne.1 h1).imp fun hne e => hne ?_)
      have := congrArg (fun z => z.mul r.inv) e
      simpa [Pm.mul_inv_cancel] using this
    · rintro rfl
      obtain ⟨g, hg, rfl⟩ := List.mem_map.1 hx
      obtain ⟨g', hg', e⟩ := List.mem_map.1 hy
      apply hab
      have ha2 := (mem_cosF.1 ha).2
      have hb2 := (mem_cosF.1 hb).2
      rw [← ha2, ← hb2, ← lstC_coset h (x := a) ((m1 _).1 hg), ← e, lstC_coset h ((m1 _).1 hg')]
  · obtain ⟨r, hr, hx⟩ := List.mem_flatMap.1 hx
    obtain ⟨g, hg, rfl⟩ := List.mem_map.1 hx
    exact (m2 _).2 (hG2.mul (hs g ((m1 _).1 hg)) ((m2 r).1 (mem_cosF.1 hr).1))
theorem sz_dvd {O2 : Nat → List Nat} {R2 : Nat → Nat → Pm n} (h : ChG G O R) (h2 : ChG G2 O2 R2) (hs : ∀ x, G x → G2 x) : szF O n 0 ∣ szF O2 n 0 ∧ szF O2 n 0 / szF O n 0 = (cosF O R (elsF O2 R2 n 0 (PlainPm.one n))).length := by
  have hc := cos_count h (els_nodup h) (els_nodup h2) (fun x => mem_all h) (fun x => mem_all h2) h2.isG hs
  rw [els_len h (by omega), els_len h2 (by omega)] at hc
  have hp := h.sz_pos (f := n) (i := 0) (by omega)
  exact ⟨⟨_, by rw [hc, Nat.mul_comm]⟩, by rw [hc, Nat.mul_div_cancel _ hp]⟩
def prodL (O : Nat → List Nat) : Nat → Nat
  | 0 => 1
  | k + 1 => prodL O k * (O k).length
theorem prodL_sz : ∀ (f i : Nat), i + f = n → prodL O i * szF O f i = prodL O n
  | 0, i, hf => by simp [szF, show i = n by omega]
  | f + 1, i, hf => by
    rw [szF, ← Nat.mul_assoc]
    exact prodL_sz f (i + 1) (by omega)
theorem prodL_all : prodL O n = szF O n 0 := by
  have := prodL_sz (n := n) (O := O) n 0 (by omega)
  rw [← this]; simp [prodL]
theorem prodL_pos (h : ChG G O R) : ∀ k, k ≤ n → 0 < prodL O k
  | 0, _ => by simp [prodL]
  | k + 1, hk => Nat.mul_pos (prodL_pos h k (by omega)) (h.pos (by omega))
theorem prodL_dvd {k : Nat} (hk : k < n) : prodL O k * (O k).length ∣ prodL O n := by
  have := prodL_sz (n := n) (O := O) (n - (k + 1)) (k + 1) (by omega)
  exact ⟨_, this.symm⟩
end Go.Proofs.YtbejhkojdiadaaaGreatDoor
namespace Go.Proofs.YtbejhkojdiadaaaGreatDoor
open Go.RowKit PlainPm
set_option maxRecDepth 100000 in
set_option maxHeartbeats 1000000 in
theorem ranks53 {w : World} {v : Value} {d : Int} {os : List (List Int)} {rs : List (List (List Int))} {a0 : Option Addr} {c0 : Nat} {p : List Int} {N : Int} (h : ChV w v d os rs) (hc : CapV w v) (hd : ¬ (8 < d ∧ d ≤ 64)) (hp : Ints w a0 p) (h1 : (rankN d os rs p : Int) = N) (h2 : rankE d os rs p = 0) :
    Calls Tryz.prog 36 #[v, .slice a0 p.length c0, .int .i64 N] w fun e w' => e = .returned (.bool true) ∧ Below w.heap.size w w' := by
  have hr := fun (W : World) (hb : Below w.heap.size w W) => rank14 (c0 := c0) (h.below hb) (CapV.below h hc hb) hd (hp.below hb)
  rw [h1, h2] at hr
  obtain ⟨a1, c1, b1, e1, rfl, k1, k2⟩ := h
  obtain ⟨lo, hlo⟩ : ∃ l, os.length = l := ⟨_, rfl⟩
  obtain ⟨lr, hlr⟩ : ∃ l, rs.length = l := ⟨_, rfl⟩
  obtain ⟨lp, hlp⟩ : ∃ l, p.length = l := ⟨_, rfl⟩
  rw [hlo, hlr, hlp] at hr
  rw [hlo, hlr, hlp]
  have H := Lib.hid hr
  clear hr k1 k2 hlo hlr hlp hc hd hp h1 h2
  have g1 : (N == N) = true := by simp
  go_enter Tryz.func36, Tryz.ntmps36
  go_wp2_with (go_at_call 19; refine (H.out _ (alloc_b (Below.refl _ _) _)).mono ?_; rintro e w2 ⟨rfl, k2⟩; have H2 := Lib.hid (below_trans (alloc_b (Below.refl _ _) _) k2); clear k2)
  go_ret
  exact ⟨by simp, H2.out⟩
theorem gr_size {w : World} {v : Value} {n : Nat} {L : List (Pm n)} {T : Tw n} (h : GrV w v L) (hT : Of (Grp (· ∈ L)) T) (h0 : 1 ≤ n) (h8 : n ≤ 8) {s : Nat} (hs : szF (orbO T) n 0 = s) :
    Calls Tryz.prog 35 #[v] w fun e w' => e = .returned (.tuple #[.int .i64 (s : Int), .int .i64 0]) ∧ Below w.heap.size w w' := by
  obtain ⟨h1, h2⟩ := h.chT hT
  have := size12 h1 h2 (by omega)
  rwa [size_of hT h0 (by omega), chk_of hT h0 (by omega), hs] at this
theorem gr_rank {w : World} {v : Value} {n : Nat} {L : List (Pm n)} {T : Tw n} (h : GrV w v L) (hT : Of (Grp (· ∈ L)) T) (h0 : 1 ≤ n) (h8 : n ≤ 8) {x : Pm n} {r c : Nat} {g : Nat} (hp : PmV w [] (.slice (some ⟨g, 0, none⟩) n c) x) (hr : rkF (orbO T) (PlainPm.repT T) x n 0 (PlainPm.one n) 0 = some r) :
    Calls Tryz.prog 36 #[v, .slice (some ⟨g, 0, none⟩) n c, .int .i64 (r : Int)] w fun e w' => e = .returned (.bool true) ∧ Below w.heap.size w w' := by
  obtain ⟨h1, h2⟩ := h.chT hT
  obtain ⟨r1, r2⟩ := rank_of hT h0 (by omega) x hr
  obtain ⟨a, c', he, hi⟩ := hp.ints (by omega)
  have hl := x.ok.1
  rw [hl] at he
  cases he
  have := ranks53 (c0 := c) h1 h2 (by omega) hi (by rw [r1]) r2
  rwa [hl] at this
theorem box_alloc {w : World} {X : Nat} (hX : w.heap.size = X) (u0 u1 u2 : Value) : (w.alloc (.cells #[u0, u1, u2] 25)).heap[X]? = some (.cells #[u0, u1, u2] 25) := by subst hX; exact World.alloc_heap_new w _
set_option maxRecDepth 100000 in
set_option maxHeartbeats 4000000 in
theorem awake11 {w : World} : Calls Tryz.prog 9 #[] w fun e w' => e = .returned (.bool true) ∧ Below w.heap.size w w' := by
  go_enter Tryz.func9, Tryz.ntmps9
  go_wp2_with (first
    | (go_at_call 36; refine HC5.out.mono ?_; rintro e1 w7 ⟨rfl, k1⟩; have hk6 : Below W2.heap.size W2 w7 := below_trans HK5.out (below_trans (alloc_b (Below.refl _ _) _) k1); have y0 := (hk6.block _ (Array.getElem?_eq_some_iff.1 HB.out.1).1).trans HB.out.1; have y1 := (hk6.block _ (Array.getElem?_eq_some_iff.1 HB.out.2.1).1).trans HB.out.2.1; have y2 := (hk6.block _ (Array.getElem?_eq_some_iff.1 HB.out.2.2).1).trans HB.out.2.2; obtain ⟨e600, e601, e602, _, _, _⟩ := box_cells y0; obtain ⟨e610, e611, e612, _, _, _⟩ := box_cells y1; obtain ⟨e620, e621, e622, _, _, _⟩ := box_cells y2; clear y0 y1 y2; have HK6 := Lib.hid hk6; clear hk6 k1)
    | (go_at_call 36; refine HC4.out.mono ?_; rintro e1 w6 ⟨rfl, k1⟩; have hk5 : Below W2.heap.size W2 w6 := below_trans HK4.out (below_trans (alloc_b (Below.refl _ _) _) k1); have y0 := (hk5.block _ (Array.getElem?_eq_some_iff.1 HB.out.1).1).trans HB.out.1; have y1 := (hk5.block _ (Array.getElem?_eq_some_iff.1 HB.out.2.1).1).trans HB.out.2.1; have y2 := (hk5.block _ (Array.getElem?_eq_some_iff.1 HB.out.2.2).1).trans HB.out.2.2; obtain ⟨e500, e501, e502, _, _, _⟩ := box_cells y0; obtain ⟨e510, e511, e512, _, _, _⟩ := box_cells y1; obtain ⟨e520, e521, e522, _, _, _⟩ := box_cells y2; clear y0 y1 y2; have c5 : Calls Tryz.prog 36 #[.agg #[.int .i64 4, .slice a2 4 c2, .slice b2 4 d2], .slice (some ⟨w6.heap.size, 0, none⟩) 4 4, .int .i64 2] (w6.alloc (.cells #[.int .i64 2, .int .i64 3, .int .i64 0, .int .i64 1] 3)) _ := gr_rank (n := 4) (HG.out.2.1.below (below_trans hk5 (alloc_b (Below.refl _ _) _))) tV4 (by omega) (by omega) (lit_pm rfl (lit_ints (by decide) rfl)) exV4; have HC5 := Lib.hid c5; have HK5 := Lib.hid hk5; clear c5 hk5; clear k1)
    | (go_at_call 36; refine HC3.out.mono ?_; rintro e1 w5 ⟨rfl, k1⟩; have hk4 : Below W2.heap.size W2 w5 := below_trans HK3.out (below_trans (alloc_b (Below.refl _ _) _) k1); have y0 := (hk4.block _ (Array.getElem?_eq_some_iff.1 HB.out.1).1).trans HB.out.1; have y1 := (hk4.block _ (Array.getElem?_eq_some_iff.1 HB.out.2.1).1).trans HB.out.2.1; have y2 := (hk4.block _ (Array.getElem?_eq_some_iff.1 HB.out.2.2).1).trans HB.out.2.2; obtain ⟨e400, e401, e402, _, _, _⟩ := box_cells y0; obtain ⟨e410, e411, e412, _, _, _⟩ := box_cells y1; obtain ⟨e420, e421, e422, _, _, _⟩ := box_cells y2; clear y0 y1 y2; have c4 : Calls Tryz.prog 36 #[.agg #[.int .i64 4, .slice a1 4 c1, .slice b1 4 d1], .slice (some ⟨w5.heap.size, 0, none⟩) 4 4, .int .i64 23] (w5.alloc (.cells #[.int .i64 3, .int .i64 2, .int .i64 1, .int .i64 0] 3)) _ := gr_rank (n := 4) (HG.out.1.below (below_trans hk4 (alloc_b (Below.refl _ _) _))) tS4 (by omega) (by omega) (lit_pm rfl (lit_ints (by decide) rfl)) exS4.2.2; have HC4 := Lib.hid c4; have HK4 := Lib.hid hk4; clear c4 hk4; clear k1)
    | (go_at_call 35; refine HC2.out.mono ?_; rintro e1 w4 ⟨rfl, k1⟩; have hk3 : Below W2.heap.size W2 w4 := below_trans HK2.out k1; have y0 := (hk3.block _ (Array.getElem?_eq_some_iff.1 HB.out.1).1).trans HB.out.1; have y1 := (hk3.block _ (Array.getElem?_eq_some_iff.1 HB.out.2.1).1).trans HB.out.2.1; have y2 := (hk3.block _ (Array.getElem?_eq_some_iff.1 HB.out.2.2).1).trans HB.out.2.2; obtain ⟨e300, e301, e302, _, _, _⟩ := box_cells y0; obtain ⟨e310, e311, e312, _, _, _⟩ := box_cells y1; obtain ⟨e320, e321, e322, _, _, _⟩ := box_cells y2; clear y0 y1 y2; have c3 : Calls Tryz.prog 36 #[.agg #[.int .i64 4, .slice a1 4 c1, .slice b1 4 d1], .slice (some ⟨w4.heap.size, 0, none⟩) 4 4, .int .i64 1] (w4.alloc (.cells #[.int .i64 0, .int .i64 1, .int .i64 3, .int .i64 2] 3)) _ := gr_rank (n := 4) (HG.out.1.below (below_trans hk3 (alloc_b (Below.refl _ _) _))) tS4 (by omega) (by omega) (lit_pm rfl (lit_ints (by decide) rfl)) exS4.2.1; have HC3 := Lib.hid c3; have HK3 := Lib.hid hk3; clear c3 hk3; clear k1)
    | (go_at_call 35; refine HC1.out.mono ?_; rintro e1 w3 ⟨rfl, k1⟩; have hk2 : Below W2.heap.size W2 w3 := below_trans HK1.out k1; have y0 := (hk2.block _ (Array.getElem?_eq_some_iff.1 HB.out.1).1).trans HB.out.1; have y1 := (hk2.block _ (Array.getElem?_eq_some_iff.1 HB.out.2.1).1).trans HB.out.2.1; have y2 := (hk2.block _ (Array.getElem?_eq_some_iff.1 HB.out.2.2).1).trans HB.out.2.2; obtain ⟨e200, e201, e202, _, _, _⟩ := box_cells y0; obtain ⟨e210, e211, e212, _, _, _⟩ := box_cells y1; obtain ⟨e220, e221, e222, _, _, _⟩ := box_cells y2; clear y0 y1 y2; have c2 : Calls Tryz.prog 35 #[.agg #[.int .i64 4, .slice a3 4 c3, .slice b3 4 d3]] w3 _ := gr_size (n := 4) (HG.out.2.2.1.below hk2) tZ2 (by omega) (by omega) exZ2; have HC2 := Lib.hid c2; have HK2 := Lib.hid hk2; clear c2 hk2 k1)
    | (go_at_call 17; refine groups52.mono ?_; rintro e1 w1 ⟨v1, v2, v3, rfl, k1, k2, k3, k4⟩; obtain ⟨a1, c1, b1, d1, rfl⟩ := k1.form; obtain ⟨a2, c2, b2, d2, rfl⟩ := k2.form; obtain ⟨a3, c3, b3, d3, rfl⟩ := k3.form; have H1 := Lib.hid (And.intro k1 (And.intro k2 (And.intro k3 k4))); clear k1 k2 k3 k4; obtain ⟨W2, hW2⟩ : ∃ W2, (((w1.alloc (.cells #[.int .i64 4, .slice a1 4 c1, .slice b1 4 d1] 25)).alloc (.cells #[.int .i64 4, .slice a2 4 c2, .slice b2 4 d2] 25)).alloc (.cells #[.int .i64 4, .slice a3 4 c3, .slice b3 4 d3] 25)) = W2 := ⟨_, rfl⟩; have hb2 : Below w1.heap.size w1 W2 := hW2 ▸ alloc_b (alloc_b (alloc_b (Below.refl _ _) _) _) _; have y0 : W2.heap[w1.heap.size]? = some (.cells #[.int .i64 4, .slice a1 4 c1, .slice b1 4 d1] 25) := hW2 ▸ ((Below.heap_alloc _ _ _ (by simp; omega)).trans ((Below.heap_alloc _ _ _ (by simp)).trans (box_alloc rfl _ _ _))); have y1 : W2.heap[w1.heap.size + 1]? = some (.cells #[.int .i64 4, .slice a2 4 c2, .slice b2 4 d2] 25) := hW2 ▸ ((Below.heap_alloc _ _ _ (by simp)).trans (box_alloc (by simp) _ _ _)); have y2 : W2.heap[w1.heap.size + 1 + 1]? = some (.cells #[.int .i64 4, .slice a3 4 c3, .slice b3 4 d3] 25) := hW2 ▸ (box_alloc (by simp) _ _ _); obtain ⟨e100, e101, e102, _, _, _⟩ := box_cells y0; obtain ⟨e110, e111, e112, _, _, _⟩ := box_cells y1; obtain ⟨e120, e121, e122, _, _, _⟩ := box_cells y2; have HB := Lib.hid (And.intro y0 (And.intro y1 y2)); have HK1 := Lib.hid (Below.refl W2.heap.size W2); have HG := Lib.hid (And.intro (H1.out.1.below hb2) (And.intro (H1.out.2.1.below hb2) (And.intro (H1.out.2.2.1.below hb2) (below_trans H1.out.2.2.2 hb2)))); have c1 : Calls Tryz.prog 35 #[.agg #[.int .i64 4, .slice a1 4 c1, .slice b1 4 d1]] W2 _ := gr_size (n := 4) HG.out.1 tS4 (by omega) (by omega) exS4.1; have HC1 := Lib.hid c1; clear c1 hb2 y0 y1 y2))
  go_ret
  exact ⟨rfl, below_trans HG.out.2.2.2 HK6.out⟩
end Go.Proofs.YtbejhkojdiadaaaGreatDoor
namespace Go.Proofs.YtbejhkojdiadaaaGreatDoor
open Go.RowKit PlainPm
namespace PlainPm
section
variable {n : Nat} {G : Pm n → Prop} {O : Nat → List Nat} {R : Nat → Nat → Pm n}
theorem un_below (h : ChG G O R) {f i : Nat} {y : Pm n} {k : Nat} (hf : i + f = n) (hy : G y) (hk : k < szF O f i) {j : Nat} (hj : j < i) : (unF O R f i y k).at j = y.at j := by
  have hm : unF O R f i y k ∈ elsF O R f i y := by
    rw [els_un h hf]
    exact List.mem_map.2 ⟨k, List.mem_range.2 hk, rfl⟩
  exact ((mem_els h hf hy).1 hm).2 j hj
theorem rk_un (h : ChG G O R) : ∀ {f i : Nat} {y : Pm n} {k a : Nat}, i + f = n → G y → k < szF O f i → rkF O R (unF O R f i y k) f i y a = some (a + k)
  | 0, i, y, k, a, hf, hy, hk => by
    have : k = 0 := by simp [szF] at hk; omega
    subst this
    simp [rkF]
  | f + 1, i, y, k, a, hf, hy, hk => by
    have hi : i < n := by omega
    have hpos := h.sz_pos (f := f) (i := i + 1) (by omega)
    have hs : k / szF O f (i + 1) < (O i).length := Nat.div_lt_of_lt_mul (by rw [szF] at hk; rwa [Nat.mul_comm] at hk)
    obtain ⟨q, hq⟩ : ∃ q, selQ y (O i) (k / szF O f (i + 1)) = q := ⟨_, rfl⟩
    obtain ⟨h1, h2⟩ := sel_mem (y := y) (h.lt i hi) (h.nd i hi) hs
    rw [hq] at h1 h2
    obtain ⟨s1, s2, s3⟩ := h.step hi hy h1
    have hx : (unF O R f (i + 1) ((R i q).mul y) (k % szF O f (i + 1))).at i = y.at q := by
      rw [un_below h (by omega) s1 (Nat.mod_lt _ hpos) (Nat.lt_succ_self i), s3]
    have hinv : y.inv.at (y.at q) = q := y.inv_of (h.lt i hi q h1)
    rw [unF, hq, rkF, hx, hinv, if_pos h1, rk_un h (by omega) s1 (Nat.mod_lt _ hpos), h2]
    have := Nat.div_add_mod k (szF O f (i + 1))
    rw [Nat.mul_comm] at this
    congr 1
    omega
theorem lex_one {x : Pm n} : ¬ lexLt x (PlainPm.one n) := fun ⟨k, hk, h1, h2⟩ => by
  rw [one_at hk] at h2
  have h3 := h1 _ h2
  rw [one_at (by omega)] at h3
  have := x.inj (by omega) hk h3
  omega
end
end PlainPm
section
variable {n : Nat}
def AllE (E : List (Pm n)) (G : Pm n → Prop) : Prop := E.Pairwise lexLt ∧ ∀ x, x ∈ E ↔ G x
theorem els_all {G : Pm n → Prop} {O : Nat → List Nat} {R : Nat → Nat → Pm n} (h : ChG G O R) {E : List (Pm n)} (hE : AllE E G) : elsF O R n 0 (PlainPm.one n) = E :=
  sorted_ext (els_lt h (Nat.zero_add n) h.isG.one) hE.1 (fun x => (mem_all h).trans (hE.2 x).symm)
theorem AllE.len {G : Pm n → Prop} {O : Nat → List Nat} {R : Nat → Nat → Pm n} (h : ChG G O R) {E : List (Pm n)} (hE : AllE E G) : szF O n 0 = E.length := by
  rw [← els_all h hE, els_len h (Nat.zero_add n)]
theorem AllE.un {G : Pm n → Prop} {O : Nat → List Nat} {R : Nat → Nat → Pm n} (h : ChG G O R) {E : List (Pm n)} (hE : AllE E G) {k : Nat} (hk : k < E.length) : E[k]? = some (unF O R n 0 (PlainPm.one n) k) := by
  have h1 := els_un h (Nat.zero_add n) (y := PlainPm.one n)
  rw [els_all h hE, hE.len h] at h1
  rw [h1, List.getElem?_map, List.getElem?_range hk]
  rfl
theorem AllE.rk {G : Pm n → Prop} {O : Nat → List Nat} {R : Nat → Nat → Pm n} (h : ChG G O R) {E : List (Pm n)} (hE : AllE E G) {k : Nat} {x : Pm n} (hk : E[k]? = some x) : rkF O R x n 0 (PlainPm.one n) 0 = some k := by
  have hl := (List.getElem?_eq_some_iff.1 hk).1
  have h1 := hE.un h hl
  rw [hk] at h1
  rw [Option.some.inj h1, rk_un h (Nat.zero_add n) h.isG.one (by rw [hE.len h]; exact hl), Nat.zero_add]
theorem ChG.congrG {G G' : Pm n → Prop} {O : Nat → List Nat} {R : Nat → Nat → Pm n} (h : ChG G O R) (e : ∀ x, G x ↔ G' x) : ChG G' O R := by
  obtain rfl : G = G' := funext fun x => propext (e x)
  exact h
theorem agen_of_repI {T T' : Tw n} (h : repI T n = repI T' n) : agen T = agen T' :=
  (List.map_inj_right (f := fun x : Pm n => x.l) (fun x y h => by cases x; cases y; cases h; rfl)).1 (by rw [agen_flat, agen_flat, h])
theorem GrG.vals (hn : 0 < n ∧ n ≤ 64) {w : World} {v : Value} {G : Pm n → Prop} (hG : IsG G) (h : GrG w v G) :
    ∃ os rs, ChV w v n os rs ∧ CapV w v ∧ chkE n os rs = 0 ∧ ChG G (orbV n os rs) (repV n os rs) := by
  obtain ⟨T, t, c, hcap⟩ := h.ch
  have hv := valid_ofG hG t
  refine ⟨_, _, c, hcap, ?_, ?_⟩
  · unfold chkE
    rw [if_pos (by omega), Int.toNat_natCast, if_pos hv]
  · refine ChG.congrG hv.chG fun x => ?_
    obtain ⟨k1, _, k3⟩ := valid_tw hv
    rw [← agen_grp hG t x, agen_of_repI k3, agen_grp Grp.isG k1 x]
theorem memE_ok (hn : 0 < n ∧ n ≤ 64) {os : List (List Int)} {rs : List (List (List Int))} (h : chkE n os rs = 0) (x : Pm n) : memE n os rs x.l = 0 := by
  have := x.ok.1
  unfold memE
  rw [if_neg (by rw [h]; simp), if_neg (by rw [chkP_l hn x]; simp), if_neg (by rw [this]; simp)]
theorem toPm_self (x : Pm n) : toPm n x.l = x := Pm.ext' (toPm_l x.ok)
variable {w : World} {v u : Value} {G : Pm n → Prop} {E : List (Pm n)}
theorem sizeG (hn : 0 < n ∧ n ≤ 8) (hG : IsG G) (h : GrG w v G) (hE : AllE E G) :
    Calls Tryz.prog 35 #[v] w fun e w' => e = .returned (.tuple #[.int .i64 (E.length : Int), .int .i64 0]) ∧ Below w.heap.size w w' := by
  obtain ⟨os, rs, h1, h2, h3, h4⟩ := h.vals ⟨hn.1, by omega⟩ hG
  have := size12 h1 h2 (by omega)
  rwa [h3, show sizeN n os rs = E.length by unfold sizeN; rw [if_pos h3, Int.toNat_natCast, hE.len h4]] at this
theorem rank_in (hn : 0 < n ∧ n ≤ 8) (hG : IsG G) (h : GrG w v G) (hE : AllE E G) {x : Pm n} {k : Nat} (hk : E[k]? = some x) (hx : PmV w [] u x) :
    Calls Tryz.prog 19 #[v, u] w fun e w' => e = .returned (.tuple #[.int .i64 (k : Int), .int .i64 0]) ∧ Below w.heap.size w w' := by
  obtain ⟨os, rs, h1, h2, h3, h4⟩ := h.vals ⟨hn.1, by omega⟩ hG
  obtain ⟨a, c, rfl, hi⟩ := hx.ints (by omega)
  have hm := memE_ok ⟨hn.1, by omega⟩ h3 x
  have hr : rankO n os rs x.l = some k := by
    unfold rankO
    rw [Int.toNat_natCast, toPm_self, hE.rk h4 hk]
  have := rank14 (c0 := c) h1 h2 (by omega) hi
  rwa [show rankN n os rs x.l = k by unfold rankN; rw [if_pos hm, hr]; rfl, show rankE n os rs x.l = 0 by unfold rankE; rw [if_pos hm, hr]; rfl] at this
theorem rank_out (hn : 0 < n ∧ n ≤ 8) (hG : IsG G) (h : GrG w v G) {x : Pm n} (hk : ¬ G x) (hx : PmV w [] u x) :
    Calls Tryz.prog 19 #[v, u] w fun e w' => e = .returned (.tuple #[.int .i64 0, .int .i64 18]) ∧ Below w.heap.size w w' := by
  obtain ⟨os, rs, h1, h2, h3, h4⟩ := h.vals ⟨hn.1, by omega⟩ hG
  obtain ⟨a, c, rfl, hi⟩ := hx.ints (by omega)
  have hm := memE_ok ⟨hn.1, by omega⟩ h3 x
  have hr : rankO n os rs x.l = none := by
    unfold rankO
    rw [Int.toNat_natCast, toPm_self]
    cases hc : rkF (orbV n os rs) (repV n os rs) x n 0 (PlainPm.one n) 0 with
    | none => rfl
    | some r => exact absurd ((h4.rk_some (Nat.zero_add n) h4.isG.one (fun j hj => absurd hj (by omega))).1 (by rw [hc]; rfl)) hk
  have := rank14 (c0 := c) h1 h2 (by omega) hi
  rwa [show rankN n os rs x.l = 0 by unfold rankN; rw [if_pos hm, hr]; rfl, show rankE n os rs x.l = 18 by unfold rankE; rw [if_pos hm, hr]; rfl] at this
theorem unr_in (hn : 0 < n ∧ n ≤ 8) (hG : IsG G) (h : GrG w v G) (hE : AllE E G) {x : Pm n} {k : Nat} (hk : E[k]? = some x) :
    Calls Tryz.prog 18 #[v, .int .i64 (k : Int)] w fun e w' => ∃ a c, e = .returned (.tuple #[.slice a n c, .int .i64 0]) ∧ PmV w' [] (.slice a n c) x ∧ Below w.heap.size w w' := by
  obtain ⟨os, rs, h1, h2, h3, h4⟩ := h.vals ⟨hn.1, by omega⟩ hG
  have hl := (List.getElem?_eq_some_iff.1 hk).1
  have hs : sizeN n os rs = E.length := by unfold sizeN; rw [if_pos h3, Int.toNat_natCast, hE.len h4]
  have hun := hE.un h4 hl
  rw [hk] at hun
  have hU : unrL n os rs (k : Int) = x.l := by
    unfold unrL
    rw [if_pos ⟨h3, by omega, by rw [hs]; omega⟩, Int.toNat_natCast, Int.toNat_natCast, ← Option.some.inj hun]
  have hUE : unrE n os rs (k : Int) = 0 := by unfold unrE; rw [if_pos h3, if_pos ⟨by omega, by rw [hs]; omega⟩]
  refine (unrank16 h1 h2 (by omega)).mono ?_
  rintro e w' ⟨⟨a, c, rfl, hi⟩, hb⟩
  rw [hU] at hi
  exact ⟨a, c, by rw [hU, hUE, x.ok.1], pm_of_ints hn.1 hi, hb⟩
theorem unr_out (hn : 0 < n ∧ n ≤ 8) (hG : IsG G) (h : GrG w v G) (hE : AllE E G) {k : Nat} (hk : E.length ≤ k) :
    Calls Tryz.prog 18 #[v, .int .i64 (k : Int)] w fun e w' => ∃ a c, e = .returned (.tuple #[.slice a 0 c, .int .i64 2]) ∧ Below w.heap.size w w' := by
  obtain ⟨os, rs, h1, h2, h3, h4⟩ := h.vals ⟨hn.1, by omega⟩ hG
  have hs : sizeN n os rs = E.length := by unfold sizeN; rw [if_pos h3, Int.toNat_natCast, hE.len h4]
  have hU : unrL n os rs (k : Int) = [] := by
    unfold unrL
    rw [if_neg (fun h => by have := h.2.2; rw [hs] at this; omega)]
  have hUE : unrE n os rs (k : Int) = 2 := by unfold unrE; rw [if_pos h3, if_neg (fun h => by have := h.2; rw [hs] at this; omega)]
  refine (unrank16 h1 h2 (by omega)).mono ?_
  rintro e w' ⟨⟨a, c, rfl, hi⟩, hb⟩
  exact ⟨a, c, by rw [hU, hUE]; rfl, hb⟩
def LeastOf (G : Pm n → Prop) (x z : Pm n) : Prop := (∃ g, G g ∧ z = g.mul x) ∧ ∀ g, G g → g.mul x = z ∨ lexLt z (g.mul x)
theorem LeastOf.uniq {x z z' : Pm n} (h : LeastOf G x z) (h' : LeastOf G x z') : z = z' := by
  obtain ⟨g, hg, e⟩ := h.1
  obtain ⟨g', hg', e'⟩ := h'.1
  have h1 := h.2 g' hg'
  have h2 := h'.2 g hg
  rw [← e'] at h1
  rw [← e] at h2
  rcases h1 with h1 | h1
  · exact h1.symm
  · rcases h2 with h2 | h2
    · exact h2
    · exact (lexLt_asymm h1 h2).elim
theorem LeastOf.of {O : Nat → List Nat} {R : Nat → Nat → Pm n} (h : ChG G O R) (x : Pm n) : LeastOf G x (lstC O R x) := ⟨lstC_mem h x, fun g hg => lstC_least h hg⟩
theorem LeastOf.one (hG : IsG G) {x z : Pm n} (hx : G x) (h : LeastOf G x z) : z = PlainPm.one n := by
  have := h.2 _ (hG.inv hx)
  rw [Pm.inv_mul] at this
  rcases this with e | e
  · exact e.symm
  · exact absurd e lex_one
theorem LeastOf.iff (hG : IsG G) {x y a b : Pm n} (h : LeastOf G x a) (h' : LeastOf G y b) : a = b ↔ ∃ g, G g ∧ g.mul x = y := by
  constructor
  · intro e
    obtain ⟨g, hg, e1⟩ := h.1
    obtain ⟨g', hg', e2⟩ := h'.1
    refine ⟨g'.inv.mul g, hG.mul (hG.inv hg') hg, ?_⟩
    rw [Pm.mul_assoc, ← e1, e, e2, ← Pm.mul_assoc, Pm.inv_mul, Pm.one_mul]
  · rintro ⟨g, hg, rfl⟩
    refine h.uniq ⟨?_, fun q hq => ?_⟩
    · obtain ⟨g', hg', e2⟩ := h'.1
      exact ⟨g'.mul g, hG.mul hg' hg, by rw [e2, Pm.mul_assoc]⟩
    · have := h'.2 _ (hG.mul hq (hG.inv hg))
      rwa [← Pm.mul_assoc, Pm.mul_assoc (q) (g.inv) g, Pm.inv_mul, Pm.mul_one] at this
theorem least_in (hn : 0 < n ∧ n ≤ 8) (hG : IsG G) (h : GrG w v G) {x : Pm n} (hx : PmV w [] u x) :
    Calls Tryz.prog 21 #[v, u] w fun e w' => ∃ a c z, e = .returned (.tuple #[.slice a n c, .int .i64 0]) ∧ LeastOf G x z ∧ PmV w' [] (.slice a n c) z ∧ Below w.heap.size w w' := by
  obtain ⟨os, rs, h1, h2, h3, h4⟩ := h.vals ⟨hn.1, by omega⟩ hG
  obtain ⟨a, c, rfl, hi⟩ := hx.ints (by omega)
  have hm := memE_ok ⟨hn.1, by omega⟩ h3 x
  have hl : lstL n os rs x.l = (lstC (orbV n os rs) (repV n os rs) x).l := by
    unfold lstL
    rw [if_pos hm, Int.toNat_natCast, toPm_self]; rfl
  refine (least18 (c0 := c) h1 h2 (by omega) hi).mono ?_
  rintro e w' ⟨⟨a1, c1, rfl, hi1⟩, hb⟩
  rw [hl] at hi1
  exact ⟨a1, c1, _, by rw [hl, hm, (lstC (orbV n os rs) (repV n os rs) x).ok.1], .of h4 x, pm_of_ints hn.1 hi1, hb⟩
theorem list_in (hn : 0 < n ∧ n ≤ 8) (hG : IsG G) (h : GrG w v G) (hE : AllE E G) (h5 : E.length ≤ 5040) :
    Calls Tryz.prog 10 #[v] w fun e w' => ∃ a c, e = .returned (.tuple #[.slice a E.length c, .int .i64 0]) ∧ PmsV w' [] (.slice a E.length c) E ∧ Below w.heap.size w w' := by
  obtain ⟨O, R, hC, hcal⟩ := list125 hn hG h
  refine (hcal (by rw [hE.len hC]; exact h5)).mono ?_
  rintro e w' ⟨v', us, rfl, k1, k2, k3⟩
  rw [els_all hC hE] at k2
  have hul : us.length = E.length := k2.1
  obtain ⟨a, c, rfl, _⟩ := k1.row (by rw [hul]; unfold maxLen; omega)
  have hv := pms_ownB k1 (k2.extM (M' := []) (by simp)) (by omega)
  rw [hul] at hv
  exact ⟨a, c, by rw [hul], hv, k3⟩
end
end Go.Proofs.YtbejhkojdiadaaaGreatDoor
namespace Go.Proofs.YtbejhkojdiadaaaGreatDoor
open Go.RowKit
def noDefer (o : Oper) : Bool := match o.op with | .defer _ => false | _ => true
theorem noDefer_spec {o : Oper} (h : noDefer o = true) : ∀ c, o.op ≠ .defer c := by
  intro c e
  unfold noDefer at h
  rw [e] at h
  cases h
section
variable {P : Program} {n l : Nat} {ops : Array Oper} {Q : Exit → Act → World → Prop} {md : Region.Mode}
theorem opIn_round {o : Oper} (hd : noDefer o = true) {a : Act} {w : World} {K : Act → World → Prop} (h : o.wpIn Fence.wide n P a w K Q) : o.wpIn (Fence.wide.inRound l) n P a w K Q := by
  obtain ⟨h1, h2⟩ := h
  refine ⟨h1, ?_⟩
  rw [Oper.semAt_eq _ _ _ (noDefer_spec hd)] at h2 ⊢
  generalize (execOp a.eval o).run P w = r at h2 ⊢
  exact h2
theorem opsIn_round (hd : ops.toList.all noDefer = true) {i : Nat} {K K' : Act → World → Prop} {a : Act} {w : World} (hK : ∀ a w, K a w → K' a w) (h : wpOpIn Fence.wide n P ops Q i K a w) : wpOpIn (Fence.wide.inRound l) n P ops Q i K' a w := by
  have h := wpOpIn_mono hK h
  unfold wpOpIn at h ⊢
  cases ho : ops[i]? with
  | none => rw [ho] at h; exact h
  | some o =>
    rw [ho] at h
    dsimp only at h ⊢
    have hdo : noDefer o = true := List.all_eq_true.1 hd o (Array.mem_toList_iff.2 (Array.mem_of_getElem? ho))
    split
    · rename_i hw; rw [if_pos hw] at h; exact opIn_round hdo h
    · rename_i hw; rw [if_neg hw] at h; exact h
theorem wpAnyIn_round (hd : ops.toList.all noDefer = true) : ∀ (fuel : Nat) (listed : Array Bool) (a : Act) (w : World), wpAnyIn Fence.wide n P md ops Q fuel listed a w → wpAnyIn (Fence.wide.inRound l) n P md ops Q fuel listed a w
  | 0, _, _, _, h => h
  | fuel + 1, _, _, _, h => ⟨h.1, fun i hi => opsIn_round hd (fun a w => wpAnyIn_round hd fuel _ a w) (h.2 i hi)⟩
theorem region_round {id : Nat} {a : Act} {w : World} (hm : P.follows .mixedOrders = true) (hd : ops.toList.all noDefer = true)
    (h : wpAnyIn Fence.wide n P .any ops Q ops.size (Array.replicate ops.size false) a { w with drawn := w.drawn + 1 }) : (Code.region id ops true).wpIn (Fence.wide.inRound l) n P Q a w :=
  wpIn_region_any hm (wpAnyIn_round hd _ _ _ _ h)
theorem quiet_round {id : Nat} {a : Act} {w : World} {lst : List Oper} (hm : P.follows .mixedOrders = true) (hB : Region.lexB .any lst.toArray = true) (hd : lst.all noDefer = true)
    (h : wpQuietIn Fence.wide n P lst.toArray (fun w' => ∃ n, w' = w.drewN n) (fun a' => ∀ w', (∃ n, w' = w.drewN n) → Q .normal a' w') lst a) : (Code.region id lst.toArray true).wpIn (Fence.wide.inRound l) n P Q a w := by
  simp only [Region.lexB, Bool.and_eq_true] at hB
  refine region_round hm hd (wpAnyIn_of_quiet (C := fun w' => ∃ n, w' = w.drewN n) (Q := fun a' => ∀ w', (∃ n, w' = w.drewN n) → Q .normal a' w') rfl (fun _ w' hw' h => h w' hw') _ _ _ _ ⟨1, rfl⟩ ?_)
  have := wpAnyQIn_lex (F := Fence.wide) (n := n) (C := fun w' => ∃ n, w' = w.drewN n) (md := .any) hB.1 lst 0 (Array.replicate lst.toArray.size false) a (by simp) (by simpa using hB.2) h
  simpa using this
end
theorem quiet_rd {P : Program} {f : FuncId} {args : Array Value} {w : World} {x n : Nat} {v : Value} (h : Calls P f args (w.drewN x) fun e w' => e = .returned v ∧ ∃ q, w' = (w.drewN x).drewN q) :
    CallsIn Fence.wide n P f args (w.drewN x) fun e w'' => e = .returned v ∧ ∃ m, w'' = w.drewN m :=
  callsIn_wide.2 (h.mono fun _ _ ⟨he, q, hq⟩ => ⟨he, x + q, by rw [hq, World.drewN_drewN]⟩)
end Go.Proofs.YtbejhkojdiadaaaGreatDoor
