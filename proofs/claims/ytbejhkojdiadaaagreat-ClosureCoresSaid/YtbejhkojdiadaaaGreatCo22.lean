/- List: the program's. · closure's word: a permutation's images as bytes. · closure's elements: a map from words to permutations. · A range over a map from words to permutations. · gathered: the chain of a group whose elements a map has. · Core and centre, plain: what the programs' loops come to. -/
import Derived.Test.YtbejhkojdiadaaaGreatCo01
import Derived.Test.YtbejhkojdiadaaaGreatCo02
import Derived.Test.YtbejhkojdiadaaaGreatCo03
import Derived.Test.YtbejhkojdiadaaaGreatCo04
import Derived.Test.YtbejhkojdiadaaaGreatCo05
import Derived.Test.YtbejhkojdiadaaaGreatCo06
import Derived.Test.YtbejhkojdiadaaaGreatCo07
import Derived.Test.YtbejhkojdiadaaaGreatCo08
import Derived.Test.YtbejhkojdiadaaaGreatCo09
import Derived.Test.YtbejhkojdiadaaaGreatCo10
import Derived.Test.YtbejhkojdiadaaaGreatCo11
import Derived.Test.YtbejhkojdiadaaaGreatCo12
import Derived.Test.YtbejhkojdiadaaaGreatCo13
import Derived.Test.YtbejhkojdiadaaaGreatCo14
import Derived.Test.YtbejhkojdiadaaaGreatCo15
import Derived.Test.YtbejhkojdiadaaaGreatCo16
import Derived.Test.YtbejhkojdiadaaaGreatCo17
import Derived.Test.YtbejhkojdiadaaaGreatCo18
import Derived.Test.YtbejhkojdiadaaaGreatCo19
import Derived.Test.YtbejhkojdiadaaaGreatCo21
import Derived.Test.YtbejhkojdiadaaaGreatProg
import Derived.Laws.BytesArg
import Derived.Maps.OwnSet
import Derived.Carry
import Derived.Maps.Range
import Derived.WalkKit
import Derived.WalkSpells
import Derived.BigQuiet
import Derived.Deep.QuietTactic
import Derived.Deep.LoopGhost
import Derived.Lib.Hide
import Derived.Maps.AppendAt
import Derived.Deep.AppendLies
import Derived.StillTailTactics
import Derived.Laws.CopyOwn
import Derived.Deep.OwnRows
import Derived.Deep.DeepCutAuto
import Derived.Laws.Cover3
import Derived.Deep.RegionHeld3
import Derived.RangeFuncRecord
import Derived.Lib.SlicesSearch
import Derived.RangeFuncBox
import Derived.RangeFuncLeaves
import Derived.RangeFuncWrites
import Derived.RangeFuncFrom
import Derived.Shelf.Abstract
import Derived.OwnWalkIn
import Derived.TacticsInMore
import Derived.LoopNIn
import Derived.LoopIn
import Derived.Shelf.GgSortFunc.Insertion
import Derived.Shelf.SlIter.Collect
import Derived.Shelf.Sort.Plain
import Derived.Deep.RegionLaw
import Derived.ControlIn
import Derived.Deep.AppendSrc
set_option linter.unusedSimpArgs false
set_option linter.unusedVariables false
namespace Go.Proofs.YtbejhkojdiadaaaGreat
open Go.RowKit PlainPm
attribute [local go_sem] Oper.semAt_some
theorem app1Op {F : Fence} {N : Nat} {P : Program} {w : World} {o : Oper} {a : Act} {Q : Exit → Act → World → Prop} {K : Act → World → Prop} (s x : Operand) (T e : TypeId)
    (ho : o.op = .call { callee := .builtin .append, args := #[s, x], argTypes := #[T, T] })
    (i : TypeInfo) (z : Value) (bytes : Nat) (ht : P.underlying T = some (.slice e)) (hi : P.info? e = some i) (hz : i.zero = some z)
    (hsize : i.size = 1) (hby : i.bytes = bytes) (hzs : z.cells.size = 1) (hb64 : bytes ≤ 64)
    (B : Nat) (u : Value) (v : Value) (xs : List Value) (hs : a.eval s = v) (hown : Own w B v e xs) (hx : a.eval x = .slice (some ⟨w.heap.size, 0, none⟩) 1 1)
    (h1 : u.oneCell' = true) (hlen : xs.length < 1099511627776) (hB : B ≤ w.heap.size)
    (h : ∀ v' w', Own w' B v' e (xs ++ [u]) → w.grownBy w' v.ownBlock → (v'.ownBlock = v.ownBlock ∨ ∃ g, v'.ownBlock = some g ∧ w.heap.size ≤ g) → K (a.put o.dst v') w') :
    o.wpIn F N P a (w.alloc (.cells #[u] e)) K Q := by
  obtain ⟨v', w', hr, h2, h3, _, h5⟩ := run_append_own_at (P := P) (w.alloc (.cells #[u] e)) B T o.type e i z 1 bytes ht hi hz hsize hby hzs (by omega) v xs.length xs (hown.alloc _) ⟨w.heap.size, 0, none⟩ 1 1 [u] rfl (cell_one_new _ _ _)
    (by intro y hy; rw [List.mem_singleton.1 hy]; exact h1) (by unfold maxLen; omega) (Nat.le_trans (Nat.mul_le_mul_left _ hb64) (by omega)) (by simp; omega)
  unfold Oper.wpIn
  refine ⟨?_, ?_⟩
  · simp [Oper.about, ho, resolve, Target.leads, Sem.run_pure]
  · rw [Oper.semAt_plain F _ _ (by rw [ho]; intro c hc'; cases hc')]
    simp [execOp, ho, resolve, invoke, builtin, hs, hx, hr, Result.andThen]
    refine h _ _ (by unfold Own; rw [List.length_append]; exact h2) ((grown_alloc w _ _).trans h3) ?_
    rcases h5 with h5 | h5
    · exact .inl h5
    · exact .inr ⟨_, h5, by simp⟩
section
variable {n : Nat}
structure LsI (S : List Nat) (Y D : Nat) (v : Value) (us : List Value) (s : List (Pm n)) (M : List Nat) (A : World) : Prop where
  m : M = Y :: v.ownBlock.toList
  y : A.heap[Y]? = some (.cells #[v] 44 (0, 0))
  own : Own A D v 27 us
  pml : PmL A (S ++ M) us s
  sl : ∀ m ∈ S, m < A.heap.size
theorem PmL.kept' {w w' : World} {M M' S : List Nat} {us : List Value} {l : List (Pm n)} (h : PmL w M us l) (k : Kept w w' S) (hS : ∀ m ∈ S, m ∈ M) (hM : ∀ m ∈ M', m ∈ M) : PmL w' M' us l :=
  ⟨h.1, fun i x hx => by obtain ⟨u, hu, hp⟩ := h.2 i x hx; exact ⟨u, hu, (hp.kept (k.mono hS)).ext (fun m hm => .inl (hM m hm))⟩⟩
theorem Kept.trans' {a b c : World} {S S' : List Nat} (h : Kept a b S) (k : Kept b c S') : Kept a c (S ++ S') :=
  (h.mono (fun m hm => List.mem_append_left _ hm)).trans (k.mono (fun m hm => List.mem_append_right _ hm))
theorem clone67v (hn : 0 < n ∧ n ≤ 64) {w : World} {M : List Nat} {v : Value} {x : Pm n} (h : PmV w M v x) : Calls Tryz.prog 67 #[v] w fun e w' => ∃ v', e = .returned v' ∧ NewPm w w' v' x ∧ Below w.heap.size w w' := by
  obtain ⟨a, c, rfl, hi⟩ := h.ints (by omega)
  have hl := x.ok.1
  refine (clone67 a c x.l w hi (by omega)).mono ?_
  rintro e w' ⟨v, rfl, ho, hb⟩
  obtain ⟨g, cap, rfl, _⟩ := ho.form (by rw [ints_len]; omega)
  rw [ints_len, hl] at ho ⊢
  exact ⟨_, rfl, NewPm.of_own ho (Nat.le_refl _) rfl, hb⟩
theorem LsI.lt {S : List Nat} {Y D : Nat} {v : Value} {us : List Value} {s : List (Pm n)} {M : List Nat} {A : World} (h : LsI S Y D v us s M A) : ∀ m ∈ M, m < A.heap.size := fun m hm => by
  rw [h.m] at hm
  rcases List.mem_cons.1 hm with e | hm
  · rw [e]; exact (Array.getElem?_eq_some_iff.1 h.y).1
  · exact (h.own.block_lt (mem_ob.1 hm)).1
theorem LsI.turn {S : List Nat} {Y D : Nat} {v : Value} {us : List Value} {s : List (Pm n)} {M : List Nat} {A B : World} {row : Option Nat} (h : LsI S Y D v us s M A) (k : Turn A B row) : LsI S Y D v us s M B :=
  ⟨h.m, k.cells h.y, h.own.turn k, h.pml.up k.up, fun m hm => Nat.lt_of_lt_of_le (h.sl m hm) k.up.size⟩
theorem LsI.grow {S : List Nat} {Y D : Nat} {v v' u : Value} {us : List Value} {s : List (Pm n)} {x : Pm n} {M : List Nat} {A w7 w11 : World} (h : LsI S Y D v us s M A) (hY : Y < D) (b7 : Below A.heap.size A w7) (hu : NewPm A w7 u x)
    (o : Own w11 D v' 27 (us ++ [u])) (g : w7.grownBy w11 v.ownBlock) (loc : v'.ownBlock = v.ownBlock ∨ ∃ g, v'.ownBlock = some g ∧ w7.heap.size ≤ g) :
    ∃ M', LsI S Y D v' (us ++ [u]) (s ++ [x]) M' (w11.setCell ⟨Y, 0, none⟩ v') ∧ Stp A M (w11.setCell ⟨Y, 0, none⟩ v') M' := by
  have hyM : Y ∈ M := by rw [h.m]; exact List.mem_cons_self ..
  have hvM : ∀ k, v.ownBlock = some k → k ∈ M := fun k e => by rw [h.m]; exact List.mem_cons_of_mem _ (mem_ob.2 e)
  have ltY := (Array.getElem?_eq_some_iff.1 h.y).1
  have y7 : w7.heap[Y]? = some (.cells #[v] 44 (0, 0)) := (b7.block Y ltY).trans h.y
  have y11 : w11.heap[Y]? = some (.cells #[v] 44 (0, 0)) := (g.block Y (Array.getElem?_eq_some_iff.1 y7).1 (fun e => by have := (h.own.block_lt e.symm).2; omega)).trans y7
  have K2 : Kept w7 w11 M := Kept.ofGrown g hvM
  have K3 : Kept w11 (w11.setCell ⟨Y, 0, none⟩ v') M := Kept.ofGrown (grown_put 0 v') (fun k e => by cases e; exact hyM)
  have hnew : ∀ m ∈ Y :: v'.ownBlock.toList, m ∈ M ∨ w7.heap.size ≤ m := fun m hm => by
    rcases List.mem_cons.1 hm with e | hm
    · exact .inl (e ▸ hyM)
    · have hm := mem_ob.1 hm
      rcases loc with h1 | ⟨k, h1, h2⟩
      · exact .inl (hvM m (by rw [← h1]; exact hm))
      · rw [h1] at hm; cases hm; exact .inr h2
  have S7 : Stp w7 M (w11.setCell ⟨Y, 0, none⟩ v') (Y :: v'.ownBlock.toList) := ⟨K2.trans K3, hnew⟩
  have SA : Stp A M (w11.setCell ⟨Y, 0, none⟩ v') (Y :: v'.ownBlock.toList) := (Stp.below b7).trans S7
  have app : ∀ {B C : World} {N N' : List Nat}, Stp B N C N' → Stp B (S ++ N) C (S ++ N') := fun {B C N N'} hk => ⟨hk.kept.mono (fun m hm => List.mem_append_right _ hm), fun m hm => by
    rcases List.mem_append.1 hm with h1 | h1
    · exact .inl (List.mem_append_left _ h1)
    · rcases hk.new m h1 with h2 | h2
      · exact .inl (List.mem_append_right _ h2)
      · exact .inr h2⟩
  exact ⟨_, ⟨rfl, box1_set y11, o.lowset hY, (h.pml.stp (app SA)).snoc ((hu.pm (fun m hm => by
    rcases List.mem_append.1 hm with h1 | h1
    · exact h.sl m h1
    · exact h.lt m h1)).stp (app S7)), fun m hm => Nat.lt_of_lt_of_le (h.sl m hm) SA.kept.size⟩, SA⟩
theorem two_setG {W : World} {p q : Nat} {a b v u : Value} {t s : TypeId} (hpq : p ≠ q) (h2 : W.heap[p]? = some (.cells #[a] t (0, 0))) (h3 : W.heap[q]? = some (.cells #[b] s (0, 0))) :
    ((W.setCell ⟨p, 0, none⟩ v).setCell ⟨q, 0, none⟩ u).heap[p]? = some (.cells #[v] t (0, 0)) ∧ ((W.setCell ⟨p, 0, none⟩ v).setCell ⟨q, 0, none⟩ u).heap[q]? = some (.cells #[u] s (0, 0)) ∧
    Kept W ((W.setCell ⟨p, 0, none⟩ v).setCell ⟨q, 0, none⟩ u) [p, q] ∧ ∀ k, k ≠ p → k ≠ q → ((W.setCell ⟨p, 0, none⟩ v).setCell ⟨q, 0, none⟩ u).heap[k]? = W.heap[k]? := by
  have other : ∀ (W : World) (b k : Nat) (v : Value), k ≠ b → (W.setCell ⟨b, 0, none⟩ v).heap[k]? = W.heap[k]? := fun W b k v h => by
    simp [World.setCell, Array.getElem?_modify, Ne.symm h]
  have e2 := box1_set (v' := v) h2
  have e3 : (W.setCell ⟨p, 0, none⟩ v).heap[q]? = some (.cells #[b] s (0, 0)) := (other _ _ _ _ (Ne.symm hpq)).trans h3
  refine ⟨(other _ _ _ _ hpq).trans e2, box1_set e3, ⟨rfl, rfl, rfl, by simp [World.setCell], fun k hk hn => ?_⟩, fun k h1 h2 => (other _ _ _ _ h2).trans (other _ _ _ _ h1)⟩
  exact (other _ _ _ _ (fun e => hn (by simp [e]))).trans (other _ _ _ _ (fun e => hn (by simp [e])))
set_option maxRecDepth 100000 in
set_option maxHeartbeats 4000000 in
theorem list125 (hn' : 0 < n ∧ n ≤ 8) {w : World} {v1 : Value} {G : Pm n → Prop} (hG : IsG G) (h1 : GrG w v1 G) :
    ∃ O R, ChG G O R ∧ (szF O n 0 ≤ 5040 → Calls Tryz.prog 125 #[v1] w fun e w' => ∃ v us, e = .returned (.tuple #[v, .int .i64 0]) ∧ Own w' w.heap.size v 27 us ∧ PmL w' v.ownBlock.toList us (elsF O R n 0 (PlainPm.one n)) ∧ Below w.heap.size w w') := by
  have hn : 0 < n ∧ n ≤ 64 := ⟨hn'.1, by omega⟩
  obtain ⟨os, rs, hch, hc0⟩ := h1.chk hn hG
  have hck := fun (V : World) (hV : Below w.heap.size w V) => chk54 (hch.below hV)
  simp only [hc0] at hck
  obtain ⟨T1, t1, ab, ao, c, bb, bo, e, hv1, hl1⟩ := h1.lev hG ⟨hn.1, hn.2⟩
  subst hv1
  have hC := t1.chG hG
  obtain ⟨O, hO⟩ : ∃ O, orbO T1 = O := ⟨_, rfl⟩
  obtain ⟨R, hR⟩ : ∃ R, PlainPm.repT T1 = R := ⟨_, rfl⟩
  have hC' : ChG G O R := by rw [← hO, ← hR]; exact hC
  rw [hO, hR] at hl1
  refine ⟨O, R, hC', fun hsz => ?_⟩
  have hFl := els_len hC' (f := n) (i := 0) (y := PlainPm.one n) (Nat.zero_add n)
  obtain ⟨F, hF⟩ : ∃ F, elsF O R n 0 (PlainPm.one n) = F := ⟨_, rfl⟩
  rw [hF] at hFl ⊢
  have hF5 : F.length ≤ 5040 := by omega
  obtain ⟨i27, hi27, hz27, hs27, hb27⟩ := info_parts Tryz.info27
  have I27 := Lib.hid (And.intro hi27 (And.intro hz27 (And.intro hs27 hb27)))
  clear hi27 hz27 hs27 hb27
  obtain ⟨X, hX⟩ : ∃ X, w.heap.size = X := ⟨_, rfl⟩
  obtain ⟨W1, hW1⟩ : ∃ W1, (((w.alloc (.cells #[.int .i64 (n : Int), .slice (some ⟨ab, ao, none⟩) n c, .slice (some ⟨bb, bo, none⟩) n e] 25)).alloc (.cells #[.slice none 0 0] 44)).alloc (.cells #[.int .i64 0] 30)) = W1 := ⟨_, rfl⟩
  have hszw : W1.heap.size = X + 3 := by rw [← hW1]; simp [hX]
  have hwW : Below w.heap.size w W1 := hW1 ▸ alloc_b (alloc_b (alloc_b (Below.refl _ _) _) _) _
  have k0 : W1.heap[X]? = some (.cells #[.int .i64 (n : Int), .slice (some ⟨ab, ao, none⟩) n c, .slice (some ⟨bb, bo, none⟩) n e] 25) := by
    rw [← hW1]
    exact ((alloc_b (alloc_b (Below.refl _ _) _) _).block X (by simp; omega)).trans (box_al25 hX _ _ _)
  have k1 : W1.heap[X + 1]? = some (.cells #[.slice none 0 0] 44 (0, 0)) := by
    rw [← hW1]
    exact ((alloc_b (Below.refl _ _) _).block (X + 1) (by simp; omega)).trans (al_at (by simp [hX]) _)
  have k2 : W1.heap[X + 2]? = some (.cells #[.int .i64 0] 30 (0, 0)) := by
    rw [← hW1]
    exact al_at (by simp [hX]) _
  obtain ⟨x0, x1, x2, _⟩ := box_cells k0
  obtain ⟨x3, x3f⟩ := box1_cells k1
  obtain ⟨x4, x4f⟩ := box1_cells k2
  have HA := Lib.hid (And.intro hck (And.intro hC' (And.intro hl1 (And.intro hF (And.intro hF5 hwW)))))
  have HB := Lib.hid (And.intro k0 (And.intro k1 (And.intro k2 hszw)))
  clear hck hC' hl1 hF hF5 hC hO hR hwW k0 k1 k2 hszw h1 hch t1 hFl
  refine (callsIn_wide (n := 9)).1 ?_
  have w54 : Fence.wide.fn 54 := trivial
  have w59 : Fence.wide.fn 59 := trivial
  have w67 : Fence.wide.fn 67 := trivial
  have w151 : Fence.wide.fn 151 := trivial
  have wd : Fence.wide.depth = none := rfl
  refine callsIn_of_wp_marks Tryz.func125 rfl trivial ?_ rfl
  simp only [Tryz.ntmps125, List.size_toArray, List.length_cons, List.length_nil, Nat.reduceAdd, Nat.reduceSub, Array.replicate_succ, Array.replicate_zero, List.push_toArray, List.append_toArray, List.nil_append, List.cons_append]
  try simp only [hX]
  gi_wp2_with (gi_at_call 54; (with_reducible refine (callsIn_wide.2 (HA.out.1 _ HA.out.2.2.2.2.2)).mono ?_); rintro e2 w2 ⟨rfl, k⟩; have H2 := Lib.hid k; clear k)
  obtain ⟨Y, hY⟩ : ∃ Y, w2.heap.size = Y := ⟨_, rfl⟩
  obtain ⟨w3, hw3⟩ : ∃ w3, w2.alloc (.cells #[.slice none 0 0] 44) = w3 := ⟨_, rfl⟩
  rw [hw3, hY]
  have b23 : Below w2.heap.size w2 w3 := hw3 ▸ alloc_b (Below.refl _ _) _
  have b13 : Below W1.heap.size W1 w3 := below_trans H2.out b23
  have y3 : w3.heap[Y]? = some (.cells #[.slice none 0 0] 44 (0, 0)) := by rw [← hw3]; exact al_at hY _
  have hs3 : w3.heap.size = Y + 1 := by rw [← hw3]; simp [hY]
  have hXY : X + 3 ≤ Y := by have := H2.out.size; rw [HB.out.2.2.2, hY] at this; exact this
  have hz0 : w3.cell? ⟨X, 0, none⟩ = some (.int .i64 (n : Int)) ∧ w3.cell? ⟨X, 1, none⟩ = some (.slice (some ⟨ab, ao, none⟩) n c) ∧ w3.cell? ⟨X, 2, none⟩ = some (.slice (some ⟨bb, bo, none⟩) n e) ∧ Below w3.heap.size w3 w3 :=
    ⟨(b13.cell (block_lt_of_cell x0)).trans x0, (b13.cell (block_lt_of_cell x1)).trans x1, (b13.cell (block_lt_of_cell x2)).trans x2, Below.refl _ _⟩
  obtain ⟨z0, z1, z2, _⟩ := id hz0
  have HD := Lib.hid (And.intro b13 (And.intro y3 (And.intro hs3 hXY)))
  clear b23 b13 y3 hs3 hXY hw3 hY
  refine wpIn_wide.2 ?_
  go_region_held3 (fun V => V.cell? ⟨X, 0, none⟩ = some (.int .i64 (n : Int)) ∧ V.cell? ⟨X, 1, none⟩ = some (.slice (some ⟨ab, ao, none⟩) n c) ∧ V.cell? ⟨X, 2, none⟩ = some (.slice (some ⟨bb, bo, none⟩) n e) ∧ Below w3.heap.size w3 V)
    (first
      | with_reducible assumption
      | with_reducible exact hz0
      | (refine keep3b hz0 ?_; (repeat' (first | exact Below.refl _ _ | exact b5 | exact b4 | apply below_drw)); done)
      | fail)
    (first
    | (go_at_call 151; (with_reducible refine els151.mono ?_); rintro e8 w5 ⟨I2, C2, P2, rfl, k1, k2, k3, k4, k5, k6, k7⟩
       have b5 : Below w3.heap.size w3 w5 := below_trans (by (repeat' (first | exact b4 | apply below_drw))) k7
       obtain ⟨v0, v1, v2, _⟩ := keep3b hz0 b5
       have H5 := Lib.hid (And.intro k1 (And.intro k2 (And.intro k3 (And.intro k4 (And.intro k5 (And.intro k6 k7)))))); clear k1 k2 k3 k4 k5 k6 k7)
    | (go_at_call 59; (with_reducible refine (one59 hn.2).mono ?_); rintro e7 w4 ⟨v7, rfl, k1, k2⟩; obtain ⟨xb, xc, rfl, k3⟩ := id k1
       have b4 : Below w3.heap.size w3 w4 := below_trans (by (repeat' (first | exact Below.refl _ _ | apply below_drw))) k2
       obtain ⟨u0, u1, u2, _⟩ := keep3b hz0 b4
       have H4 := Lib.hid (And.intro k1 k2); clear k1 k2 k3))
  gi_wp2
  have hY3 := HD.out.2.2.1
  have hXY := HD.out.2.2.2
  have s45 := H5.out.2.2.2.2.2.2.size
  have s4 := b4.size
  have s5 := b5.size
  have b15 : Below W1.heap.size W1 w5 := below_trans HD.out.1 b5
  have bw5 : Below w.heap.size w w5 := below_trans HA.out.2.2.2.2.2 b15
  have hseq := els172 hn HA.out.2.1 (ab := ab) (ao := ao) (c := c) (bb := bb) (bo := bo) (e := e) (F := F) n 0 (Nat.zero_add n) (w := w5) (I := I2) (C := C2) (P := P2) (vy := .slice (some ⟨xb, 0, none⟩) n xc) (y := PlainPm.one n) (M0 := [Y]) (s0 := []) H5.out.1 H5.out.2.1 H5.out.2.2.1
    (fun hm => by have h1 := List.mem_singleton.1 hm; have h2 := H5.out.2.2.2.1; omega) (fun hm => by have h1 := List.mem_singleton.1 hm; have h2 := H5.out.2.2.2.2.1; omega) (fun hm => by have h1 := List.mem_singleton.1 hm; have h2 := H5.out.2.2.2.2.2.1; omega)
    ((H4.out.1.pm (M := [Y]) (fun m hm => by rw [List.mem_singleton.1 hm]; show Y < w3.heap.size; omega)).below H5.out.2.2.2.2.2.2)
    (fun W' hk => HA.out.2.2.1.below (bw5.trans (hk.below bw5.size (fun m hm => by rw [List.mem_singleton.1 hm]; omega))))
    (by rw [List.nil_append, HA.out.2.2.2.1]; exact List.prefix_refl _)
  rw [List.nil_append, HA.out.2.2.2.1] at hseq
  have y5 : w5.heap[Y]? = some (.cells #[.slice none 0 0] 44 (0, 0)) := (b5.block Y (by omega)).trans HD.out.2.1
  have HE := Lib.hid (And.intro b15 (And.intro bw5 y5))
  clear b15 bw5 y5
  refine wpIn_rangeY (gf := 172) (lb := #[.pointer (some ⟨I2, 0, none⟩), .pointer (some ⟨C2, 0, none⟩), .pointer (some ⟨P2, 0, none⟩)]) rfl (enters_of Tryz.func172 (by kernel_rfl) rfl)
    (Prod.fst : Value × Pm n → Value) rfl [Y] (fun m hm => by rw [List.mem_singleton.1 hm]; omega)
    (fun s M A => ∃ v us, LsI [X + 1, X + 1 + 1] Y (Y + 1) v us s M A) (fun _ => False) elCore (elGood F) elNx (fun s => s = F) [] hseq ?own ?ownx ?good ?core ⟨_, [], rfl, HE.out.2.2, Own.nil _ _ _, ⟨rfl, fun k x hx => by simp at hx⟩, fun m hm => by rcases List.mem_cons.1 hm with h | hm; omega; rw [List.mem_singleton.1 hm]; omega⟩
    (fun q => { tmps := #[cv n ab ao c bb bo e, .pointer (some ⟨X, 0, none⟩), .pointer (some ⟨X + 1, 0, none⟩), .pointer (some ⟨X + 1 + 1, 0, none⟩), .int .i64 0, .pointer (some ⟨Y, 0, none⟩), q.1,
      .agg #[.int .i64 (n : Int), .slice (some ⟨ab, ao, none⟩) n c, .slice (some ⟨bb, bo, none⟩) n e], .int .i64 0, .int .i64 0, .bool false, undef, .agg #[.int .i64 (n : Int), .slice (some ⟨ab, ao, none⟩) n c, .slice (some ⟨bb, bo, none⟩) n e], .pointer (some ⟨X, 0, none⟩), .int .i64 (n : Int), .slice (some ⟨xb, 0, none⟩) n xc,
      .func (.func 172) #[] #[.pointer (some ⟨I2, 0, none⟩), .pointer (some ⟨C2, 0, none⟩), .pointer (some ⟨P2, 0, none⟩)], q.1, undef, undef, undef, undef, undef, undef, undef, undef, undef], defers := [] }) ?assign ?body ?done ?stop
  case own =>
    rintro ⟨s', M'⟩ A B row ⟨v, us, h⟩ hAB hr
    exact ⟨v, us, h.turn ⟨hAB, fun r e => (hr r e).2⟩⟩
  case ownx => exact fun u A B row h hAB hr => h
  case good =>
    intro s' M' q' A B row h hg hr
    exact ⟨h.1.up (Turn.up ⟨hg, fun r e => (hr r e).2⟩), h.2⟩
  case core =>
    rintro s' M' A ⟨v, us, h⟩
    exact ⟨trivial, h.lt⟩
  case assign =>
    intro nn l x A K hK
    gi_wp2
    exact hK
  case body =>
    rintro nn l s M ⟨vx, x⟩ A ⟨v, us, hI⟩ ⟨hpm, hpx⟩ hst
    dsimp only at hpm hpx ⊢
    have hsl : s.length < 5040 := by
      have h1 := hpx.length_le
      have h2 := HA.out.2.2.2.2.1
      rw [List.length_append, List.length_singleton] at h1
      omega
    have hul : us.length < 5040 := by rw [hI.pml.1]; exact hsl
    obtain ⟨av, cv', ev, _⟩ := hI.own.row (by unfold maxLen; omega)
    subst ev
    obtain ⟨yc, yf⟩ := box1_cells hI.y
    have k67 := fun (V : World) (hV : Below A.heap.size A V) => clone67v hn (hpm.below hV)
    obtain ⟨xb', xo', xcp, rfl, _⟩ := id hpm
    have g1 : ((us.length : Int) == 5040) = false := by simp; omega
    have HB2 := Lib.hid (And.intro hI (And.intro hpm (And.intro k67 hul)))
    clear hI hpm hpx hst k67 hseq hsl hul
    gi_wp2
    refine wpIn_region_any (by kernel_rfl) ?_
    change wpAnyIn _ _ _ _ _ _ _ _ _ (World.drew _)
    refine wpAnyIn_ready (rs := [0, 1]) (by kernel_rfl) (by simp) ?_
    refine AllReadyIn.cons rfl (fun K hK => ?_) (AllReadyIn.cons rfl (fun K hK => ?_) (AllReadyIn.nil))
    · go_simp
      refine hK _ _ ?_
      clear hK K
      refine wpAnyIn_ready (rs := [1]) (by kernel_rfl) (by simp) ?_
      refine AllReadyIn.cons rfl (fun K hK => ?_) (AllReadyIn.nil)
      go_simp
      refine hK _ _ ?_
      clear hK K
      refine wpAnyIn_ready (rs := [2]) (by kernel_rfl) (by simp) ?_
      refine AllReadyIn.cons rfl (fun K hK => ?_) (AllReadyIn.nil)
      go_simp
      (with_reducible refine (callsR (HB2.out.2.2.1 _ ?_)).mono ?_)
      · exact below_drw (Below.refl _ _)
      rintro e7 w7 ⟨v7, rfl, k1, k2⟩
      obtain ⟨cb, cc, rfl, k3⟩ := id k1
      have b7 : Below A.heap.size A w7 := below_trans (below_drw (Below.refl _ _)) k2
      have y7 : w7.heap[Y]? = some (.cells #[.slice av us.length cv'] 44 (0, 0)) := (b7.block Y (Array.getElem?_eq_some_iff.1 HB2.out.1.y).1).trans HB2.out.1.y
      have ltY7 : Y < w7.heap.size := (Array.getElem?_eq_some_iff.1 y7).1
      obtain ⟨y7c, y7f⟩ := box1_cells y7
      refine hK _ _ ?_
      clear hK K
      refine wpAnyIn_ready (rs := [3]) (by kernel_rfl) (by simp) ?_
      refine AllReadyIn.cons rfl (fun K hK => ?_) (AllReadyIn.nil)
      go_simp
      refine hK _ _ ?_
      clear hK K
      refine wpAnyIn_ready (rs := [4]) (by kernel_rfl) (by simp) ?_
      refine AllReadyIn.cons rfl (fun K hK => ?_) (AllReadyIn.nil)
      refine app1Op (.tmp 21) (.tmp 24) 44 27 rfl i27 (.slice none 0 0) 24 Tryz.underlying44 I27.out.1 I27.out.2.1 I27.out.2.2.1 I27.out.2.2.2 rfl (by omega) (Y + 1) (.slice (some ⟨cb, 0, none⟩) n cc) (.slice av us.length cv') us rfl (HB2.out.1.own.below b7) rfl rfl (by have := HB2.out.2.2.2; omega) (by omega) ?_
      intro v' w11 k4 k5 k6
      obtain ⟨G', cap, ev', -⟩ := k4.form (by simp)
      rw [List.length_append, List.length_singleton] at ev'
      subst ev'
      have y11 := (k5.block Y ltY7 (fun e => own_ne (HB2.out.1.own.below b7) y7 (by decide) e.symm)).trans y7
      obtain ⟨y11c, y11f⟩ := box1_cells y11
      obtain ⟨M', hI', hS'⟩ := HB2.out.1.grow (Nat.lt_succ_self _) b7 (k1.from (by simp [drew_size'])) k4 k5 k6
      refine hK _ _ ?_
      clear hK K
      refine wpAnyIn_ready (rs := [5]) (by kernel_rfl) (by simp) ?_
      refine AllReadyIn.cons rfl (fun K hK => ?_) (AllReadyIn.nil)
      go_simp
      refine hK _ _ ?_
      clear hK K
      refine wpAnyIn_done (by kernel_rfl) ?_ _
      exact ⟨_, M', rfl, ⟨_, _, hI'⟩, hS'⟩
    · go_simp
      refine hK _ _ ?_
      clear hK K
      refine wpAnyIn_ready (rs := [0, 2]) (by kernel_rfl) (by simp) ?_
      refine AllReadyIn.cons rfl (fun K hK => ?_) (AllReadyIn.cons rfl (fun K hK => ?_) (AllReadyIn.nil))
      · go_simp
        refine hK _ _ ?_
        clear hK K
        refine wpAnyIn_ready (rs := [2]) (by kernel_rfl) (by simp) ?_
        refine AllReadyIn.cons rfl (fun K hK => ?_) (AllReadyIn.nil)
        go_simp
        (with_reducible refine (callsR (HB2.out.2.2.1 _ ?_)).mono ?_)
        · exact below_drw (Below.refl _ _)
        rintro e7 w7 ⟨v7, rfl, k1, k2⟩
        obtain ⟨cb, cc, rfl, k3⟩ := id k1
        have b7 : Below A.heap.size A w7 := below_trans (below_drw (Below.refl _ _)) k2
        have y7 : w7.heap[Y]? = some (.cells #[.slice av us.length cv'] 44 (0, 0)) := (b7.block Y (Array.getElem?_eq_some_iff.1 HB2.out.1.y).1).trans HB2.out.1.y
        have ltY7 : Y < w7.heap.size := (Array.getElem?_eq_some_iff.1 y7).1
        obtain ⟨y7c, y7f⟩ := box1_cells y7
        refine hK _ _ ?_
        clear hK K
        refine wpAnyIn_ready (rs := [3]) (by kernel_rfl) (by simp) ?_
        refine AllReadyIn.cons rfl (fun K hK => ?_) (AllReadyIn.nil)
        go_simp
        refine hK _ _ ?_
        clear hK K
        refine wpAnyIn_ready (rs := [4]) (by kernel_rfl) (by simp) ?_
        refine AllReadyIn.cons rfl (fun K hK => ?_) (AllReadyIn.nil)
        refine app1Op (.tmp 21) (.tmp 24) 44 27 rfl i27 (.slice none 0 0) 24 Tryz.underlying44 I27.out.1 I27.out.2.1 I27.out.2.2.1 I27.out.2.2.2 rfl (by omega) (Y + 1) (.slice (some ⟨cb, 0, none⟩) n cc) (.slice av us.length cv') us rfl (HB2.out.1.own.below b7) rfl rfl (by have := HB2.out.2.2.2; omega) (by omega) ?_
        intro v' w11 k4 k5 k6
        obtain ⟨G', cap, ev', -⟩ := k4.form (by simp)
        rw [List.length_append, List.length_singleton] at ev'
        subst ev'
        have y11 := (k5.block Y ltY7 (fun e => own_ne (HB2.out.1.own.below b7) y7 (by decide) e.symm)).trans y7
        obtain ⟨y11c, y11f⟩ := box1_cells y11
        obtain ⟨M', hI', hS'⟩ := HB2.out.1.grow (Nat.lt_succ_self _) b7 (k1.from (by simp [drew_size'])) k4 k5 k6
        refine hK _ _ ?_
        clear hK K
        refine wpAnyIn_ready (rs := [5]) (by kernel_rfl) (by simp) ?_
        refine AllReadyIn.cons rfl (fun K hK => ?_) (AllReadyIn.nil)
        go_simp
        refine hK _ _ ?_
        clear hK K
        refine wpAnyIn_done (by kernel_rfl) ?_ _
        exact ⟨_, M', rfl, ⟨_, _, hI'⟩, hS'⟩
      · go_simp
        (with_reducible refine (callsR (HB2.out.2.2.1 _ ?_)).mono ?_)
        · exact below_drw (Below.refl _ _)
        rintro e7 w7 ⟨v7, rfl, k1, k2⟩
        obtain ⟨cb, cc, rfl, k3⟩ := id k1
        have b7 : Below A.heap.size A w7 := below_trans (below_drw (Below.refl _ _)) k2
        have y7 : w7.heap[Y]? = some (.cells #[.slice av us.length cv'] 44 (0, 0)) := (b7.block Y (Array.getElem?_eq_some_iff.1 HB2.out.1.y).1).trans HB2.out.1.y
        have ltY7 : Y < w7.heap.size := (Array.getElem?_eq_some_iff.1 y7).1
        obtain ⟨y7c, y7f⟩ := box1_cells y7
        refine hK _ _ ?_
        clear hK K
        refine wpAnyIn_ready (rs := [0, 3]) (by kernel_rfl) (by simp) ?_
        refine AllReadyIn.cons rfl (fun K hK => ?_) (AllReadyIn.cons rfl (fun K hK => ?_) (AllReadyIn.nil))
        · go_simp
          refine hK _ _ ?_
          clear hK K
          refine wpAnyIn_ready (rs := [3]) (by kernel_rfl) (by simp) ?_
          refine AllReadyIn.cons rfl (fun K hK => ?_) (AllReadyIn.nil)
          go_simp
          refine hK _ _ ?_
          clear hK K
          refine wpAnyIn_ready (rs := [4]) (by kernel_rfl) (by simp) ?_
          refine AllReadyIn.cons rfl (fun K hK => ?_) (AllReadyIn.nil)
          refine app1Op (.tmp 21) (.tmp 24) 44 27 rfl i27 (.slice none 0 0) 24 Tryz.underlying44 I27.out.1 I27.out.2.1 I27.out.2.2.1 I27.out.2.2.2 rfl (by omega) (Y + 1) (.slice (some ⟨cb, 0, none⟩) n cc) (.slice av us.length cv') us rfl (HB2.out.1.own.below b7) rfl rfl (by have := HB2.out.2.2.2; omega) (by omega) ?_
          intro v' w11 k4 k5 k6
          obtain ⟨G', cap, ev', -⟩ := k4.form (by simp)
          rw [List.length_append, List.length_singleton] at ev'
          subst ev'
          have y11 := (k5.block Y ltY7 (fun e => own_ne (HB2.out.1.own.below b7) y7 (by decide) e.symm)).trans y7
          obtain ⟨y11c, y11f⟩ := box1_cells y11
          obtain ⟨M', hI', hS'⟩ := HB2.out.1.grow (Nat.lt_succ_self _) b7 (k1.from (by simp [drew_size'])) k4 k5 k6
          refine hK _ _ ?_
          clear hK K
          refine wpAnyIn_ready (rs := [5]) (by kernel_rfl) (by simp) ?_
          refine AllReadyIn.cons rfl (fun K hK => ?_) (AllReadyIn.nil)
          go_simp
          refine hK _ _ ?_
          clear hK K
          refine wpAnyIn_done (by kernel_rfl) ?_ _
          exact ⟨_, M', rfl, ⟨_, _, hI'⟩, hS'⟩
        · go_simp
          refine hK _ _ ?_
          clear hK K
          refine wpAnyIn_ready (rs := [0]) (by kernel_rfl) (by simp) ?_
          refine AllReadyIn.cons rfl (fun K hK => ?_) (AllReadyIn.nil)
          go_simp
          refine hK _ _ ?_
          clear hK K
          refine wpAnyIn_ready (rs := [4]) (by kernel_rfl) (by simp) ?_
          refine AllReadyIn.cons rfl (fun K hK => ?_) (AllReadyIn.nil)
          refine app1Op (.tmp 21) (.tmp 24) 44 27 rfl i27 (.slice none 0 0) 24 Tryz.underlying44 I27.out.1 I27.out.2.1 I27.out.2.2.1 I27.out.2.2.2 rfl (by omega) (Y + 1) (.slice (some ⟨cb, 0, none⟩) n cc) (.slice av us.length cv') us rfl (HB2.out.1.own.below b7) rfl rfl (by have := HB2.out.2.2.2; omega) (by omega) ?_
          intro v' w11 k4 k5 k6
          obtain ⟨G', cap, ev', -⟩ := k4.form (by simp)
          rw [List.length_append, List.length_singleton] at ev'
          subst ev'
          have y11 := (k5.block Y ltY7 (fun e => own_ne (HB2.out.1.own.below b7) y7 (by decide) e.symm)).trans y7
          obtain ⟨y11c, y11f⟩ := box1_cells y11
          obtain ⟨M', hI', hS'⟩ := HB2.out.1.grow (Nat.lt_succ_self _) b7 (k1.from (by simp [drew_size'])) k4 k5 k6
          refine hK _ _ ?_
          clear hK K
          refine wpAnyIn_ready (rs := [5]) (by kernel_rfl) (by simp) ?_
          refine AllReadyIn.cons rfl (fun K hK => ?_) (AllReadyIn.nil)
          go_simp
          refine hK _ _ ?_
          clear hK K
          refine wpAnyIn_done (by kernel_rfl) ?_ _
          exact ⟨_, M', rfl, ⟨_, _, hI'⟩, hS'⟩
  case done =>
    rintro D9 s M W5 hD9 hfin ⟨v, us, hI⟩ hst hdef
    have hsF : s = F := hfin
    subst hsF
    have hM := hI.m
    subst hM
    have r1 : W5.heap[X + 1]? = some (.cells #[.slice none 0 0] 44 (0, 0)) := (hst.kept.block (X + 1) (by omega) (fun hm => by have := List.mem_singleton.1 hm; omega)).trans ((HE.out.1.block (X + 1) (by have := HB.out.2.2.2; omega)).trans HB.out.2.1)
    have r2 : W5.heap[X + 1 + 1]? = some (.cells #[.int .i64 0] 30 (0, 0)) := (hst.kept.block (X + 1 + 1) (by omega) (fun hm => by have := List.mem_singleton.1 hm; omega)).trans ((HE.out.1.block (X + 1 + 1) (by have := HB.out.2.2.2; omega)).trans HB.out.2.2.1)
    obtain ⟨r1c, r1f⟩ := box1_cells r1
    obtain ⟨r2c, r2f⟩ := box1_cells r2
    obtain ⟨yc, yf⟩ := box1_cells hI.y
    have hul : us.length ≤ 5040 := by have h1 := hI.pml.1; have h2 := HA.out.2.2.2.2.1; omega
    obtain ⟨av, cv', ev, _⟩ := hI.own.row (by unfold maxLen; omega)
    subst ev
    have HF := Lib.hid (And.intro hI (And.intro hst (And.intro hD9 (And.intro r1 (And.intro r2 hdef)))))
    clear hI hst hfin hD9 r1 r2 hdef hseq
    gi_wp2
    obtain ⟨q1, q2, qk, qo⟩ := two_setG (v := .slice av us.length cv') (u := .int .i64 0) (by omega) HF.out.2.2.2.1 HF.out.2.2.2.2.1
    obtain ⟨W6, hW6⟩ : ∃ W6, (W5.setCell ⟨X + 1, 0, none⟩ (.slice av us.length cv')).setCell ⟨X + 1 + 1, 0, none⟩ (.int .i64 0) = W6 := ⟨_, rfl⟩
    have o6 : Own W6 (Y + 1) (.slice av us.length cv') 27 us := hW6 ▸ (HF.out.1.own.lowset (by omega)).lowset (by omega)
    rw [hW6] at q1 q2 qk qo ⊢
    have hX9 : X + 1 + 1 < D9 := by have := HF.out.2.2.1; omega
    have hd6 := (qo D9 (by omega) (by omega)).trans HF.out.2.2.2.2.2
    have htn : Turn W6 (W6.putObj D9 (.deferred none)) (some D9) := ⟨grownBy_putObj' W6 D9 (.deferred none), fun r er => by cases er; exact ⟨_, hd6, rfl⟩⟩
    refine ⟨by simp, .inl ⟨_, _, rfl, run_takeDeferred hd6, ?_⟩⟩
    obtain ⟨c2, _⟩ := box1_cells (htn.cells q1)
    obtain ⟨c3, _⟩ := box1_cells (htn.cells q2)
    refine ⟨.tuple #[.slice av us.length cv', .int .i64 0], by simp [results, Tryz.results125, go_sem, c2, c3], _, us, rfl, (o6.turn htn).mono (by omega), ?_, ?_⟩
    · have h1 := HF.out.1.pml.kept' (M' := (Value.slice av us.length cv').ownBlock.toList) qk (fun m hm => List.mem_append_left _ hm) (fun m hm => List.mem_append_right _ (List.mem_cons_of_mem _ hm))
      exact h1.up htn.up
    · have hbW : Below w.heap.size w W6 := HE.out.2.1.trans ((HF.out.2.1.kept.trans' qk).below HE.out.2.1.size (fun m hm => by
        rcases List.mem_append.1 hm with h | h
        · rw [List.mem_singleton.1 h]; omega
        · rcases List.mem_cons.1 h with h | h
          · omega
          · rw [List.mem_singleton.1 h]; omega))
      have := hbW.grown (grownBy_putObj' W6 D9 (.deferred none)) hbW.size (fun k e => by cases e; have := HF.out.2.2.1; have := HE.out.2.1.size; omega)
      rwa [hX] at this
  case stop => exact fun D W h1 h2 => h2.elim
end
end Go.Proofs.YtbejhkojdiadaaaGreat
namespace Go.Proofs.YtbejhkojdiadaaaGreat
open Go.RowKit PlainPm
def byts (l : List Int) : List Value := l.map (Value.int .u8)
theorem byts_len (l : List Int) : (byts l).length = l.length := by simp [byts]
theorem byts_get {xs : List Int} {k : Nat} (h : k < xs.length) : (byts xs)[k]? = some (.int .u8 (xs[k]?.getD 0)) := by simp [byts, List.getElem?_map, h]
theorem byts_set (xs : List Int) (k : Nat) (x : Int) : (byts xs).set k (.int .u8 x) = byts (xs.set k x) := by simp [byts, List.map_set]
theorem byts_zero (n : Nat) : List.replicate n (Value.int .u8 0) = byts (List.replicate n 0) := by simp [byts]
def wordB {n : Nat} (x : Pm n) : ByteArray := strOfNums x.l
theorem ofF_all {n : Nat} (x : Pm n) : ofF n x.at = x.l := by
  have hl := x.ok.1
  apply List.ext_getElem?
  intro i
  by_cases hi : i < n
  · rw [ofF_get hi]; exact (atL_get x.ok hi).1.symm
  · rw [List.getElem?_eq_none (by simp [ofF]; omega), List.getElem?_eq_none (by omega)]
theorem wordB_inj {n : Nat} (hn : n ≤ 64) {x y : Pm n} (h : wordB x = wordB y) : x = y := by
  apply Pm.ext
  intro i hi
  have h1 := congrArg (fun b : ByteArray => b.data.toList) h
  simp only [wordB, strOfNums_data] at h1
  have h2 := congrArg (fun l : List UInt8 => l[i]?) h1
  simp only [List.getElem?_map, (atL_get x.ok hi).1, (atL_get y.ok hi).1, Option.map_some, Option.some.injEq, Int.toNat_natCast] at h2
  have h3 := congrArg UInt8.toNat h2
  rw [UInt8.toNat_ofNat', UInt8.toNat_ofNat'] at h3
  have h4 := (atL_get x.ok hi).2
  have h5 := (atL_get y.ok hi).2
  show atL x.l i = atL y.l i
  omega
theorem info5' : (Tryz.prog.info? 5).map (fun i => (i.zero, i.size, i.bytes)) = some (some (.int .u8 0), 1, 1) := by kernel_rfl
set_option maxHeartbeats 400000 in
theorem word85 {n : Nat} (hn : n ≤ 64) {x : Pm n} {va : Value} {M : List Nat} {w : World} (ha : PmV w M va x) :
    Calls Tryz.prog 85 #[va] w fun e w' => e = .returned (.string (wordB x)) ∧ Below w.heap.size w w' := by
  obtain ⟨i5, hi5, hz5, hs5, hb5⟩ := info_parts info5'
  have I5 := Lib.hid (And.intro hi5 (And.intro hz5 (And.intro hs5 hb5)))
  clear hi5 hz5 hs5 hb5
  obtain ⟨ba, oa, ca, rfl, _, hal, hac⟩ := ha
  have H := Lib.hid (And.intro hal hac)
  clear hal hac
  go_enter Tryz.func85, Tryz.ntmps85
  go_wp2_with (at_make; refine mk1 rfl _ _ 136 5 rfl i5 (.int .u8 0) 1 Tryz.underlying136 I5.out.1 I5.out.2.1 I5.out.2.2.1 I5.out.2.2.2 rfl (by omega) w.heap.size n rfl rfl (by omega) (Nat.le_refl _) ?_; intro w1 hd hg hz1; have H1 := Lib.hid (And.intro hd (And.intro hg hz1)); clear hd hg hz1)
  go_loopw [11] (fun i wr => ∃ k : Nat, k ≤ n ∧ i = .int .i64 (k : Int) ∧ Own wr w.heap.size (.slice (some ⟨w.heap.size, 0, none⟩) n n) 5 (byts (upF n k x.at)) ∧ Below w.heap.size w wr) (fun i _ => n - (intOf i).toNat)
  case atStart => exact ⟨0, by omega, rfl, by rw [upF_zero, ← byts_zero]; exact H1.out.1, (Below.refl _ w).grown H1.out.2.1 (Nat.le_refl _) (by simp)⟩
  case round =>
    obtain ⟨k, hk, rfl, ho, hb⟩ := hrel
    by_cases hkn : k < n
    · have c1 : wr.cell? ⟨ba, oa + k, none⟩ = some (.int .i64 (x.at k : Int)) := (hb.cell (p := ⟨ba, oa + k, none⟩) H.out.1).trans (H.out.2 k hkn)
      have hp : x.at k < n := x.lt hkn
      have f1 := ho.frozen k
      have d1 := (ho.cell k (by rw [byts_len, upF_len]; exact hkn)).trans (byts_get (by rw [upF_len]; exact hkn))
      obtain ⟨p, hpe⟩ : ∃ p, x.at k = p := ⟨_, rfl⟩
      have HP := Lib.hid (And.intro ho (And.intro hb hpe))
      rw [hpe] at c1 hp
      have hw8 : IntKind.u8.wrap (p : Int) = (p : Int) := by rw [IntKind.wrap_u8]; omega
      clear ho hb hpe
      go_wp2
      refine ⟨⟨k + 1, by omega, by go_num, ?_, ?_⟩, by simp [intOf]; omega⟩
      · have := HP.out.1.put k (.int .u8 (p : Int))
        rw [← HP.out.2.2, byts_set, upF_set] at this
        rw [← HP.out.2.2]
        exact this
      · exact HP.out.2.1.setCell (p := ⟨w.heap.size, k, none⟩) (Nat.le_refl _) _
    · obtain rfl : k = n := by omega
      have hcv := run_convert_bytes_arg (P := Tryz.prog) wr 136 5 Tryz.underlying136 Tryz.underlying5 w.heap.size 0 k k x.l x.ok.1 (fun i hi => by
        rw [Nat.zero_add]
        refine (ho.cell i (by rw [byts_len, upF_len]; exact hi)).trans ?_
        rw [byts_get (by rw [upF_len]; exact hi), upF_all, ofF_all]
        simp [List.getD]) 9 Tryz.underlying9
      have HP := Lib.hid (And.intro ho hb)
      clear ho hb
      go_wp2
      go_ret
      exact ⟨rfl, HP.out.2⟩
end Go.Proofs.YtbejhkojdiadaaaGreat
namespace Go.Proofs.YtbejhkojdiadaaaGreat
open Go.RowKit PlainPm Go.Maps
def wkey {n : Nat} (x : Pm n) : Lit := .string (wordB x).data.toList
def Rv (v : Value) : Option (DataW Value × List MemPlace) := some (.held v, [])
section
variable {n : Nat}
theorem wkey_inj (hn : n ≤ 64) {x y : Pm n} (h : wkey x = wkey y) : x = y := by
  unfold wkey at h
  injection h with h
  apply wordB_inj hn
  have h2 : (wordB x).data = (wordB y).data := Array.toList_inj.1 h
  cases hx : wordB x
  cases hy : wordB y
  rw [hx, hy] at h2
  exact congrArg ByteArray.mk h2
theorem wkey_of (hn : n ≤ 64) (x : Pm n) : keyOf Tryz.prog 9 (.string (wordB x)) = some (wkey x) := by
  have hl := x.ok.1
  exact WideMaps.keyOf_string_mk (P := Tryz.prog) Tryz.underlying9 (by unfold wordB; rw [strOfNums_size]; unfold maxLen; omega)
theorem law9 : Keyed Tryz.prog 9 := string_keyed Tryz.underlying9
def ElM (w : World) (M : List Nat) (b N : Nat) (A : Pm n → Prop) : Prop :=
  ∃ D : DataW Value, w.ownsMap Tryz.prog 9 Rv b N D ∧ (∀ kl, has D kl = true → ∃ x, A x ∧ kl = wkey x) ∧ ∀ x, A x → has D (wkey x) = true ∧ ∃ v, PmV w M v x ∧ ∀ z, D.atKey (wkey x) z = .held v
theorem ElM.made (w : World) (M : List Nat) : ElM (n := n) (w.alloc (.map #[] 0)) M w.heap.size 0 (fun _ => False) :=
  ⟨.map [], World.ownsMap_made _ _ _ _, ⟨fun kl (h : has (.map []) kl = true) => by simp [has] at h, fun x h => h.elim⟩⟩
theorem ElM.blk {w : World} {M : List Nat} {b N : Nat} {A : Pm n → Prop} (h : ElM w M b N A) : ∃ es clock, w.heap[b]? = some (.map es clock) := by
  obtain ⟨D, ⟨es, clock, h1, _⟩, _⟩ := h
  exact ⟨es, clock, h1⟩
theorem ElM.below {w w' : World} {M : List Nat} {b N : Nat} {A : Pm n → Prop} (h : ElM w M b N A) (k : Below w.heap.size w w') : ElM w' M b N A := by
  obtain ⟨D, h1, h2, h3⟩ := h
  exact ⟨D, h1.kept (grown_below k none) (by simp), h2, fun x hx => by
    obtain ⟨h4, v, h5, h6⟩ := h3 x hx
    exact ⟨h4, v, h5.below k, h6⟩⟩
theorem ElM.congr {w : World} {M : List Nat} {b N : Nat} {A B : Pm n → Prop} (h : ElM w M b N A) (e : ∀ x, A x ↔ B x) : ElM w M b N B := by
  obtain ⟨D, h1, h2, h3⟩ := h
  exact ⟨D, h1, fun kl hk => by obtain ⟨x, hx, he⟩ := h2 kl hk; exact ⟨x, (e x).1 hx, he⟩, fun x hx => h3 x ((e x).2 hx)⟩
theorem ElM.put (hn : n ≤ 64) {w : World} {M : List Nat} {b N : Nat} {A : Pm n → Prop} {x : Pm n} {v : Value} (h : ElM w M b N A) (hN : N < 1000000) (hv : PmV w M v x) :
    ∃ w', (Instr.mapUpdate 94 (.map (some b)) (.string (wordB x)) v).run Tryz.prog w = .ok () w' ∧ ElM w' M b (N + 1) (fun z => A z ∨ z = x) ∧ w.grownBy w' (some b) := by
  obtain ⟨es, clock, hb⟩ := h.blk
  obtain ⟨D, h1, h2, h3⟩ := h
  obtain ⟨w', hrun, hown, hg⟩ := h1.update law9 Tryz.underlying94 (by unfold maxLen; omega) (wkey_of hn x) (show Rv v = some (.held v, []) from rfl)
  have hup : Up w w' := Turn.up (row := some b) ⟨hg, fun r e => by cases e; exact ⟨_, hb, rfl⟩⟩
  refine ⟨w', hrun, ⟨_, hown, fun kl hk => ?_, fun z hz => ?_⟩, hg⟩
  · by_cases e : kl = wkey x
    · exact ⟨x, .inr rfl, e⟩
    · rw [has_put_other e] at hk
      obtain ⟨z, hz, he⟩ := h2 kl hk
      exact ⟨z, .inl hz, he⟩
  · by_cases e : z = x
    · subst e
      exact ⟨has_put_same h1.isMap (show WideAt.IsKeyLit (wkey z) from trivial) _, v, hv.up hup, fun u => atKey_put_same h1.isMap (show WideAt.IsKeyLit (wkey z) from trivial) _ _⟩
    · have hne : wkey z ≠ wkey x := fun h => e (wkey_inj hn h)
      obtain ⟨h4, u, h5, h6⟩ := h3 z (hz.resolve_right e)
      exact ⟨(has_put_other hne _).trans h4, u, h5.up hup, fun q => (atKey_put_other hne _ _).trans (h6 q)⟩
theorem makeMapN (w : World) {k : Nat} : (Instr.makeMap 94 (some (.int .i64 (k : Int)))).run Tryz.prog w = .ok (.map (some w.heap.size)) (w.alloc (.map #[] 0)) := by
  simp [Instr.makeMap, run_underlying Tryz.underlying94, asInt, Sem.run_pure]
  rfl
set_option maxRecDepth 100000 in
set_option maxHeartbeats 4000000 in
theorem elems83 (hn' : 0 < n ∧ n ≤ 8) {w : World} {v1 : Value} {G : Pm n → Prop} (hG : IsG G) (h1 : GrG w v1 G) (hsz : ∀ O R, ChG G O R → szF O n 0 ≤ 5040) :
    Calls Tryz.prog 83 #[v1] w fun e w' => ∃ b, e = .returned (.tuple #[.map (some b), .int .i64 0]) ∧ w.heap.size ≤ b ∧ ElM w' [] b 5040 G ∧ Below w.heap.size w w' := by
  have hn : n ≤ 64 := by omega
  obtain ⟨T1, t1, ab, ao, c, bb, bo, e, hv1, hl1⟩ := h1.lev hG ⟨hn'.1, hn⟩
  subst hv1
  obtain ⟨X, hX⟩ : ∃ X, w.heap.size = X := ⟨_, rfl⟩
  obtain ⟨W1, hW1⟩ : ∃ W1, w.alloc (.cells #[.int .i64 (n : Int), .slice (some ⟨ab, ao, none⟩) n c, .slice (some ⟨bb, bo, none⟩) n e] 25) = W1 := ⟨_, rfl⟩
  have hwW : Below w.heap.size w W1 := hW1 ▸ alloc_b (Below.refl _ _) _
  have hszw : W1.heap.size = X + 1 := by rw [← hW1]; simp [hX]
  have k0 : W1.heap[X]? = some (.cells #[.int .i64 (n : Int), .slice (some ⟨ab, ao, none⟩) n c, .slice (some ⟨bb, bo, none⟩) n e] 25) := by
    rw [← hW1]
    exact box_al25 hX _ _ _
  obtain ⟨x0, x1, x2, _⟩ := box_cells k0
  obtain ⟨O, R, hC, hl⟩ := list125 (w := W1) hn' hG (h1.below hwW)
  have hl := hl (hsz O R hC)
  have hFl := els_len hC (f := n) (i := 0) (y := PlainPm.one n) (Nat.zero_add n)
  have hmem := fun x => mem_all (x := x) hC
  obtain ⟨F, hF⟩ : ∃ F, elsF O R n 0 (PlainPm.one n) = F := ⟨_, rfl⟩
  rw [hF] at hFl hl
  simp only [hF] at hmem
  have hF5 : F.length ≤ 5040 := by have := hsz O R hC; omega
  obtain ⟨N, hN⟩ : ∃ N, F.length = N := ⟨_, rfl⟩
  rw [hN] at hF5
  have hN63 : N ≤ 9223372036854775807 := by omega
  have hmk := fun (W : World) => makeMapN W (k := N)
  have HA := Lib.hid (And.intro hl (And.intro hmem (And.intro hN (And.intro hwW hszw))))
  clear hl hmem hFl hF hN hwW hszw k0 hC h1 t1 hl1
  go_enter Tryz.func83, Tryz.ntmps83
  try simp only [hX]
  go_wp2_with (go_at_call 125; (with_reducible refine HA.out.1.mono ?_); rintro e2 w2 ⟨v2, us, rfl, k1, k2, k3⟩
               have k4 : us.length = N := k2.1.trans HA.out.2.2.1
               obtain ⟨av, cv', k5, k6⟩ := k1.row (by rw [k4]; unfold maxLen; omega)
               rw [k4] at k5
               subst k5
               have H2 := Lib.hid (And.intro k2.weakM (And.intro k3 k6))
               clear k1 k2 k3 k4 k6)
  obtain ⟨B, hB⟩ : ∃ B, w2.heap.size = B := ⟨_, rfl⟩
  try simp only [hB]
  have hM0 := ElM.made (n := n) w2 []
  rw [hB] at hM0
  have HD := Lib.hid (And.intro hM0 hB)
  clear hM0 hB
  go_loopw [22] (fun i wr => ∃ k : Nat, k ≤ N ∧ i = .int .i64 (k : Int) ∧ ElM wr [] B k (· ∈ F.take k) ∧ Below w2.heap.size w2 wr) (fun i _ => N - (intOf i).toNat)
  case atStart => exact ⟨0, Nat.zero_le _, rfl, HD.out.1.congr (fun x => by simp), alloc_b (Below.refl _ _) _⟩
  case round =>
    obtain ⟨k, hk, rfl, hE, hb⟩ := hrel
    by_cases hkN : k < N
    · obtain ⟨x, hx⟩ : ∃ x, F[k]? = some x := ⟨_, List.getElem?_eq_getElem (by rw [HA.out.2.2.1]; exact hkN)⟩
      obtain ⟨u, hu, hpm⟩ := H2.out.1.2 k x hx
      obtain ⟨g, o, rfl, hg, hc⟩ := H2.out.2.2.2 k u hu
      have c1 := (hb.cell (p := ⟨g, o + k, none⟩) hg).trans hc
      have hpr := hpm.below hb
      obtain ⟨yb, yo, yc, rfl, _⟩ := id hpr
      have hk1 : (k : Int) < N := by omega
      have HP := Lib.hid (And.intro hE (And.intro hb (And.intro hx hpr)))
      clear hE hb hx hpr hpm hu hc hg
      go_wp2_with (go_at_call 85; (with_reducible refine (word85 hn HP.out.2.2.2).mono ?_); rintro e7 w7 ⟨rfl, k7⟩
                   obtain ⟨w8, hrun, hE8, hg8⟩ := (HP.out.1.below k7).put hn (by omega) (HP.out.2.2.2.below k7)
                   have H8 := Lib.hid (And.intro k7 (And.intro hE8 hg8))
                   clear k7 hE8 hg8)
      refine ⟨⟨k + 1, by omega, by go_num, H8.out.2.1.congr (fun z => ?_), ?_⟩, by simp [intOf]; omega⟩
      · rw [List.take_add_one, HP.out.2.2.1]; simp
      · exact (HP.out.2.1.trans (H8.out.1.mono HP.out.2.1.size)).grown H8.out.2.2 (Nat.le_trans HP.out.2.1.size H8.out.1.size) (fun j ej => by cases ej; have := HD.out.2; omega)
    · have hk1 : ¬ (k : Int) < N := by omega
      have hkF : k = F.length := by rw [HA.out.2.2.1]; omega
      have HP := Lib.hid (And.intro hE (And.intro hb hkF))
      clear hE hb hkF
      go_wp2_with fail
      go_ret2
      have hw2 : Below w.heap.size w w2 := below_trans HA.out.2.2.2.1 H2.out.2.1
      refine ⟨B, rfl, by have := hw2.size; have := HD.out.2; omega, ?_, by have := below_trans hw2 HP.out.2.1; rwa [hX] at this⟩
      have hE := HP.out.1
      rw [HP.out.2.2, List.take_length] at hE
      have hE := hE.congr HA.out.2.1
      obtain ⟨D, h1, h2⟩ := hE
      exact ⟨D, h1.mono (by rw [HA.out.2.2.1]; exact hF5), h2⟩
end
end Go.Proofs.YtbejhkojdiadaaaGreat
namespace Go.Proofs.YtbejhkojdiadaaaGreat
open Go.RowKit PlainPm Go.Maps
section
variable {n : Nat}
def ElR (w : World) (M : List Nat) (b r N : Nat) (A L : Pm n → Prop) (c : Nat) : Prop :=
  ∃ (D : DataW Value) (left : Lit → Bool), w.ranges Tryz.prog 9 Rv b r N D left c ∧ ((∀ kl, has D kl = true → ∃ x, A x ∧ kl = wkey x) ∧ ∀ x, A x → has D (wkey x) = true ∧ ∃ v, PmV w M v x ∧ ∀ z, D.atKey (wkey x) z = .held v) ∧
    (∀ kl, left kl = true → ∃ x, L x ∧ kl = wkey x) ∧ ∀ x, L x → A x ∧ left (wkey x) = true
theorem ElR.owns {w : World} {M : List Nat} {b r N c : Nat} {A L : Pm n → Prop} (h : ElR w M b r N A L c) : ElM w M b N A := by
  obtain ⟨D, left, h1, h2, _⟩ := h
  exact ⟨D, h1.owns, h2⟩
theorem ElR.blk {w : World} {M : List Nat} {b r N c : Nat} {A L : Pm n → Prop} (h : ElR w M b r N A L c) : (∃ es clock, w.heap[b]? = some (.map es clock)) ∧ ∃ a s d e, w.heap[r]? = some (.mapIter a s d e) := by
  refine ⟨h.owns.blk, ?_⟩
  obtain ⟨D, left, ⟨es, clock, since, seen, c0, hb, _, _, _, hr, _⟩, _⟩ := h
  exact ⟨_, _, _, _, hr⟩
theorem ElM.range {w : World} {M : List Nat} {b N : Nat} {A : Pm n → Prop} (h : ElM w M b N A) :
    ∃ w' c, (Instr.range 94 (.map (some b))).run Tryz.prog w = .ok (.pointer (some ⟨w.heap.size, 0, none⟩)) w' ∧ ElR w' M b w.heap.size N A A c ∧ Below w.heap.size w w' ∧ w'.heap.size = w.heap.size + 1 := by
  obtain ⟨D, h1, h2, h3⟩ := h
  obtain ⟨w', hrun, hr, hg, hs⟩ := h1.range law9 Tryz.underlying94
  have hb : Below w.heap.size w w' := (Below.refl _ _).grown hg (Nat.le_refl _) (fun k e => by cases e)
  exact ⟨w', _, hrun, ⟨D, _, hr, ⟨h2, fun x hx => by
    obtain ⟨h4, v, h5, h6⟩ := h3 x hx
    exact ⟨h4, v, h5.below hb, h6⟩⟩, h2, fun x hx => ⟨hx, (h3 x hx).1⟩⟩, hb, hs⟩
theorem ElR.kept {w w' : World} {M : List Nat} {b r N c : Nat} {A L : Pm n → Prop} (h : ElR w M b r N A L c) {row : Option Nat} (hg : w.grownBy w' row) (hb : some b ≠ row) (hr : some r ≠ row) (hM : ∀ k, row = some k → k ∈ M) : ElR w' M b r N A L c := by
  obtain ⟨D, left, h1, ⟨h2, h3⟩, h4⟩ := h
  exact ⟨D, left, h1.kept hg hb hr, ⟨h2, fun x hx => by
    obtain ⟨h5, v, h6, h7⟩ := h3 x hx
    exact ⟨h5, v, h6.kept (Kept.ofGrown hg hM), h7⟩⟩, h4⟩
theorem ElR.below {w w' : World} {M : List Nat} {b r N c : Nat} {A L : Pm n → Prop} (h : ElR w M b r N A L c) (k : Below w.heap.size w w') : ElR w' M b r N A L c :=
  h.kept (grown_below k none) (by simp) (by simp) (fun k e => by cases e)
theorem ElR.next (hn : n ≤ 64) {w : World} {M : List Nat} {b r N c : Nat} {A L : Pm n → Prop} (h : ElR w M b r N A L c) (ty : TypeId) :
    ((∀ x, ¬ L x) ∧ (Instr.next (.pointer (some ⟨r, 0, none⟩)) false ty).run Tryz.prog w = .ok (.tuple #[.bool false]) w) ∨
    ∃ x v w' c', L x ∧ PmV w' M v x ∧ (Instr.next (.pointer (some ⟨r, 0, none⟩)) false ty).run Tryz.prog w = .ok (.tuple #[.bool true, .string (wordB x), v]) w' ∧
      ElR w' M b r N A (fun z => L z ∧ z ≠ x) c' ∧ c' < c ∧ w.grownBy w' (some r) ∧ w'.heap.size = w.heap.size ∧ (Instr.entry (.pointer (some ⟨r, 0, none⟩))).run Tryz.prog w' = .ok (.tuple #[.string (wordB x), v]) w' := by
  obtain ⟨_, a0, s0, d0, e0, hrb⟩ := h.blk
  obtain ⟨D, left, h1, ⟨h2, h3⟩, h4, h5⟩ := h
  rcases h1.next law9 ty with ⟨hc, hl, hrun⟩ | ⟨key, v, kl, y, w', c', hkey, hlk, hv, hat, hrun, hrg, hlt, hgr, hsz, hen⟩
  · refine .inl ⟨fun x hx => ?_, hrun⟩
    have := (h5 x hx).2
    rw [hl] at this
    cases this
  · obtain ⟨x, hx, he⟩ := h4 kl hlk
    have hup : Up w w' := Turn.up (row := some r) ⟨hgr, fun q e => by cases e; exact ⟨_, hrb, rfl⟩⟩
    obtain ⟨s, hs, hse⟩ := WideMaps.string_of_keyOf (P := Tryz.prog) Tryz.underlying9 hkey
    have hkey' : key = .string (wordB x) := law9.inj hkey (by rw [he]; exact wkey_of hn x)
    obtain ⟨h6, u, h7, h8⟩ := h3 x (h5 x hx).1
    have hvu : v = u := by
      have e1 := hat .nil
      rw [he, h8] at e1
      have e2 : y = ((DataW.held v : DataW Value), ([] : List MemPlace)) := by
        have h9 : some ((DataW.held v : DataW Value), ([] : List MemPlace)) = some y := hv
        exact (Option.some.inj h9).symm
      rw [e2] at e1
      exact (DataW.held.inj e1).symm
    subst hkey' hvu
    refine .inr ⟨x, v, w', c', hx, h7.up hup, hrun, ⟨D, _, hrg, ⟨h2, fun z hz => ?_⟩, fun k2 hk2 => ?_, fun z hz => ?_⟩, hlt, hgr, hsz, hen⟩
    · obtain ⟨h9, u2, h10, h11⟩ := h3 z hz
      exact ⟨h9, u2, h10.up hup, h11⟩
    · simp only [Bool.and_eq_true, Bool.not_eq_true'] at hk2
      obtain ⟨z, hz, hze⟩ := h4 k2 hk2.1
      refine ⟨z, ⟨hz, fun e => ?_⟩, hze⟩
      rw [hze, e, he] at hk2
      rw [WideAt.sameKey_self (show WideAt.IsKeyLit (wkey x) from trivial)] at hk2
      cases hk2.2
    · refine ⟨(h5 z hz.1).1, ?_⟩
      simp only [Bool.and_eq_true, Bool.not_eq_true']
      refine ⟨(h5 z hz.1).2, ?_⟩
      cases hq : (wkey z).sameKey kl with
      | false => rfl
      | true => exact absurd (wkey_inj hn ((WideAt.sameKey_eq hq).trans he)) hz.2
theorem ElR.drop (hn : n ≤ 64) {w : World} {M : List Nat} {b r N c : Nat} {A L : Pm n → Prop} (h : ElR w M b r N A L c) (x : Pm n) (ty : TypeId) :
    ∃ w' c', (Builtin.delete_ #[94, 9] ty #[.map (some b), .string (wordB x)]).run Tryz.prog w = .ok (.tuple #[]) w' ∧ ElR w' M b r N (fun z => A z ∧ z ≠ x) (fun z => L z ∧ z ≠ x) c' ∧ c' ≤ c ∧ w.grownBy w' (some b) := by
  obtain ⟨⟨es, clock, hbb⟩, _⟩ := h.blk
  obtain ⟨D, left, h1, ⟨h2, h3⟩, h4, h5⟩ := h
  obtain ⟨w', c', hrun, hrg, hle, ht⟩ := h1.drop law9 Tryz.underlying94 (wkey_of hn x) ty
  have hg : w.grownBy w' (some b) := ht.grown
  have hup : Up w w' := Turn.up (row := some b) ⟨hg, fun q e => by cases e; exact ⟨_, hbb, rfl⟩⟩
  have hne : ∀ z : Pm n, z ≠ x → wkey z ≠ wkey x := fun z hz e => hz (wkey_inj hn e)
  refine ⟨w', c', hrun, ⟨_, _, hrg, ⟨fun kl hk => ?_, fun z hz => ?_⟩, fun kl hk => ?_, fun z hz => ?_⟩, hle, hg⟩
  · by_cases e : kl = wkey x
    · rw [e, has_del_same] at hk; cases hk
    · rw [has_del_other e] at hk
      obtain ⟨z, hz, he⟩ := h2 kl hk
      exact ⟨z, ⟨hz, fun e2 => e (by rw [he, e2])⟩, he⟩
  · obtain ⟨h6, u, h7, h8⟩ := h3 z hz.1
    exact ⟨(has_del_other (hne z hz.2)).trans h6, u, h7.up hup, fun q => (atKey_del_other (hne z hz.2) _).trans (h8 q)⟩
  · simp only [Bool.and_eq_true, Bool.not_eq_true'] at hk
    obtain ⟨z, hz, he⟩ := h4 kl hk.1
    refine ⟨z, ⟨hz, fun e => ?_⟩, he⟩
    rw [he, e, WideAt.sameKey_self (show WideAt.IsKeyLit (wkey x) from trivial)] at hk
    cases hk.2
  · refine ⟨⟨(h5 z hz.1).1, hz.2⟩, ?_⟩
    simp only [Bool.and_eq_true, Bool.not_eq_true']
    refine ⟨(h5 z hz.1).2, ?_⟩
    cases hq : (wkey z).sameKey (wkey x) with
    | false => rfl
    | true => exact absurd (WideAt.sameKey_eq hq) (hne z hz.2)
theorem Kept.grownOne {w w' : World} {b : Nat} (k : Kept w w' [b]) : w.grownBy w' (some b) :=
  ⟨k.os, k.tape, k.output, k.size, fun i hi hne => k.block i hi (fun hm => hne (by rw [List.mem_singleton.1 hm]))⟩
theorem ElM.ext {w : World} {M M' : List Nat} {b N : Nat} {A : Pm n → Prop} (h : ElM w M b N A) (hM : ∀ m ∈ M', m ∈ M ∨ w.heap.size ≤ m) : ElM w M' b N A := by
  obtain ⟨D, h1, h2, h3⟩ := h
  exact ⟨D, h1, h2, fun x hx => by
    obtain ⟨h4, v, h5, h6⟩ := h3 x hx
    exact ⟨h4, v, h5.ext hM, h6⟩⟩
theorem zero27 (w : World) : (zeroValue 27).run Tryz.prog w = .ok (.slice none 0 0) w := by kernel_rfl
theorem ElM.look (hn : n ≤ 64) {w : World} {M : List Nat} {b N : Nat} {A : Pm n → Prop} (h : ElM w M b N A) (x : Pm n) :
    ∃ (v : Value) (t : Bool), (Instr.lookup 94 (.map (some b)) (.string (wordB x)) true).run Tryz.prog w = .ok (.tuple #[v, .bool t]) w ∧ (t = true ↔ A x) := by
  obtain ⟨D, h1, h2, h3⟩ := h
  obtain ⟨v, ps, hrun, hv⟩ := h1.look_ok law9 Tryz.underlying94 (zero27 w) (show Rv (.slice none 0 0) = some (.held (.slice none 0 0), []) from rfl) (wkey_of hn x)
  refine ⟨v, _, hrun, fun h => ?_, fun h => (h3 x h).1⟩
  obtain ⟨z, hz, he⟩ := h2 _ h
  rw [wkey_inj hn he]; exact hz
end
end Go.Proofs.YtbejhkojdiadaaaGreat
namespace Go.Proofs.YtbejhkojdiadaaaGreat
open Go.RowKit PlainPm Go.Maps
section
variable {n : Nat}
theorem ElR.sub {w : World} {M : List Nat} {b r N c : Nat} {A L : Pm n → Prop} (h : ElR w M b r N A L c) {x : Pm n} (hx : L x) : A x := by
  obtain ⟨D, left, _, _, _, h5⟩ := h
  exact (h5 x hx).1
theorem box_cells81 {W : World} {C : Nat} {a0 a1 a2 : Value} (h : W.heap[C]? = some (.cells #[a0, a1, a2] 81 (0, 0))) :
    W.cell? ⟨C, 0, none⟩ = some a0 ∧ W.cell? ⟨C, 1, none⟩ = some a1 ∧ W.cell? ⟨C, 2, none⟩ = some a2 := by
  refine ⟨?_, ?_, ?_⟩ <;> simp [World.cell?, h]
theorem ElR.left {w : World} {M : List Nat} {b r N c : Nat} {A L : Pm n → Prop} (h : ElR w M b r N A L c) : w.rangeLeft b r = c := by
  obtain ⟨D, left, h1, _⟩ := h
  exact h1.left_eq
set_option maxRecDepth 100000 in
set_option maxHeartbeats 4000000 in
theorem gath86 (hn : 0 < n ∧ n ≤ 64) {w : World} {b N : Nat} {A : Pm n → Prop} (hE : ElM w [] b N A) :
    Calls Tryz.prog 86 #[.int .i64 (n : Int), .map (some b)] w fun e w' => ∃ a c b2 d, e = .returned (.agg #[.int .i64 (n : Int), .slice a n c, .slice b2 n d]) ∧ Below w.heap.size w w' ∧
      ∀ S, (∀ m ∈ S, m < w.heap.size) → GrS w' (.agg #[.int .i64 (n : Int), .slice a n c, .slice b2 n d]) (Grp A) S := by
  obtain ⟨X, hX⟩ : ∃ X, w.heap.size = X := ⟨_, rfl⟩
  obtain ⟨W1, hW1⟩ : ∃ W1, w.alloc (.cells #[.int .i64 0, .slice none 0 0, .slice none 0 0] 25) = W1 := ⟨_, rfl⟩
  have hwW : Below w.heap.size w W1 := hW1 ▸ alloc_b (Below.refl _ _) _
  have hszw : W1.heap.size = X + 1 := by rw [← hW1]; simp [hX]
  have k0 : W1.heap[X]? = some (.cells #[.int .i64 0, .slice none 0 0, .slice none 0 0] 25) := by rw [← hW1]; exact box_al25 hX _ _ _
  have HA := Lib.hid (And.intro hE (And.intro hwW (And.intro hszw k0)))
  clear hE hwW hszw k0
  go_enter Tryz.func86, Tryz.ntmps86
  try simp only [hX]
  go_wp2_with (go_at_call 71; (with_reducible refine (from71 hn).mono ?_)
               rintro e3 w3 ⟨bk, rfl, k1, k2, k3⟩
               obtain ⟨w4, c4, hr4, hE4, hb4, hs4⟩ := (((HA.out.1.ext (M' := [bk]) (fun m hm => by rw [List.mem_singleton.1 hm]; exact .inr (Nat.le_trans HA.out.2.1.size k1))).below (below_trans HA.out.2.1 k2))).range
               have H3 := Lib.hid (And.intro k1 (And.intro k2 (And.intro k3 (And.intro hE4 (And.intro hb4 hs4)))))
               clear k1 k2 k3 hE4 hb4 hs4)
  obtain ⟨r, hr⟩ : ∃ r, w3.heap.size = r := ⟨_, rfl⟩
  try simp only [hr]
  have s3 := H3.out.2.1.size
  have s4 := H3.out.2.2.2.2.1.size
  have s1 := HA.out.2.2.1
  have hbk1 : X + 1 ≤ bk := by have := H3.out.1; omega
  have b14 : Below W1.heap.size W1 w4 := below_trans H3.out.2.1 H3.out.2.2.2.2.1
  have hB0 : BldV w4 bk (Grp fun z => A z ∧ ¬ A z) (List.range (X + 1)) := ((H3.out.2.2.1 (List.range (X + 1)) (fun m hm => by have := List.mem_range.1 hm; omega)).below H3.out.2.2.2.2.1).congr fun x =>
    ⟨Grp.sub Grp.isG (fun z hz => by cases hz), Grp.sub Grp.isG (fun z hz => absurd hz.1 hz.2)⟩
  have HD := Lib.hid (And.intro b14 (And.intro hB0 hr))
  clear b14 hB0
  have hEr := H3.out.2.2.2.1
  rw [hr] at hEr
  have hrb : bk < r := by have := (HD.out.2.1.lt); have := H3.out.2.2.2.2.2; have hh := (H3.out.2.2.1 [] (by simp)).lt; omega
  have HE := Lib.hid hEr
  clear hEr hr
  go_loopw [12] (fun _ wr => ∃ (L : Pm n → Prop) (c : Nat), ElR wr [bk] b r N A L c ∧ BldV wr bk (Grp fun z => A z ∧ ¬ L z) (List.range (X + 1)) ∧ Below W1.heap.size W1 wr) (fun _ wr => wr.rangeLeft b r)
  case atStart => exact ⟨A, c4, HE.out, HD.out.2.1, HD.out.1⟩
  case round =>
    obtain ⟨L, c, hE, hB, hb⟩ := hrel
    have hleft := hE.left
    rcases hE.next hn.2 0 with ⟨hno, hrun⟩ | ⟨x, v, w5, c5, hLx, hpm, hrun, hE5, hc5, hg5, hs5, hen⟩
    · have HP := Lib.hid (And.intro hE (And.intro hB (And.intro hb hno)))
      clear hE hB hb hno hleft
      obtain ⟨a1, c1, b1, d1, hcell, hgs⟩ := HP.out.2.1
      obtain ⟨y0, y1, y2⟩ := box_cells81 hcell
      have hXr : wr.heap[X]? = some (.cells #[.int .i64 0, .slice none 0 0, .slice none 0 0] 25) := (HP.out.2.2.1.block X (by omega)).trans HA.out.2.2.2
      obtain ⟨z0, z1, z2, zf1, zf2, zf0⟩ := box_cells hXr
      have HQ := Lib.hid (And.intro hgs hXr)
      clear hgs hXr hcell
      go_wp2_with fail
      have hfin : (set3 wr X (.int .i64 (n : Int)) (.slice a1 n c1) (.slice b1 n d1)).heap[X]? = some (.cells #[.int .i64 (n : Int), .slice a1 n c1, .slice b1 n d1] 25) := set3_box HQ.out.2
      obtain ⟨V, hV⟩ : ∃ V, set3 wr X (.int .i64 (n : Int)) (.slice a1 n c1) (.slice b1 n d1) = V := ⟨_, rfl⟩
      have hKp : Kept wr V [X] := hV ▸ set3_kept (by simp)
      rw [hV] at hfin
      unfold set3 at hV
      rw [hV]
      obtain ⟨f0, f1, f2, _⟩ := box_cells hfin
      refine bodyPost_ret (v := .agg #[.int .i64 (n : Int), .slice a1 n c1, .slice b1 n d1]) (by simp [results, Tryz.results86, go_sem, f0, f1, f2]) rfl ?_
      refine ⟨a1, c1, b1, d1, rfl, ?_, fun S hS => ?_⟩
      · have h1 := HA.out.2.1.trans (HP.out.2.2.1.mono HA.out.2.1.size)
        rw [hX] at h1
        exact h1.trans (hKp.below (by have := h1.size; omega) (fun m hm => by rw [List.mem_singleton.1 hm]; exact Nat.le_refl _))
      · refine ((HQ.out.1.kept (hKp.mono (fun q hq => ?_))).congr (fun x => ⟨Grp.sub Grp.isG (fun z hz => Grp.base hz.1), Grp.sub Grp.isG (fun z hz => Grp.base ⟨hz, HP.out.2.2.2 z⟩)⟩)).ext (fun q hq => .inl (List.mem_cons_of_mem _ (List.mem_range.2 ?_)))
        · rw [List.mem_singleton.1 hq]
          exact List.mem_cons_of_mem _ (List.mem_range.2 (by omega))
        · have := hS q hq; omega
    · have hup : Turn wr w5 (some r) := ⟨hg5, fun q e => by cases e; obtain ⟨_, a0, s0, d0, e0, h0⟩ := hE.blk; exact ⟨_, h0, rfl⟩⟩
      have hAx := hE.sub hLx
      have hB5 := hB.turn hup
      obtain ⟨yb, yo, yc, rfl, _⟩ := id hpm
      have hbk5 := hB5.lt
      have hps := pmsN_lit1 (M' := [bk]) hpm (fun m hm => hm) (fun m hm => by rw [List.mem_singleton.1 hm]; exact hbk5)
      have hb5 : Below W1.heap.size W1 w5 := hb.grown hg5 hb.size (fun q e => by cases e; have := H3.out.2.1.size; omega)
      have hB6 := hB5.below (alloc_b (Below.refl _ _) (.cells #[.slice (some ⟨yb, yo, none⟩) n yc] 27))
      have K72 := bld_with (L := [x]) hn Grp.isG hB6 (by simp) hps (fun m hm => by have := List.mem_range.1 hm; have := hb5.size; simp; omega)
      have HP := Lib.hid (And.intro hE5 (And.intro hc5 (And.intro hb5 (And.intro hAx (And.intro hLx (And.intro K72 hleft))))))
      clear hE hB hb hleft hpm hE5 hc5 hg5 hs5 hup hAx hLx hB5 hps hb5 hB6 K72
      go_wp2_with (go_at_call 72; (with_reducible refine HP.out.2.2.2.2.2.1.mono ?_); rintro e6 w6 ⟨rfl, k1, k2⟩; have H6 := Lib.hid (And.intro k1 k2); clear k1 k2)
      have hbw : b ≠ bk := fun e9 => by
        obtain ⟨es, cl, h9⟩ := HA.out.1.blk
        have h10 := (Array.getElem?_eq_some_iff.1 h9).1
        omega
      have hE6 := (HP.out.1.below (alloc_b (Below.refl _ _) (.cells #[.slice (some ⟨yb, yo, none⟩) n yc] 27))).kept H6.out.2.grownOne (fun e9 => hbw (Option.some.inj e9)) (fun e9 => by have := Option.some.inj e9; omega) (fun k e9 => by cases e9; exact List.mem_cons_self ..)
      have hb6 : Below W1.heap.size W1 (w5.alloc (.cells #[.slice (some ⟨yb, yo, none⟩) n yc] 27)) := alloc_b HP.out.2.2.1 _
      refine ⟨⟨_, _, hE6, H6.out.1.congr fun z => ?_, hb6.trans (H6.out.2.below hb6.size (fun m hm => by rw [List.mem_singleton.1 hm]; omega))⟩, ?_⟩
      · refine ⟨Grp.sub Grp.isG (fun q hq => ?_), Grp.sub Grp.isG (fun q hq => ?_)⟩
        · rcases hq with h | h
          · exact Grp.sub Grp.isG (fun s hs => Grp.base ⟨hs.1, fun h9 => hs.2 h9.1⟩) h
          · rw [List.mem_singleton.1 h]
            exact Grp.base ⟨HP.out.2.2.2.1, fun h9 => h9.2 rfl⟩
        · by_cases e9 : q = x
          · exact Grp.base (.inr (by rw [e9]; exact List.mem_singleton.2 rfl))
          · exact Grp.base (.inl (Grp.base ⟨hq.1, fun h9 => hq.2 ⟨h9, e9⟩⟩))
      · rw [hE6.left, HP.out.2.2.2.2.2.2]
        exact HP.out.2.1
end
end Go.Proofs.YtbejhkojdiadaaaGreat
namespace Go.Proofs.YtbejhkojdiadaaaGreat.PlainPm
variable {n : Nat}
theorem core_done {C D A : Pm n → Prop} {l : List (Pm n)} (hC : IsG C) (hl : ∀ x, Grp (· ∈ l) x ↔ D x) (hs : ∀ x, A x → C x) (hk : ∀ x, CoG C D x → A x) (hcl : ∀ x, A x → ∀ y ∈ l, A (cj x y)) (x : Pm n) : Grp A x ↔ CoG C D x :=
  ⟨Grp.sub (CoG.isG hC) (fun s hs' => CoG.of_nrm hl hs hcl hs'), fun h => Grp.base (hk x h)⟩
theorem core_step {C D : Pm n → Prop} (hD : IsG D) {x y : Pm n} (hy : D y) (h : CoG C D x) : CoG C D (cj x y) := CoG.nrm hD x h y hy
structure CoA (C D A : Pm n → Prop) : Prop where
  sub : ∀ x, A x → C x
  kp : ∀ x, CoG C D x → A x
theorem CoA.start {C D : Pm n → Prop} (hD : IsG D) : CoA C D C := ⟨fun x h => h, fun x h => CoG.sub hD h⟩
theorem CoA.drop {C D A : Pm n → Prop} (hD : IsG D) (h : CoA C D A) {x y : Pm n} (hy : D y) (hn : ¬ A (cj x y)) : CoA C D (fun z => A z ∧ z ≠ x) :=
  ⟨fun z hz => h.sub z hz.1, fun z hz => ⟨h.kp z hz, fun e => hn (h.kp _ (core_step hD hy (e ▸ hz)))⟩⟩
noncomputable def cardP (F : List (Pm n)) (A : Pm n → Prop) : Nat := by
  classical exact (F.filter fun x => decide (A x)).length
theorem cardP_le {F : List (Pm n)} {A B : Pm n → Prop} (h : ∀ x, A x → B x) : cardP F A ≤ cardP F B := by
  classical
  unfold cardP
  induction F with
  | nil => simp
  | cons a F ih =>
    simp only [List.filter_cons, decide_eq_true_eq]
    by_cases ha : A a
    · rw [if_pos ha, if_pos (h a ha)]; simp; exact ih
    · rw [if_neg ha]
      by_cases hb : B a
      · rw [if_pos hb]; simp; omega
      · rw [if_neg hb]; exact ih
theorem cardP_lt {F : List (Pm n)} {A B : Pm n → Prop} (h : ∀ x, A x → B x) {x : Pm n} (hx : x ∈ F) (hB : B x) (hA : ¬ A x) : cardP F A < cardP F B := by
  classical
  induction F with
  | nil => cases hx
  | cons a F ih =>
    have hle := cardP_le (F := F) h
    unfold cardP at hle ih ⊢
    simp only [List.filter_cons, decide_eq_true_eq]
    rcases List.mem_cons.1 hx with e | hx'
    · subst e
      rw [if_neg hA, if_pos hB]; simp; omega
    · have := ih hx'
      by_cases ha : A a
      · rw [if_pos ha, if_pos (h a ha)]; simp; exact this
      · rw [if_neg ha]
        by_cases hb : B a
        · rw [if_pos hb]; simp; omega
        · rw [if_neg hb]; exact this
end Go.Proofs.YtbejhkojdiadaaaGreat.PlainPm
