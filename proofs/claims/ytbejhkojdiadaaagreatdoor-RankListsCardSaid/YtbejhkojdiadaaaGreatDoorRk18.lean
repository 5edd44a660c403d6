/- The levels of a chain in order, and the program's sift. · chain.Below walked. · The reference's Below walked; the kit's strong generators as a list. · Plain: numbers as strings of digits. · Numbers as strings, walked: order of perm and of its reference. -/
import Derived.Test.YtbejhkojdiadaaaGreatDoorRk01
import Derived.Test.YtbejhkojdiadaaaGreatDoorRk02
import Derived.Test.YtbejhkojdiadaaaGreatDoorRk03
import Derived.Test.YtbejhkojdiadaaaGreatDoorRk04
import Derived.Test.YtbejhkojdiadaaaGreatDoorRk05
import Derived.Test.YtbejhkojdiadaaaGreatDoorRk06
import Derived.Test.YtbejhkojdiadaaaGreatDoorRk07
import Derived.Test.YtbejhkojdiadaaaGreatDoorRk08
import Derived.Test.YtbejhkojdiadaaaGreatDoorRk09
import Derived.Test.YtbejhkojdiadaaaGreatDoorRk10
import Derived.Test.YtbejhkojdiadaaaGreatDoorRk11
import Derived.Test.YtbejhkojdiadaaaGreatDoorRk12
import Derived.Test.YtbejhkojdiadaaaGreatDoorRk13
import Derived.Test.YtbejhkojdiadaaaGreatDoorRk14
import Derived.Test.YtbejhkojdiadaaaGreatDoorRk15
import Derived.Test.YtbejhkojdiadaaaGreatDoorRk16
import Derived.Test.YtbejhkojdiadaaaGreatDoorRk17
import Derived.Test.YtbejhkojdiadaaaGreatDoorProg
import Derived.Laws.BytesArg
import Derived.Laws.IdiomStrings
import Derived.RangeFuncBox
import Derived.WalkKit
import Derived.WalkSpells
import Derived.BigQuiet
import Derived.Deep.QuietTactic
import Derived.Deep.LoopGhost
import Derived.Lib.Hide
import Derived.Maps.AppendAt
import Derived.Deep.AppendLies
import Derived.StillTailTactics
import Derived.Laws.CopyOwn
import Derived.Deep.OwnRows
import Derived.Deep.DeepCutAuto
import Derived.Laws.Cover3
import Derived.Deep.RegionHeld3
import Derived.RangeFuncRecord
import Derived.Lib.SlicesSearch
import Derived.RangeFuncLeaves
import Derived.RangeFuncWrites
import Derived.RangeFuncFrom
import Derived.Shelf.Abstract
import Derived.OwnWalkIn
import Derived.TacticsInMore
import Derived.LoopNIn
import Derived.LoopIn
import Derived.Shelf.GgSortFunc.Insertion
import Derived.Shelf.SlIter.Collect
import Derived.Shelf.Sort.Plain
import Derived.Deep.RegionLaw
import Derived.ControlIn
import Derived.Deep.AppendSrc
import Derived.Sort.BigQuietIn
set_option linter.unusedSimpArgs false
set_option linter.unusedVariables false
namespace Go.Proofs.YtbejhkojdiadaaaGreatDoor
open Go.RowKit Go.Shelf PlainPm
section
attribute [local go_sem] Oper.semAt_some
set_option maxRecDepth 100000 in
set_option maxHeartbeats 2000000 in
theorem reps1_inO (F : Fence) (nn : Nat) (hfn : F.fn 101) (hro : F.round = none) (hn1 : 1 ≤ nn) (lp Y n0 : Nat) (a : Option Addr) (c : Nat) (vs : List Value)
    (J Jx : List (Fin vs.length) → World → Prop)
    (hY : ∀ pre x W, J pre W → pre.length < vs.length → YieldAt F (nn - 1) Tryz.prog lp (encR vs x) W fun e W' =>
      (e = .returned (.bool true) ∧ J (pre ++ [x]) W' ∧ Below n0 W W') ∨ (e = .returned (.bool false) ∧ Jx (pre ++ [x]) W'))
    (W w : World) (hBs : W.cell? ⟨Y, 2, none⟩ = some (.slice a vs.length c)) (hl : Row w a vs) (hw0 : w.heap.size = n0) (hWw : Below n0 w W) (h0 : J [] W) :
    CallsIn F nn Tryz.prog 101 #[.func (.yield lp) #[] #[], .pointer (some ⟨Y, 0, none⟩)] W fun e W' => (∃ v, e = .returned v) ∧
      (J (List.finRange vs.length) W' ∨ (∃ pre, pre = (List.finRange vs.length).take pre.length ∧ Jx pre W')) := by
  have hlen := hl.len'
  have H0 := Lib.hid (And.intro hl (And.intro hw0 hWw))
  clear hl hw0 hWw
  obtain ⟨m, hm⟩ : ∃ m, m = vs.length := ⟨_, rfl⟩
  rw [← hm] at hBs hlen
  have Hm := Lib.hid hm
  clear hm
  refine callsIn_of_wp Tryz.func101 rfl hfn ?_ hro
  simp only [Tryz.ntmps101, List.size_toArray, List.length_cons, List.length_nil, Nat.reduceAdd, Nat.reduceSub, Array.replicate_succ, Array.replicate_zero, List.push_toArray, List.append_toArray, List.nil_append, List.cons_append]
  gi_wp2
  gi_loopw [8] (fun i wr => ∃ k : Nat, k ≤ m ∧ i = .int .i64 k ∧ J ((List.finRange vs.length).take k) wr ∧ Below n0 W wr) (fun i _ => m - (intOf i).toNat)
  case atStart => exact ⟨0, Nat.zero_le _, rfl, by simpa using h0, Below.refl _ _⟩
  case round =>
    obtain ⟨k, hk, rfl, hJs, hnx⟩ := hrel
    by_cases hlt : k < m
    · have hkl : k < vs.length := by rw [← Hm.out]; exact hlt
      obtain ⟨g, o, rfl, hg, hc1⟩ := H0.out.1.2 k vs[k] (List.getElem?_eq_getElem hkl)
      have hcx : wr.cell? ⟨g, o + k, none⟩ = some vs[k] := by
        rw [(H0.out.2.2.trans hnx).cell (by rw [← H0.out.2.1]; exact hg)]; exact hc1
      obtain ⟨fn, tmps, assign, body, hy, hR⟩ := hY _ ⟨k, hkl⟩ wr hJs (by rw [List.length_take]; simp; omega)
      obtain ⟨x, hx⟩ : ∃ x, vs[k] = x := ⟨_, rfl⟩
      unfold encR at hy
      dsimp only at hy
      rw [hx] at hcx hy
      have Hx := Lib.hid (And.intro hx hnx)
      clear hx hnx hc1 h0 hJs
      gi_wp2
      refine hR.mono ?_
      rintro e W3 (⟨rfl, hJ3, hk3⟩ | ⟨rfl, hJx3⟩)
      · have H3 := Lib.hid (And.intro hJ3 hk3)
        clear hJ3 hk3
        gi_wp2
        go_roundw
        case rel => exact ⟨k + 1, by omega, by go_num, by rw [fin_take hkl]; exact H3.out.1, Hx.out.2.trans H3.out.2⟩
        case measure => simp [intOf]; omega
      · have H3 := Lib.hid hJx3
        clear hJx3
        gi_wp2
        refine bodyPost_ret (results_none rfl _ _ _) rfl ?_
        exact ⟨⟨_, rfl⟩, .inr ⟨_, by rw [← fin_take hkl]; rw [List.length_take, List.length_finRange, Nat.min_eq_left (by omega)], H3.out⟩⟩
    · have HJ := Lib.hid hJs
      clear hJs
      gi_wp2
      go_end0
      refine ⟨⟨_, rfl⟩, .inl ?_⟩
      have := HJ.out
      rwa [List.take_of_length_le (by simp; rw [← Hm.out]; omega)] at this
theorem reps_stopsO (F : Fence) (nn : Nat) (hfn : F.fn 101) (hro : F.round = none) (hn1 : 1 ≤ nn) (Y n0 : Nat) (a : Option Addr) (c : Nat) (vs : List Value) (w0 w : World)
    (hBs : w.cell? ⟨Y, 2, none⟩ = some (.slice a vs.length c)) (hl : Row w0 a vs) (hw0 : w0.heap.size = n0) (hb : Below n0 w0 w) :
    SeqStopsK F nn Tryz.prog 101 #[.pointer (some ⟨Y, 0, none⟩)] (encR vs) (Below n0) (fun ys => ys = List.finRange vs.length) (fun pre => pre = (List.finRange vs.length).take pre.length) vs.length w := fun lp J Jx W hW _ _ hY h0 => by
  have hlt := block_lt_of_cell hBs
  have hc' := (hW.cell (p := ⟨Y, 2, none⟩) hlt).trans hBs
  refine (reps1_inO F nn hfn hro hn1 lp Y n0 a c vs J Jx hY W w0 hc' hl hw0 (hb.trans (hW.mono (by have := hb.size; omega))) h0).mono ?_
  rintro e W' ⟨he, hj | ⟨pre, hp, hj⟩⟩
  · exact ⟨he, .inl ⟨_, rfl, hj⟩⟩
  · exact ⟨he, .inr ⟨_, hp, hj⟩⟩
end
theorem lv_vals {n : Nat} {w : World} {O : Nat → List Nat} {R : Nat → Nat → Pm n} {ab ao bb bo : Nat} (h : LvW n w O R ab ao bb bo) (hn : n ≤ 64) : ∃ vs, vs.length = n ∧ Row w (some ⟨bb, bo, none⟩) vs ∧ ∀ i v, vs[i]? = some v → RepsW w v ((O i).map (R i)) := by
  have each : ∀ j : Fin n, ∃ u, w.cell? ⟨bb, bo + j.val, none⟩ = some u ∧ RepsW w u ((O j.val).map (R j.val)) := fun j => h.rep j.val j.isLt
  obtain ⟨f, hf⟩ := Classical.axiomOfChoice each
  refine ⟨List.ofFn f, by simp, ?_, fun i v hv => ?_⟩
  · refine ⟨by simp [maxLen]; omega, fun i u hu => ?_⟩
    obtain ⟨hi, he⟩ := List.getElem?_eq_some_iff.1 hu
    simp at hi he
    have h1 := (hf ⟨i, hi⟩).1
    rw [he] at h1
    exact ⟨bb, bo, rfl, block_lt_of_cell h1, h1⟩
  · obtain ⟨hi, he⟩ := List.getElem?_eq_some_iff.1 hv
    simp at hi
    have := (hf ⟨i, hi⟩).2
    simp at he
    rwa [he] at this
structure SftI {m : Nat} (n : Nat) (w : World) (X ab ao c bb bo e : Nat) (O : Nat → List Nat) (R : Nat → Nat → Pm n) (x : Pm n) (pre : List (Fin m)) (W : World) : Prop where
  box : BoxW w X n ab ao c bb bo e W
  xc : ∃ u z, W.heap[X + 1]? = some (.cells #[u] 41 (0, 0)) ∧ PmV W [X + 1, X + 2, X + 3] u z ∧ (pre = (List.finRange m).take pre.length → sfG O R (n - pre.length) pre.length z = sfG O R n 0 x)
  r0 : ∃ u, W.heap[X + 2]? = some (.cells #[u] 41 (0, 0))
  r1 : ∃ u, W.heap[X + 3]? = some (.cells #[u] 3 (0, 0))
theorem fin_last {m : Nat} {pre : List (Fin m)} {i : Fin m} (h : pre ++ [i] = (List.finRange m).take (pre ++ [i]).length) : pre = (List.finRange m).take pre.length ∧ i.val = pre.length := by
  rw [List.length_append, List.length_singleton] at h
  have hl : pre.length < m := by
    have := congrArg List.length h
    rw [List.length_append, List.length_singleton, List.length_take, List.length_finRange] at this
    omega
  rw [fin_take hl] at h
  obtain ⟨h1, h2⟩ := List.append_inj' h rfl
  exact ⟨h1, by rw [List.singleton_inj.1 h2]⟩
theorem keepsO_of_kept {W W' : World} {g : Option Nat} (hg : W.grownBy W' g) (hc : ∀ r, g = some r → ∃ v : Array Value, ∃ e f, W.heap[r]? = some (.cells v e f)) : KeepsOthers W W' :=
  KeepsOthers.of_grownBy hg (fun r o e ho => by
    obtain ⟨v, e', f, hv⟩ := hc r e
    rw [hv] at ho
    cases ho
    rfl)
theorem SftI.step {m : Nat} {n : Nat} {w W w7 : World} {X ab ao c bb bo e : Nat} {O : Nat → List Nat} {R : Nat → Nat → Pm n} {x : Pm n} {pre : List (Fin m)} (h : SftI n w X ab ao c bb bo e O R x pre W) {z : Pm n}
    (hord : pre = (List.finRange m).take pre.length → sfG O R (n - pre.length) pre.length z = sfG O R n 0 x) (hb : Below W.heap.size W w7) {v7 : Value} {i t : Nat} {hi : i < m} (hv : NewPm W w7 v7 (z.mul (R i t).inv)) (hin : i < n) (ht : t ∈ O i) (hz : z.at i = t) :
    KeepsOthers W (w7.setCell ⟨X + 1, 0, none⟩ v7) ∧ Below X W (w7.setCell ⟨X + 1, 0, none⟩ v7) ∧ SftI n w X ab ao c bb bo e O R x (pre ++ [⟨i, hi⟩]) (w7.setCell ⟨X + 1, 0, none⟩ v7) := by
  obtain ⟨u, z', k1, k2, k3⟩ := h.xc
  obtain ⟨u2, k4⟩ := h.r0
  obtain ⟨u3, k5⟩ := h.r1
  have l1 := (Array.getElem?_eq_some_iff.1 k1).1
  have l2 := (Array.getElem?_eq_some_iff.1 k4).1
  have l3 := (Array.getElem?_eq_some_iff.1 k5).1
  have e1 := (hb.block _ l1).trans k1
  have e2 := (hb.block _ l2).trans k4
  have e3 := (hb.block _ l3).trans k5
  have hg : w7.grownBy (w7.setCell ⟨X + 1, 0, none⟩ v7) (some (X + 1)) := grown_put 0 v7
  refine ⟨(others_below hb).trans (KeepsOthers.setCell _ _ _), ((hb.mono (by omega))).setCell (p := ⟨X + 1, 0, none⟩) (by simp) _, ?_, ?_, ?_, ?_⟩
  · exact h.box.below ((hb.mono (by omega)).setCell (p := ⟨X + 1, 0, none⟩) (by simp) _)
  · refine ⟨v7, _, heap_setCell_box_a _ e1, (hv.pm (M := [X + 1, X + 2, X + 3]) ?_).kept (Kept.ofGrown hg (fun k e => by cases e; simp)), fun ho => ?_⟩
    · intro q hq
      simp at hq
      rcases hq with rfl | rfl | rfl <;> omega
    · obtain ⟨h1, h2⟩ := fin_last ho
      dsimp only at h2
      have h3 := hord h1
      obtain ⟨f, hf⟩ : ∃ f, n - i = f + 1 := ⟨n - i - 1, by omega⟩
      rw [← h3, ← h2, hf, sfG, hz, if_pos ht, List.length_append, List.length_singleton, ← h2, show n - (i + 1) = f by omega]
  · exact ⟨u2, (Below.heap_setCell _ _ _ _ (by show X + 2 ≠ X + 1; omega)).trans e2⟩
  · exact ⟨u3, (Below.heap_setCell _ _ _ _ (by show X + 3 ≠ X + 1; omega)).trans e3⟩
attribute [local go_sem] Oper.semAt_some
def frS (n X Y ab ao c bb bo e vb vo vc xb xcc : Nat) (vs : List Value) (x : Fin vs.length) : Act := { tmps := #[.agg #[.int .i64 (n : Int), .slice (some ⟨ab, ao, none⟩) n c, .slice (some ⟨bb, bo, none⟩) n e], .slice (some ⟨vb, vo, none⟩) n vc, .pointer (some ⟨X, 0, none⟩), .pointer (some ⟨X + 1, 0, none⟩), .pointer (some ⟨X + 1 + 1, 0, none⟩), .pointer (some ⟨X + 1 + 1 + 1, 0, none⟩), .int .i64 (x.val : Int), vs[x.val], undef, undef, .slice (some ⟨vb, vo, none⟩) n vc, .slice (some ⟨xb, 0, none⟩) n xcc, .agg #[.int .i64 (n : Int), .slice (some ⟨ab, ao, none⟩) n c, .slice (some ⟨bb, bo, none⟩) n e], .func (.func 101) #[] #[.pointer (some ⟨Y, 0, none⟩)], .int .i64 (x.val : Int), vs[x.val], undef, undef, undef, undef, undef, undef, undef, undef, undef, undef, undef, undef, undef, undef, undef, undef, undef, undef, undef, undef, undef, undef, undef, undef, undef, undef, undef], defers := [] }
set_option maxRecDepth 100000 in
set_option maxHeartbeats 4000000 in
theorem sift115 {n ab ao c bb bo e : Nat} {G : Pm n → Prop} {O : Nat → List Nat} {R : Nat → Nat → Pm n} (hn0 : 0 < n) (hn : n ≤ 64) (hG : ChG G O R) (hs : ∀ i, i < n → (O i).Pairwise (· < ·)) {x : Pm n} {va : Value} {w : World} (h : LvW n w O R ab ao bb bo) (hx : PmV w [] va x) :
    Calls Tryz.prog 115 #[cv n ab ao c bb bo e, va] w fun r w' => ∃ v, r = .returned (.tuple #[v, .int .i64 (sfG O R n 0 x : Int)]) ∧ Below w.heap.size w w' := by
  obtain ⟨vs, hvn, hvr, hvp⟩ := lv_vals h hn
  obtain ⟨X, hX⟩ : ∃ X, w.heap.size = X := ⟨_, rfl⟩
  obtain ⟨W0, hW0⟩ : ∃ W0, ((((w.alloc (.cells #[.int .i64 (n : Int), .slice (some ⟨ab, ao, none⟩) n c, .slice (some ⟨bb, bo, none⟩) n e] 25)).alloc (.cells #[va] 41)).alloc (.cells #[.slice none 0 0] 41)).alloc (.cells #[.int .i64 0] 3)) = W0 := ⟨_, rfl⟩
  have hF : BoxW w X n ab ao c bb bo e W0 ∧ W0.heap[X + 1]? = some (.cells #[va] 41 (0, 0)) ∧ W0.heap[X + 2]? = some (.cells #[.slice none 0 0] 41 (0, 0)) ∧ W0.heap[X + 3]? = some (.cells #[.int .i64 0] 3 (0, 0)) ∧ W0.heap.size = X + 4 := by
    have s1 : ∀ (V : World) (o : Obj), (V.alloc o).heap.size = V.heap.size + 1 := fun V o => heap_new0 V o
    have g : ∀ (V : World) (o : Obj) (k : Nat), k < V.heap.size → (V.alloc o).heap[k]? = V.heap[k]? := fun V o k hk => Below.heap_alloc _ _ _ hk
    have hB0 := BoxW.start w X n ab ao c bb bo e hX
    refine ⟨?_, ?_, ?_, ?_, ?_⟩
    · rw [← hW0]
      exact hB0.below (alloc_b (alloc_b (alloc_b (Below.refl _ _) _ (by simp; omega)) _ (by simp; omega)) _ (by simp; omega))
    · rw [← hW0, g _ _ _ (by simp only [s1]; omega), g _ _ _ (by simp only [s1]; omega)]
      have := heap_new (w.alloc (.cells #[.int .i64 (n : Int), .slice (some ⟨ab, ao, none⟩) n c, .slice (some ⟨bb, bo, none⟩) n e] 25)) (.cells #[va] 41)
      rwa [s1, hX] at this
    · rw [← hW0, g _ _ _ (by simp only [s1]; omega)]
      have := heap_new ((w.alloc (.cells #[.int .i64 (n : Int), .slice (some ⟨ab, ao, none⟩) n c, .slice (some ⟨bb, bo, none⟩) n e] 25)).alloc (.cells #[va] 41)) (.cells #[.slice none 0 0] 41)
      rwa [s1, s1, hX] at this
    · rw [← hW0]
      have := heap_new (((w.alloc (.cells #[.int .i64 (n : Int), .slice (some ⟨ab, ao, none⟩) n c, .slice (some ⟨bb, bo, none⟩) n e] 25)).alloc (.cells #[va] 41)).alloc (.cells #[.slice none 0 0] 41)) (.cells #[.int .i64 0] 3)
      rwa [s1, s1, s1, hX] at this
    · rw [← hW0]; simp only [s1, hX]
  have H := Lib.hid (And.intro h (And.intro hG (And.intro hs (And.intro hvn (And.intro hvr (And.intro hvp (And.intro hX (And.intro hx hF))))))))
  have hcl := clone67v (n := n) ⟨hn0, hn⟩ (hx.below (w' := W0) (by rw [hX]; exact hF.1.bel))
  obtain ⟨vb, vo, vc, rfl, _⟩ := id hx
  have HC := Lib.hid hcl
  obtain ⟨c1, c2⟩ := b1 hF.2.1
  have hb0 := hF.1
  have q0 := hb0.c0
  have q1 := hb0.c1
  have q2 := hb0.c2
  clear h hG hs hvn hvr hvp hcl hF hx hb0
  refine (callsIn_wide (n := 9)).1 ?_
  have w72 : Fence.wide.fn 72 := trivial
  have w40 : Fence.wide.fn 40 := trivial
  refine callsIn_of_wp_marks Tryz.func115 rfl trivial ?_ rfl
  simp only [Tryz.ntmps115, List.size_toArray, List.length_cons, List.length_nil, Nat.reduceAdd, Nat.reduceSub, Array.replicate_succ, Array.replicate_zero, List.push_toArray, List.append_toArray, List.nil_append, List.cons_append]
  unfold cv
  gi_wp2_with (first
    | (gi_at_call 40; (refine (callsIn_wide.2 HC.out).mono ?_); rintro e1 w1 ⟨v1, rfl, k1, k2⟩
       obtain ⟨xb, xcc, rfl, _⟩ := id k1
       obtain ⟨d1, d2⟩ := b1 ((k2.block (X + 1) (Array.getElem?_eq_some_iff.1 H.out.2.2.2.2.2.2.2.2.2.1).1).trans H.out.2.2.2.2.2.2.2.2.2.1)
       have H1 := Lib.hid (And.intro k1 k2)
       have hb1 := H.out.2.2.2.2.2.2.2.2.1.below (k2.mono (show X + 1 ≤ W0.heap.size by have := H.out.2.2.2.2.2.2.2.2.2.2.2.2; omega))
       have q0 := hb1.c0
       have q1 := hb1.c1
       have q2 := hb1.c2
       clear k1 k2 hb1)
    | (gi_at_call 72; refine (callsIn_wide.2 (reps_calls _ _ _ _)).mono ?_; rintro e w3 ⟨rfl, hw3⟩))
  obtain ⟨W2, hW2⟩ : ∃ W2, w1.setCell ⟨X + 1, 0, none⟩ (.slice (some ⟨xb, 0, none⟩) n xcc) = W2 := ⟨_, rfl⟩
  obtain ⟨Y, hY⟩ : ∃ Y, w1.heap.size = Y := ⟨_, rfl⟩
  have hYs : W2.heap.size = Y := by rw [← hW2, ← hY]; simp [World.setCell]
  rw [hW2] at hw3
  rw [hW2, hY]
  rw [← hw3]
  have hI0 : SftI (m := vs.length) n w X ab ao c bb bo e O R x [] w3 ∧ w3.cell? ⟨Y, 2, none⟩ = some (.slice (some ⟨bb, bo, none⟩) n e) ∧ Y < w3.heap.size ∧ X + 4 ≤ Y := by
    obtain ⟨k1, k2⟩ := H1.out
    have f0 := H.out.2.2.2.2.2.2.2.2.1
    obtain ⟨f1, f2, f3, f4⟩ := H.out.2.2.2.2.2.2.2.2.2
    have hX4 : X + 4 ≤ w1.heap.size := by rw [← f4]; exact k2.size
    have t1 := (k2.block (X + 1) (by omega)).trans f1
    have t2 := (k2.block (X + 2) (by omega)).trans f2
    have t3 := (k2.block (X + 3) (by omega)).trans f3
    have hb1 : Below (X + 1) W0 w1 := k2.mono (by omega)
    have hb2 : Below (X + 1) W0 W2 := by rw [← hW2]; exact hb1.setCell (p := ⟨X + 1, 0, none⟩) (Nat.le_refl _) _
    have hb3 : Below (X + 1) W0 w3 := by rw [hw3]; exact hb2.alloc (by rw [hYs]; omega) _
    have u1 : W2.heap[X + 1]? = some (.cells #[.slice (some ⟨xb, 0, none⟩) n xcc] 41 (0, 0)) := by rw [← hW2]; exact heap_setCell_box_a _ t1
    have u2 : W2.heap[X + 2]? = some (.cells #[.slice none 0 0] 41 (0, 0)) := by rw [← hW2]; exact (Below.heap_setCell _ _ _ _ (by show X + 2 ≠ X + 1; omega)).trans t2
    have u3 : W2.heap[X + 3]? = some (.cells #[.int .i64 0] 3 (0, 0)) := by rw [← hW2]; exact (Below.heap_setCell _ _ _ _ (by show X + 3 ≠ X + 1; omega)).trans t3
    have g3 : ∀ k, k < W2.heap.size → w3.heap[k]? = W2.heap[k]? := fun k hk => by rw [hw3]; exact Below.heap_alloc _ _ _ hk
    have hp1 : PmV w1 [X + 1, X + 2, X + 3] (.slice (some ⟨xb, 0, none⟩) n xcc) x := k1.pm (fun q hq => by simp at hq; rcases hq with rfl | rfl | rfl <;> omega)
    have hp2 : PmV W2 [X + 1, X + 2, X + 3] (.slice (some ⟨xb, 0, none⟩) n xcc) x := by
      rw [← hW2]; exact hp1.kept (Kept.ofGrown (grown_put 0 _) (fun k e => by cases e; simp))
    refine ⟨⟨f0.below hb3, ⟨_, x, (g3 _ (by omega)).trans u1, hp2.below (by rw [hw3]; exact alloc_b (Below.refl _ _) _), fun _ => rfl⟩, ⟨_, (g3 _ (by omega)).trans u2⟩, ⟨_, (g3 _ (by omega)).trans u3⟩⟩, ?_, ?_, by omega⟩
    · rw [hw3]
      exact (box_cells (a0 := .int .i64 (n : Int)) (a1 := .slice (some ⟨ab, ao, none⟩) n c) (a2 := .slice (some ⟨bb, bo, none⟩) n e) (by rw [← hYs]; exact heap_new _ _)).2.2.1
    · rw [hw3]; simp; omega
  have hsz3 := hI0.2.2
  have HI := Lib.hid hI0
  clear hI0 d1 d2 q0 q1 q2 hw3 hW2 hY hYs
  refine wpIn_rangeFunc_ownF (n := 9) rfl (by omega) (gf := 101) (lb := #[.pointer (some ⟨Y, 0, none⟩)]) rfl trivial (enters_of Tryz.func101 (by kernel_rfl) rfl)
    (reps_stopsO Fence.wide 8 trivial rfl (by omega) Y X (some ⟨bb, bo, none⟩) e vs w _ (by rw [H.out.2.2.2.1]; exact HI.out.2.1) H.out.2.2.2.2.1 H.out.2.2.2.2.2.2.1 HI.out.1.box.bel) belowK_t (belowK_b (by omega)) (Below.refl _ _) (fun _ => rfl)
    (fun pre W => SftI n w X ab ao c bb bo e O R x pre W)
    (fun k pre W => k = .ret ∧ Below X w W ∧ ∃ u l, W.cell? ⟨X + 2, 0, none⟩ = some u ∧ W.cell? ⟨X + 3, 0, none⟩ = some (.int .i64 l) ∧ (pre = (List.finRange vs.length).take pre.length → l = (sfG O R n 0 x : Int)))
    ?own ?ownx ?start (frS n X Y ab ao c bb bo e vb vo vc xb xcc vs) ?assign ?body ?done ?stop
  case own =>
    intro pre A B row h hg hr
    have hne : ∀ k, k < w3.heap.size → some k ≠ row := fun k hk e => by have := (hr k e.symm).1; omega
    obtain ⟨u, z, k1, k2, k3⟩ := h.xc
    obtain ⟨u2, k4⟩ := h.r0
    obtain ⟨u3, k5⟩ := h.r1
    exact ⟨h.box.below ((Below.refl _ A).grown hg h.box.lt (fun r e => by have := (hr r e).1; omega)), ⟨u, z, (hg.block _ (Array.getElem?_eq_some_iff.1 k1).1 (hne _ (by omega))).trans k1, k2.up (Turn.up ⟨hg, fun r e => (hr r e).2⟩), k3⟩,
      ⟨u2, (hg.block _ (Array.getElem?_eq_some_iff.1 k4).1 (hne _ (by omega))).trans k4⟩, ⟨u3, (hg.block _ (Array.getElem?_eq_some_iff.1 k5).1 (hne _ (by omega))).trans k5⟩⟩
  case ownx =>
    intro k pre A B row h hg hr
    obtain ⟨rfl, h1, u, l, h2, h3, h4⟩ := h
    have hne : ∀ k, k < w3.heap.size → some k ≠ row := fun k hk e => by have := (hr k e.symm).1; omega
    have hXA : X ≤ A.heap.size := by rw [← H.out.2.2.2.2.2.2.1]; exact h1.size
    refine ⟨rfl, h1.grown hg hXA (fun r e => by have := (hr r e).1; omega), u, l, ?_, ?_, h4⟩
    · have := hg.block (X + 2) (block_lt_of_cell h2) (hne _ (by omega)); unfold World.cell? at h2 ⊢; rw [this]; exact h2
    · have := hg.block (X + 3) (block_lt_of_cell h3) (hne _ (by omega)); unfold World.cell? at h3 ⊢; rw [this]; exact h3
  case start => exact HI.out.1
  case assign =>
    intro l x W K hK
    unfold encR
    gi_wp2
    exact hK
  case body =>
    rintro l pre ⟨i, hi⟩ W hI hlen
    have hin : i < n := by have := H.out.2.2.2.1; omega
    obtain ⟨u, z, hxc, hz, hord⟩ := hI.xc
    obtain ⟨zb, zo, zc, rfl, _, hzb, hzc⟩ := id hz
    obtain ⟨e1, e2⟩ := b1 hxc
    obtain ⟨u2, hr2⟩ := hI.r0
    obtain ⟨u3, hr3⟩ := hI.r1
    obtain ⟨f1, f2⟩ := b1 hr2
    obtain ⟨g1, g2⟩ := b1 hr3
    have q0 := hI.box.c0
    have q1 := hI.box.c1
    have q2 := hI.box.c2
    have hwr : Below w.heap.size w W := by rw [H.out.2.2.2.2.2.2.1]; exact hI.box.bel
    obtain ⟨go, oo, oc, gr0, ro0, rc0, y1, _, y3⟩ := H.out.1.at_ hwr hin
    obtain ⟨gr, ro, rc, hve, hrb, hrl, hrc, hrcell⟩ := H.out.2.2.2.2.2.1 i vs[i] (List.getElem?_eq_getElem hi)
    have hlt := H.out.2.1.lt i hin
    have hsrt := H.out.2.2.1 i hin
    obtain ⟨L, hL⟩ : ∃ L, (O i).length = L := ⟨_, rfl⟩
    have hL64 : L ≤ 64 := by rw [← hL]; exact Nat.le_trans (H.out.2.1.short hin) hn
    rw [List.length_map, hL] at hve hrl
    rw [List.length_map] at hrc
    obtain ⟨t, ht⟩ : ∃ t, z.at i = t := ⟨_, rfl⟩
    have hzi := hzc i hin
    rw [ht] at hzi
    obtain ⟨P, hP, hbs⟩ := bs_orb hsrt (by omega) t
    rw [hL] at y1 hbs
    have hbs' := fun (V : World) (hV : Below w.heap.size w V) => hbs V go oo oc (fun k q hq => (y3 V hV k q hq).1)
    have hi1 : (i : Int) < (n : Int) := by omega
    unfold frS
    dsimp only
    rw [hve]
    have HB := Lib.hid (And.intro hI (And.intro hz (And.intro hord (And.intro hwr (And.intro y3 (And.intro hrcell (And.intro hL (And.intro ht (And.intro hP hbs')))))))))
    clear hI hz hord hwr y3 hrcell hL ht hP hbs hbs' hsrt hlt hzc
    have w63 : Fence.wide.fn 63 := trivial
    have w138 : Fence.wide.fn 138 := trivial
    have w139 : Fence.wide.fn 139 := trivial
    have wd : Fence.wide.depth = none := rfl
    by_cases htO : t ∈ O i
    · obtain ⟨B, hB⟩ : ∃ B, decide (t ∈ O i) = B := ⟨_, rfl⟩
      have hBf : B = true := by rw [← hB]; simp [htO]
      subst hBf
      have hPl := HB.out.2.2.2.2.2.2.2.2.1 htO
      have hPL : P < L := by rw [← HB.out.2.2.2.2.2.2.1]; exact (List.getElem?_eq_some_iff.1 hPl).1
      obtain ⟨ur, hur, hpr⟩ := HB.out.2.2.2.2.2.1 P (R i t) (by rw [List.getElem?_map, hPl]; rfl)
      have hPI : (P : Int) < (L : Int) := by omega
      have hurW := (HB.out.2.2.2.1.cell (p := ⟨gr, ro + P, none⟩) (block_lt_of_cell hur)).trans hur
      obtain ⟨ub, uo, uc, rfl, _⟩ := id hpr
      gi_wp2
      refine quiet_round (by kernel_rfl) (by kernel_rfl) (by kernel_rfl) ?_
      repeat (gi_big_quiet_step ((gi_at_call 63; exact quiet_rd (HB.out.2.2.2.2.2.2.2.2.2 _ (below_trans HB.out.2.2.2.1 (below_self_drewN _ _))))))
      refine wpQuietIn_nil ?_
      rintro _ ⟨nq, rfl⟩
      gi_wp2
      obtain ⟨Wq, hWq⟩ : ∃ Wq, W.drewN nq = Wq := ⟨_, rfl⟩
      have hbq : Below W.heap.size W Wq := by rw [← hWq]; exact below_self_drewN _ _
      rw [hWq]
      have e1q : Wq.cell? ⟨X + 1, 0, none⟩ = some (.slice (some ⟨zb, zo, none⟩) n zc) := by rw [← hWq]; exact e1
      have e2q : Wq.frozen? ⟨X + 1, 0, none⟩ = false := by rw [← hWq]; exact e2
      have e3q : Wq.cell? ⟨gr, ro + P, none⟩ = some (.slice (some ⟨ub, uo, none⟩) n uc) := by rw [← hWq]; exact hurW
      have hk : ∀ V, Below Wq.heap.size Wq V → V.cell? ⟨X + 1, 0, none⟩ = some (.slice (some ⟨zb, zo, none⟩) n zc) ∧ V.frozen? ⟨X + 1, 0, none⟩ = false := fun V hV => by
        have hlt := block_lt_of_cell e1q
        exact ⟨(hV.cell (p := ⟨X + 1, 0, none⟩) hlt).trans e1q, (hV.frozen (p := ⟨X + 1, 0, none⟩) hlt).trans e2q⟩
      have hinv : ∀ V, Below Wq.heap.size Wq V → Calls Tryz.prog 139 #[.slice (some ⟨ub, uo, none⟩) n uc] V fun e w' => ∃ v, e = .returned v ∧ NewPm Wq w' v (R i t).inv ∧ Below Wq.heap.size Wq w' := fun V hV =>
        (inv173 hn ((hpr.below (below_trans HB.out.2.2.2.1 hbq)).below hV)).mono fun e w' ⟨v, h1, h2, h3⟩ => ⟨v, h1, h2.from hV.size, below_trans hV h3⟩
      have hmul : ∀ V v, Below Wq.heap.size Wq V → NewPm Wq V v (R i t).inv → Calls Tryz.prog 138 #[.slice (some ⟨zb, zo, none⟩) n zc, v] V fun e w' => ∃ v', e = .returned v' ∧ NewPm Wq w' v' (z.mul (R i t).inv) ∧ Below Wq.heap.size Wq w' := fun V v hV h =>
        (mul161 hn ((HB.out.2.1.weak.below hbq).below hV) (h.pm (M := []) (by simp))).mono fun e w' ⟨v', h1, h2, h3⟩ => ⟨v', h1, h2.from hV.size, below_trans hV h3⟩
      have HM := Lib.hid (And.intro hinv (And.intro hmul (And.intro hbq (And.intro hk hWq))))
      clear hinv hmul hbq hk hWq
      gi_region_with (first
        | (gi_at_call 138; (with_reducible refine (callsR (HM.out.2.1 _ _ H6.out.2 H6.out.1)).mono ?_); rintro e1 w7 ⟨v7, rfl, k1, k2⟩; obtain ⟨x7, c7, rfl, _⟩ := id k1; obtain ⟨e17, e27⟩ := HM.out.2.2.2.1 w7 k2; have H7 := Lib.hid (And.intro k1 k2); clear k1 k2)
        | (gi_at_call 139; (with_reducible refine (callsR (HM.out.1 _ ?_)).mono ?_); (focus first | exact below_drw (Below.refl _ _) | exact Below.refl _ _); rintro e1 w6 ⟨v6, rfl, k1, k2⟩; obtain ⟨x6, c6, rfl, _⟩ := id k1; obtain ⟨e16, e26⟩ := HM.out.2.2.2.1 w6 k2; have H6 := Lib.hid (And.intro k1 k2); clear k1 k2))
      all_goals
        gi_wp2
        obtain ⟨s1, s2, s3⟩ := HB.out.1.step HB.out.2.2.1 (below_trans HM.out.2.2.1 H7.out.2) (H7.out.1.from HM.out.2.2.1.size) hin htO HB.out.2.2.2.2.2.2.2.1
        exact ⟨s1, s2, s3⟩
    · obtain ⟨B, hB⟩ : ∃ B, decide (t ∈ O i) = B := ⟨_, rfl⟩
      have hBf : B = false := by rw [← hB]; simp [htO]
      subst hBf
      gi_wp2
      refine quiet_round (by kernel_rfl) (by kernel_rfl) (by kernel_rfl) ?_
      repeat (gi_big_quiet_step ((gi_at_call 63; exact quiet_rd (HB.out.2.2.2.2.2.2.2.2.2 _ (below_trans HB.out.2.2.2.1 (below_self_drewN _ _))))))
      refine wpQuietIn_nil ?_
      rintro _ ⟨nq, rfl⟩
      gi_wp2
      refine ⟨?_, rfl, ?_, .slice (some ⟨zb, zo, none⟩) n zc, (i : Int), ?_, ?_, fun ho => ?_⟩
      · exact ((keepsO_of_kept (grown_drewN W nq none) (fun r e => by cases e)).trans (KeepsOthers.setCell _ _ _)).trans (KeepsOthers.setCell _ _ _)
      · exact ((HB.out.1.box.bel.trans ((below_self_drewN W nq).mono (Nat.le_of_lt HB.out.1.box.lt))).setCell (p := ⟨X + 1 + 1, 0, none⟩) (by simp; omega) _).setCell (p := ⟨X + 1 + 1 + 1, 0, none⟩) (by simp; omega) _
      · refine (cell_set_other (by simp)).trans (cell_set_same (u := u2) ?_)
        exact f1
      · refine cell_set_same (u := u3) ((cell_set_other (by simp)).trans ?_)
        exact g1
      · obtain ⟨h1, h2⟩ := fin_last ho
        have h3 := HB.out.2.2.1 h1
        dsimp only at h2
        rw [← h3, ← h2]
        obtain ⟨f, hf⟩ : ∃ f, n - i = f + 1 := ⟨n - i - 1, by omega⟩
        rw [hf, sfG, if_neg (by rw [HB.out.2.2.2.2.2.2.2.1]; exact htO)]
  case done =>
    rintro D pre W hD rfl hI hK
    obtain ⟨u, z, hxc, hz, hord⟩ := hI.xc
    have hsf := hord (by rw [List.take_of_length_le (by simp)])
    obtain ⟨zb, zo, zc, rfl, _, hzb, hzc⟩ := id hz
    obtain ⟨e1, e2⟩ := b1 hxc
    obtain ⟨u2, hr2⟩ := hI.r0
    obtain ⟨u3, hr3⟩ := hI.r1
    obtain ⟨f1, f2⟩ := b1 hr2
    obtain ⟨g1, g2⟩ := b1 hr3
    have q0 := hI.box.c0
    have q1 := hI.box.c1
    have q2 := hI.box.c2
    have hlen : (List.finRange vs.length).length = n := by rw [List.length_finRange]; exact H.out.2.2.2.1
    rw [hlen, Nat.sub_self] at hsf
    have HE := Lib.hid (And.intro hI (And.intro hsf (And.intro hK (And.intro hr2 hr3))))
    clear hI hord hK hz hzc hr2 hr3 hsf
    gi_wp2
    refine wpIn_wide.2 ?_
    go_region
    all_goals
      gi_wp2
      have hK' := ((KeepsOthers.setCell W ⟨X + 1 + 1, 0, none⟩ (.slice (some ⟨zb, zo, none⟩) n zc)).trans (KeepsOthers.setCell _ ⟨X + 1 + 1 + 1, 0, none⟩ (.int .i64 (n : Int)))).same D _ HE.out.2.2.1 rfl
      have s2 : ((W.setCell ⟨X + 1 + 1, 0, none⟩ (.slice (some ⟨zb, zo, none⟩) n zc)).setCell ⟨X + 1 + 1 + 1, 0, none⟩ (.int .i64 (n : Int))).cell? ⟨X + 1 + 1, 0, none⟩ = some (.slice (some ⟨zb, zo, none⟩) n zc) :=
        (cell_set_other (by simp)).trans (cell_set_same (u := u2) f1)
      have s3 : ((W.setCell ⟨X + 1 + 1, 0, none⟩ (.slice (some ⟨zb, zo, none⟩) n zc)).setCell ⟨X + 1 + 1 + 1, 0, none⟩ (.int .i64 (n : Int))).cell? ⟨X + 1 + 1 + 1, 0, none⟩ = some (.int .i64 (n : Int)) :=
        cell_set_same (u := u3) ((cell_set_other (by simp)).trans g1)
      have hbW : Below X w ((W.setCell ⟨X + 1 + 1, 0, none⟩ (.slice (some ⟨zb, zo, none⟩) n zc)).setCell ⟨X + 1 + 1 + 1, 0, none⟩ (.int .i64 (n : Int))).drew :=
        below_drw ((HE.out.1.box.bel.setCell (p := ⟨X + 1 + 1, 0, none⟩) (by simp; omega) _).setCell (p := ⟨X + 1 + 1 + 1, 0, none⟩) (by simp; omega) _)
      refine ⟨by simp, .inl ⟨_, _, rfl, run_takeDeferred hK', ?_⟩⟩
      have c2 := cell_kept s2 (grownBy_putObj' _ D (.deferred none)) (fun r e => by cases e; exact ⟨_, hK', rfl⟩)
      have c3 := cell_kept s3 (grownBy_putObj' _ D (.deferred none)) (fun r e => by cases e; exact ⟨_, hK', rfl⟩)
      have c2' : (World.putObj (World.drew ((W.setCell ⟨X + 1 + 1, 0, none⟩ (.slice (some ⟨zb, zo, none⟩) n zc)).setCell ⟨X + 1 + 1 + 1, 0, none⟩ (.int .i64 (n : Int)))) D (.deferred none)).cell? ⟨X + 1 + 1, 0, none⟩ = some (.slice (some ⟨zb, zo, none⟩) n zc) := c2
      have c3' : (World.putObj (World.drew ((W.setCell ⟨X + 1 + 1, 0, none⟩ (.slice (some ⟨zb, zo, none⟩) n zc)).setCell ⟨X + 1 + 1 + 1, 0, none⟩ (.int .i64 (n : Int)))) D (.deferred none)).cell? ⟨X + 1 + 1 + 1, 0, none⟩ = some (.int .i64 (n : Int)) := c3
      refine ⟨.tuple #[.slice (some ⟨zb, zo, none⟩) n zc, .int .i64 (n : Int)], by simp [results, Tryz.results115, go_sem, c2, c3, c2', c3'], _, by rw [← HE.out.2.1]; rfl, ?_⟩
      rw [H.out.2.2.2.2.2.2.1]
      exact hbW.trans (below_obj (by omega) hK' rfl)
  case stop =>
    rintro D k pre W hD hpre ⟨rfl, hb, u, l, h2, h3, h4⟩ hK
    gi_wp2
    refine ⟨by simp, .inl ⟨_, _, rfl, run_takeDeferred hK, ?_⟩⟩
    have c2 := cell_kept h2 (grownBy_putObj' W D (.deferred none)) (fun r e => by cases e; exact ⟨_, hK, rfl⟩)
    have c3 := cell_kept h3 (grownBy_putObj' W D (.deferred none)) (fun r e => by cases e; exact ⟨_, hK, rfl⟩)
    refine ⟨.tuple #[u, .int .i64 l], by simp [results, Tryz.results115, go_sem, c2, c3], u, by rw [h4 hpre], ?_⟩
    rw [H.out.2.2.2.2.2.2.1]
    exact hb.trans (below_obj (by omega) hK rfl)
end Go.Proofs.YtbejhkojdiadaaaGreatDoor
namespace Go.Proofs.YtbejhkojdiadaaaGreatDoor
open Go.RowKit Go.Shelf PlainPm
theorem sfG_le {n : Nat} {O : Nat → List Nat} {R : Nat → Nat → Pm n} : ∀ (f i : Nat) (x : Pm n), sfG O R f i x ≤ i + f
  | 0, i, x => Nat.le_refl _
  | f + 1, i, x => by
    rw [sfG]
    split
    · have := sfG_le (O := O) (R := R) f (i + 1) (x.mul (R i (x.at i)).inv); omega
    · omega
theorem sub_ofG {n : Nat} {G1 G2 : Pm n → Prop} {O : Nat → List Nat} {R : Nat → Nat → Pm n} (h : ChG G1 O R) (hG : IsG G2) (hr : ∀ i, i < n → ∀ p ∈ O i, G2 (R i p)) : ∀ x, G1 x → G2 x := by
  have key : ∀ f i : Nat, i + f = n → ∀ x, G1 x → Fx i x → G2 x := by
    intro f
    induction f with
    | zero =>
      intro i hi x hx hf
      have hin : i = n := by omega
      subst hin
      rw [Fx.all hf]
      exact hG.one
    | succ f ih =>
      intro i hi x hx hf
      have hin : i < n := by omega
      have hm : x.at i ∈ O i := (h.mem i hin _).2 ⟨x, hx, hf, rfl⟩
      obtain ⟨h1, h2, h3⟩ := h.rep i hin _ hm
      have hx' : Fx (i + 1) (x.mul (R i (x.at i)).inv) := by
        refine (hf.mul (by omega) (h2.inv (by omega))).succ ?_
        have := (R i (x.at i)).inv_of (i := i) hin
        rw [h3] at this
        rw [Pm.mul_at _ _ hin, this]
      have hg := ih (i + 1) (by omega) _ (h.isG.mul hx (h.isG.inv h1)) hx'
      have := hG.mul hg (hr i hin _ hm)
      rwa [Pm.mul_assoc, Pm.inv_mul, Pm.mul_one] at this
  exact fun x hx => key n 0 (by omega) x hx (fun j hj => absurd hj (by omega))
theorem orbO_srt {n : Nat} (T : Tw n) (i : Nat) : (orbO T i).Pairwise (· < ·) := List.Pairwise.filter _ List.pairwise_lt_range
structure BlwI {m : Nat} (n : Nat) (w : World) (X : Nat) (u1 u2 : Value) (O : Nat → List Nat) (R : Nat → Nat → Pm n) (G2 : Pm n → Prop) (pre : List (Fin m)) (W : World) : Prop where
  bel : Below X w W
  d : W.heap[X + 1]? = some (.cells #[.int .i64 (n : Int), u1, u2] 25 (0, 0))
  r0 : ∃ u, W.heap[X + 2]? = some (.cells #[u] 4 (0, 0))
  r1 : ∃ u, W.heap[X + 3]? = some (.cells #[u] 29 (0, 0))
  al : ∀ i ∈ pre, ∀ p ∈ O i.val, G2 (R i.val p)
theorem BlwI.below {m n : Nat} {w W W' : World} {X : Nat} {u1 u2 : Value} {O : Nat → List Nat} {R : Nat → Nat → Pm n} {G2 : Pm n → Prop} {pre : List (Fin m)} (h : BlwI n w X u1 u2 O R G2 pre W) (k : Below (X + 4) W W') : BlwI n w X u1 u2 O R G2 pre W' := by
  obtain ⟨a, h3⟩ := h.r0
  obtain ⟨b, h4⟩ := h.r1
  exact ⟨h.bel.trans (k.mono (by omega)), (k.block _ (by omega)).trans h.d, ⟨a, (k.block _ (by omega)).trans h3⟩, ⟨b, (k.block _ (by omega)).trans h4⟩, h.al⟩
theorem keepBB {V A B : World} {p q r p' q' r' : Addr} {u0 u1 u2 z0 z1 z2 : Value} (h : (A.cell? p = some u0 ∧ A.cell? q = some u1 ∧ A.cell? r = some u2) ∧ (A.cell? p' = some z0 ∧ A.cell? q' = some z1 ∧ A.cell? r' = some z2) ∧ Below V.heap.size V A) (k : Below A.heap.size A B) :
    (B.cell? p = some u0 ∧ B.cell? q = some u1 ∧ B.cell? r = some u2) ∧ (B.cell? p' = some z0 ∧ B.cell? q' = some z1 ∧ B.cell? r' = some z2) ∧ Below V.heap.size V B := by
  obtain ⟨⟨h1, h2, h3⟩, ⟨h4, h5, h6⟩, hb⟩ := h
  exact ⟨⟨(k.cell (block_lt_of_cell h1)).trans h1, (k.cell (block_lt_of_cell h2)).trans h2, (k.cell (block_lt_of_cell h3)).trans h3⟩, ⟨(k.cell (block_lt_of_cell h4)).trans h4, (k.cell (block_lt_of_cell h5)).trans h5, (k.cell (block_lt_of_cell h6)).trans h6⟩, below_trans hb k⟩
attribute [local go_sem] Oper.semAt_some
def frB (n X ab ao c bb bo e ab' ao' c' bb' bo' e' Y : Nat) (vs : List Value) (x : Fin vs.length) : Act := { tmps := #[.agg #[.int .i64 (n : Int), .slice (some ⟨ab, ao, none⟩) n c, .slice (some ⟨bb, bo, none⟩) n e], .agg #[.int .i64 (n : Int), .slice (some ⟨ab', ao', none⟩) n c', .slice (some ⟨bb', bo', none⟩) n e'], .pointer (some ⟨X, 0, none⟩), .pointer (some ⟨X + 1, 0, none⟩), .pointer (some ⟨X + 1 + 1, 0, none⟩), .pointer (some ⟨X + 1 + 1 + 1, 0, none⟩), .int .i64 0, .int .i64 0, undef, vs[x.val], undef, undef, undef, undef, .agg #[.int .i64 (n : Int), .slice (some ⟨ab, ao, none⟩) n c, .slice (some ⟨bb, bo, none⟩) n e], .int .i64 0, .int .i64 0, .bool false, undef, .agg #[.int .i64 (n : Int), .slice (some ⟨ab', ao', none⟩) n c', .slice (some ⟨bb', bo', none⟩) n e'], .int .i64 0, .int .i64 0, .bool false, undef, .pointer (some ⟨X, 0, none⟩), .int .i64 (n : Int), .pointer (some ⟨X + 1, 0, none⟩), .int .i64 (n : Int), .bool false, .agg #[.int .i64 (n : Int), .slice (some ⟨ab, ao, none⟩) n c, .slice (some ⟨bb, bo, none⟩) n e], .func (.func 101) #[] #[.pointer (some ⟨Y, 0, none⟩)], .int .i64 (x.val : Int), vs[x.val], undef, undef, undef, undef, undef, undef, undef, undef, undef, undef, undef, undef, undef, undef, undef, undef, undef], defers := [] }
set_option maxRecDepth 100000 in
set_option maxHeartbeats 4000000 in
theorem below79 {n : Nat} (hn : 0 < n ∧ n ≤ 64) {w : World} {v1 v2 : Value} {G1 G2 : Pm n → Prop} (hG1 : IsG G1) (hG2 : IsG G2) (h1 : GrG w v1 G1) (h2 : GrG w v2 G2) :
    Calls Tryz.prog 79 #[v1, v2] w fun r w' => ∃ b, r = .returned (.tuple #[.bool b, .int .i64 0]) ∧ (b = true ↔ ∀ x, G1 x → G2 x) ∧ Below w.heap.size w w' := by
  obtain ⟨os, rs, hch, hc0⟩ := h1.chk hn hG1
  obtain ⟨os', rs', hch', hc0'⟩ := h2.chk hn hG2
  have hck := fun (V : World) (hV : Below w.heap.size w V) => chk54 (hch.below hV)
  have hck' := fun (V : World) (hV : Below w.heap.size w V) => chk54 (hch'.below hV)
  simp only [hc0] at hck
  simp only [hc0'] at hck'
  obtain ⟨T, t, ab, ao, c, bb, bo, e, hv1, hl1⟩ := h1.lev hG1 ⟨hn.1, hn.2⟩
  obtain ⟨T', t', ab', ao', c', bb', bo', e', hv2, hl2⟩ := h2.lev hG2 ⟨hn.1, hn.2⟩
  subst hv1 hv2
  obtain ⟨vs, hvn, hvr, hvp⟩ := lv_vals hl1 hn.2
  have hO1 := t.chG hG1
  have hO2 := t'.chG hG2
  obtain ⟨X, hX⟩ : ∃ X, w.heap.size = X := ⟨_, rfl⟩
  obtain ⟨W0, hW0⟩ : ∃ W0, ((((w.alloc (.cells #[.int .i64 (n : Int), .slice (some ⟨ab, ao, none⟩) n c, .slice (some ⟨bb, bo, none⟩) n e] 25)).alloc (.cells #[.int .i64 (n : Int), .slice (some ⟨ab', ao', none⟩) n c', .slice (some ⟨bb', bo', none⟩) n e'] 25)).alloc (.cells #[.bool false] 4)).alloc (.cells #[.int .i64 0] 29)) = W0 := ⟨_, rfl⟩
  have hF : Below X w W0 ∧ W0.heap[X]? = some (.cells #[.int .i64 (n : Int), .slice (some ⟨ab, ao, none⟩) n c, .slice (some ⟨bb, bo, none⟩) n e] 25 (0, 0)) ∧ BlwI (m := vs.length) n w X (.slice (some ⟨ab', ao', none⟩) n c') (.slice (some ⟨bb', bo', none⟩) n e') (orbO T) (repT T) G2 [] W0 ∧ W0.heap.size = X + 4 := by
    have s1 : ∀ (V : World) (o : Obj), (V.alloc o).heap.size = V.heap.size + 1 := fun V o => heap_new0 V o
    have g : ∀ (V : World) (o : Obj) (k : Nat), k < V.heap.size → (V.alloc o).heap[k]? = V.heap[k]? := fun V o k hk => Below.heap_alloc _ _ _ hk
    have hbw : Below X w W0 := by rw [← hW0, ← hX]; exact alloc_b (alloc_b (alloc_b (alloc_b (Below.refl _ _) _) _) _) _
    refine ⟨hbw, ?_, ⟨hbw, ?_, ?_, ?_, fun i hi => by simp at hi⟩, ?_⟩
    · rw [← hW0, g _ _ _ (by simp only [s1]; omega), g _ _ _ (by simp only [s1]; omega), g _ _ _ (by simp only [s1]; omega), ← hX]
      exact heap_new _ _
    · rw [← hW0, g _ _ _ (by simp only [s1]; omega), g _ _ _ (by simp only [s1]; omega)]
      have := heap_new (w.alloc (.cells #[.int .i64 (n : Int), .slice (some ⟨ab, ao, none⟩) n c, .slice (some ⟨bb, bo, none⟩) n e] 25)) (.cells #[.int .i64 (n : Int), .slice (some ⟨ab', ao', none⟩) n c', .slice (some ⟨bb', bo', none⟩) n e'] 25)
      rwa [s1, hX] at this
    · refine ⟨.bool false, ?_⟩
      rw [← hW0, g _ _ _ (by simp only [s1]; omega)]
      have := heap_new ((w.alloc (.cells #[.int .i64 (n : Int), .slice (some ⟨ab, ao, none⟩) n c, .slice (some ⟨bb, bo, none⟩) n e] 25)).alloc (.cells #[.int .i64 (n : Int), .slice (some ⟨ab', ao', none⟩) n c', .slice (some ⟨bb', bo', none⟩) n e'] 25)) (.cells #[.bool false] 4)
      rwa [s1, s1, hX] at this
    · refine ⟨.int .i64 0, ?_⟩
      rw [← hW0]
      have := heap_new (((w.alloc (.cells #[.int .i64 (n : Int), .slice (some ⟨ab, ao, none⟩) n c, .slice (some ⟨bb, bo, none⟩) n e] 25)).alloc (.cells #[.int .i64 (n : Int), .slice (some ⟨ab', ao', none⟩) n c', .slice (some ⟨bb', bo', none⟩) n e'] 25)).alloc (.cells #[.bool false] 4)) (.cells #[.int .i64 0] 29)
      rwa [s1, s1, s1, hX] at this
    · rw [← hW0]; simp only [s1, hX]
  have hsi := fun (V : World) (hV : Below w.heap.size w V) (u : Value) (x : Pm n) (hu : PmV V [] u x) => sift115 (c := c') (e := e') hn.1 hn.2 hO2 (fun i _ => orbO_srt T' i) (hl2.below hV) hu
  have H := Lib.hid (And.intro hvn (And.intro hvr (And.intro hvp (And.intro hX (And.intro hF (And.intro hO1 (And.intro hO2 (And.intro hsi hsi))))))))
  have HC := Lib.hid (And.intro hck hck')
  clear hvn hvr hvp hsi hck hck' hch hch' hc0 hc0' h1 h2 hl1 hl2 hO1 hO2
  refine (callsIn_wide (n := 9)).1 ?_
  have w72 : Fence.wide.fn 72 := trivial
  have w37 : Fence.wide.fn 37 := trivial
  obtain ⟨q0, q1, q2, _⟩ := box_cells hF.2.1
  obtain ⟨p0, p1, p2, _⟩ := box_cells hF.2.2.1.d
  have hx6 := And.intro (And.intro q0 (And.intro q1 q2)) (And.intro (And.intro p0 (And.intro p1 p2)) (Below.refl W0.heap.size W0))
  have hwW : Below w.heap.size w W0 := by rw [hX]; exact hF.1
  clear hF
  refine callsIn_of_wp_marks Tryz.func79 rfl trivial ?_ rfl
  simp only [Tryz.ntmps79, List.size_toArray, List.length_cons, List.length_nil, Nat.reduceAdd, Nat.reduceSub, Array.replicate_succ, Array.replicate_zero, List.push_toArray, List.append_toArray, List.nil_append, List.cons_append]
  unfold cv at HC H ⊢
  gi_wp2_with (first
    | (gi_at_call 37; (with_reducible refine (callsIn_wide.2 (HC.out.2 _ (below_trans hwW H1.out))).mono ?_); rintro e2 w2 ⟨rfl, k⟩
       obtain ⟨⟨j0, j1, j2⟩, ⟨j3, j4, j5⟩, bj⟩ := keepBB hx6 (below_trans H1.out k)
       have H2 := Lib.hid bj; clear k bj)
    | (gi_at_call 37; (with_reducible refine (callsIn_wide.2 (HC.out.1 _ hwW)).mono ?_); rintro e1 w1 ⟨rfl, k⟩
       obtain ⟨⟨j0, j1, j2⟩, ⟨j3, j4, j5⟩, bj⟩ := keepBB hx6 k
       have H1 := Lib.hid bj; clear k bj)
    | (gi_at_call 72; refine (callsIn_wide.2 (reps_calls _ _ _ _)).mono ?_; rintro e3 w3 ⟨rfl, hw3⟩))
  obtain ⟨Y, hY⟩ : ∃ Y, w2.heap.size = Y := ⟨_, rfl⟩
  rw [← hw3, hY]
  have hI0 : BlwI (m := vs.length) n w X (.slice (some ⟨ab', ao', none⟩) n c') (.slice (some ⟨bb', bo', none⟩) n e') (orbO T) (repT T) G2 [] w3 ∧ w3.cell? ⟨Y, 2, none⟩ = some (.slice (some ⟨bb, bo, none⟩) n e) ∧ Y < w3.heap.size ∧ X + 4 ≤ Y := by
    have hX4 : X + 4 ≤ w2.heap.size := by rw [← H.out.2.2.2.2.1.2.2.2]; exact H2.out.size
    have hb3 : Below (X + 4) W0 w3 := by
      rw [hw3]
      exact (H2.out.mono (by rw [H.out.2.2.2.2.1.2.2.2]; exact Nat.le_refl _)).alloc hX4 _
    refine ⟨H.out.2.2.2.2.1.2.2.1.below hb3, ?_, by rw [hw3]; simp; omega, by omega⟩
    rw [hw3]
    exact (box_cells (a0 := .int .i64 (n : Int)) (a1 := .slice (some ⟨ab, ao, none⟩) n c) (a2 := .slice (some ⟨bb, bo, none⟩) n e) (by rw [← hY]; exact heap_new _ _)).2.2.1
  have hsz3 := hI0.2.2
  have hXw := H.out.2.2.2.1
  have HI := Lib.hid hI0
  have HX := Lib.hid hXw
  clear hI0 hw3 hY hx6 hwW hXw
  clear q0 q1 q2 p0 p1 p2
  clear j0 j1 j2 j3 j4 j5
  refine wpIn_rangeFunc_ownF (n := 9) rfl (by omega) (gf := 101) (lb := #[.pointer (some ⟨Y, 0, none⟩)]) rfl trivial (enters_of Tryz.func101 (by kernel_rfl) rfl)
    (reps_stopsO Fence.wide 8 trivial rfl (by omega) Y X (some ⟨bb, bo, none⟩) e vs w _ (by rw [H.out.1]; exact HI.out.2.1) H.out.2.1 HX.out HI.out.1.bel) belowK_t (belowK_b (by omega)) (Below.refl _ _) (fun _ => rfl)
    (fun pre W => BlwI n w X (.slice (some ⟨ab', ao', none⟩) n c') (.slice (some ⟨bb', bo', none⟩) n e') (orbO T) (repT T) G2 pre W)
    (fun k pre W => k = .ret ∧ Below X w W ∧ W.cell? ⟨X + 1 + 1, 0, none⟩ = some (.bool false) ∧ W.cell? ⟨X + 1 + 1 + 1, 0, none⟩ = some (.int .i64 0) ∧ ∃ x, G1 x ∧ ¬ G2 x)
    ?own ?ownx ?start (frB n X ab ao c bb bo e ab' ao' c' bb' bo' e' Y vs) ?assign ?body ?done ?stop
  case own =>
    intro pre A B row h hg hr
    exact h.below ((Below.refl _ A).grown hg (by have := h.r1; obtain ⟨_, h9⟩ := this; exact (Array.getElem?_eq_some_iff.1 h9).1) (fun r e => by have := (hr r e).1; omega))
  case ownx =>
    intro k pre A B row h hg hr
    obtain ⟨rfl, h1, h2, h3, h4⟩ := h
    have hne : ∀ k, k < w3.heap.size → some k ≠ row := fun k hk e => by have := (hr k e.symm).1; omega
    have hXA : X ≤ A.heap.size := by rw [← HX.out]; exact h1.size
    refine ⟨rfl, h1.grown hg hXA (fun r e => by have := (hr r e).1; omega), ?_, ?_, h4⟩
    · have := hg.block (X + 1 + 1) (block_lt_of_cell h2) (hne _ (by omega)); unfold World.cell? at h2 ⊢; rw [this]; exact h2
    · have := hg.block (X + 1 + 1 + 1) (block_lt_of_cell h3) (hne _ (by omega)); unfold World.cell? at h3 ⊢; rw [this]; exact h3
  case start => exact HI.out.1
  case assign =>
    intro l x W K hK
    unfold encR
    gi_wp2
    exact hK
  case body =>
    rintro l pre ⟨i, hi⟩ W hI hlen
    have hin : i < n := by have := H.out.1; omega
    obtain ⟨gr, ro, rc, hve, hrb, hrl, hrc, hrcell⟩ := H.out.2.2.1 i vs[i] (List.getElem?_eq_getElem hi)
    obtain ⟨L, hL⟩ : ∃ L, (orbO T i).length = L := ⟨_, rfl⟩
    rw [List.length_map, hL] at hve hrl
    have hwr : Below w.heap.size w W := by rw [HX.out]; exact hI.bel
    unfold frB
    dsimp only
    rw [hve]
    have HB := Lib.hid (And.intro hI (And.intro hrcell (And.intro hL hwr)))
    clear hI hrcell hL hwr
    have w115 : Fence.wide.fn 115 := trivial
    have wd : Fence.wide.depth = none := rfl
    gi_wp2
    gi_loopw [35] (fun jj wr => ∃ j : Nat, j ≤ L ∧ jj = .int .i64 (j : Int) ∧ Below W.heap.size W wr ∧ (∀ p ∈ (orbO T i).take j, G2 (repT T i p))) (fun jj _ => L - (intOf jj).toNat)
    case atStart => exact ⟨0, by omega, rfl, Below.refl _ _, by simp⟩
    case round =>
      obtain ⟨j, hj, rfl, hb, hal⟩ := hrel
      by_cases hjL : j < L
      · obtain ⟨p, hp⟩ : ∃ p, (orbO T i)[j]? = some p := ⟨_, List.getElem?_eq_getElem (by rw [HB.out.2.2.1]; exact hjL)⟩
        obtain ⟨ur, hur, hpr⟩ := HB.out.2.1 j (repT T i p) (by rw [List.getElem?_map, hp]; rfl)
        have hbW : Below w.heap.size w wr := below_trans HB.out.2.2.2 hb
        have hurW := (hbW.cell (p := ⟨gr, ro + j, none⟩) (block_lt_of_cell hur)).trans hur
        obtain ⟨ub, uo, uc, rfl, _⟩ := id hpr
        have hst := H.out.2.2.2.2.2.2.2.1 wr hbW _ _ (hpr.below hbW)
        have hB1 := HB.out.1.below (hb.mono (by obtain ⟨_, h9⟩ := HB.out.1.r1; exact (Array.getElem?_eq_some_iff.1 h9).1))
        obtain ⟨p0, p1, p2, _⟩ := box_cells hB1.d
        obtain ⟨y0, hr2⟩ := hB1.r0
        obtain ⟨y1, hr3⟩ := hB1.r1
        obtain ⟨f1, f2⟩ := b1 hr2
        obtain ⟨g1, g2⟩ := b1 hr3
        have hjI : (j : Int) < (L : Int) := by omega
        have hsf := H.out.2.2.2.2.2.2.1.sf_iff (f := n) (i := 0) (x := repT T i p) (by omega) (fun j hj => absurd hj (by omega))
        have hle := sfG_le (O := orbO T') (R := repT T') n 0 (repT T i p)
        rw [Nat.zero_add] at hle
        have hG1p : G1 (repT T i p) := (H.out.2.2.2.2.2.1.rep i hin p (List.mem_of_getElem? hp)).1
        obtain ⟨S, hS⟩ : ∃ S, sfG (orbO T') (repT T') n 0 (repT T i p) = S := ⟨_, rfl⟩
        rw [show sfG (fun i => ptsOf n (T' i).orb) (repT T') n 0 (repT T i p) = S from hS] at hsf hst
        rw [hS] at hle
        have hk := fun (V : World) (hV : Below wr.heap.size wr V) => box_cells ((hV.block _ (Array.getElem?_eq_some_iff.1 hB1.d).1).trans hB1.d)
        have hk2 := fun (V : World) (hV : Below wr.heap.size wr V) => And.intro ((hV.block _ (Array.getElem?_eq_some_iff.1 hr2).1).trans hr2) ((hV.block _ (Array.getElem?_eq_some_iff.1 hr3).1).trans hr3)
        have HJ := Lib.hid (And.intro hst (And.intro hk (And.intro hk2 (And.intro hb (And.intro hal (And.intro hp (And.intro hsf (And.intro hG1p (And.intro hB1 hbW)))))))))
        clear hst hk hk2 hb hal hp hsf hG1p hB1 hbW hr2 hr3 hpr hS
        by_cases hSn : S = n
        · subst hSn
          gi_wp2_with (gi_at_call 115; (refine (callsR HJ.out.1).mono ?_); rintro e5 w5 ⟨v5, rfl, k⟩; obtain ⟨m0, m1, m2, _⟩ := HJ.out.2.1 _ k; have H5 := Lib.hid k; clear k)
          refine ⟨⟨j + 1, by omega, by go_num, below_trans HJ.out.2.2.2.1 H5.out, fun q hq => ?_⟩, by simp [intOf]; omega⟩
          rw [List.take_add_one, HJ.out.2.2.2.2.2.1] at hq
          rcases List.mem_append.1 hq with hq | hq
          · exact HJ.out.2.2.2.2.1 q hq
          · have e9 : q = p := by simpa using hq
            rw [e9]
            exact HJ.out.2.2.2.2.2.2.1.1 (by trivial)
        · have hSl : (S : Int) < (n : Int) := by omega
          gi_wp2_with (gi_at_call 115; (refine (callsR HJ.out.1).mono ?_); rintro e5 w5 ⟨v5, rfl, k⟩; obtain ⟨m0, m1, m2, _⟩ := HJ.out.2.1 _ k; obtain ⟨n2, n3⟩ := HJ.out.2.2.1 _ k; obtain ⟨f1', f2'⟩ := b1 n2; obtain ⟨g1', g2'⟩ := b1 n3; have H5 := Lib.hid (And.intro k (And.intro n2 n3)); clear k n2 n3)
          have hbx : Below X w w5 := HJ.out.2.2.2.2.2.2.2.2.1.bel.trans (H5.out.1.mono (by have := HJ.out.2.2.2.2.2.2.2.2.2.size; rw [HX.out] at this; exact this))
          refine ⟨((others_below (below_trans HJ.out.2.2.2.1 H5.out.1)).trans (KeepsOthers.setCell _ _ _)).trans (KeepsOthers.setCell _ _ _), rfl, ?_, ?_, ?_, _, HJ.out.2.2.2.2.2.2.2.1, fun h => hSn (HJ.out.2.2.2.2.2.2.1.2 h)⟩
          · exact (hbx.setCell (p := ⟨X + 1 + 1, 0, none⟩) (by simp; omega) _).setCell (p := ⟨X + 1 + 1 + 1, 0, none⟩) (by simp; omega) _
          · exact (cell_set_other (by simp)).trans (cell_set_same f1')
          · exact cell_set_same ((cell_set_other (by simp)).trans g1')
      · obtain rfl : j = L := by omega
        have hB1 := HB.out.1.below (hb.mono (by obtain ⟨_, h9⟩ := HB.out.1.r1; exact (Array.getElem?_eq_some_iff.1 h9).1))
        rw [← HB.out.2.2.1, List.take_length] at hal
        have HJ := Lib.hid (And.intro hb (And.intro hal hB1))
        clear hb hal hB1
        gi_wp2
        refine ⟨others_below HJ.out.1, HJ.out.1.mono (by have := HB.out.2.2.2.size; rw [HX.out] at this; exact this), HJ.out.2.2.bel, HJ.out.2.2.d, HJ.out.2.2.r0, HJ.out.2.2.r1, fun q hq p hp => ?_⟩
        rcases List.mem_append.1 hq with hq | hq
        · exact HJ.out.2.2.al q hq p hp
        · rw [List.mem_singleton.1 hq] at hp ⊢
          exact HJ.out.2.1 p hp
  case done =>
    rintro D pre W hD rfl hI hK
    obtain ⟨y0, hr2⟩ := hI.r0
    obtain ⟨y1, hr3⟩ := hI.r1
    obtain ⟨f1, f2⟩ := b1 hr2
    obtain ⟨g1, g2⟩ := b1 hr3
    have HE := Lib.hid (And.intro hI hK)
    clear hI hK hr2 hr3
    gi_wp2
    have hK' := ((KeepsOthers.setCell W ⟨X + 1 + 1, 0, none⟩ (.bool true)).trans (KeepsOthers.setCell _ ⟨X + 1 + 1 + 1, 0, none⟩ (.int .i64 0))).same D _ HE.out.2 rfl
    have s2 : ((W.setCell ⟨X + 1 + 1, 0, none⟩ (.bool true)).setCell ⟨X + 1 + 1 + 1, 0, none⟩ (.int .i64 0)).cell? ⟨X + 1 + 1, 0, none⟩ = some (.bool true) :=
      (cell_set_other (by simp)).trans (cell_set_same f1)
    have s3 : ((W.setCell ⟨X + 1 + 1, 0, none⟩ (.bool true)).setCell ⟨X + 1 + 1 + 1, 0, none⟩ (.int .i64 0)).cell? ⟨X + 1 + 1 + 1, 0, none⟩ = some (.int .i64 0) :=
      cell_set_same ((cell_set_other (by simp)).trans g1)
    have hbW : Below X w ((W.setCell ⟨X + 1 + 1, 0, none⟩ (.bool true)).setCell ⟨X + 1 + 1 + 1, 0, none⟩ (.int .i64 0)) :=
      (HE.out.1.bel.setCell (p := ⟨X + 1 + 1, 0, none⟩) (by simp; omega) _).setCell (p := ⟨X + 1 + 1 + 1, 0, none⟩) (by simp; omega) _
    refine ⟨by simp, .inl ⟨_, _, rfl, run_takeDeferred hK', ?_⟩⟩
    have c2 := cell_kept s2 (grownBy_putObj' _ D (.deferred none)) (fun r e => by cases e; exact ⟨_, hK', rfl⟩)
    have c3 := cell_kept s3 (grownBy_putObj' _ D (.deferred none)) (fun r e => by cases e; exact ⟨_, hK', rfl⟩)
    refine ⟨.tuple #[.bool true, .int .i64 0], by simp [results, Tryz.results79, go_sem, c2, c3], true, rfl, ⟨fun _ => ?_, fun _ => rfl⟩, ?_⟩
    · exact sub_ofG H.out.2.2.2.2.2.1 hG2 (fun i hi p hp => HE.out.1.al ⟨i, by rw [H.out.1]; exact hi⟩ (List.mem_finRange _) p hp)
    · rw [HX.out]
      exact hbW.trans (below_obj (by omega) hK' rfl)
  case stop =>
    rintro D k pre W hD hpre ⟨rfl, hb, h2, h3, h4⟩ hK
    gi_wp2
    refine ⟨by simp, .inl ⟨_, _, rfl, run_takeDeferred hK, ?_⟩⟩
    have c2 := cell_kept h2 (grownBy_putObj' W D (.deferred none)) (fun r e => by cases e; exact ⟨_, hK, rfl⟩)
    have c3 := cell_kept h3 (grownBy_putObj' W D (.deferred none)) (fun r e => by cases e; exact ⟨_, hK, rfl⟩)
    refine ⟨.tuple #[.bool false, .int .i64 0], by simp [results, Tryz.results79, go_sem, c2, c3], false, rfl, ⟨fun h => (by cases h), fun h => ?_⟩, ?_⟩
    · obtain ⟨x, hx1, hx2⟩ := h4
      exact absurd (h x hx1) hx2
    · rw [HX.out]
      exact hb.trans (below_obj (by omega) hK rfl)
end Go.Proofs.YtbejhkojdiadaaaGreatDoor
namespace Go.Proofs.YtbejhkojdiadaaaGreatDoor
open Go.RowKit Go.Shelf PlainPm
variable {n : Nat}
theorem keep4z {V A B : World} {p q r s : Addr} {z0 u0 u1 u2 : Value} (h : A.cell? p = some z0 ∧ (A.cell? q = some u0 ∧ A.cell? r = some u1 ∧ A.cell? s = some u2) ∧ Below V.heap.size V A) (k : Below A.heap.size A B) :
    B.cell? p = some z0 ∧ (B.cell? q = some u0 ∧ B.cell? r = some u1 ∧ B.cell? s = some u2) ∧ Below V.heap.size V B :=
  ⟨(k.cell (block_lt_of_cell h.1)).trans h.1, ⟨(k.cell (block_lt_of_cell h.2.1.1)).trans h.2.1.1, (k.cell (block_lt_of_cell h.2.1.2.1)).trans h.2.1.2.1, (k.cell (block_lt_of_cell h.2.1.2.2)).trans h.2.1.2.2⟩, below_trans h.2.2 k⟩
end Go.Proofs.YtbejhkojdiadaaaGreatDoor
namespace Go.Proofs.YtbejhkojdiadaaaGreatDoor
def valL : List Nat → Nat
  | [] => 0
  | d :: ds => d + 10 * valL ds
theorem valL_app (ps : List Nat) (d : Nat) : valL (ps ++ [d]) = valL ps + 10 ^ ps.length * d := by
  induction ps with
  | nil => simp [valL]
  | cons p ps ih => simp only [List.cons_append, valL, ih, List.length_cons, Nat.pow_succ]; rw [Nat.mul_add, Nat.mul_comm (10 ^ ps.length) 10, Nat.mul_assoc]; omega
def IsD (ds : List Nat) : Prop := (∀ d ∈ ds, d < 10) ∧ ds ≠ [] ∧ ds.getLast? ≠ some 0
theorem IsD.tail {d e : Nat} {ds : List Nat} (h : IsD (d :: e :: ds)) : IsD (e :: ds) :=
  ⟨fun x hx => h.1 x (by simp at hx ⊢; right; exact hx), by simp, by have := h.2.2; simpa using this⟩
theorem IsD.pos : ∀ {ds : List Nat}, IsD ds → 0 < valL ds
  | [], h => absurd rfl h.2.1
  | [d], h => by have := h.2.2; simp at this; simp [valL]; omega
  | d :: e :: ds, h => by have := (IsD.tail h).pos; simp only [valL] at this ⊢; omega
theorem IsD.ext : ∀ {ds es : List Nat}, IsD ds → IsD es → valL ds = valL es → ds = es
  | [], _, h, _, _ => absurd rfl h.2.1
  | _ :: _, [], _, h, _ => absurd rfl h.2.1
  | [d], [e], h, k, hv => by simp [valL] at hv; rw [hv]
  | [d], e :: f :: es, h, k, hv => by
    have h1 := h.1 d (by simp)
    have h2 := (IsD.tail k).pos
    simp only [valL] at hv h2; omega
  | d :: f :: ds, [e], h, k, hv => by
    have h1 := k.1 e (by simp)
    have h2 := (IsD.tail h).pos
    simp only [valL] at hv h2; omega
  | d :: f :: ds, e :: g :: es, h, k, hv => by
    have h1 := h.1 d (by simp)
    have h2 := k.1 e (by simp)
    have h3 : d = e := by simp only [valL] at hv; omega
    have h4 : valL (f :: ds) = valL (g :: es) := by
      have e1 : valL (d :: f :: ds) = d + 10 * valL (f :: ds) := rfl
      have e2 : valL (e :: g :: es) = e + 10 * valL (g :: es) := rfl
      omega
    rw [h3, IsD.ext (IsD.tail h) (IsD.tail k) h4]
theorem IsD.lower {ds : List Nat} (h : IsD ds) : 10 ^ (ds.length - 1) ≤ valL ds := by
  induction ds with
  | nil => exact absurd rfl h.2.1
  | cons d ds ih =>
    cases ds with
    | nil => have := h.pos; simp at *; omega
    | cons e ds =>
      have := ih (IsD.tail h)
      simp only [List.length_cons, Nat.add_sub_cancel] at this ⊢
      rw [show valL (d :: e :: ds) = d + 10 * valL (e :: ds) from rfl, Nat.pow_succ]; omega
theorem IsD.len {ds : List Nat} {b : Nat} (h : IsD ds) (hb : valL ds < 10 ^ b) : ds.length ≤ b := by
  have h1 := h.lower
  have h2 : 10 ^ (ds.length - 1) < 10 ^ b := Nat.lt_of_le_of_lt h1 hb
  have h3 := (Nat.pow_lt_pow_iff_right (by omega : 1 < 10)).1 h2
  omega
def valB (bs : List Nat) : Nat := bs.foldl (fun a d => 10 * a + d) 0
theorem valB_app (bs : List Nat) (d : Nat) : valB (bs ++ [d]) = 10 * valB bs + d := by simp [valB, List.foldl_append]
theorem valB_rev (bs : List Nat) : valL bs.reverse = valB bs := by
  have : ∀ l : List Nat, valL l = valB l.reverse := by
    intro l
    induction l with
    | nil => rfl
    | cons d l ih => rw [List.reverse_cons, valB_app, valL, ih]; omega
  rw [this, List.reverse_reverse]
theorem valB_zero (bs : List Nat) : valB (0 :: bs) = valB bs := by simp [valB]
theorem valB_drop (bs : List Nat) : valB (bs.dropWhile (· == 0)) = valB bs := by
  induction bs with
  | nil => rfl
  | cons d bs ih =>
    rw [List.dropWhile_cons]
    split
    · rename_i h; have : d = 0 := by simpa using h
      rw [ih, this, valB_zero]
    · rfl
theorem isD_drop {bs : List Nat} (h : ∀ d ∈ bs, d < 10) (hp : 0 < valB bs) : IsD (bs.dropWhile (· == 0)).reverse := by
  refine ⟨fun d hd => h d ((List.dropWhile_sublist _).subset (List.mem_reverse.1 hd)), ?_, ?_⟩
  · intro e
    have e1 : bs.dropWhile (· == 0) = [] := by simpa using e
    have := valB_drop bs
    rw [e1] at this
    rw [← this] at hp; simp [valB] at hp
  · rw [List.getLast?_reverse]
    intro e
    cases hc : bs.dropWhile (· == 0) with
    | nil => rw [hc] at e; simp at e
    | cons a l =>
      rw [hc] at e
      have ha : a = 0 := by simpa using e
      have := List.head?_dropWhile_not (p := (· == 0)) (l := bs)
      rw [hc] at this
      simp [ha] at this
def digB (bs : List Nat) : List UInt8 := bs.map fun d => UInt8.ofNat (48 + d)
theorem digB_len (bs : List Nat) : (digB bs).length = bs.length := by simp [digB]
theorem digB_app (bs : List Nat) (d : Nat) : digB (bs ++ [d]) = digB bs ++ [UInt8.ofNat (48 + d)] := by simp [digB]
def IsNum (s : ByteArray) (k : Nat) : Prop := ∃ ds, IsD ds ∧ valL ds = k ∧ s.data.toList = digB ds.reverse
theorem IsNum.ext {s t : ByteArray} {k : Nat} (h : IsNum s k) (h' : IsNum t k) : s = t := by
  obtain ⟨ds, h1, h2, h3⟩ := h
  obtain ⟨es, k1, k2, k3⟩ := h'
  have := IsD.ext h1 k1 (by rw [h2, k2])
  rw [this, ← k3] at h3
  cases s; cases t
  simp only [ByteArray.mk.injEq]
  exact Array.toList_inj.1 h3
def TimI (ds : List Nat) (m k : Nat) (ps : List Nat) (c : Nat) : Prop :=
  (∀ d ∈ ps, d < 10) ∧ valL ps + 10 ^ ps.length * (c + valL (ds.drop ps.length) * m) = k * m ∧ c ≤ m ∧ (ds.length ≤ ps.length → c = 0 → ps.getLast? ≠ some 0)
theorem TimI.start {ds : List Nat} {m : Nat} (hd : IsD ds) : TimI ds m (valL ds) [] 0 :=
  ⟨by simp, by simp [valL], Nat.zero_le _, fun h => by have := hd.2.1; simp at h; exact absurd h this⟩
theorem TimI.done {ds : List Nat} {m k : Nat} {ps : List Nat} (h : TimI ds m k ps 0) (hl : ds.length ≤ ps.length) (hd : IsD ds) : IsD ps ∧ valL ps = k * m := by
  obtain ⟨h1, h2, _, h3⟩ := h
  rw [List.drop_eq_nil_of_le hl] at h2
  simp [valL] at h2
  refine ⟨⟨h1, ?_, h3 hl rfl⟩, h2⟩
  rintro rfl
  have := hd.2.1
  simp at hl; exact this hl
theorem TimI.step {ds : List Nat} {m k : Nat} {ps : List Nat} {c d : Nat} (h : TimI ds m k ps c) (hd : IsD ds) (hm : 0 < m) (he : ds[ps.length]? = some d) :
    TimI ds m k (ps ++ [(c + d * m) % 10]) ((c + d * m) / 10) := by
  obtain ⟨h1, h2, h4, h3⟩ := h
  obtain ⟨hlt, hde⟩ := List.getElem?_eq_some_iff.1 he
  have hd9 : d < 10 := hd.1 d (List.mem_of_getElem? he)
  have hdm : d * m ≤ 9 * m := Nat.mul_le_mul_right m (by omega)
  refine ⟨fun x hx => ?_, ?_, ?_, ?_⟩
  · rcases List.mem_append.1 hx with hx | hx
    · exact h1 x hx
    · rw [List.mem_singleton.1 hx]; omega
  · rw [valL_app, List.length_append, List.length_singleton, ← h2, List.drop_eq_getElem_cons hlt, hde, Nat.pow_succ, Nat.add_assoc]
    congr 1
    rw [show valL (d :: ds.drop (ps.length + 1)) = d + 10 * valL (ds.drop (ps.length + 1)) from rfl, Nat.mul_assoc, ← Nat.mul_add]
    congr 1
    rw [Nat.add_mul, Nat.mul_add, Nat.mul_assoc]
    have := Nat.div_add_mod (c + d * m) 10
    omega
  · have : (c + d * m) / 10 ≤ (10 * m) / 10 := Nat.div_le_div_right (by omega)
    omega
  · intro hl hc
    rw [List.length_append, List.length_singleton] at hl
    rw [List.getLast?_append]
    have hle : ds.length = ps.length + 1 := by omega
    have : ds.getLast? = some d := by
      rw [List.getLast?_eq_getElem?, hle, Nat.add_sub_cancel, he]
    have hd0 : d ≠ 0 := fun e => hd.2.2 (by rw [this, e])
    have hdm1 : 1 ≤ d * m := Nat.mul_pos (by omega) hm
    simp
    omega
theorem TimI.more {ds : List Nat} {m k : Nat} {ps : List Nat} {c : Nat} (h : TimI ds m k ps c) (hl : ds.length ≤ ps.length) (hc : 0 < c) :
    TimI ds m k (ps ++ [c % 10]) (c / 10) := by
  obtain ⟨h1, h2, h4, h3⟩ := h
  refine ⟨fun x hx => ?_, ?_, by omega, ?_⟩
  · rcases List.mem_append.1 hx with hx | hx
    · exact h1 x hx
    · rw [List.mem_singleton.1 hx]; omega
  · rw [List.drop_eq_nil_of_le hl] at h2
    rw [valL_app, List.length_append, List.length_singleton, List.drop_eq_nil_of_le (by omega), ← h2, Nat.pow_succ, Nat.add_assoc]
    congr 1
    rw [Nat.mul_assoc, ← Nat.mul_add]
    congr 1
    simp [valL]
    omega
  · intro _ hz
    rw [List.getLast?_append]
    simp
    omega
theorem TimI.len {ds : List Nat} {m k b : Nat} {ps : List Nat} {c : Nat} (h : TimI ds m k ps c) (hd : IsD ds) (hb : k * m < 10 ^ b) (hm : 0 < m) : ps.length ≤ b := by
  apply Decidable.byContradiction
  intro hn
  obtain ⟨h1, h2, h4, h3⟩ := h
  by_cases hz : c + valL (ds.drop ps.length) * m = 0
  · have hc : c = 0 := by omega
    have hv : valL (ds.drop ps.length) * m = 0 := by omega
    have hv0 : valL (ds.drop ps.length) = 0 := by
      rcases Nat.mul_eq_zero.1 hv with h | h
      · exact h
      · omega
    by_cases hl : ds.length ≤ ps.length
    · have hD : IsD ps := ⟨h1, by rintro rfl; simp at hn, h3 hl hc⟩
      rw [hz, Nat.mul_zero, Nat.add_zero] at h2
      exact hn (hD.len (h2 ▸ hb))
    · have hD : IsD (ds.drop ps.length) := ⟨fun x hx => hd.1 x (List.mem_of_mem_drop hx), by simp; omega, by rw [List.getLast?_drop]; rw [if_neg (by omega)]; exact hd.2.2⟩
      have := hD.pos; omega
  · have h5 : 10 ^ ps.length ≤ 10 ^ ps.length * (c + valL (ds.drop ps.length) * m) := Nat.le_mul_of_pos_right _ (by omega)
    have h6 : 10 ^ b ≤ 10 ^ ps.length := Nat.pow_le_pow_right (by omega) (by omega)
    omega
def RatI (bs : List Nat) (m j : Nat) (qs : List Nat) (r : Nat) : Prop := (∀ d ∈ qs, d < 10) ∧ valB (bs.take j) = valB qs * m + r ∧ r < m
theorem RatI.start {bs : List Nat} {m : Nat} (hm : 0 < m) : RatI bs m 0 [] 0 := ⟨by simp, by simp [valB], hm⟩
theorem RatI.step {bs : List Nat} {m j r d : Nat} {qs : List Nat} (h : RatI bs m j qs r) (he : bs[j]? = some d) (hd : d < 10) :
    RatI bs m (j + 1) (qs ++ [(10 * r + d) / m]) ((10 * r + d) % m) ∧ (10 * r + d) / m < 10 := by
  obtain ⟨h1, h2, h3⟩ := h
  have hq : (10 * r + d) / m < 10 := (Nat.div_lt_iff_lt_mul (by omega)).2 (by omega)
  refine ⟨⟨fun x hx => ?_, ?_, Nat.mod_lt _ (by omega)⟩, hq⟩
  · rcases List.mem_append.1 hx with hx | hx
    · exact h1 x hx
    · rw [List.mem_singleton.1 hx]; exact hq
  · rw [List.take_add_one, he, Option.toList_some, valB_app, valB_app, h2, Nat.add_mul]
    have := Nat.div_add_mod (10 * r + d) m
    rw [Nat.mul_comm m] at this
    rw [Nat.mul_assoc]
    omega
theorem RatI.done {bs : List Nat} {m r : Nat} {qs : List Nat} (h : RatI bs m bs.length qs r) (hm : m ∣ valB bs) : r = 0 ∧ valB qs = valB bs / m := by
  obtain ⟨h1, h2, h3⟩ := h
  rw [List.take_length] at h2
  have hr : r = 0 := by
    obtain ⟨t, ht⟩ := hm
    have h5 : (valB qs * m + r) % m = r := by rw [Nat.mul_comm, Nat.mul_add_mod, Nat.mod_eq_of_lt h3]
    rw [← h2, ht, Nat.mul_mod_right] at h5
    exact h5.symm
  refine ⟨hr, ?_⟩
  rw [h2, hr, Nat.add_zero, Nat.mul_div_cancel _ (by omega)]
end Go.Proofs.YtbejhkojdiadaaaGreatDoor
namespace Go.Proofs.YtbejhkojdiadaaaGreatDoor
open Go.RowKit
def bytesOf (s : ByteArray) : List Nat := s.data.toList.map UInt8.toNat
theorem IsNum.byte {s : ByteArray} {ds : List Nat} (h : s.data.toList = digB ds.reverse) (hd : ∀ d ∈ ds, d < 10) {k d : Nat} (hk : ds.reverse[k]? = some d) : (bytesOf s)[k]?.getD 0 = 48 + d := by
  unfold bytesOf
  have hd10 := hd d (List.mem_reverse.1 (List.mem_of_getElem? hk))
  rw [h, digB, List.map_map, List.getElem?_map, hk]
  simp only [Option.map_some, Option.getD_some, Function.comp, UInt8.toNat_ofNat']
  omega
theorem num_size {s : ByteArray} {ds : List Nat} (h : s.data.toList = digB ds.reverse) : s.size = ds.length := by
  have := congrArg List.length h
  rw [digB_len, List.length_reverse] at this
  simpa using this
theorem bytes_of (src : Nat) (hs : Tryz.prog.underlying src = some .string) (w : World) (s : ByteArray) : ∃ (W1 : World) (cap : Nat), (convert src 109 (.string s)).run Tryz.prog w = .ok (.slice (some ⟨w.heap.size, 0, none⟩) s.size cap) W1 ∧ s.size ≤ cap ∧
    (∀ j, j < s.size → W1.cell? ⟨w.heap.size, j, none⟩ = some (.int .u8 (((bytesOf s)[j]?.getD 0 : Nat) : Int))) ∧ Below w.heap.size w W1 := by
  refine ⟨_, _, run_bytes_of_string w src 109 5 s hs Tryz.underlying109 Tryz.underlying5, ?_, fun j hj => ?_, alloc_b (below_drw (Below.refl _ _)) _⟩
  · exact grownCap_ge _ _ _ _
  · show (World.alloc _ _).cell? _ = _
    have hj' : j < s.data.size := hj
    have e1 := bytesRow_at s (grownCap w s.size 0 5) j hj'
    have e2 : (bytesOf s)[j]?.getD 0 = (s.data[j]'hj').toNat := by
      unfold bytesOf
      rw [List.getElem?_map, List.getElem?_eq_getElem (by simpa using hj')]
      simp
    rw [e2, ← e1]
    unfold World.cell?
    have e3 := World.alloc_heap_new w.drew (.cells (bytesRow s (grownCap w s.size 0 5)) 5 ((bytesRow s (grownCap w s.size 0 5)).size, (bytesRow s (grownCap w s.size 0 5)).size + 1))
    rw [show w.drew.heap.size = w.heap.size from rfl] at e3
    rw [e3]
    simp
set_option maxRecDepth 100000 in
set_option maxHeartbeats 2000000 in
theorem order80 {w : World} {s : ByteArray} {k : Nat} (h : IsNum s k) (hk : k < 10 ^ 18) : Calls Tryz.prog 80 #[.string s] w fun e w' => e = .returned (.bool true) ∧ Below w.heap.size w w' := by
  obtain ⟨ds, h1, h2, h3⟩ := h
  have hl : ds.length ≤ 18 := h1.len (h2 ▸ hk)
  have hs := num_size h3
  have hpos : 0 < ds.length := List.length_pos_iff.2 h1.2.1
  have hby : ∀ k, k < ds.length → 48 ≤ (bytesOf s)[k]?.getD 0 ∧ (bytesOf s)[k]?.getD 0 ≤ 57 := fun k hk => by
    have e : ds.reverse[k]? = some (ds.reverse[k]'(by simpa using hk)) := List.getElem?_eq_getElem _
    rw [IsNum.byte h3 h1.1 e]
    have := h1.1 _ (List.mem_reverse.1 (List.mem_of_getElem? e))
    omega
  have hb0 : (bytesOf s)[0]?.getD 0 ≠ 48 := fun e => by
    obtain ⟨d0, hd0⟩ : ∃ d, ds.reverse[0]? = some d := ⟨_, List.getElem?_eq_getElem (by simp; omega)⟩
    rw [IsNum.byte h3 h1.1 hd0] at e
    obtain rfl : d0 = 0 := by omega
    rw [← List.head?_eq_getElem?, List.head?_reverse] at hd0
    exact h1.2.2 hd0
  obtain ⟨W1, cap, hcv, hcap, hce, hbW⟩ := bytes_of 32 Tryz.underlying32 w s
  obtain ⟨N, hN⟩ : ∃ N, ds.length = N := ⟨_, rfl⟩
  rw [hN] at hl hs hpos hby
  rw [hs] at hce hcap hcv
  have h0s : 0 < s.size := by omega
  have hx0 : (bytesOf s)[0]?.getD 0 = (s[0]'h0s).toNat := by
    unfold bytesOf
    rw [List.getElem?_map, List.getElem?_eq_getElem (by simp; omega)]
    rfl
  have hn0 : ((((s[0]'h0s).toNat : Nat) : Int) == 48) = false := by rw [← hx0]; simp; omega
  obtain ⟨X, hX⟩ : ∃ X, w.heap.size = X := ⟨_, rfl⟩
  rw [hX] at hce hbW hcv
  have H := Lib.hid (And.intro hby (And.intro hce hbW))
  clear h1 h2 h3 hN hk hx0 hb0 hby hce hbW
  have g1 : ¬ (N : Int) < 1 := by omega
  have g2 : ¬ (200 : Int) < N := by omega
  rw [hX]
  go_enter Tryz.func80, Tryz.ntmps80
  go_wp2
  go_loopw [21] (fun i wr => ∃ j : Nat, j ≤ N ∧ i = .int .i64 (j : Int) ∧ wr = W1) (fun i _ => N - (intOf i).toNat)
  case atStart => exact ⟨0, by omega, rfl, rfl⟩
  case round =>
    obtain ⟨j, hj, rfl, rfl⟩ := hrel
    by_cases hjn : j < N
    · have c1 := H.out.2.1 j hjn
      obtain ⟨b, hb⟩ : ∃ b, (bytesOf s)[j]?.getD 0 = b := ⟨_, rfl⟩
      rw [hb] at c1
      obtain ⟨b1, b2⟩ := H.out.1 j hjn
      rw [hb] at b1 b2
      clear hb
      have g3 : ¬ (b : Int) < 48 := by omega
      have g4 : ¬ (57 : Int) < b := by omega
      go_wp2
      exact ⟨⟨j + 1, by omega, by go_num, by trivial⟩, by simp [intOf]; omega⟩
    · obtain rfl : j = N := by omega
      go_wp2
      go_ret
      exact ⟨rfl, H.out.2.2⟩
end Go.Proofs.YtbejhkojdiadaaaGreatDoor
