/- The library's Values: an iterator over the points of a list. · slices.AppendSeq of Values: a copy of the list. · The library's sorting functions at this program's numbers: what the shelf's laying command writes, as plain text. · slices.Sorted of Values: the list in order. · rank's choices, step and least. · The tower's least element of a coset. -/
import Derived.Test.YtbejhkojdiadaaaGreatDoorRk01
import Derived.Test.YtbejhkojdiadaaaGreatDoorRk02
import Derived.Test.YtbejhkojdiadaaaGreatDoorRk03
import Derived.Test.YtbejhkojdiadaaaGreatDoorRk04
import Derived.Test.YtbejhkojdiadaaaGreatDoorRk05
import Derived.Test.YtbejhkojdiadaaaGreatDoorProg
import Derived.RangeFuncBox
import Derived.RangeFuncLeaves
import Derived.RangeFuncWrites
import Derived.RangeFuncFrom
import Derived.Shelf.Abstract
import Derived.OwnWalkIn
import Derived.TacticsInMore
import Derived.LoopNIn
import Derived.LoopIn
import Derived.Shelf.GgSortFunc.Insertion
import Derived.Shelf.SlIter.Collect
import Derived.Shelf.Sort.Plain
import Derived.WalkKit
import Derived.WalkSpells
import Derived.BigQuiet
import Derived.Deep.QuietTactic
import Derived.Deep.LoopGhost
import Derived.Lib.Hide
import Derived.Maps.AppendAt
import Derived.Deep.AppendLies
import Derived.StillTailTactics
import Derived.Laws.CopyOwn
import Derived.Deep.OwnRows
import Derived.Deep.DeepCutAuto
import Derived.Laws.Cover3
import Derived.Deep.RegionHeld3
import Derived.RangeFuncRecord
import Derived.Lib.SlicesSearch
set_option linter.unusedSimpArgs false
set_option linter.unusedVariables false
namespace Go.Proofs.YtbejhkojdiadaaaGreatDoor
open Go.RowKit
theorem Own.cellsKept {w w' : World} {B : Nat} {v : Value} {e : TypeId} {xs : List Value} (h : Own w B v e xs) {row : Option Nat} (hg : w.grownBy w' row)
    (hr : ∀ r, row = some r → ∃ o, w.heap[r]? = some o ∧ o.isCells = false) : Own w' B v e xs := by
  refine h.kept hg ?_
  rcases h.blk with e | ⟨g, cur, e, _, _, hh⟩
  · exact .inl e
  · right
    rw [e]
    intro he
    obtain ⟨o, ho, hc⟩ := hr g he.symm
    rw [hh] at ho
    injection ho with ho
    subst ho
    cases hc
end Go.Proofs.YtbejhkojdiadaaaGreatDoor

namespace Go.Proofs.YtbejhkojdiadaaaGreatDoor
open Go.RowKit Go.Sort

theorem heap_sortWorld {α : Type} [Inhabited α] (enc : α → Value) (w : World) (blk off m : Nat) (d : Array α) (os : Array Obj) (k : Nat) (hk : k < w.heap.size) :
    (sortWorld enc w blk off m d os).heap[k]? = (w.heap.modify blk (onCells (putCells enc off d)))[k]? := by
  show ((w.heap.modify blk (onCells (putCells enc off d))) ++ os)[k]? = _
  rw [Array.getElem?_append, if_pos (by simpa using hk)]
theorem grown_sortWorld {α : Type} [Inhabited α] (enc : α → Value) (w : World) (blk off m : Nat) (d : Array α) (os : Array Obj) : w.grownBy (sortWorld enc w blk off m d os) (some blk) := by
  refine ⟨rfl, rfl, rfl, ?_, fun k hk hne => ?_⟩
  · show w.heap.size ≤ ((w.heap.modify blk (onCells (putCells enc off d))) ++ os).size
    simp
  · rw [heap_sortWorld enc w blk off m d os k hk, Array.getElem?_modify, if_neg (by rintro rfl; exact hne rfl)]
theorem own_sortWorld {α : Type} [Inhabited α] (enc : α → Value) {w : World} {D blk n cap : Nat} {e : TypeId} {xs : List Value} (h : Own w D (.slice (some ⟨blk, 0, none⟩) n cap) e xs) (m : Nat) (os : Array Obj) (d : Array α) (hd : d.size = n) :
    Own (sortWorld enc w blk 0 m d os) D (.slice (some ⟨blk, 0, none⟩) n cap) e (d.toList.map enc) := by
  have hl := h.lit
  rcases h.2 with ⟨h1, _⟩ | ⟨g, cap', cur, h1, hB, hh, hnc, hcm, hcs, htk⟩
  · cases h1
  · cases h1
    have hblk : blk < w.heap.size := by
      rcases Nat.lt_or_ge blk w.heap.size with hl | hl
      · exact hl
      · rw [Array.getElem?_eq_none hl] at hh; cases hh
    have hlen : (d.toList.map enc).length = xs.length := by simp [hd]
    rw [Nat.mul_one] at hcs htk
    refine ⟨by rw [Nat.mul_one], .inr ⟨blk, cap, putCells enc 0 d cur, by rw [hlen], hB, ?_, by omega, hcm, by simp [putCells, hcs], ?_⟩⟩
    · rw [heap_sortWorld enc w blk 0 m d os blk hblk, Array.getElem?_modify, if_pos rfl, hh]; rfl
    · rw [Nat.mul_one]
      apply List.ext_getElem?
      intro j
      rw [List.getElem?_take, hlen]
      by_cases hj : j < xs.length
      · have hjd : j < d.size := by omega
        have hjc : j < cur.size := by omega
        rw [if_pos hj, List.getElem?_map]
        simp only [putCells, Array.getElem?_toList, Array.getElem?_mapIdx]
        rw [Array.getElem?_eq_getElem hjc, Array.getElem?_eq_getElem hjd]
        simp [hjd]
      · rw [if_neg hj, List.getElem?_eq_none (by rw [hlen]; omega)]
theorem holds_own {α : Type} [Inhabited α] (enc : α → Value) {w : World} {D blk cap n : Nat} {e : TypeId} (d : Array α) (h : Own w D (.slice (some ⟨blk, 0, none⟩) n cap) e (d.toList.map enc)) : Holds enc w blk 0 d := by
  intro j hj
  rw [Nat.zero_add]
  refine ⟨?_, h.frozen j⟩
  rw [h.cell j (by simpa using hj), List.getElem?_map, Array.getElem?_toList, Array.getElem?_eq_getElem hj]
  simp [hj]
end Go.Proofs.YtbejhkojdiadaaaGreatDoor

namespace Go.Proofs.YtbejhkojdiadaaaGreatDoor
open Go.RowKit Go.Shelf

attribute [local go_sem] Oper.semAt_some

set_option maxRecDepth 100000 in
set_option maxHeartbeats 2000000 in
theorem values1_in (F : Fence) (nn : Nat) (hfn : F.fn 137) (hro : F.round = none) (hn1 : 1 ≤ nn) (lp Bs n0 : Nat) (a : Option Addr) (c : Nat) (l : List Int)
    (J Jx : List Int → World → Prop)
    (hY : ∀ pre x W, J pre W → pre.length < l.length → YieldAt F (nn - 1) Tryz.prog lp #[.int .i64 x] W fun e W' =>
      (e = .returned (.bool true) ∧ J (pre ++ [x]) W' ∧ Below n0 W W') ∨ (e = .returned (.bool false) ∧ Jx (pre ++ [x]) W'))
    (W w : World) (hBs : W.cell? ⟨Bs, 0, none⟩ = some (.slice a l.length c)) (hl : Ints w a l) (hw0 : w.heap.size = n0) (hWw : Below n0 w W) (h0 : J [] W) :
    CallsIn F nn Tryz.prog 137 #[.func (.yield lp) #[] #[], .pointer (some ⟨Bs, 0, none⟩)] W fun e W' => (∃ v, e = .returned v) ∧
      (J l W' ∨ (∃ pre, Jx pre W')) := by
  have hlen := hl.len
  have H0 := Lib.hid (And.intro hl (And.intro hw0 hWw))
  clear hl hw0 hWw
  obtain ⟨m, hm⟩ : ∃ m, m = l.length := ⟨_, rfl⟩
  rw [← hm] at hBs hlen
  have Hm := Lib.hid hm
  clear hm
  refine callsIn_of_wp Tryz.func137 rfl hfn ?_ hro
  simp only [Tryz.ntmps137, List.size_toArray, List.length_cons, List.length_nil, Nat.reduceAdd, Nat.reduceSub, Array.replicate_succ, Array.replicate_zero, List.push_toArray, List.append_toArray, List.nil_append, List.cons_append]
  gi_wp2
  gi_loopw [7] (fun i wr => ∃ k : Nat, k ≤ m ∧ i = .int .i64 k ∧ J (l.take k) wr ∧ Below n0 W wr) (fun i _ => m - (intOf i).toNat)
  case atStart => exact ⟨0, Nat.zero_le _, rfl, by simpa using h0, Below.refl _ _⟩
  case round =>
    obtain ⟨k, hk, rfl, hJs, hnx⟩ := hrel
    by_cases hlt : k < m
    · obtain ⟨g, o, rfl, hg, hc1⟩ := H0.out.1.at_ (k := k) (by rw [← Hm.out]; exact hlt)
      have hcx : wr.cell? ⟨g, o + k, none⟩ = some (.int .i64 (l[k]?.getD 0)) := by
        rw [(H0.out.2.2.trans hnx).cell (by rw [← H0.out.2.1]; exact hg)]; exact hc1
      have hkl : k < l.length := by rw [← Hm.out]; exact hlt
      have hnext : l.take (k + 1) = l.take k ++ [l[k]?.getD 0] := by
        rw [List.take_add_one, List.getElem?_eq_getElem hkl]; rfl
      obtain ⟨fn, tmps, assign, body, hy, hR⟩ := hY _ (l[k]?.getD 0) wr hJs (by rw [List.length_take]; omega)
      obtain ⟨x, hx⟩ : ∃ x, l[k]?.getD 0 = x := ⟨_, rfl⟩
      rw [hx] at hcx hy hR hnext
      have Hx := Lib.hid (And.intro hx (And.intro hnext hnx))
      clear hx hnext hnx hc1 h0 hkl hJs
      gi_wp2
      refine hR.mono ?_
      rintro e W3 (⟨rfl, hJ3, hk3⟩ | ⟨rfl, hJx3⟩)
      · have H3 := Lib.hid (And.intro hJ3 hk3)
        clear hJ3 hk3
        gi_wp2
        go_roundw
        case rel => exact ⟨k + 1, by omega, by go_num, by rw [Hx.out.2.1]; exact H3.out.1, Hx.out.2.2.trans H3.out.2⟩
        case measure => simp [intOf]; omega
      · have H3 := Lib.hid hJx3
        clear hJx3
        gi_wp2
        refine bodyPost_ret (results_none rfl _ _ _) rfl ?_
        exact ⟨⟨_, rfl⟩, .inr ⟨_, H3.out⟩⟩
    · have HJ := Lib.hid hJs
      clear hJs
      gi_wp2
      go_end0
      refine ⟨⟨_, rfl⟩, .inl ?_⟩
      have := HJ.out
      rwa [List.take_of_length_le (by rw [← Hm.out]; omega)] at this

set_option maxHeartbeats 1000000 in
theorem values_in (F : Fence) (nn : Nat) (h77 : F.fn 112) (hro : F.round = none) (a : Option Addr) (len cap : Nat) (w : World) :
    CallsIn F nn Tryz.prog 112 #[.slice a len cap] w fun e w' => e = .returned (.func (.func 137) #[] #[.pointer (some ⟨w.heap.size, 0, none⟩)]) ∧ w' = w.alloc (.cells #[.slice a len cap] 40) := by
  refine callsIn_of_wp Tryz.func112 rfl h77 ?_ hro
  simp only [Tryz.ntmps112, List.size_toArray, List.length_cons, List.length_nil, Nat.reduceAdd, Nat.reduceSub, Array.replicate_succ, Array.replicate_zero, List.push_toArray, List.append_toArray, List.nil_append, List.cons_append]
  gi_wp2
  go_ret
  exact ⟨rfl, rfl⟩

theorem values_stops (F : Fence) (nn : Nat) (hfn : F.fn 137) (hro : F.round = none) (hn1 : 1 ≤ nn) (Bs n0 : Nat) (a : Option Addr) (c : Nat) (l : List Int) (w0 w : World)
    (hBs : w.cell? ⟨Bs, 0, none⟩ = some (.slice a l.length c)) (hl : Ints w0 a l) (hw0 : w0.heap.size = n0) (hb : Below n0 w0 w) :
    SeqStopsK F nn Tryz.prog 137 #[.pointer (some ⟨Bs, 0, none⟩)] (fun x : Int => #[Value.int .i64 x]) (Below n0) (fun ys => ys = l) (fun _ => True) l.length w := fun lp J Jx W hW _ _ hY h0 => by
  have hlt := block_lt_of_cell hBs
  have hc' := (hW.cell (p := ⟨Bs, 0, none⟩) hlt).trans hBs
  refine (values1_in F nn hfn hro hn1 lp Bs n0 a c l J Jx hY W w0 hc' hl hw0 (hb.trans (hW.mono (by have := hb.size; omega))) h0).mono ?_
  rintro e W' ⟨he, hj | ⟨pre, hj⟩⟩
  · exact ⟨he, .inl ⟨_, rfl, hj⟩⟩
  · exact ⟨he, .inr ⟨_, trivial, hj⟩⟩
end Go.Proofs.YtbejhkojdiadaaaGreatDoor

namespace Go.Proofs.YtbejhkojdiadaaaGreatDoor
open Go.RowKit Go.Shelf

attribute [local go_sem] Oper.semAt_some

set_option maxRecDepth 100000 in
set_option maxHeartbeats 2000000 in
theorem appendSeq_in (F : Fence) (nn : Nat) (h108 : F.fn 156) (h95 : F.fn 137) (hro : F.round = none) (hnn : 3 ≤ nn) (Bs : Nat) (a : Option Addr) (c : Nat) (l : List Int) (w : World) (hl : Ints w a l) (hln : l.length ≤ 1000000)
    (hBs : w.cell? ⟨Bs, 0, none⟩ = some (.slice a l.length c)) :
    CallsIn F nn Tryz.prog 156 #[.slice none 0 0, .func (.func 137) #[] #[.pointer (some ⟨Bs, 0, none⟩)]] w fun e w' => ∃ v, e = .returned v ∧ Own w' w.heap.size v 3 (ints l) ∧ Below w.heap.size w w' := by
  have H0 := Lib.hid (And.intro hl hBs)
  clear hl hBs
  obtain ⟨i3, hi3, hz3, hs3, hb3⟩ := info_parts Tryz.info3
  have I3 := Lib.hid (And.intro hi3 (And.intro hz3 (And.intro hs3 hb3)))
  clear hi3 hz3 hs3 hb3
  have hn1 : 1 ≤ nn := by omega
  refine callsIn_of_wp_marks Tryz.func156 rfl h108 ?_ hro
  simp only [Tryz.ntmps156, List.size_toArray, List.length_cons, List.length_nil, Nat.reduceAdd, Nat.reduceSub, Array.replicate_succ, Array.replicate_zero, List.push_toArray, List.append_toArray, List.nil_append, List.cons_append]
  gi_wp2
  obtain ⟨b0, hb0⟩ : ∃ b0, b0 = w.heap.size := ⟨_, rfl⟩
  rw [← hb0]
  obtain ⟨W0, hW0⟩ : ∃ W0, W0 = w.alloc (.cells #[.slice none 0 0] 40) := ⟨_, rfl⟩
  rw [← hW0]
  have hsz : W0.heap.size = b0 + 1 := by rw [hW0, hb0]; simp
  have hB0 : Below b0 w W0 := by rw [hW0, hb0]; exact (Below.refl _ w).alloc (Nat.le_refl _) _
  have hbx : W0.heap[b0]? = some (.cells #[.slice none 0 0] 40 (0, 0)) := by rw [hW0, hb0]; exact World.alloc_heap_new w _
  have hBl := block_lt_of_cell H0.out.2
  have hBs : W0.cell? ⟨Bs, 0, none⟩ = some (.slice a l.length c) := (hB0.cell (by rw [hb0]; exact hBl)).trans H0.out.2
  have HW := Lib.hid (And.intro hB0 (And.intro hbx (And.intro hBs (And.intro hsz hb0))))
  clear hB0 hbx hBs hsz hBl hb0 hW0
  refine wpIn_rangeFunc_ownF hro hn1 (gf := 137) (lb := #[.pointer (some ⟨Bs, 0, none⟩)]) rfl h95 (enters_of Tryz.func137 (by kernel_rfl) rfl)
    (values_stops F (nn - 1) h95 hro (by omega) Bs b0 a c l w W0 HW.out.2.2.1 H0.out.1 HW.out.2.2.2.2.symm HW.out.1) belowK_t (belowK_b (by have := HW.out.2.2.2.1; omega)) (Below.refl _ _) (fun _ => rfl)
    (fun pre W => (∃ v, W.heap[b0]? = some (.cells #[v] 40 (0, 0)) ∧ Own W (b0 + 1) v 3 (ints pre)) ∧ Below b0 w W)
    (fun _ _ _ => False)
    (OwnFrom.and (Own.from (fun s A B row hs hg hr => by
        obtain ⟨v, h1, h2⟩ := hs
        refine ⟨v, ?_, h2.cellsKept hg hr⟩
        rw [hg.block b0 (Array.getElem?_eq_some_iff.1 h1).1 (fun e => by obtain ⟨o, ho, hc⟩ := hr b0 e.symm; rw [h1] at ho; cases ho; cases hc)]; exact h1) _) (ownFrom_below (by rw [HW.out.2.2.2.2]; exact Nat.le_refl _) (by have := HW.out.2.2.2.1; omega)))
    (fun _ _ _ _ _ hs _ _ => hs)
    ⟨⟨_, HW.out.2.1, ⟨rfl, .inl ⟨rfl, rfl⟩⟩⟩, HW.out.1⟩
    (fun x => { tmps := #[.slice none 0 0, .func (.func 137) #[] #[.pointer (some ⟨Bs, 0, none⟩)], .pointer (some ⟨b0, 0, none⟩), undef, .slice none 0 0, .int .i64 x, .func (.func 137) #[] #[.pointer (some ⟨Bs, 0, none⟩)], .int .i64 x, undef, undef, undef, undef, undef], defers := [] }) ?assign ?body ?done ?stop
  case assign =>
    intro l x W K hK
    gi_wp2
    exact hK
  case body =>
    rintro l' pre x W ⟨⟨v, hv, ho⟩, hB⟩ hlen
    obtain ⟨hc2, hf2⟩ := cell_of_box_a hv
    have H := Lib.hid (And.intro hv (And.intro ho hB))
    have hlt : b0 < W.heap.size := (Array.getElem?_eq_some_iff.1 hv).1
    clear hv ho hB
    gi_wp2_with
      (gi_at_builtin; refine wpListIn_append_own _ rfl _ _ 40 rfl (b0 + 1) 3 i3 (.int .i64 0) 1 8 Tryz.underlying40 I3.out.1 I3.out.2.1 I3.out.2.2.1 I3.out.2.2.2 rfl (by decide) v (ints pre).length (ints pre) rfl (H.out.2.1.alloc _) ⟨W.heap.size, 0, none⟩ 1 1 [.int .i64 x] rfl rfl (cell_one_new _ _ _) (by simp [Value.oneCell']) (by rw [ints_len]; unfold maxLen; omega) (by rw [ints_len]; omega) (by simp; omega) ?_; intro v' w3 hown' hg3 hnil3; clear hnil3
       have hne : some b0 ≠ v.ownBlock := by
         rcases H.out.2.1.blk with e | ⟨g9, _, e, hB9, _⟩
         · rw [e]; simp
         · rw [e]; intro h; cases h; omega
       have hv3 : w3.heap[b0]? = some (.cells #[v] 40 (0, 0)) := (hg3.block b0 (by simp; omega) hne).trans ((Below.heap_alloc _ _ b0 hlt).trans H.out.1)
       obtain ⟨hc3, hf3⟩ := cell_of_box_a hv3
       obtain ⟨g', cap', rfl⟩ : ∃ g' cap', v' = .slice (some ⟨g', 0, none⟩) ((ints pre).length + 1) cap' := by
         rcases hown'.2 with ⟨_, h0⟩ | ⟨g, cap, cur, h, _⟩
         · exact absurd h0 (by omega)
         · exact ⟨g, cap, h⟩
       have H3 := Lib.hid (And.intro hown' (And.intro hg3 hv3))
       clear hown' hg3 hv3 hne
       go_frame)
    have hblk := H.out.2.1.blk
    have hge : ∀ k, v.ownBlock = some k → b0 ≤ k := fun k e => by
      rcases hblk with e2 | ⟨g9, _, e2, hB9, _⟩
      · rw [e2] at e; cases e
      · rw [e2] at e; cases e; omega
    have hko : KeepsOthers W (w3.setCell ⟨b0, 0, none⟩ (.slice (some ⟨g', 0, none⟩) ((ints pre).length + 1) cap')) :=
      (KeepsOthers.alloc W _).trans ((KeepsOthers.of_grownBy H3.out.2.1 (fun k o e ho => by
        rcases (H.out.2.1.alloc (.cells #[.int .i64 x] 3)).blk with e2 | ⟨g9, cur, e2, _, _, hh⟩
        · rw [e2] at e; cases e
        · rw [e2] at e; cases e; rw [hh] at ho; cases ho; rfl)).trans (KeepsOthers.setCell _ _ _))
    have hbW : Below b0 W (w3.setCell ⟨b0, 0, none⟩ (.slice (some ⟨g', 0, none⟩) ((ints pre).length + 1) cap')) :=
      ((((Below.refl b0 W).alloc (by omega) _).grown H3.out.2.1 (by simp; omega) hge)).setCell (p := ⟨b0, 0, none⟩) (Nat.le_refl _) _
    have how : Own w3 (b0 + 1) (.slice (some ⟨g', 0, none⟩) ((ints pre).length + 1) cap') 3 (ints (pre ++ [x])) := by
      have h := H3.out.1
      have e : ints (pre ++ [x]) = ints pre ++ [.int .i64 x] := by simp [ints]
      rw [e]
      unfold Own
      rw [List.length_append]
      exact h
    refine ⟨hko, hbW, ⟨⟨_, heap_setCell_box_a _ H3.out.2.2, how.kept (grownBy_setCell0_a _ _ _) ?_⟩, H.out.2.2.trans hbW⟩⟩
    rcases how.blk with e | ⟨g9, _, e, hB9, _⟩
    · exact .inl e
    · right; rw [e]; intro h; cases h; omega
  case done =>
    rintro D ys W hD rfl ⟨⟨v, hv, ho⟩, hB⟩ hK
    obtain ⟨hc2, hf2⟩ := cell_of_box_a hv
    have H := Lib.hid (And.intro ho hB)
    clear ho hB hv
    gi_wp2
    refine ⟨by simp, .inl ⟨_, _, rfl, run_takeDeferred hK, ?_⟩⟩
    refine ⟨_, results_tmp rfl _ _ _, ⟨_, rfl, ?_, ?_⟩⟩
    · rw [← HW.out.2.2.2.2]
      exact (H.out.1.cellsKept (grownBy_putObj' W D (.deferred none)) (fun r e => by cases e; exact ⟨_, hK, rfl⟩)).mono (by omega)
    · rw [← HW.out.2.2.2.2]
      exact H.out.2.trans (belowK_b (w := W0) (by have := HW.out.2.2.2.1; omega) W D _ _ hD hK rfl rfl)
  case stop =>
    rintro D c pre W _ _ h _
    exact h.elim

theorem values_calls (a : Option Addr) (len cap : Nat) (w : World) :
    Calls Tryz.prog 112 #[.slice a len cap] w fun e w' => e = .returned (.func (.func 137) #[] #[.pointer (some ⟨w.heap.size, 0, none⟩)]) ∧ w' = w.alloc (.cells #[.slice a len cap] 40) :=
  (callsIn_wide (n := 3)).1 (values_in Fence.wide 3 trivial rfl a len cap w)
theorem appendSeq_calls (Bs : Nat) (a : Option Addr) (c : Nat) (l : List Int) (w : World) (hl : Ints w a l) (hln : l.length ≤ 1000000) (hBs : w.cell? ⟨Bs, 0, none⟩ = some (.slice a l.length c)) :
    Calls Tryz.prog 156 #[.slice none 0 0, .func (.func 137) #[] #[.pointer (some ⟨Bs, 0, none⟩)]] w fun e w' => ∃ v, e = .returned v ∧ Own w' w.heap.size v 3 (ints l) ∧ Below w.heap.size w w' :=
  (callsIn_wide (n := 3)).1 (appendSeq_in Fence.wide 3 trivial trivial rfl (by omega) Bs a c l w hl hln hBs)
theorem collectV_calls (Bs : Nat) (a : Option Addr) (c : Nat) (l : List Int) (w : World) (hl : Ints w a l) (hln : l.length ≤ 1000000) (hBs : w.cell? ⟨Bs, 0, none⟩ = some (.slice a l.length c)) :
    Calls Tryz.prog 136 #[.func (.func 137) #[] #[.pointer (some ⟨Bs, 0, none⟩)]] w fun e w' => ∃ v, e = .returned v ∧ Own w' w.heap.size v 3 (ints l) ∧ Below w.heap.size w w' := by
  have H := Lib.hid (appendSeq_calls Bs a c l w hl hln hBs)
  clear hl hBs
  go_enter Tryz.func136, Tryz.ntmps136
  go_wp2_with fail
  refine H.out.mono ?_
  rintro e w1 ⟨v, rfl, h⟩
  have H1 := Lib.hid h
  clear h
  go_wp2
  go_ret
  exact ⟨v, rfl, H1.out⟩
end Go.Proofs.YtbejhkojdiadaaaGreatDoor

namespace Go.Proofs
open Go.Shelf
def Tryz.lays189_ren : Go.Shelf.Ren := ⟨fun | 189 => 91 | 125 => 89 | 257 => 131 | 128 => 128 | 129 => 129 | 294 => 148 | 295 => 149 | 296 => 150 | 297 => 151 | 298 => 152 | 299 => 153 | 216 => 94 | 300 => 154 | 301 => 155 | 328 => 160 | 329 => 144 | 330 => 145 | 331 => 161 | 332 => 162 | 215 => 132 | 343 => 167 | n => n, fun | 28 => 40 | 3 => 3 | 46 => 118 | 0 => 0 | 51 => 162 | 53 => 164 | 4 => 4 | 183 => 156 | 182 => 155 | 131 => 93 | 5 => 5 | 9 => 9 | 218 => 174 | 222 => 178 | 228 => 187 | 229 => 188 | n => n, fun | n => n⟩
theorem Tryz.lays189 : Go.Proofs.Lays.n189 Tryz.prog Tryz.lays189_ren :=
  {
    mixed := by kernel_rfl,
    f125 := Tryz.func89.trans (congrArg some (by kernel_rfl)),
    f128 := Tryz.func128.trans (congrArg some (by kernel_rfl)),
    f129 := Tryz.func129.trans (congrArg some (by kernel_rfl)),
    f189 := Tryz.func91.trans (congrArg some (by kernel_rfl)),
    f215 := Tryz.func132.trans (congrArg some (by kernel_rfl)),
    f216 := Tryz.func94.trans (congrArg some (by kernel_rfl)),
    f257 := Tryz.func131.trans (congrArg some (by kernel_rfl)),
    f294 := Tryz.func148.trans (congrArg some (by kernel_rfl)),
    f295 := Tryz.func149.trans (congrArg some (by kernel_rfl)),
    f296 := Tryz.func150.trans (congrArg some (by kernel_rfl)),
    f297 := Tryz.func151.trans (congrArg some (by kernel_rfl)),
    f298 := Tryz.func152.trans (congrArg some (by kernel_rfl)),
    f299 := Tryz.func153.trans (congrArg some (by kernel_rfl)),
    f300 := Tryz.func154.trans (congrArg some (by kernel_rfl)),
    f301 := Tryz.func155.trans (congrArg some (by kernel_rfl)),
    f328 := Tryz.func160.trans (congrArg some (by kernel_rfl)),
    f329 := Tryz.func144.trans (congrArg some (by kernel_rfl)),
    f330 := Tryz.func145.trans (congrArg some (by kernel_rfl)),
    f331 := Tryz.func161.trans (congrArg some (by kernel_rfl)),
    f332 := Tryz.func162.trans (congrArg some (by kernel_rfl)),
    f343 := Tryz.func167.trans (congrArg some (by kernel_rfl)),
    t0 := Tryz.underlying0,
    a0 := Tryz.isAgg0,
    z0 := Tryz.sizeOf0,
    v0 := Tryz.zeroValue0,
    t3 := Tryz.underlying3,
    a3 := Tryz.isAgg3,
    z3 := Tryz.sizeOf3,
    v3 := Tryz.zeroValue3,
    t4 := Tryz.underlying4,
    a4 := Tryz.isAgg4,
    z4 := Tryz.sizeOf4,
    v4 := Tryz.zeroValue4,
    t5 := Tryz.underlying5,
    a5 := Tryz.isAgg5,
    z5 := Tryz.sizeOf5,
    v5 := Tryz.zeroValue5,
    t9 := Tryz.underlying9,
    a9 := Tryz.isAgg9,
    z9 := Tryz.sizeOf9,
    v9 := Tryz.zeroValue9,
    t28 := Tryz.underlying40,
    a28 := Tryz.isAgg40,
    z28 := Tryz.sizeOf40,
    v28 := Tryz.zeroValue40,
    t46 := Tryz.underlying118,
    a46 := Tryz.isAgg118,
    z46 := Tryz.sizeOf118,
    v46 := Tryz.zeroValue118,
    t51 := Tryz.underlying162,
    a51 := Tryz.isAgg162,
    z51 := Tryz.sizeOf162,
    v51 := Tryz.zeroValue162,
    t53 := Tryz.underlying164,
    a53 := Tryz.isAgg164,
    z53 := Tryz.sizeOf164,
    v53 := Tryz.zeroValue164,
    t131 := Tryz.underlying93,
    a131 := Tryz.isAgg93,
    z131 := Tryz.sizeOf93,
    v131 := Tryz.zeroValue93,
    t182 := Tryz.underlying155,
    a182 := Tryz.isAgg155,
    z182 := Tryz.sizeOf155,
    v182 := Tryz.zeroValue155,
    t183 := Tryz.underlying156,
    a183 := Tryz.isAgg156,
    z183 := Tryz.sizeOf156,
    v183 := Tryz.zeroValue156,
    t218 := Tryz.underlying174,
    a218 := Tryz.isAgg174,
    z218 := Tryz.sizeOf174,
    v218 := Tryz.zeroValue174,
    t222 := Tryz.underlying178,
    a222 := Tryz.isAgg178,
    z222 := Tryz.sizeOf178,
    v222 := Tryz.zeroValue178,
    t228 := Tryz.underlying187,
    a228 := Tryz.isAgg187,
    z228 := Tryz.sizeOf187,
    v228 := Tryz.zeroValue187,
    t229 := Tryz.underlying188,
    a229 := Tryz.isAgg188,
    z229 := Tryz.sizeOf188,
    v229 := Tryz.zeroValue188 }
end Go.Proofs

namespace Go.Proofs.YtbejhkojdiadaaaGreatDoor
open Go.RowKit Go.Sort Go.Shelf

def srtI (l : List Int) : List Int := l.mergeSort fun x y => decide (x ≤ y)
theorem srtI_len (l : List Int) : (srtI l).length = l.length := (List.mergeSort_perm l _).length_eq

theorem len64_calls (x : Nat) (hx : x ≤ 12) (w : World) : Calls Tryz.prog 129 #[.int .u64 x] w fun e w' => (∃ i : Int, e = .returned (.int .i64 i)) ∧ w' = w := by
  rcases (by omega : x = 0 ∨ x = 1 ∨ x = 2 ∨ x = 3 ∨ x = 4 ∨ x = 5 ∨ x = 6 ∨ x = 7 ∨ x = 8 ∨ x = 9 ∨ x = 10 ∨ x = 11 ∨ x = 12) with rfl | rfl | rfl | rfl | rfl | rfl | rfl | rfl | rfl | rfl | rfl | rfl | rfl <;>
  · go_enter Tryz.func129, Tryz.ntmps129
    go_wp2
    go_ret
    exact ⟨⟨_, rfl⟩, rfl⟩
theorem len_calls (x : Nat) (hx : x ≤ 12) (w : World) : Calls Tryz.prog 89 #[.int .u64 x] w fun e w' => (∃ i : Int, e = .returned (.int .i64 i)) ∧ w' = w := by
  have H := Lib.hid (len64_calls x hx w)
  go_enter Tryz.func89, Tryz.ntmps89
  go_wp2_with fail
  refine H.out.mono ?_
  rintro e w1 ⟨⟨i, rfl⟩, hw⟩
  replace hw := hw.symm
  subst hw
  go_wp2
  go_ret
  exact ⟨⟨_, rfl⟩, rfl⟩
theorem insO0_calls (a : Option Addr) (c : Nat) (w : World) : Calls Tryz.prog 148 #[.slice a 0 c, .int .i64 0, .int .i64 0] w fun e w' => e = .returned (.tuple #[]) ∧ w' = w := by
  go_enter Tryz.func148, Tryz.ntmps148
  go_wp2
  go_loopw [6] (fun i wr => i = .int .i64 1 ∧ wr = w) (fun _ _ => 0)
  case atStart => exact ⟨rfl, rfl⟩
  case round =>
    obtain ⟨rfl, rfl⟩ := hrel
    go_wp2
    go_end0
    exact ⟨rfl, rfl⟩
theorem pdqO0_calls (a : Option Addr) (c : Nat) (lim : Int) (w : World) : Calls Tryz.prog 131 #[.slice a 0 c, .int .i64 0, .int .i64 0, .int .i64 lim] w fun e w' => e = .returned (.tuple #[]) ∧ w' = w := by
  have Hi := Lib.hid (insO0_calls a c w)
  go_enter Tryz.func131, Tryz.ntmps131
  go_wp2
  go_loopw [1, 2] (fun a b wr' => a = .int .i64 0 ∧ b = .int .i64 0 ∧ wr' = w) (fun _ _ _ => 0)
  case atStart => exact ⟨rfl, rfl, rfl⟩
  case round =>
    obtain ⟨rfl, rfl, rfl⟩ := hrel
    go_wp2_with fail
    refine Hi.out.mono ?_
    rintro e w2 ⟨rfl, hw⟩
    replace hw := hw.symm
    subst hw
    go_wp2
    refine bodyPost_ret (results_none rfl _ _ _) rfl ?_
    exact ⟨rfl, rfl⟩
theorem sortO0_calls (a : Option Addr) (c : Nat) (w : World) : Calls Tryz.prog 91 #[.slice a 0 c] w fun e w' => e = .returned (.tuple #[]) ∧ w' = w := by
  have Hl := Lib.hid (len_calls 0 (by omega) w)
  have Hp := Lib.hid (fun lim => pdqO0_calls a c lim w)
  go_enter Tryz.func91, Tryz.ntmps91
  go_wp2_with fail
  refine Hl.out.mono ?_
  rintro e w1 ⟨⟨i, rfl⟩, hw⟩
  replace hw := hw.symm
  subst hw
  go_wp2_with fail
  refine (Hp.out i).mono ?_
  rintro e w2 ⟨rfl, hw⟩
  replace hw := hw.symm
  subst hw
  go_wp2
  go_end0
  exact ⟨rfl, rfl⟩
theorem sortI_calls (D : Nat) (v : Value) (l : List Int) (w : World) (hl : l.length ≤ 1000000) (ho : Own w D v 3 (ints l)) :
    Calls Tryz.prog 91 #[v] w fun e w' => e = .returned (.tuple #[]) ∧ Own w' D v 3 (ints (srtI l)) ∧ w.grownBy w' v.ownBlock := by
  rcases Nat.eq_zero_or_pos l.length with h0 | h0
  · obtain ⟨a, c, rfl, -⟩ := ho.row (by rw [ints_len]; unfold maxLen; omega)
    have : l = [] := List.eq_nil_of_length_eq_zero h0
    subst this
    refine (sortO0_calls a c w).mono ?_
    rintro e w' ⟨rfl, rfl⟩
    exact ⟨rfl, by rw [show srtI [] = [] by simp [srtI]]; exact ho, World.grownBy.refl _ _⟩
  · obtain ⟨a, c, rfl, -⟩ := ho.row (by rw [ints_len]; unfold maxLen; omega)
    rw [ints_len] at ho ⊢
    obtain ⟨blk, rfl, hblk, hblt, -⟩ := ho.at_form h0
    have hd : ints l = l.toArray.toList.map (Value.int .i64) := by simp [ints]
    have hh := holds_own (Value.int .i64) l.toArray (by rw [← hd]; exact ho)
    have h := Any.slices_Sort_int Tryz.lays189 blk 0 c l w hh hblt (by omega)
    change Calls Tryz.prog 91 _ _ _ at h
    refine h.mono ?_
    rintro e w' ⟨he, m, os, rfl⟩
    refine ⟨he, ?_, grown_sortWorld (Value.int .i64) w blk 0 m (srtI l).toArray os⟩
    have h2 := own_sortWorld (Value.int .i64) ho m os (srtI l).toArray (by simp [srtI_len])
    have h3 : (srtI l).toArray.toList.map (Value.int .i64) = ints (srtI l) := by simp [ints]
    rw [h3] at h2
    exact h2

theorem sorted_calls (Bs : Nat) (a : Option Addr) (c : Nat) (l : List Int) (w : World) (hl : Ints w a l) (hln : l.length ≤ 1000000) (hBs : w.cell? ⟨Bs, 0, none⟩ = some (.slice a l.length c)) :
    Calls Tryz.prog 111 #[.func (.func 137) #[] #[.pointer (some ⟨Bs, 0, none⟩)]] w fun e w' => ∃ v, e = .returned v ∧ Own w' w.heap.size v 3 (ints (srtI l)) ∧ Below w.heap.size w w' := by
  have H := Lib.hid (collectV_calls Bs a c l w hl hln hBs)
  clear hl hBs
  go_enter Tryz.func111, Tryz.ntmps111
  go_wp2_with fail
  refine H.out.mono ?_
  rintro e w1 ⟨v, rfl, h⟩
  have hs := sortI_calls w.heap.size v l w1 hln h.1
  have H1 := Lib.hid (And.intro h hs)
  clear h hs
  go_wp2_with fail
  refine H1.out.2.mono ?_
  rintro e w2 ⟨rfl, ho, hg⟩
  have hb : Below w.heap.size w w2 := H1.out.1.2.grown hg H1.out.1.2.size (fun k e => by
    rcases H1.out.1.1.blk with e2 | ⟨g9, _, e2, hB9, _⟩
    · rw [e2] at e; cases e
    · rw [e2] at e; cases e; exact hB9)
  have H2 := Lib.hid (And.intro ho hb)
  clear ho hg hb
  go_wp2
  go_ret
  exact ⟨v, rfl, H2.out⟩
end Go.Proofs.YtbejhkojdiadaaaGreatDoor
namespace Go.Proofs.YtbejhkojdiadaaaGreatDoor
open Go.RowKit PlainPm
section
variable {P : Program} {w : World}
theorem mkCap {ops : Array Oper} {rest : List Oper} {o : Oper} {a : Act} {Q : Exit → Act → World → Prop}
    (hg : o.guard = none) (l c : Operand) (T e : TypeId) (hop : o.op = Op.makeSlice T l c)
    (i : TypeInfo) (z : Value) (bytes : Nat) (ht : P.underlying T = some (.slice e)) (hi : P.info? e = some i) (hz : i.zero = some z) (hsize : i.size = 1) (hby : i.bytes = bytes) (hzs : z.cells = #[z]) (hb64 : bytes ≤ 64)
    (B : Nat) (n : Nat) (hl : a.eval l = .int .i64 0) (hc : a.eval c = .int .i64 n) (hn : n < 1099511627776) (hB : B ≤ w.heap.size)
    (hK : ∀ w', Own w' B (.slice (some ⟨w.heap.size, 0, none⟩) 0 n) e [] → w.grownBy w' none → w'.heap.size = w.heap.size + 1 → wpList P ops Q rest (a.put o.dst (.slice (some ⟨w.heap.size, 0, none⟩) 0 n)) w') :
    wpList P ops Q (o :: rest) a w := by
  refine wpList_plain hg fun K hK' => ?_
  have h63 : n ≤ maxLen := by unfold maxLen; omega
  have hb' : (i.bytes : Int) * (n : Int) ≤ 281474976710656 := by
    have h := Nat.mul_le_mul_right n (by rw [hby]; exact hb64 : i.bytes ≤ 64)
    have h : ((i.bytes * n : Nat) : Int) ≤ 281474976710656 := by omega
    rwa [Int.natCast_mul] at h
  have hr := run_make (P := P) w T e i z ht hi hz .i64 .i64 0 n (by omega) (by omega) hb' (by omega)
  simp only [Int.toNat_natCast] at hr
  unfold Oper.wp
  simp [execOp, hop, hl, hc, hr, Result.andThen]
  refine hK' _ _ (hK _ ?_ (grown_alloc w _ none) (by simp))
  exact ⟨rfl, .inr ⟨w.heap.size, n, madeCells z.cells (n * i.size), rfl, hB, World.alloc_heap_new w _, Nat.zero_le _, h63, by rw [size_madeCells, hsize], by simp⟩⟩
end
theorem below_drew {B : Nat} {a w : World} (h : Below B a w) : Below B a w.drew := ⟨h.os, h.tape, h.output, h.size, h.block⟩
theorem keep4 {V A B : World} {p1 p2 p3 p4 : Addr} {u1 u2 u3 u4 : Value} (h : A.cell? p1 = some u1 ∧ A.cell? p2 = some u2 ∧ A.cell? p3 = some u3 ∧ A.cell? p4 = some u4 ∧ Below V.heap.size V A) (k : Below A.heap.size A B) :
    B.cell? p1 = some u1 ∧ B.cell? p2 = some u2 ∧ B.cell? p3 = some u3 ∧ B.cell? p4 = some u4 ∧ Below V.heap.size V B :=
  ⟨(k.cell (block_lt_of_cell h.1)).trans h.1, (k.cell (block_lt_of_cell h.2.1)).trans h.2.1, (k.cell (block_lt_of_cell h.2.2.1)).trans h.2.2.1, (k.cell (block_lt_of_cell h.2.2.2.1)).trans h.2.2.2.1, below_trans h.2.2.2.2 k⟩
theorem bx1 {W : World} {k : Nat} {v : Value} {e : TypeId} (h : W.heap[k]? = some (.cells #[v] e (0, 0))) : W.cell? ⟨k, 0, none⟩ = some v ∧ W.frozen? ⟨k, 0, none⟩ = false := by
  constructor <;> simp [World.cell?, World.frozen?, h]
theorem pm_box {n : Nat} (hn : 0 < n) {W : World} {k : Nat} {a : Option Addr} {l c : Nat} {u v : Value} {x : Pm n} (h : PmV W [] v x) (hk : W.heap[k]? = some (.cells #[.slice a l c] 41 (0, 0))) : PmV (W.setCell ⟨k, 0, none⟩ u) [] v x := by
  obtain ⟨b, o, c', rfl, h1, h2, h3⟩ := h
  have hne : b ≠ k := by
    rintro rfl
    have := h3 0 hn
    simp only [World.cell?, hk] at this
    match o, this with
    | 0, this => simp at this
    | o + 1, this => simp at this
  refine ⟨b, o, c', rfl, h1, by simpa [World.setCell] using h2, fun i hi => ?_⟩
  rw [← h3 i hi]
  exact World.cell?_of_block (w := W) (Below.heap_setCell _ _ _ _ hne)
theorem cell_al (V : World) (u : Value) (t : TypeId) (X : Nat) (hX : V.heap.size = X) : (V.alloc (.cells #[u] t)).cell? ⟨X, 0, none⟩ = some u := by
  subst hX
  have := World.alloc_heap_new V (.cells #[u] t)
  simp only [World.cell?, this]; rfl
theorem cell_al_old (V : World) (o : Obj) {p : Addr} {u : Value} (h : V.cell? p = some u) : (V.alloc o).cell? p = some u := ((alloc_b (Below.refl V.heap.size V) o).cell (block_lt_of_cell h)).trans h
set_option maxRecDepth 100000 in
set_option maxHeartbeats 1000000 in
theorem choices61 {n ab ao c bb bo e i : Nat} {y : Pm n} {va : Value} {O : Nat → List Nat} {R : Nat → Nat → Pm n} (hi : i < n) (hl : ∀ p ∈ O i, p < n) {w : World} (h : LvW n w O R ab ao bb bo) (hy : PmV w [] va y) :
    Calls Tryz.prog 60 #[cv n ab ao c bb bo e, va, .int .i64 (i : Int)] w fun e w' => ∃ v, e = .returned v ∧ Own w' w.heap.size v 3 (ints (srtI (nts ((O i).map y.at)))) ∧ Below w.heap.size w w' := by
  obtain ⟨i3, hi3, hz3, hs3, hb3⟩ := info_parts Tryz.info3
  have I3 := Lib.hid (And.intro hi3 (And.intro hz3 (And.intro hs3 hb3)))
  clear hi3 hz3 hs3 hb3
  obtain ⟨yb, yo, yc, rfl, hyM, hyb, hyc⟩ := hy
  obtain ⟨vo, ho, g, o, oc, rfl, hg, h64, hcap, hoc⟩ := h.orb i hi
  obtain ⟨X, hX⟩ : ∃ X, w.heap.size = X := ⟨_, rfl⟩
  have hB0 := BoxW.start w X n ab ao c bb bo e hX
  obtain ⟨W1, hW1⟩ : ∃ W1, W1 = w.alloc (.cells #[.int .i64 (n : Int), .slice (some ⟨ab, ao, none⟩) n c, .slice (some ⟨bb, bo, none⟩) n e] 25) := ⟨_, rfl⟩
  rw [← hW1] at hB0
  have hs1 : W1.heap.size = X + 1 := by rw [hW1, ← hX]; simp
  have habX := block_lt_of_cell ho
  obtain ⟨L, hL⟩ : ∃ L, (O i).length = L := ⟨_, rfl⟩
  rw [hL] at ho h64
  have hwW1 : Below w.heap.size w W1 := by rw [hX]; exact hB0.bel
  have c1 : W1.cell? ⟨ab, ao + i, none⟩ = some (.slice (some ⟨g, o, none⟩) L oc) := (hwW1.cell habX).trans ho
  rw [hW1] at c1
  obtain ⟨z0, z1, z2⟩ : W1.cell? ⟨X, 0, none⟩ = some (.int .i64 (n : Int)) ∧ W1.cell? ⟨X, 1, none⟩ = some (.slice (some ⟨ab, ao, none⟩) n c) ∧ W1.cell? ⟨X, 2, none⟩ = some (.slice (some ⟨bb, bo, none⟩) n e) := ⟨hB0.c0, hB0.c1, hB0.c2⟩
  have H := Lib.hid (And.intro hl (And.intro hyb (And.intro hyc (And.intro hg (And.intro hoc (And.intro hL (And.intro hB0 (And.intro hs1 (And.intro hX (And.intro ho habX))))))))))
  clear hl hyb hyc hg hoc hL hB0 hs1 ho h hwW1 habX hcap hyM
  go_enter Tryz.func60, Tryz.ntmps60
  try rw [hX]
  go_wp2_with (at_make; (try rw [← hW1]); refine mkCap rfl _ _ 40 3 rfl i3 (.int .i64 0) 8 Tryz.underlying40 I3.out.1 I3.out.2.1 I3.out.2.2.1 I3.out.2.2.2 rfl (by omega) W1.heap.size L rfl rfl (by omega) (Nat.le_refl _) ?_; intro w1 hd hg hz1; rw [H.out.2.2.2.2.2.2.2.1] at hd hz1 ⊢; have hB1 := H.out.2.2.2.2.2.2.1.below (Below.refl _ _ |>.grown hg (by have := H.out.2.2.2.2.2.2.2.1; omega) (by simp)); have b0 := hB1.c0; have b1 := hB1.c1; have b2 := hB1.c2; have d1 : w1.cell? ⟨ab, ao + i, none⟩ = some (.slice (some ⟨g, o, none⟩) L oc) := (hB1.bel.cell (by rw [← H.out.2.2.2.2.2.2.2.2.1]; exact H.out.2.2.2.2.2.2.2.2.2.2)).trans H.out.2.2.2.2.2.2.2.2.2.1; have H1 := Lib.hid (And.intro hd (And.intro hB1 hz1)); clear hd hg hz1 hB1)
  go_loopw [7, 9, 23] (fun v _ j wr => ∃ (k : Nat), k ≤ L ∧ j = .int .i64 (k : Int) ∧ Own wr (X + 1) v 3 (ints (nts (((O i).take k).map y.at))) ∧ Below X w wr ∧ X + 1 ≤ wr.heap.size) (fun _ _ j _ => L - (intOf j).toNat)
  case atStart => exact ⟨0, by omega, rfl, H1.out.1, H1.out.2.1.bel, H1.out.2.1.lt⟩
  case round =>
    obtain ⟨k, hk, rfl, ho, hb, hXs⟩ := hrel
    by_cases hkl : k < L
    · obtain ⟨p, hp⟩ : ∃ p, (O i)[k]? = some p := ⟨_, List.getElem?_eq_getElem (by rw [H.out.2.2.2.2.2.1]; exact hkl)⟩
      have hpn := H.out.1 p (List.mem_of_getElem? hp)
      have q1 : wr.cell? ⟨g, o + k, none⟩ = some (.int .i64 (p : Int)) := (hb.cell (p := ⟨g, o + k, none⟩) (by rw [← H.out.2.2.2.2.2.2.2.2.1]; exact H.out.2.2.2.1)).trans (H.out.2.2.2.2.1 k p hp)
      have q2 : wr.cell? ⟨yb, yo + p, none⟩ = some (.int .i64 (y.at p : Int)) := (hb.cell (p := ⟨yb, yo + p, none⟩) (by rw [← H.out.2.2.2.2.2.2.2.2.1]; exact H.out.2.1)).trans (H.out.2.2.1 p hpn)
      obtain ⟨z, hz⟩ : ∃ z, y.at p = z := ⟨_, rfl⟩
      rw [hz] at q2
      have hsz := hb.size
      rw [H.out.2.2.2.2.2.2.2.2.1] at hsz
      have hll : (ints (nts (((O i).take k).map y.at))).length = k := by rw [ints_len, nts_len, List.length_map, List.length_take, H.out.2.2.2.2.2.1]; omega
      have HP := Lib.hid (And.intro ho (And.intro hb (And.intro hp hz)))
      clear ho hb hp hz
      go_wp2_with (at_builtin; refine app1 rfl (.tmp 27) (.tmp 32) 40 3 rfl i3 (.int .i64 0) 8 Tryz.underlying40 I3.out.1 I3.out.2.1 I3.out.2.2.1 I3.out.2.2.2 rfl (by omega) (X + 1) (.int .i64 (z : Int)) _ _ rfl HP.out.1 rfl rfl (by rw [hll]; omega) hXs ?_; intro v8 w8 k1 k2 k3; have H8 := Lib.hid (And.intro k1 (And.intro k2 k3)); clear k1 k2 k3)
      refine ⟨⟨k + 1, by omega, by go_num, ?_, HP.out.2.1.grown H8.out.2.1 (by have := HP.out.2.1.size; have := H.out.2.2.2.2.2.2.2.2.1; omega) (fun g hg => by have := (HP.out.1.block_lt hg).2; omega), Nat.le_trans hXs H8.out.2.1.size⟩, by simp [intOf]; omega⟩
      have hs : ints (nts (((O i).take (k + 1)).map y.at)) = ints (nts (((O i).take k).map y.at)) ++ [.int .i64 (z : Int)] := by
        rw [List.take_add_one, HP.out.2.2.1]; simp [nts, ints, HP.out.2.2.2]
      rw [hs]; exact H8.out.1
    · obtain rfl : k = L := by omega
      have hk1 : ¬ (k : Int) < k := by omega
      rw [List.take_of_length_le (by rw [H.out.2.2.2.2.2.1]; exact Nat.le_refl _)] at ho
      have hso := sortI_calls (X + 1) u7 (nts ((O i).map y.at)) wr (by rw [nts_len, List.length_map, H.out.2.2.2.2.2.1]; omega) ho
      have hob : ∀ g, u7.ownBlock = some g → X ≤ g := fun g hg => by have := (ho.block_lt hg).2; omega
      have HS := Lib.hid (And.intro hso (And.intro hb hob))
      clear hso hb ho hob
      go_wp2_with (go_at_call 91; (with_reducible refine HS.out.1.mono ?_); rintro e1 w2 ⟨rfl, k1, k2⟩; have H2 := Lib.hid (And.intro k1 k2); clear k1 k2)
      go_ret
      exact ⟨_, rfl, H2.out.1.mono (by have := H.out.2.2.2.2.2.2.2.2.1; omega), HS.out.2.1.grown H2.out.2 (by have := HS.out.2.1.size; have := H.out.2.2.2.2.2.2.2.2.1; omega) HS.out.2.2⟩
set_option maxRecDepth 100000 in
set_option maxHeartbeats 1000000 in
theorem step62 {n ab ao c bb bo e i q : Nat} {y : Pm n} {va : Value} {O : Nat → List Nat} {R : Nat → Nat → Pm n} (hn : n ≤ 64) (hi : i < n) (hl : ∀ p ∈ O i, p < n) (hq : q ∈ O i) {w : World} (h : LvW n w O R ab ao bb bo) (hy : PmV w [] va y) :
    Calls Tryz.prog 61 #[cv n ab ao c bb bo e, va, .int .i64 (i : Int), .int .i64 (y.at q : Int)] w fun e w' => ∃ v, e = .returned v ∧ NewPm w w' v ((R i q).mul y) ∧ Below w.heap.size w w' := by
  obtain ⟨yb, yo, yc, rfl, hyM, hyb, hyc⟩ := id hy
  obtain ⟨vo, ho, hpo⟩ := h.orb i hi
  obtain ⟨vr, hr, hpr⟩ := h.rep i hi
  obtain ⟨X, hX⟩ : ∃ X, w.heap.size = X := ⟨_, rfl⟩
  obtain ⟨z, hz⟩ : ∃ z, y.at q = z := ⟨_, rfl⟩
  have hB0 := BoxW.start w X n ab ao c bb bo e hX
  obtain ⟨W3, hW3⟩ : ∃ W3, W3 = ((w.alloc (.cells #[.int .i64 (n : Int), .slice (some ⟨ab, ao, none⟩) n c, .slice (some ⟨bb, bo, none⟩) n e] 25)).alloc (.cells #[.slice (some ⟨yb, yo, none⟩) n yc] 41)).alloc (.cells #[.int .i64 (z : Int)] 3) := ⟨_, rfl⟩
  have hB3 : BoxW w X n ab ao c bb bo e W3 := by rw [hW3]; exact (hB0.below (alloc_b (Below.refl _ _) _ (by simp; omega))).below (alloc_b (Below.refl _ _) _ (by simp; omega))
  have k1 : W3.cell? ⟨X + 1, 0, none⟩ = some (.slice (some ⟨yb, yo, none⟩) n yc) := by rw [hW3]; exact cell_al_old _ _ (cell_al _ _ _ _ (by simp; omega))
  have k2 : W3.cell? ⟨X + 1 + 1, 0, none⟩ = some (.int .i64 (z : Int)) := by rw [hW3]; exact cell_al _ _ _ _ (by simp; omega)
  have hwW : Below w.heap.size w W3 := by rw [hX]; exact hB3.bel
  have c1 : W3.cell? ⟨ab, ao + i, none⟩ = some vo := (hwW.cell (block_lt_of_cell ho)).trans ho
  have c2 : W3.cell? ⟨bb, bo + i, none⟩ = some vr := (hwW.cell (block_lt_of_cell hr)).trans hr
  obtain ⟨go, oo, oc, rfl, hgl, h64, hcap, hoc⟩ := id hpo
  obtain ⟨gr, ro, rc, rfl, hgrl, hr64, hrcap, hrc⟩ := id hpr
  have hidx := idx108 (p1 := X + 1) (p2 := X + 1 + 1) hl hq (w := W3) (hpo.below hwW) k1 (hy.below hwW) (by rw [hz]; exact k2)
  rw [List.length_map] at c2
  obtain ⟨L, hL⟩ : ∃ L, (O i).length = L := ⟨_, rfl⟩
  rw [hL] at c1 c2 hidx
  rw [hz]
  have H := Lib.hid (And.intro hidx (And.intro hwW (And.intro k1 (And.intro k2 (And.intro hrc (And.intro hgrl (And.intro hL (And.intro hX (And.intro (hy.below hwW) (And.intro hB3 c2))))))))))
  clear hidx hwW hrc hgrl hL hy hB3 h hl hq hpo hpr ho hr hgl h64 hcap hoc hr64 hrcap k1 k2 c2 hyc hyM hB0
  rw [hW3] at c1
  go_enter Tryz.func61, Tryz.ntmps61
  try rw [hX]
  go_wp2_with (go_at_call 92; (try rw [← hW3]); clear c1 hW3; (with_reducible refine H.out.1.mono ?_); rintro e1 w4 ⟨k, rfl, hk, m, rfl⟩)
  obtain ⟨xv, hx1, hx2⟩ := H.out.2.2.2.2.1 k (R i q) (by rw [List.getElem?_map, hk]; rfl)
  have d1 : (W3.drewN m).cell? ⟨X, 2, none⟩ = some (.slice (some ⟨bb, bo, none⟩) n e) := H.out.2.2.2.2.2.2.2.2.2.1.c2
  have d2 : (W3.drewN m).cell? ⟨bb, bo + i, none⟩ = some (.slice (some ⟨gr, ro, none⟩) L rc) := H.out.2.2.2.2.2.2.2.2.2.2
  have d3 : (W3.drewN m).cell? ⟨gr, ro + k, none⟩ = some xv := (H.out.2.1.cell (p := ⟨gr, ro + k, none⟩) H.out.2.2.2.2.2.1).trans hx1
  have d4 : (W3.drewN m).cell? ⟨X + 1, 0, none⟩ = some (.slice (some ⟨yb, yo, none⟩) n yc) := H.out.2.2.1
  have hkL : k < L := by rw [← H.out.2.2.2.2.2.2.1]; exact (List.getElem?_eq_some_iff.1 hk).1
  have hmul := fun (V : World) (hb : Below W3.heap.size W3 V) => mul110 hn (hx2.below (below_trans H.out.2.1 hb)) (H.out.2.2.2.2.2.2.2.2.1.below hb)
  obtain ⟨xb, xo, xc, rfl, _⟩ := id hx2
  obtain ⟨V5, hV5⟩ : ∃ V5, V5 = W3.drewN m := ⟨_, rfl⟩
  have hb5 : Below W3.heap.size W3 V5 := by rw [hV5]; exact below_self_drewN _ _
  rw [← hV5] at d1 d2 d3 d4 ⊢
  have HM := Lib.hid (And.intro hmul hb5)
  clear hmul hb5 hx1 hx2 hk hV5 hX
  go_region_held3 (fun V => V.cell? ⟨X, 2, none⟩ = some (.slice (some ⟨bb, bo, none⟩) n e) ∧ V.cell? ⟨bb, bo + i, none⟩ = some (.slice (some ⟨gr, ro, none⟩) L rc) ∧ V.cell? ⟨gr, ro + k, none⟩ = some (.slice (some ⟨xb, xo, none⟩) n xc) ∧ V.cell? ⟨X + 1, 0, none⟩ = some (.slice (some ⟨yb, yo, none⟩) n yc) ∧ Below W3.heap.size W3 V)
    (first
      | assumption
      | exact ⟨d1, d2, d3, d4, HM.out.2⟩
      | exact ⟨d1, d2, d3, d4, below_drew HM.out.2⟩
      | exact ⟨d1, d2, d3, d4, below_drewN HM.out.2 _⟩
      | exact keep4 (by first | assumption | exact ⟨d1, d2, d3, d4, HM.out.2⟩ | exact ⟨d1, d2, d3, d4, below_drew HM.out.2⟩ | exact ⟨d1, d2, d3, d4, below_drewN HM.out.2 _⟩) (by assumption))
    (first
      | (go_at_call 53; (with_reducible refine (HM.out.1 _ (by first | exact HM.out.2 | exact below_drew HM.out.2 | exact below_drewN HM.out.2 _ | assumption)).mono ?_); rintro e1 w6 ⟨v6, rfl, k1, k2⟩; have H6 := Lib.hid (And.intro k1 k2); clear k1))
  go_wp2_with fail
  go_ret
  exact ⟨_, rfl, H6.out.1.from (by have h1 := H.out.2.1.size; have h2 := HM.out.2.size; show w.heap.size ≤ V5.heap.size; omega), by have h9 := below_trans H.out.2.1 (below_trans (below_drew HM.out.2) H6.out.2); rwa [H.out.2.2.2.2.2.2.2.1] at h9⟩
set_option maxRecDepth 100000 in
set_option maxHeartbeats 1000000 in
theorem least68 {n ab ao c bb bo e : Nat} {G : Pm n → Prop} {O : Nat → List Nat} {R : Nat → Nat → Pm n} (hn0 : 0 < n) (hn : n ≤ 64) (hG : ChG G O R) {y : Pm n} {va : Value} {w : World} (h : LvW n w O R ab ao bb bo) (hy : PmV w [] va y) :
    Calls Tryz.prog 50 #[cv n ab ao c bb bo e, va] w fun e w' => ∃ v, e = .returned v ∧ PmV w' [] v (lstF O R n 0 y) ∧ Below w.heap.size w w' := by
  obtain ⟨X, hX⟩ : ∃ X, w.heap.size = X := ⟨_, rfl⟩
  have hB0 := BoxW.start w X n ab ao c bb bo e hX
  obtain ⟨W2, hW2⟩ : ∃ W2, W2 = (w.alloc (.cells #[.int .i64 (n : Int), .slice (some ⟨ab, ao, none⟩) n c, .slice (some ⟨bb, bo, none⟩) n e] 25)).alloc (.cells #[va] 41) := ⟨_, rfl⟩
  have hB2 : BoxW w X n ab ao c bb bo e W2 := by rw [hW2]; exact hB0.below (alloc_b (Below.refl _ _) _ (by simp; omega))
  have k1 : W2.heap[X + 1]? = some (.cells #[va] 41 (0, 0)) := by
    have := World.alloc_heap_new (w.alloc (.cells #[.int .i64 (n : Int), .slice (some ⟨ab, ao, none⟩) n c, .slice (some ⟨bb, bo, none⟩) n e] 25)) (.cells #[va] 41)
    rw [show (w.alloc (.cells #[.int .i64 (n : Int), .slice (some ⟨ab, ao, none⟩) n c, .slice (some ⟨bb, bo, none⟩) n e] 25)).heap.size = X + 1 by simp; omega] at this
    rw [hW2]; exact this
  have hwW : Below w.heap.size w W2 := by rw [hX]; exact hB2.bel
  have H := Lib.hid (And.intro h (And.intro (hy.below hwW) (And.intro hB2 (And.intro k1 (And.intro hX (And.intro hwW hG))))))
  clear h hy hB2 k1 hwW hG hB0
  obtain ⟨b, o, c', rfl, _⟩ := id H.out.2.1
  go_enter Tryz.func50, Tryz.ntmps50
  try rw [hX]
  go_wp2_with fail
  try rw [← hW2]
  clear hW2
  go_loopw [5, 6, 9] (fun _ _ i wr => ∃ (k : Nat) (va' : Value) (z : Pm n), k ≤ n ∧ i = .int .i64 (k : Int) ∧ BoxW w X n ab ao c bb bo e wr ∧ wr.heap[X + 1]? = some (.cells #[va'] 41 (0, 0)) ∧ PmV wr [] va' z ∧ lstF O R (n - k) k z = lstF O R n 0 y) (fun _ _ i _ => n - (intOf i).toNat)
  case atStart => exact ⟨0, _, y, by omega, rfl, H.out.2.2.1, H.out.2.2.2.1, H.out.2.1, rfl⟩
  case round =>
    obtain ⟨k, va', z, hk, rfl, hb, hc, hz, he⟩ := hrel
    by_cases hkn : k < n
    · have hwr : Below w.heap.size w wr := by rw [hX]; exact hb.bel
      obtain ⟨vo, ho, hpo⟩ := (H.out.1.below hwr).orb k hkn
      have hbm := H.out.2.2.2.2.2.2.best_mem hkn z
      have hpos := H.out.2.2.2.2.2.2.pos hkn
      have hlt := H.out.2.2.2.2.2.2.lt k hkn
      have x0 := hb.c0
      have x1 := hb.c1
      have x2 := hb.c2
      have y1 : wr.cell? ⟨X + 1, 0, none⟩ = some va' := by simp [World.cell?, hc]
      have hlow := low113 (p1 := X + 1) hlt hpos hpo y1 hz
      obtain ⟨q, hq⟩ : ∃ q, best z (O k) ((O k).headD 0) = q := ⟨_, rfl⟩
      rw [hq] at hlow hbm
      have hqn := hlt q hbm
      have hst := fun (V : World) (hv : Below wr.heap.size wr V) => (step62 (c := c) (e := e) hn hkn hlt hbm (H.out.1.below (below_trans hwr hv)) (hz.below hv)).mono (fun e1 w6 h6 => (show ∃ v, e1 = .returned v ∧ PmV w6 [] v ((R k q).mul z) ∧ Below wr.heap.size wr w6 ∧ w6.heap[X + 1]? = some (.cells #[va'] 41 (0, 0)) from by
        obtain ⟨v, h1, h2, h3⟩ := h6
        have h4 := below_trans hv h3
        exact ⟨v, h1, h2.pm (by simp), h4, (h4.block (X + 1) (Array.getElem?_eq_some_iff.1 hc).1).trans hc⟩))
      have hnx : lstF O R (n - (k + 1)) (k + 1) ((R k q).mul z) = lstF O R n 0 y := by
        rw [← he, show n - k = n - (k + 1) + 1 by omega, lstF, hq]
      obtain ⟨zb, zo, zc, rfl, _, hzb, hzc⟩ := id hz
      have y2 := hzc q hqn
      obtain ⟨gg, og, cg, rfl, _⟩ := id hpo
      obtain ⟨L, hL⟩ : ∃ L, (O k).length = L := ⟨_, rfl⟩
      rw [hL] at hlow ho
      have HC := Lib.hid (And.intro hlow (And.intro hst (And.intro hnx (And.intro hb (And.intro hc hwr)))))
      have hk1 : (k : Int) < n := by omega
      clear hlow hst hnx hb hc hwr hpo hbm hpos hlt hz hzc he hq hL
      go_wp2_with (go_at_call 86; (with_reducible refine HC.out.1.mono ?_); rintro e1 w4 ⟨rfl, rfl⟩)
      go_region_with (first
        | (go_at_call 61; (with_reducible refine (HC.out.2.1 _ (by first | exact Below.refl _ _ | exact below_drew (Below.refl _ _) | exact below_self_drewN _ _)).mono ?_); rintro e1 w6 ⟨v6, rfl, k1, k2, g6⟩; obtain ⟨sb, so, sc, rfl, _⟩ := id k1; obtain ⟨g7, g8⟩ := bx1 g6; have H6 := Lib.hid (And.intro k1 (And.intro k2 g6)); clear k1 k2 g6))
      all_goals
        go_wp2_with fail
        refine ⟨⟨k + 1, _, _, by omega, by go_num, ?_, heap_setCell_box_a _ H6.out.2.2, pm_box hn0 H6.out.1 H6.out.2.2, HC.out.2.2.1⟩, by simp [intOf]; omega⟩
        have h1 := HC.out.2.2.2.1.lt
        exact HC.out.2.2.2.1.below ((H6.out.2.1.mono h1).setCell (p := ⟨X + 1, 0, none⟩) (Nat.le_refl _) _)
    · obtain rfl : k = n := by omega
      have hk1 : ¬ (k : Int) < k := by omega
      have y1 : wr.cell? ⟨X + 1, 0, none⟩ = some va' := by simp [World.cell?, hc]
      have HC := Lib.hid (And.intro hz (And.intro hb he))
      clear hz hb he hc
      go_wp2_with fail
      go_ret
      have he := HC.out.2.2
      rw [Nat.sub_self] at he
      exact ⟨_, rfl, by rw [← he]; exact HC.out.1, HC.out.2.1.bel⟩
end Go.Proofs.YtbejhkojdiadaaaGreatDoor
namespace Go.Proofs.YtbejhkojdiadaaaGreatDoor
open Go.RowKit PlainPm
set_option maxRecDepth 100000 in
set_option maxHeartbeats 4000000 in
theorem least_calls {n B t G i : Nat} {w : World} {M : List Nat} {T : Tw n} {F : Nat → Value} {x : Pm n} {vx : Value} (hT : TowW n B t G w M T F) (hw : Wf T) (hx : PmV w M vx x) (hi : i < n) :
    Calls Tryz.prog 113 #[.pointer (some ⟨t, 0, none⟩), vx, .int .i64 (i : Int)] w fun e w' => ∃ v, e = .returned v ∧ PmV w' M v (leastT T (n - (i + 1)) (i + 1) x) ∧ Below w.heap.size w w' := by
  have hn := hT.hn.2
  have H := Lib.hid (And.intro hT (And.intro hw hx))
  clear hT hw hx
  go_enter Tryz.func113, Tryz.ntmps113
  go_wp2_with fail
  go_loopw [1, 7] (fun v i' wr => ∃ (k : Nat) (x' : Pm n), k ≤ n ∧ i' = .int .i64 (k : Int) ∧ PmV wr M v x' ∧ Below w.heap.size w wr ∧ leastT T (n - (i + 1)) (i + 1) x = leastT T (n - k) k x') (fun _ i' _ => n - (intOf i').toNat)
  case atStart => exact ⟨i + 1, x, hi, by go_num, H.out.2.2, Below.refl _ _, rfl⟩
  case round =>
    obtain ⟨k, x', hk, rfl, hx', hb, hs⟩ := hrel
    have hT' := H.out.1.below hb
    have t0 := hT'.tb
    have t1 := hT'.tl
    by_cases hkn : k < n
    · have o1 := hT'.orb_ hkn
      have g1 := hT'.cell (c := 1) hkn (by omega)
      have hol := orb_le H.out.2.1 hkn
      obtain ⟨ov, hov⟩ : ∃ ov, F (194 * k + 1) = ov := ⟨_, rfl⟩
      rw [hov] at o1 g1
      rw [show 194 * k + 1 = k * 194 + 1 by omega] at g1
      obtain ⟨oa, oc, hoe, hor⟩ := o1.row (by rw [ints_len, nts_len]; unfold maxLen; omega)
      rw [ints_len, nts_len] at hoe
      obtain ⟨L, hL⟩ : ∃ L, (T k).orb.length = L := ⟨_, rfl⟩
      rw [hL] at hoe hol
      subst hoe
      have hoi : Ints wr oa (nts (T k).orb) := hor
      obtain ⟨bx, ox, cx, rfl, hxm, hxl, hxc⟩ := id hx'
      have HP := Lib.hid (And.intro hT' (And.intro hx' (And.intro hb (And.intro hs (And.intro hL (And.intro hoi hxc))))))
      clear hT' hx' hb hs hL hov o1 hor hoi hxc hxm
      have hk1 : (k : Int) < n := by omega
      go_wp2_with fail
      go_loopw [8, 31] (fun b j wi => ∃ (bb jj q : Nat), jj ≤ L ∧ j = .int .i64 (jj : Int) ∧ b = .int .i64 (bb : Int) ∧ bb < n ∧ bb = best x' ((T k).orb.take jj) k ∧ wi = wr.drewN q) (fun _ j _ => L - (intOf j).toNat)
      case atStart => exact ⟨k, 0, 0, by omega, rfl, rfl, hkn, by rw [List.take_zero]; rfl, rfl⟩
      case round =>
        obtain ⟨bb, jj, qq, hjj, rfl, rfl, hbn, hbb, rfl⟩ := hrel
        have HB := Lib.hid hbb
        clear hbb
        by_cases hjl : jj < L
        · obtain ⟨p, hp⟩ : ∃ p, (T k).orb[jj]? = some p := ⟨_, List.getElem?_eq_getElem (by rw [HP.out.2.2.2.2.1]; exact hjl)⟩
          have hpn : p < n := by
            have w1 := H.out.2.1 k hkn
            obtain ⟨z, hz⟩ := Option.isSome_iff_exists.1 ((w1.orb p).1 (List.mem_of_getElem? hp))
            exact (w1.img p z hz).1
          obtain ⟨ob, oo, hoa, _, oce⟩ := HP.out.2.2.2.2.2.1.at_ (k := jj) (by rw [nts_len, HP.out.2.2.2.2.1]; exact hjl)
          subst hoa
          rw [nts_get (by rw [HP.out.2.2.2.2.1]; exact hjl), hp, Option.getD_some] at oce
          have cp := HP.out.2.2.2.2.2.2 p hpn
          have cb := HP.out.2.2.2.2.2.2 bb hbn
          obtain ⟨r1, hr1⟩ : ∃ r, x'.at p = r := ⟨_, rfl⟩
          obtain ⟨r2, hr2⟩ : ∃ r, x'.at bb = r := ⟨_, rfl⟩
          rw [hr1] at cp
          rw [hr2] at cb
          have hst : best x' ((T k).orb.take (jj + 1)) k = if r1 < r2 then p else bb := by
            rw [List.take_add_one, hp, Option.toList_some, best_snoc, ← HB.out, hr1, hr2]
          have HQ := Lib.hid hst
          clear hst hr1 hr2 hp
          have hp1 : (p : Int) < n := by omega
          have hb1 : (bb : Int) < n := by omega
          have hj1 : (jj : Int) < L := by omega
          by_cases hlt : r1 < r2
          · go_wp2_with fail
            go_quiet (fail)
            go_wp2_with fail
            exact ⟨⟨p, jj + 1, qq + nq, by omega, by go_num, rfl, hpn, by rw [HQ.out, if_pos hlt], rfl⟩, by simp [intOf]; omega⟩
          · go_wp2_with fail
            go_quiet (fail)
            go_wp2_with fail
            exact ⟨⟨bb, jj + 1, qq + nq, by omega, by go_num, rfl, hbn, by rw [HQ.out, if_neg hlt], rfl⟩, by simp [intOf]; omega⟩
        · have hjL : jj = L := by omega
          have hbe : bb = best x' (T k).orb k := by
            rw [HB.out, List.take_of_length_le (by rw [HP.out.2.2.2.2.1]; omega)]
          have hls : leastT T (n - k) k x' = leastT T (n - (k + 1)) (k + 1) (if bb = k then x' else (((T k).to bb).getD (PlainPm.one n)).mul x') := by
            rw [hbe, show n - k = n - (k + 1) + 1 by omega]; rfl
          have hno : ((T k).to bb).isSome = true := by
            obtain ⟨y, h1, _⟩ := least_next H.out.2.1 hkn x'
            rw [hbe, h1]; rfl
          obtain ⟨y, hy⟩ := Option.isSome_iff_exists.1 hno
          rw [hy, Option.getD_some] at hls
          have HL := Lib.hid hls
          clear hls hno hbe
          by_cases hbk : bb = k
          · have hne : ((bb : Int) != (k : Int)) = false := by simp [hbk]
            have hbk' := Lib.hid hbk
            clear hbk
            go_wp2_with fail
            refine ⟨⟨k + 1, x', by omega, by go_num, HP.out.2.1.drewN _, below_drewN HP.out.2.2.1 _, ?_⟩, by simp [intOf]; omega⟩
            rw [HP.out.2.2.2.1, HL.out, if_pos hbk'.out]
          · have hne : ((bb : Int) != (k : Int)) = true := by simp; omega
            have hto := HP.out.1.to_ hkn (p := bb) (by omega)
            have hct := HP.out.1.cell hkn (c := 2 + bb) (by omega)
            rw [hy] at hto
            obtain ⟨f, hf⟩ : ∃ f, F (194 * k + (2 + bb)) = f := ⟨_, rfl⟩
            rw [hf] at hto hct
            rw [show 194 * k + (2 + bb) = k * 194 + 2 + bb by omega] at hct
            have hto : PmV wr M f y := hto
            obtain ⟨fb, fo, fc, rfl⟩ := hto.form
            have HT := Lib.hid (And.intro hto hbk)
            clear hto hf hy hbk
            have hb64 : (bb : Int) < 64 := by omega
            go_wp2_with (go_at_call 138; refine (mul161 hn (HT.out.1.weak.drewN qq) (HP.out.2.1.weak.drewN qq)).mono ?_; rintro e w4 ⟨v4, rfl, k4, k5⟩; have HM := Lib.hid (And.intro k4 k5); clear k4 k5)
            refine ⟨⟨k + 1, y.mul x', by omega, by go_num, ?_, ?_, ?_⟩, by simp [intOf]; omega⟩
            · exact HM.out.1.pm fun m hm => (HP.out.1.mb m hm).2
            · exact below_trans (below_drewN HP.out.2.2.1 qq) HM.out.2
            · rw [HP.out.2.2.2.1, HL.out, if_neg HT.out.2]
    · obtain rfl : k = n := by omega
      have HP := Lib.hid (And.intro hT' (And.intro hx' (And.intro hb hs)))
      clear hT' hx' hb hs
      go_wp2_with fail
      go_ret
      rw [HP.out.2.2.2, Nat.sub_self]
      exact ⟨_, rfl, HP.out.2.1, HP.out.2.2.1⟩
end Go.Proofs.YtbejhkojdiadaaaGreatDoor
