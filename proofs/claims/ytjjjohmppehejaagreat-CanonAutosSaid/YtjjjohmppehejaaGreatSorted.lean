/- The library's Values: an iterator over the points of a list. · slices.AppendSeq of Values: a copy of the list. · The library's sorting functions at this program's numbers: what the shelf's laying command writes, as plain text. · slices.Sorted of Values: the list in order. -/
import Derived.Test.YtjjjohmppehejaaGreatLabs
import Derived.Test.YtjjjohmppehejaaGreatProg
import Derived.Test.YtjjjohmppehejaaGreatSortA
import Derived.Shelf.SlIter.Collect
import Derived.Shelf.Sort.Plain
set_option linter.unusedSimpArgs false
set_option linter.unusedVariables false
namespace Go.Proofs.YtjjjohmppehejaaGreat
open Go.RowKit Go.Shelf Plain

attribute [local go_sem] Oper.semAt_some

set_option maxRecDepth 100000 in
set_option maxHeartbeats 2000000 in
/-- The iterator's closure: for every body that keeps what lay below n0. -/
theorem values1_in (F : Fence) (nn : Nat) (hfn : F.fn 85) (hro : F.round = none) (hn1 : 1 ≤ nn) (lp Bs n0 : Nat) (a : Option Addr) (c : Nat) (l : List Int)
    (J Jx : List Int → World → Prop)
    (hY : ∀ pre x W, J pre W → pre.length < l.length → YieldAt F (nn - 1) Tryz.prog lp #[.int .i64 x] W fun e W' =>
      (e = .returned (.bool true) ∧ J (pre ++ [x]) W' ∧ Below n0 W W') ∨ (e = .returned (.bool false) ∧ Jx (pre ++ [x]) W'))
    (W w : World) (hBs : W.cell? ⟨Bs, 0, none⟩ = some (.slice a l.length c)) (hl : Ints w a l) (hw0 : w.heap.size = n0) (hWw : Below n0 w W) (h0 : J [] W) :
    CallsIn F nn Tryz.prog 85 #[.func (.yield lp) #[] #[], .pointer (some ⟨Bs, 0, none⟩)] W fun e W' => (∃ v, e = .returned v) ∧
      (J l W' ∨ (∃ pre, Jx pre W')) := by
  have hlen := hl.len
  have H0 := Lib.hid (And.intro hl (And.intro hw0 hWw))
  clear hl hw0 hWw
  obtain ⟨m, hm⟩ : ∃ m, m = l.length := ⟨_, rfl⟩
  rw [← hm] at hBs hlen
  have Hm := Lib.hid hm
  clear hm
  refine callsIn_of_wp Tryz.func85 rfl hfn ?_ hro
  simp only [Tryz.ntmps85, List.size_toArray, List.length_cons, List.length_nil, Nat.reduceAdd, Nat.reduceSub, Array.replicate_succ, Array.replicate_zero, List.push_toArray, List.append_toArray, List.nil_append, List.cons_append]
  gi_wp2
  gi_loopw [7] (fun i wr => ∃ k : Nat, k ≤ m ∧ i = .int .i64 k ∧ J (l.take k) wr ∧ Below n0 W wr) (fun i _ => m - (intOf i).toNat)
  case atStart => exact ⟨0, Nat.zero_le _, rfl, by simpa using h0, Below.refl _ _⟩
  case round =>
    obtain ⟨k, hk, rfl, hJs, hnx⟩ := hrel
    by_cases hlt : k < m
    · obtain ⟨g, o, rfl, hg, hc1⟩ := H0.out.1.at_ (k := k) (by rw [← Hm.out]; exact hlt)
      have hcx : wr.cell? ⟨g, o + k, none⟩ = some (.int .i64 (l[k]?.getD 0)) := by
        rw [(H0.out.2.2.trans hnx).cell (by rw [← H0.out.2.1]; exact hg)]; exact hc1
      have hkl : k < l.length := by rw [← Hm.out]; exact hlt
      have hnext : l.take (k + 1) = l.take k ++ [l[k]?.getD 0] := by
        rw [List.take_add_one, List.getElem?_eq_getElem hkl]; rfl
      obtain ⟨fn, tmps, assign, body, hy, hR⟩ := hY _ (l[k]?.getD 0) wr hJs (by rw [List.length_take]; omega)
      obtain ⟨x, hx⟩ : ∃ x, l[k]?.getD 0 = x := ⟨_, rfl⟩
      rw [hx] at hcx hy hR hnext
      have Hx := Lib.hid (And.intro hx (And.intro hnext hnx))
      clear hx hnext hnx hc1 h0 hkl hJs
      gi_wp2
      refine hR.mono ?_
      rintro e W3 (⟨rfl, hJ3, hk3⟩ | ⟨rfl, hJx3⟩)
      · have H3 := Lib.hid (And.intro hJ3 hk3)
        clear hJ3 hk3
        gi_wp2
        go_roundw
        case rel => exact ⟨k + 1, by omega, by go_num, by rw [Hx.out.2.1]; exact H3.out.1, Hx.out.2.2.trans H3.out.2⟩
        case measure => simp [intOf]; omega
      · have H3 := Lib.hid hJx3
        clear hJx3
        gi_wp2
        refine bodyPost_ret (results_none rfl _ _ _) rfl ?_
        exact ⟨⟨_, rfl⟩, .inr ⟨_, H3.out⟩⟩
    · have HJ := Lib.hid hJs
      clear hJs
      gi_wp2
      go_end0
      refine ⟨⟨_, rfl⟩, .inl ?_⟩
      have := HJ.out
      rwa [List.take_of_length_le (by rw [← Hm.out]; omega)] at this

set_option maxHeartbeats 1000000 in
theorem values_in (F : Fence) (nn : Nat) (h77 : F.fn 73) (hro : F.round = none) (a : Option Addr) (len cap : Nat) (w : World) :
    CallsIn F nn Tryz.prog 73 #[.slice a len cap] w fun e w' => e = .returned (.func (.func 85) #[] #[.pointer (some ⟨w.heap.size, 0, none⟩)]) ∧ w' = w.alloc (.cells #[.slice a len cap] 40) := by
  refine callsIn_of_wp Tryz.func73 rfl h77 ?_ hro
  simp only [Tryz.ntmps73, List.size_toArray, List.length_cons, List.length_nil, Nat.reduceAdd, Nat.reduceSub, Array.replicate_succ, Array.replicate_zero, List.push_toArray, List.append_toArray, List.nil_append, List.cons_append]
  gi_wp2
  go_ret
  exact ⟨rfl, rfl⟩

theorem values_stops (F : Fence) (nn : Nat) (hfn : F.fn 85) (hro : F.round = none) (hn1 : 1 ≤ nn) (Bs n0 : Nat) (a : Option Addr) (c : Nat) (l : List Int) (w0 w : World)
    (hBs : w.cell? ⟨Bs, 0, none⟩ = some (.slice a l.length c)) (hl : Ints w0 a l) (hw0 : w0.heap.size = n0) (hb : Below n0 w0 w) :
    SeqStopsK F nn Tryz.prog 85 #[.pointer (some ⟨Bs, 0, none⟩)] (fun x : Int => #[Value.int .i64 x]) (Below n0) (fun ys => ys = l) (fun _ => True) l.length w := fun lp J Jx W hW _ _ hY h0 => by
  have hlt := block_lt_of_cell hBs
  have hc' := (hW.cell (p := ⟨Bs, 0, none⟩) hlt).trans hBs
  refine (values1_in F nn hfn hro hn1 lp Bs n0 a c l J Jx hY W w0 hc' hl hw0 (hb.trans (hW.mono (by have := hb.size; omega))) h0).mono ?_
  rintro e W' ⟨he, hj | ⟨pre, hj⟩⟩
  · exact ⟨he, .inl ⟨_, rfl, hj⟩⟩
  · exact ⟨he, .inr ⟨_, trivial, hj⟩⟩
end Go.Proofs.YtjjjohmppehejaaGreat

namespace Go.Proofs.YtjjjohmppehejaaGreat
open Go.RowKit Go.Shelf Plain

attribute [local go_sem] Oper.semAt_some

set_option maxRecDepth 100000 in
set_option maxHeartbeats 2000000 in
theorem appendSeq_in (F : Fence) (nn : Nat) (h108 : F.fn 103) (h95 : F.fn 85) (hro : F.round = none) (hnn : 3 ≤ nn) (Bs : Nat) (a : Option Addr) (c : Nat) (l : List Int) (w : World) (hl : Ints w a l) (hln : l.length ≤ 1000000)
    (hBs : w.cell? ⟨Bs, 0, none⟩ = some (.slice a l.length c)) :
    CallsIn F nn Tryz.prog 103 #[.slice none 0 0, .func (.func 85) #[] #[.pointer (some ⟨Bs, 0, none⟩)]] w fun e w' => ∃ v, e = .returned v ∧ Own w' w.heap.size v 3 (ints l) ∧ Below w.heap.size w w' := by
  have H0 := Lib.hid (And.intro hl hBs)
  clear hl hBs
  obtain ⟨i3, hi3, hz3, hs3, hb3⟩ := info_parts Tryz.info3
  have I3 := Lib.hid (And.intro hi3 (And.intro hz3 (And.intro hs3 hb3)))
  clear hi3 hz3 hs3 hb3
  have hn1 : 1 ≤ nn := by omega
  refine callsIn_of_wp_marks Tryz.func103 rfl h108 ?_ hro
  simp only [Tryz.ntmps103, List.size_toArray, List.length_cons, List.length_nil, Nat.reduceAdd, Nat.reduceSub, Array.replicate_succ, Array.replicate_zero, List.push_toArray, List.append_toArray, List.nil_append, List.cons_append]
  gi_wp2
  obtain ⟨b0, hb0⟩ : ∃ b0, b0 = w.heap.size := ⟨_, rfl⟩
  rw [← hb0]
  obtain ⟨W0, hW0⟩ : ∃ W0, W0 = w.alloc (.cells #[.slice none 0 0] 23) := ⟨_, rfl⟩
  rw [← hW0]
  have hsz : W0.heap.size = b0 + 1 := by rw [hW0, hb0]; simp
  have hB0 : Below b0 w W0 := by rw [hW0, hb0]; exact (Below.refl _ w).alloc (Nat.le_refl _) _
  have hbx : W0.heap[b0]? = some (.cells #[.slice none 0 0] 23 (0, 0)) := by rw [hW0, hb0]; exact World.alloc_heap_new w _
  have hBl := block_lt_of_cell H0.out.2
  have hBs : W0.cell? ⟨Bs, 0, none⟩ = some (.slice a l.length c) := (hB0.cell (by rw [hb0]; exact hBl)).trans H0.out.2
  have HW := Lib.hid (And.intro hB0 (And.intro hbx (And.intro hBs (And.intro hsz hb0))))
  clear hB0 hbx hBs hsz hBl hb0 hW0
  refine wpIn_rangeFunc_ownF hro hn1 (gf := 85) (lb := #[.pointer (some ⟨Bs, 0, none⟩)]) rfl h95 (enters_of Tryz.func85 (by kernel_rfl) rfl)
    (values_stops F (nn - 1) h95 hro (by omega) Bs b0 a c l w W0 HW.out.2.2.1 H0.out.1 HW.out.2.2.2.2.symm HW.out.1) belowK_t (belowK_b (by have := HW.out.2.2.2.1; omega)) (Below.refl _ _) (fun _ => rfl)
    (fun pre W => (∃ v, W.heap[b0]? = some (.cells #[v] 23 (0, 0)) ∧ Own W (b0 + 1) v 3 (ints pre)) ∧ Below b0 w W)
    (fun _ _ _ => False)
    (OwnFrom.and (Own.from (fun s A B row hs hg hr => by
        obtain ⟨v, h1, h2⟩ := hs
        refine ⟨v, ?_, h2.cellsKept hg hr⟩
        rw [hg.block b0 (Array.getElem?_eq_some_iff.1 h1).1 (fun e => by obtain ⟨o, ho, hc⟩ := hr b0 e.symm; rw [h1] at ho; cases ho; cases hc)]; exact h1) _) (ownFrom_below (by rw [HW.out.2.2.2.2]; exact Nat.le_refl _) (by have := HW.out.2.2.2.1; omega)))
    (fun _ _ _ _ _ hs _ _ => hs)
    ⟨⟨_, HW.out.2.1, ⟨rfl, .inl ⟨rfl, rfl⟩⟩⟩, HW.out.1⟩
    (fun x => { tmps := #[.slice none 0 0, .func (.func 85) #[] #[.pointer (some ⟨Bs, 0, none⟩)], .pointer (some ⟨b0, 0, none⟩), undef, .slice none 0 0, .int .i64 x, .func (.func 85) #[] #[.pointer (some ⟨Bs, 0, none⟩)], .int .i64 x, undef, undef, undef, undef, undef], defers := [] }) ?assign ?body ?done ?stop
  case assign =>
    intro l x W K hK
    gi_wp2
    exact hK
  case body =>
    rintro l' pre x W ⟨⟨v, hv, ho⟩, hB⟩ hlen
    obtain ⟨hc2, hf2⟩ := cell_of_box_a hv
    have H := Lib.hid (And.intro hv (And.intro ho hB))
    have hlt : b0 < W.heap.size := (Array.getElem?_eq_some_iff.1 hv).1
    clear hv ho hB
    gi_wp2_with
      (gi_at_builtin; refine wpListIn_append_own _ rfl _ _ 23 rfl (b0 + 1) 3 i3 (.int .i64 0) 1 8 Tryz.underlying23 I3.out.1 I3.out.2.1 I3.out.2.2.1 I3.out.2.2.2 rfl (by decide) v (ints pre).length (ints pre) rfl (H.out.2.1.alloc _) ⟨W.heap.size, 0, none⟩ 1 1 [.int .i64 x] rfl rfl (cell_one_new _ _ _) (by simp [Value.oneCell']) (by rw [ints_len]; unfold maxLen; omega) (by rw [ints_len]; omega) (by simp; omega) ?_; intro v' w3 hown' hg3 hnil3; clear hnil3
       have hne : some b0 ≠ v.ownBlock := by
         rcases H.out.2.1.blk with e | ⟨g9, _, e, hB9, _⟩
         · rw [e]; simp
         · rw [e]; intro h; cases h; omega
       have hv3 : w3.heap[b0]? = some (.cells #[v] 23 (0, 0)) := (hg3.block b0 (by simp; omega) hne).trans ((Below.heap_alloc _ _ b0 hlt).trans H.out.1)
       obtain ⟨hc3, hf3⟩ := cell_of_box_a hv3
       obtain ⟨g', cap', rfl⟩ : ∃ g' cap', v' = .slice (some ⟨g', 0, none⟩) ((ints pre).length + 1) cap' := by
         rcases hown'.2 with ⟨_, h0⟩ | ⟨g, cap, cur, h, _⟩
         · exact absurd h0 (by omega)
         · exact ⟨g, cap, h⟩
       have H3 := Lib.hid (And.intro hown' (And.intro hg3 hv3))
       clear hown' hg3 hv3 hne
       go_frame)
    have hblk := H.out.2.1.blk
    have hge : ∀ k, v.ownBlock = some k → b0 ≤ k := fun k e => by
      rcases hblk with e2 | ⟨g9, _, e2, hB9, _⟩
      · rw [e2] at e; cases e
      · rw [e2] at e; cases e; omega
    have hko : KeepsOthers W (w3.setCell ⟨b0, 0, none⟩ (.slice (some ⟨g', 0, none⟩) ((ints pre).length + 1) cap')) :=
      (KeepsOthers.alloc W _).trans ((KeepsOthers.of_grownBy H3.out.2.1 (fun k o e ho => by
        rcases (H.out.2.1.alloc (.cells #[.int .i64 x] 3)).blk with e2 | ⟨g9, cur, e2, _, _, hh⟩
        · rw [e2] at e; cases e
        · rw [e2] at e; cases e; rw [hh] at ho; cases ho; rfl)).trans (KeepsOthers.setCell _ _ _))
    have hbW : Below b0 W (w3.setCell ⟨b0, 0, none⟩ (.slice (some ⟨g', 0, none⟩) ((ints pre).length + 1) cap')) :=
      ((((Below.refl b0 W).alloc (by omega) _).grown H3.out.2.1 (by simp; omega) hge)).setCell (p := ⟨b0, 0, none⟩) (Nat.le_refl _) _
    have how : Own w3 (b0 + 1) (.slice (some ⟨g', 0, none⟩) ((ints pre).length + 1) cap') 3 (ints (pre ++ [x])) := by
      have h := H3.out.1
      have e : ints (pre ++ [x]) = ints pre ++ [.int .i64 x] := by simp [ints]
      rw [e]
      unfold Own
      rw [List.length_append]
      exact h
    refine ⟨hko, hbW, ⟨⟨_, heap_setCell_box_a _ H3.out.2.2, how.kept (grownBy_setCell0_a _ _ _) ?_⟩, H.out.2.2.trans hbW⟩⟩
    rcases how.blk with e | ⟨g9, _, e, hB9, _⟩
    · exact .inl e
    · right; rw [e]; intro h; cases h; omega
  case done =>
    rintro D ys W hD rfl ⟨⟨v, hv, ho⟩, hB⟩ hK
    obtain ⟨hc2, hf2⟩ := cell_of_box_a hv
    have H := Lib.hid (And.intro ho hB)
    clear ho hB hv
    gi_wp2
    refine ⟨by simp, .inl ⟨_, _, rfl, run_takeDeferred hK, ?_⟩⟩
    refine ⟨_, results_tmp rfl _ _ _, ⟨_, rfl, ?_, ?_⟩⟩
    · rw [← HW.out.2.2.2.2]
      exact (H.out.1.cellsKept (grownBy_putObj' W D (.deferred none)) (fun r e => by cases e; exact ⟨_, hK, rfl⟩)).mono (by omega)
    · rw [← HW.out.2.2.2.2]
      exact H.out.2.trans (belowK_b (w := W0) (by have := HW.out.2.2.2.1; omega) W D _ _ hD hK rfl rfl)
  case stop =>
    rintro D c pre W _ _ h _
    exact h.elim

theorem values_calls (a : Option Addr) (len cap : Nat) (w : World) :
    Calls Tryz.prog 73 #[.slice a len cap] w fun e w' => e = .returned (.func (.func 85) #[] #[.pointer (some ⟨w.heap.size, 0, none⟩)]) ∧ w' = w.alloc (.cells #[.slice a len cap] 40) :=
  (callsIn_wide (n := 3)).1 (values_in Fence.wide 3 trivial rfl a len cap w)
theorem appendSeq_calls (Bs : Nat) (a : Option Addr) (c : Nat) (l : List Int) (w : World) (hl : Ints w a l) (hln : l.length ≤ 1000000) (hBs : w.cell? ⟨Bs, 0, none⟩ = some (.slice a l.length c)) :
    Calls Tryz.prog 103 #[.slice none 0 0, .func (.func 85) #[] #[.pointer (some ⟨Bs, 0, none⟩)]] w fun e w' => ∃ v, e = .returned v ∧ Own w' w.heap.size v 3 (ints l) ∧ Below w.heap.size w w' :=
  (callsIn_wide (n := 3)).1 (appendSeq_in Fence.wide 3 trivial trivial rfl (by omega) Bs a c l w hl hln hBs)
theorem collectV_calls (Bs : Nat) (a : Option Addr) (c : Nat) (l : List Int) (w : World) (hl : Ints w a l) (hln : l.length ≤ 1000000) (hBs : w.cell? ⟨Bs, 0, none⟩ = some (.slice a l.length c)) :
    Calls Tryz.prog 83 #[.func (.func 85) #[] #[.pointer (some ⟨Bs, 0, none⟩)]] w fun e w' => ∃ v, e = .returned v ∧ Own w' w.heap.size v 3 (ints l) ∧ Below w.heap.size w w' := by
  have H := Lib.hid (appendSeq_calls Bs a c l w hl hln hBs)
  clear hl hBs
  go_enter Tryz.func83, Tryz.ntmps83
  go_wp2_with fail
  refine H.out.mono ?_
  rintro e w1 ⟨v, rfl, h⟩
  have H1 := Lib.hid h
  clear h
  go_wp2
  go_ret
  exact ⟨v, rfl, H1.out⟩
end Go.Proofs.YtjjjohmppehejaaGreat

namespace Go.Proofs
open Go.Shelf
def Tryz.lays189_ren : Go.Shelf.Ren := ⟨fun | 189 => 84 | 125 => 105 | 257 => 104 | 128 => 123 | 129 => 124 | 294 => 114 | 295 => 115 | 296 => 116 | 297 => 117 | 298 => 118 | 299 => 119 | 216 => 120 | 300 => 121 | 301 => 122 | 328 => 145 | 329 => 146 | 330 => 147 | 331 => 148 | 332 => 149 | 215 => 80 | 343 => 165 | n => n, fun | 28 => 23 | 3 => 3 | 46 => 134 | 0 => 0 | 51 => 153 | 53 => 155 | 4 => 4 | 183 => 146 | 182 => 145 | 131 => 150 | 5 => 5 | 9 => 9 | 218 => 169 | 222 => 173 | 228 => 184 | 229 => 185 | n => n, fun | n => n⟩
theorem Tryz.lays189 : Go.Proofs.Lays.n189 Tryz.prog Tryz.lays189_ren :=
  {
    mixed := by kernel_rfl,
    f125 := Tryz.func105.trans (congrArg some (by kernel_rfl)),
    f128 := Tryz.func123.trans (congrArg some (by kernel_rfl)),
    f129 := Tryz.func124.trans (congrArg some (by kernel_rfl)),
    f189 := Tryz.func84.trans (congrArg some (by kernel_rfl)),
    f215 := Tryz.func80.trans (congrArg some (by kernel_rfl)),
    f216 := Tryz.func120.trans (congrArg some (by kernel_rfl)),
    f257 := Tryz.func104.trans (congrArg some (by kernel_rfl)),
    f294 := Tryz.func114.trans (congrArg some (by kernel_rfl)),
    f295 := Tryz.func115.trans (congrArg some (by kernel_rfl)),
    f296 := Tryz.func116.trans (congrArg some (by kernel_rfl)),
    f297 := Tryz.func117.trans (congrArg some (by kernel_rfl)),
    f298 := Tryz.func118.trans (congrArg some (by kernel_rfl)),
    f299 := Tryz.func119.trans (congrArg some (by kernel_rfl)),
    f300 := Tryz.func121.trans (congrArg some (by kernel_rfl)),
    f301 := Tryz.func122.trans (congrArg some (by kernel_rfl)),
    f328 := Tryz.func145.trans (congrArg some (by kernel_rfl)),
    f329 := Tryz.func146.trans (congrArg some (by kernel_rfl)),
    f330 := Tryz.func147.trans (congrArg some (by kernel_rfl)),
    f331 := Tryz.func148.trans (congrArg some (by kernel_rfl)),
    f332 := Tryz.func149.trans (congrArg some (by kernel_rfl)),
    f343 := Tryz.func165.trans (congrArg some (by kernel_rfl)),
    t0 := Tryz.underlying0,
    a0 := Tryz.isAgg0,
    z0 := Tryz.sizeOf0,
    v0 := Tryz.zeroValue0,
    t3 := Tryz.underlying3,
    a3 := Tryz.isAgg3,
    z3 := Tryz.sizeOf3,
    v3 := Tryz.zeroValue3,
    t4 := Tryz.underlying4,
    a4 := Tryz.isAgg4,
    z4 := Tryz.sizeOf4,
    v4 := Tryz.zeroValue4,
    t5 := Tryz.underlying5,
    a5 := Tryz.isAgg5,
    z5 := Tryz.sizeOf5,
    v5 := Tryz.zeroValue5,
    t9 := Tryz.underlying9,
    a9 := Tryz.isAgg9,
    z9 := Tryz.sizeOf9,
    v9 := Tryz.zeroValue9,
    t28 := Tryz.underlying23,
    a28 := Tryz.isAgg23,
    z28 := Tryz.sizeOf23,
    v28 := Tryz.zeroValue23,
    t46 := Tryz.underlying134,
    a46 := Tryz.isAgg134,
    z46 := Tryz.sizeOf134,
    v46 := Tryz.zeroValue134,
    t51 := Tryz.underlying153,
    a51 := Tryz.isAgg153,
    z51 := Tryz.sizeOf153,
    v51 := Tryz.zeroValue153,
    t53 := Tryz.underlying155,
    a53 := Tryz.isAgg155,
    z53 := Tryz.sizeOf155,
    v53 := Tryz.zeroValue155,
    t131 := Tryz.underlying150,
    a131 := Tryz.isAgg150,
    z131 := Tryz.sizeOf150,
    v131 := Tryz.zeroValue150,
    t182 := Tryz.underlying145,
    a182 := Tryz.isAgg145,
    z182 := Tryz.sizeOf145,
    v182 := Tryz.zeroValue145,
    t183 := Tryz.underlying146,
    a183 := Tryz.isAgg146,
    z183 := Tryz.sizeOf146,
    v183 := Tryz.zeroValue146,
    t218 := Tryz.underlying169,
    a218 := Tryz.isAgg169,
    z218 := Tryz.sizeOf169,
    v218 := Tryz.zeroValue169,
    t222 := Tryz.underlying173,
    a222 := Tryz.isAgg173,
    z222 := Tryz.sizeOf173,
    v222 := Tryz.zeroValue173,
    t228 := Tryz.underlying184,
    a228 := Tryz.isAgg184,
    z228 := Tryz.sizeOf184,
    v228 := Tryz.zeroValue184,
    t229 := Tryz.underlying185,
    a229 := Tryz.isAgg185,
    z229 := Tryz.sizeOf185,
    v229 := Tryz.zeroValue185 }
end Go.Proofs

namespace Go.Proofs.YtjjjohmppehejaaGreat
open Go.RowKit Go.Sort Go.Shelf Plain

def srtI (l : List Int) : List Int := l.mergeSort fun x y => decide (x ≤ y)
theorem srtI_len (l : List Int) : (srtI l).length = l.length := (List.mergeSort_perm l _).length_eq

theorem len64_calls (x : Nat) (hx : x ≤ 12) (w : World) : Calls Tryz.prog 124 #[.int .u64 x] w fun e w' => (∃ i : Int, e = .returned (.int .i64 i)) ∧ w' = w := by
  rcases (by omega : x = 0 ∨ x = 1 ∨ x = 2 ∨ x = 3 ∨ x = 4 ∨ x = 5 ∨ x = 6 ∨ x = 7 ∨ x = 8 ∨ x = 9 ∨ x = 10 ∨ x = 11 ∨ x = 12) with rfl | rfl | rfl | rfl | rfl | rfl | rfl | rfl | rfl | rfl | rfl | rfl | rfl <;>
  · go_enter Tryz.func124, Tryz.ntmps124
    go_wp2
    go_ret
    exact ⟨⟨_, rfl⟩, rfl⟩
theorem len_calls (x : Nat) (hx : x ≤ 12) (w : World) : Calls Tryz.prog 105 #[.int .u64 x] w fun e w' => (∃ i : Int, e = .returned (.int .i64 i)) ∧ w' = w := by
  have H := Lib.hid (len64_calls x hx w)
  go_enter Tryz.func105, Tryz.ntmps105
  go_wp2_with fail
  refine H.out.mono ?_
  rintro e w1 ⟨⟨i, rfl⟩, hw⟩
  replace hw := hw.symm
  subst hw
  go_wp2
  go_ret
  exact ⟨⟨_, rfl⟩, rfl⟩
theorem insO0_calls (a : Option Addr) (c : Nat) (w : World) : Calls Tryz.prog 114 #[.slice a 0 c, .int .i64 0, .int .i64 0] w fun e w' => e = .returned (.tuple #[]) ∧ w' = w := by
  go_enter Tryz.func114, Tryz.ntmps114
  go_wp2
  go_loopw [6] (fun i wr => i = .int .i64 1 ∧ wr = w) (fun _ _ => 0)
  case atStart => exact ⟨rfl, rfl⟩
  case round =>
    obtain ⟨rfl, rfl⟩ := hrel
    go_wp2
    go_end0
    exact ⟨rfl, rfl⟩
theorem pdqO0_calls (a : Option Addr) (c : Nat) (lim : Int) (w : World) : Calls Tryz.prog 104 #[.slice a 0 c, .int .i64 0, .int .i64 0, .int .i64 lim] w fun e w' => e = .returned (.tuple #[]) ∧ w' = w := by
  have Hi := Lib.hid (insO0_calls a c w)
  go_enter Tryz.func104, Tryz.ntmps104
  go_wp2
  go_loopw [1, 2] (fun a b wr' => a = .int .i64 0 ∧ b = .int .i64 0 ∧ wr' = w) (fun _ _ _ => 0)
  case atStart => exact ⟨rfl, rfl, rfl⟩
  case round =>
    obtain ⟨rfl, rfl, rfl⟩ := hrel
    go_wp2_with fail
    refine Hi.out.mono ?_
    rintro e w2 ⟨rfl, hw⟩
    replace hw := hw.symm
    subst hw
    go_wp2
    refine bodyPost_ret (results_none rfl _ _ _) rfl ?_
    exact ⟨rfl, rfl⟩
theorem sortO0_calls (a : Option Addr) (c : Nat) (w : World) : Calls Tryz.prog 84 #[.slice a 0 c] w fun e w' => e = .returned (.tuple #[]) ∧ w' = w := by
  have Hl := Lib.hid (len_calls 0 (by omega) w)
  have Hp := Lib.hid (fun lim => pdqO0_calls a c lim w)
  go_enter Tryz.func84, Tryz.ntmps84
  go_wp2_with fail
  refine Hl.out.mono ?_
  rintro e w1 ⟨⟨i, rfl⟩, hw⟩
  replace hw := hw.symm
  subst hw
  go_wp2_with fail
  refine (Hp.out i).mono ?_
  rintro e w2 ⟨rfl, hw⟩
  replace hw := hw.symm
  subst hw
  go_wp2
  go_end0
  exact ⟨rfl, rfl⟩
theorem sortI_calls (D : Nat) (v : Value) (l : List Int) (w : World) (hl : l.length ≤ 1000000) (ho : Own w D v 3 (ints l)) :
    Calls Tryz.prog 84 #[v] w fun e w' => e = .returned (.tuple #[]) ∧ Own w' D v 3 (ints (srtI l)) ∧ w.grownBy w' v.ownBlock := by
  rcases Nat.eq_zero_or_pos l.length with h0 | h0
  · obtain ⟨a, c, rfl, -⟩ := ho.row (by rw [ints_len]; unfold maxLen; omega)
    have : l = [] := List.eq_nil_of_length_eq_zero h0
    subst this
    refine (sortO0_calls a c w).mono ?_
    rintro e w' ⟨rfl, rfl⟩
    exact ⟨rfl, by rw [show srtI [] = [] by simp [srtI]]; exact ho, World.grownBy.refl _ _⟩
  · obtain ⟨a, c, rfl, -⟩ := ho.row (by rw [ints_len]; unfold maxLen; omega)
    rw [ints_len] at ho ⊢
    obtain ⟨blk, rfl, hblk, hblt, -⟩ := ho.at_form h0
    have hd : ints l = l.toArray.toList.map (Value.int .i64) := by simp [ints]
    have hh := holds_own (Value.int .i64) l.toArray (by rw [← hd]; exact ho)
    have h := Any.slices_Sort_int Tryz.lays189 blk 0 c l w hh hblt (by omega)
    change Calls Tryz.prog 84 _ _ _ at h
    refine h.mono ?_
    rintro e w' ⟨he, m, os, rfl⟩
    refine ⟨he, ?_, grown_sortWorld (Value.int .i64) w blk 0 m (srtI l).toArray os⟩
    have h2 := own_sortWorld (Value.int .i64) ho m os (srtI l).toArray (by simp [srtI_len])
    have h3 : (srtI l).toArray.toList.map (Value.int .i64) = ints (srtI l) := by simp [ints]
    rw [h3] at h2
    exact h2

theorem sorted_calls (Bs : Nat) (a : Option Addr) (c : Nat) (l : List Int) (w : World) (hl : Ints w a l) (hln : l.length ≤ 1000000) (hBs : w.cell? ⟨Bs, 0, none⟩ = some (.slice a l.length c)) :
    Calls Tryz.prog 72 #[.func (.func 85) #[] #[.pointer (some ⟨Bs, 0, none⟩)]] w fun e w' => ∃ v, e = .returned v ∧ Own w' w.heap.size v 3 (ints (srtI l)) ∧ Below w.heap.size w w' := by
  have H := Lib.hid (collectV_calls Bs a c l w hl hln hBs)
  clear hl hBs
  go_enter Tryz.func72, Tryz.ntmps72
  go_wp2_with fail
  refine H.out.mono ?_
  rintro e w1 ⟨v, rfl, h⟩
  have hs := sortI_calls w.heap.size v l w1 hln h.1
  have H1 := Lib.hid (And.intro h hs)
  clear h hs
  go_wp2_with fail
  refine H1.out.2.mono ?_
  rintro e w2 ⟨rfl, ho, hg⟩
  have hb : Below w.heap.size w w2 := H1.out.1.2.grown hg H1.out.1.2.size (fun k e => by
    rcases H1.out.1.1.blk with e2 | ⟨g9, _, e2, hB9, _⟩
    · rw [e2] at e; cases e
    · rw [e2] at e; cases e; exact hB9)
  have H2 := Lib.hid (And.intro ho hb)
  clear ho hg hb
  go_wp2
  go_ret
  exact ⟨v, rfl, H2.out⟩
end Go.Proofs.YtjjjohmppehejaaGreat
