/- The reference's Make of a list of permutations. · The kit's SameChain. · The kit's Strong: a chain's representatives in one list. · What the check of a chain answers, whatever the chain holds. · The reference's check of a chain. · What a chain says, as functions of its lists: the error, the tower, the sizes, the ranks. · Size, Least and In: the chain's levels out of its value. · Groups that are given by tables of permutations and words: their towers: plain. · The chain of a group is valid, and says what the group's towers say: plain. · The law's groups of examples. -/
import Derived.Test.YtbejhkojdiadaaaGreatCo01
import Derived.Test.YtbejhkojdiadaaaGreatCo02
import Derived.Test.YtbejhkojdiadaaaGreatCo03
import Derived.Test.YtbejhkojdiadaaaGreatCo04
import Derived.Test.YtbejhkojdiadaaaGreatCo05
import Derived.Test.YtbejhkojdiadaaaGreatCo06
import Derived.Test.YtbejhkojdiadaaaGreatCo07
import Derived.Test.YtbejhkojdiadaaaGreatCo08
import Derived.Test.YtbejhkojdiadaaaGreatCo09
import Derived.Test.YtbejhkojdiadaaaGreatCo11
import Derived.Test.YtbejhkojdiadaaaGreatCo12
import Derived.Test.YtbejhkojdiadaaaGreatProg
import Derived.WalkKit
import Derived.WalkSpells
import Derived.BigQuiet
import Derived.Deep.QuietTactic
import Derived.Deep.LoopGhost
import Derived.Lib.Hide
import Derived.Maps.AppendAt
import Derived.Deep.AppendLies
import Derived.StillTailTactics
import Derived.Laws.CopyOwn
import Derived.Deep.OwnRows
import Derived.Deep.DeepCutAuto
import Derived.Laws.Cover3
import Derived.Deep.RegionHeld3
import Derived.RangeFuncBox
import Derived.RangeFuncLeaves
import Derived.RangeFuncWrites
import Derived.RangeFuncFrom
import Derived.Shelf.Abstract
import Derived.OwnWalkIn
import Derived.TacticsInMore
import Derived.LoopNIn
import Derived.LoopIn
import Derived.Shelf.GgSortFunc.Insertion
import Derived.Shelf.SlIter.Collect
import Derived.Shelf.Sort.Plain
import Derived.Deep.RegionLaw
import Derived.ControlIn
import Derived.RangeFuncRecord
import Derived.Lib.SlicesSearch
set_option linter.unusedSimpArgs false
set_option linter.unusedVariables false
namespace Go.Proofs.YtbejhkojdiadaaaGreat
open Go.RowKit PlainPm
theorem Stp.toBelow {D : Nat} {w0 w1 w2 : World} {M M' : List Nat} (hb : Below D w0 w1) (k : Stp w1 M w2 M') (hD : D ≤ w0.heap.size) (hM : ∀ m ∈ M, D ≤ m) : Below D w0 w2 :=
  ⟨k.kept.os.trans hb.os, k.kept.tape.trans hb.tape, k.kept.output.trans hb.output, Nat.le_trans hb.size k.kept.size, fun i hi => (k.kept.block i (by have := hb.size; omega) (fun hm => by have := hM i hm; omega)).trans (hb.block i hi)⟩
theorem TabW.rows0 {n B g : Nat} {w : World} {R : Nat → Nat} {t : Nat → Nat → Option (Pm n)} (h : TabW n B g w R t) : ∃ R', TabW n B g w R' t ∧ ∀ m ∈ rowsM n R', B ≤ m := by
  have h0 := h.hn.1
  have k : Stp w (rowsM n R) w (rowsM n (fun i => if i = n then R 0 else R i)) := ⟨Kept.refl _ _, fun m hm => (mem_setR hm).elim .inl (fun e => .inl (mem_rowsM.2 ⟨0, by omega, e.symm⟩))⟩
  have hg := h.tg.2
  refine ⟨_, h.move (fun _ _ => rfl) rfl k (fun i hi => if_neg (Nat.ne_of_lt hi)) (by simp only [if_true]; exact h.mlt _ (mem_rowsM.2 ⟨0, by omega, rfl⟩)) (by simp only [if_true]; exact fun e => hg (mem_rowsM.2 ⟨0, by omega, e.symm⟩)), fun m hm => ?_⟩
  obtain ⟨i, hi, e⟩ := mem_rowsM.1 hm
  by_cases e1 : i = n
  · rw [if_pos e1] at e; rw [← e]; exact h.low 0 h0
  · rw [if_neg e1] at e; rw [← e]; exact h.low i (by omega)
theorem ins_any {n B g : Nat} {R : Nat → Nat} {t : Nat → Nat → Option (Pm n)} {x : Pm n} {L : List (Pm n)} {e : Ending} {w' : World} (hS : TabS L t) (h : InsR B g R t x e w') : ∃ (b : Bool) (t' : Nat → Nat → Option (Pm n)), e = .returned (.bool b) ∧ TabW n B g w' R t' ∧ TabS (L ++ [x]) t' := by
  rcases h with ⟨h1, h2, h3⟩ | ⟨h1, h2, h3⟩
  · exact ⟨false, t, h2, h3, hS.snocEnd (r := (sft (tabTw t) n 0 x).2) (Prod.ext h1 rfl)⟩
  · exact ⟨true, _, h2, h3, hS.snocSet (a := (sft (tabTw t) n 0 x).1) (r := (sft (tabTw t) n 0 x).2) rfl h1⟩
def CapR (W : World) (a : Option Addr) (l : Nat) : Prop := ∀ ad, a = some ad → ∀ i, i < l → ∀ x l' k, W.cell? (ad.add i) = some (.slice x l' k) → l' ≤ k
theorem own_cap {W : World} {B : Nat} {e : TypeId} {a : Option Addr} {n c : Nat} {cs : List Value} (h : Own W B (.slice a n c) e cs) (hc : ∀ u ∈ cs, ∃ e' xs, Own W B u e' xs) : CapR W a n := fun ad ea i hi x l' k hcell => by
  subst ea
  obtain ⟨g, e2, _, _, hn, _, _⟩ := h.at_form (by omega)
  cases e2
  have h1 := h.cell i (by omega)
  rw [add_zero_addr, Nat.zero_add, h1] at hcell
  obtain ⟨e', xs, ho⟩ := hc _ (List.mem_of_getElem? hcell)
  rcases ho.2 with ⟨h2, _⟩ | ⟨g2, cap2, cur2, h2, _, _, h3, _⟩
  · injection h2 with _ e1 e3; omega
  · injection h2 with _ e1 e3; omega
set_option maxRecDepth 100000 in
set_option maxHeartbeats 4000000 in
theorem make96c {n : Nat} (hn : 0 < n ∧ n ≤ 64) {w : World} {v : Value} {l : List (Pm n)} (hl : l.length ≤ 4096) (hv : PmsV w [] v l) :
    Calls Tryz.prog 96 #[.int .i64 (n : Int), v] w fun e w' => ∃ T a c0 b d, Of (Grp (· ∈ l)) T ∧ e = .returned (.tuple #[.agg #[.int .i64 (n : Int), .slice a n c0, .slice b n d], .int .i64 0]) ∧ Below w.heap.size w w' ∧ ∀ W', w'.heap.size ≤ W'.heap.size → (∀ k, w.heap.size ≤ k → k < w'.heap.size → W'.heap[k]? = w'.heap[k]?) → Rows W' a (orbI T n) ∧ Rows2 W' b (repI T n) ∧ CapR W' a n ∧ CapR W' b n := by
  obtain ⟨a, c, vs, rfl, hr, hp⟩ := hv
  have H := Lib.hid (And.intro hr hp)
  clear hr hp
  obtain ⟨L, hL⟩ : ∃ L, l.length = L := ⟨_, rfl⟩
  have hL0 := Lib.hid hL
  rw [hL] at hl ⊢
  clear hL
  obtain ⟨X, hX⟩ : ∃ X, w.heap.size = X := ⟨_, rfl⟩
  obtain ⟨W1, hW1⟩ : ∃ W1, W1 = w.alloc (.cells #[.int .i64 0, .slice none 0 0, .slice none 0 0] 25) := ⟨_, rfl⟩
  have hbw : Below w.heap.size w W1 := by rw [hW1]; exact alloc_b (Below.refl _ _) _
  have hs1 : W1.heap.size = X + 1 := by rw [hW1, ← hX]; simp
  have hr1 : W1.heap[X]? = some (.cells #[.int .i64 0, .slice none 0 0, .slice none 0 0] 25) := by rw [hW1, ← hX]; exact World.alloc_heap_new w _
  have HW := Lib.hid (And.intro hbw (And.intro hs1 hr1))
  have HX := Lib.hid hX
  have hn1 : ¬ (n : Int) < 1 := by omega
  have hn2 : ¬ (64 : Int) < n := by omega
  have hl1 : ¬ (4096 : Int) < L := by omega
  clear hbw hs1 hr1
  go_enter Tryz.func96, Tryz.ntmps96
  go_wp2_with fail
  try rw [← hW1]
  clear hW1
  go_loopw [6] (fun i wr => ∃ (k : Nat), k ≤ L ∧ i = .int .i64 (k : Int) ∧ Below W1.heap.size W1 wr) (fun i _ => L - (intOf i).toNat)
  case atStart => exact ⟨0, by omega, rfl, Below.refl _ _⟩
  case round =>
    obtain ⟨k, hk, rfl, hb⟩ := hrel
    have hbw := below_trans HW.out.1 hb
    have HB := Lib.hid (And.intro hb hbw)
    clear hb hbw
    by_cases hkl : k < L
    · obtain ⟨x, hx⟩ : ∃ x, l[k]? = some x := ⟨_, List.getElem?_eq_getElem (by rw [hL0.out]; exact hkl)⟩
      obtain ⟨u, hu, hpm⟩ := H.out.2.2 k x hx
      obtain ⟨ab, ao, hae, _, hac⟩ := (H.out.1.below HB.out.2).2 k u hu
      subst hae
      obtain ⟨ua, uc, rfl, hui⟩ := (hpm.below HB.out.2).ints (by omega)
      have hck : chkPerm x.l = 0 := (chk_iff x.ok.1 hn.1 hn.2).2 x.ok
      have hpc := rperm_calls (c := uc) hui
      rw [hck] at hpc
      have hxl := x.ok.1
      rw [hxl] at hpc hac
      have HC := Lib.hid hpc
      have hk1 : (k : Int) < L := by omega
      clear hpc hck hui hx hu hpm hxl
      go_wp2_with (go_at_call 91; refine HC.out.mono ?_; rintro e w2 ⟨rfl, k1⟩; have hac2 := (k1.cell (block_lt_of_cell hac)).trans hac; have H2 := Lib.hid k1; clear k1)
      exact ⟨⟨k + 1, by omega, by go_num, below_trans HB.out.1 H2.out⟩, by simp [intOf]; omega⟩
    · obtain rfl : k = L := by omega
      have hk1 : ¬ (k : Int) < k := by omega
      obtain ⟨wo, rfl⟩ : ∃ wo : World, wo = wr := ⟨_, rfl⟩
      go_wp2_with (go_at_call 128; refine (empty128 hn).mono ?_; rintro e w3 ⟨g, gc, R0, rfl, k1, k2, k3⟩; obtain ⟨R, k4, k5⟩ := k1.rows0; have H3 := Lib.hid (And.intro k4 (And.intro k5 (And.intro k2 k3))); clear k1 k2 k3 k4 k5)
      have hb3 : Below W1.heap.size W1 w3 := below_trans HB.out.1 H3.out.2.2.2
      have hso : W1.heap.size ≤ wo.heap.size := HB.out.1.size
      have hM3 : ∀ m ∈ rowsM n R, wo.heap.size ≤ m := H3.out.2.1
      have HM := Lib.hid (And.intro hb3 (And.intro hso hM3))
      clear hb3 hso hM3
      go_loopw [9] (fun i wr => ∃ (q : Nat) (t : Nat → Nat → Option (Pm n)), q ≤ k ∧ i = .int .i64 (q : Int) ∧ TabW n wo.heap.size g wr R t ∧ TabS (l.take q) t ∧ Stp w3 (rowsM n R) wr (rowsM n R)) (fun i _ => k - (intOf i).toNat)
      case atStart => exact ⟨0, _, by omega, rfl, H3.out.1, by rw [List.take_zero]; exact TabS.start, Stp.refl _ _⟩
      case round =>
        obtain ⟨q, t, hq, rfl, hT, hS, hst⟩ := hrel
        have hbw1 := Stp.toBelow HM.out.1 hst (Nat.le_refl _) (fun m hm => by have h1 := HM.out.2.2 m hm; have h2 := HM.out.2.1; omega)
        have hbw := below_trans HW.out.1 hbw1
        by_cases hqk : q < k
        · obtain ⟨x, hx⟩ : ∃ x, l[q]? = some x := ⟨_, List.getElem?_eq_getElem (by rw [hL0.out]; exact hqk)⟩
          obtain ⟨u, hu, hpm⟩ := H.out.2.2 q x hx
          obtain ⟨ab, ao, hae, _, hac⟩ := (H.out.1.below hbw).2 q u hu
          subst hae
          have hpm2 := hpm.fresh (M := rowsM n R) hbw (fun m hm => by have h1 := HM.out.2.2 m hm; have h2 := HM.out.2.1; have h3 := HW.out.1.size; omega)
          have hins := insert129 (c := gc) hT hpm2
          obtain ⟨ub, uo, uc, rfl⟩ := hpm.form
          have hs : l.take (q + 1) = l.take q ++ [x] := by rw [List.take_add_one, hx]; rfl
          have HI := Lib.hid (And.intro hins (And.intro hS (And.intro hs hst)))
          have hq1 : (q : Int) < k := by omega
          clear hins hS hs hst hT hbw hbw1 hx hu hpm hpm2
          go_wp2_with (go_at_call 129; refine HI.out.1.mono ?_; rintro e w4 ⟨k1, k2, _⟩; obtain ⟨bb, t4, rfl, k3⟩ := ins_any HI.out.2.1 k1; have H4 := Lib.hid (And.intro k2 k3); clear k1 k2 k3)
          exact ⟨⟨q + 1, t4, by omega, by go_num, H4.out.2.1, by rw [HI.out.2.2.1]; exact H4.out.2.2, HI.out.2.2.2.trans H4.out.1⟩, by simp [intOf]; omega⟩
        · obtain rfl : q = k := by omega
          have hk2 : ¬ (q : Int) < q := by omega
          rw [List.take_of_length_le (by rw [hL0.out]; omega)] at hS
          have hgl : g < wr.heap.size := hT.tg.1
          have hcl := close130 (c := gc) hT hS hgl
          have HT := Lib.hid (And.intro hcl (And.intro hst hbw1))
          clear hcl hst hbw hbw1 hT hS hgl
          go_wp2_with (first
            | (go_at_call 131; refine H5.out.2.2.mono ?_; rintro e w6 ⟨ra, rc, rb, rd, rfl, k1, k2, k3, csO, csR, o1, o2, o3, o4⟩; have hb6 := below_trans H5.out.1 k3; have hx6 := (hb6.block X (by rw [HW.out.2.1]; omega)).trans HW.out.2.2; obtain ⟨d0, d1, d2, d3, d4, d5⟩ := box_cells hx6; have H6 := Lib.hid (And.intro o1 (And.intro o2 (And.intro o3 (And.intro o4 (And.intro hb6 hx6))))); clear k1 k2 k3 o1 o2 o3 o4 hb6 hx6)
            | (go_at_call 130; refine HT.out.1.mono ?_; rintro e w5 ⟨rfl, R', t', k1, k2, k3, k4, k5⟩; have H5 := Lib.hid (And.intro (Stp.toBelow HT.out.2.2 k5 (Nat.le_refl _) (fun m hm => by have h1 := HM.out.2.2 m hm; have h2 := HM.out.2.1; omega)) (And.intro k2 (chain131 (c := gc) k1 k3))); clear k1 k2 k3 k4 k5))
          obtain ⟨WF, hWF⟩ : ∃ WF, WF = ((w6.setCell ⟨X, 0, none⟩ (.int .i64 (n : Int))).setCell ⟨X, 1, none⟩ (.slice ra n rc)).setCell ⟨X, 2, none⟩ (.slice rb n rd) := ⟨_, rfl⟩
          have hF : WF.heap[X]? = some (.cells #[.int .i64 (n : Int), .slice ra n rc, .slice rb n rd] 25) := by
            rw [hWF]; exact box_set2 (box_set1 (box_set0 H6.out.2.2.2.2.2))
          have gF : w6.grownBy WF (some X) := by rw [hWF]; exact ((grown_put 0 _).trans (grown_put 1 _)).trans (grown_put 2 _)
          rw [← hWF]
          clear hWF d0 d1 d2 d3 d4 d5
          obtain ⟨f0, f1, f2, _, _, _⟩ := box_cells hF
          have h5 : X < w5.heap.size := by have h1 := H5.out.1.size; have h2 := HW.out.2.1; omega
          have hO9 := H6.out.1.off gF h5
          have hR9 := H6.out.2.2.1.off gF h5
          have hOO := H6.out.2.1.off gF h5
          have hRR := H6.out.2.2.2.1.off gF h5
          have hb6 := below_trans HW.out.1 H6.out.2.2.2.2.1
          have hbF : Below w.heap.size w WF := hb6.grown gF hb6.size (fun g hg => by cases hg; rw [HX.out]; exact Nat.le_refl _)
          refine bodyPost_ret (v := .tuple #[.agg #[.int .i64 (n : Int), .slice ra n rc, .slice rb n rd], .int .i64 0]) (by simp [results, Tryz.results96, go_sem, f0, f1, f2]) rfl ?_
          have hX5 : w.heap.size ≤ w5.heap.size := by have h1 := H5.out.1.size; have h2 := HW.out.1.size; omega
          have keep : ∀ W' : World, WF.heap.size ≤ W'.heap.size → (∀ k, w.heap.size ≤ k → k < WF.heap.size → W'.heap[k]? = WF.heap[k]?) → ∀ {u : Value} {e : TypeId} {xs : List Value}, Own WF w5.heap.size u e xs → Own W' w5.heap.size u e xs := fun W' _ hW' {u e xs} ho =>
            ownsRow_block ho (fun g hg => hW' g (by have := (ho.block_lt hg).2; omega) (ho.block_lt hg).1)
          refine ⟨tabTw t', _, _, _, _, H5.out.2.1, rfl, hbF, fun W' hs' hW' => ?_⟩
          have kO := keep W' hs' hW' hO9
          have kR := keep W' hs' hW' hR9
          have kOO : OwnRows W' w5.heap.size 3 csO (orbI (tabTw t') n) := ⟨hOO.1, fun i u xs hu hx => keep W' hs' hW' (hOO.2 i u xs hu hx)⟩
          have kRR : OwnR2 W' w5.heap.size csR (repI (tabTw t') n) := ⟨hRR.1, fun i u xss hu hx => by
            obtain ⟨us, h1, h2⟩ := hRR.2 i u xss hu hx
            exact ⟨us, keep W' hs' hW' h1, h2.1, fun i' u' xs' hu' hx' => keep W' hs' hW' (h2.2 i' u' xs' hu' hx')⟩⟩
          obtain ⟨aO', cO', hvO, hrO⟩ := kOO.rows kO (by rw [kOO.1]; simp [orbI]; unfold maxLen; omega) (pts_len (tabTw t') hn.2 n)
          obtain ⟨aR', cR', hvR, hrR⟩ := kRR.rows2 kR (by rw [kRR.1]; simp [repI]; omega) (pms_len (tabTw t') hn.2 n)
          rw [show (orbI (tabTw t') n).length = n by simp [orbI]] at hvO
          rw [show (repI (tabTw t') n).length = n by simp [repI]] at hvR
          cases hvO
          cases hvR
          have cO := own_cap kO (fun u hu => by
            obtain ⟨i, hi⟩ := List.mem_iff_getElem?.1 hu
            have hil : i < (orbI (tabTw t') n).length := by rw [← kOO.1]; exact (List.getElem?_eq_some_iff.1 hi).1
            exact ⟨_, _, kOO.2 i u _ hi (List.getElem?_eq_getElem hil)⟩)
          have cR := own_cap kR (fun u hu => by
            obtain ⟨i, hi⟩ := List.mem_iff_getElem?.1 hu
            have hil : i < (repI (tabTw t') n).length := by rw [← kRR.1]; exact (List.getElem?_eq_some_iff.1 hi).1
            obtain ⟨us, h1, _⟩ := kRR.2 i u _ hi (List.getElem?_eq_getElem hil)
            exact ⟨_, _, h1⟩)
          exact ⟨hrO, hrR, cO, cR⟩
theorem make96 {n : Nat} (hn : 0 < n ∧ n ≤ 64) {w : World} {v : Value} {l : List (Pm n)} (hl : l.length ≤ 4096) (hv : PmsV w [] v l) :
    Calls Tryz.prog 96 #[.int .i64 (n : Int), v] w fun e w' => ∃ T a c0 b d, Of (Grp (· ∈ l)) T ∧ e = .returned (.tuple #[.agg #[.int .i64 (n : Int), .slice a n c0, .slice b n d], .int .i64 0]) ∧ Rows w' a (orbI T n) ∧ Rows2 w' b (repI T n) ∧ Below w.heap.size w w' :=
  (make96c hn hl hv).mono fun _ w' ⟨T, a, c0, b, d, h1, h2, h3, h4⟩ => by
    obtain ⟨k1, k2, _⟩ := h4 w' (Nat.le_refl _) (fun _ _ _ => rfl)
    exact ⟨T, a, c0, b, d, h1, h2, k1, k2, h3⟩
end Go.Proofs.YtbejhkojdiadaaaGreat
namespace Go.Proofs.YtbejhkojdiadaaaGreat
open Go.RowKit PlainPm
set_option maxRecDepth 100000 in
set_option maxHeartbeats 2000000 in
theorem same31 {w : World} {v v' : Value} {d d' : Int} {os os' : List (List Int)} {rs rs' : List (List (List Int))} (h : ChV w v d os rs) (h' : ChV w v' d' os' rs') :
    Calls Tryz.prog 31 #[v, v'] w fun e w' => e = .returned (.bool (decide (d = d' ∧ os = os' ∧ rs = rs'))) ∧ Below w.heap.size w w' := by
  obtain ⟨a, c, b, e, rfl, h1, h2⟩ := h
  obtain ⟨a', c', b', e', rfl, h1', h2'⟩ := h'
  obtain ⟨W, hW⟩ : ∃ W, (w.alloc (.cells #[.int .i64 d, .slice a os.length c, .slice b rs.length e] 25)).alloc (.cells #[.int .i64 d', .slice a' os'.length c', .slice b' rs'.length e'] 25) = W := ⟨_, rfl⟩
  have hb : Below w.heap.size w W := by rw [← hW]; exact alloc_b (alloc_b (Below.refl _ _) _) _
  have HO := Lib.hid (fun q => same89 a a' c c' os os' (W.drewN q) (h1.below (below_drewN hb q)) (h1'.below (below_drewN hb q)))
  have hb' : ∀ q, Below w.heap.size w (W.drewN q) := fun q => below_drewN hb q
  have HB := Lib.hid hb'
  obtain ⟨l1, hl1⟩ : ∃ l, os.length = l := ⟨_, rfl⟩
  obtain ⟨l2, hl2⟩ : ∃ l, rs.length = l := ⟨_, rfl⟩
  obtain ⟨l1', hl1'⟩ : ∃ l, os'.length = l := ⟨_, rfl⟩
  obtain ⟨l2', hl2'⟩ : ∃ l, rs'.length = l := ⟨_, rfl⟩
  rw [hl1, hl2, hl1', hl2'] at hW
  rw [hl1, hl1'] at HO
  rw [hl1, hl2, hl1', hl2']
  obtain ⟨B2, hB2⟩ : ∃ B, decide (os = os') = B := ⟨_, rfl⟩
  obtain ⟨B3, hB3⟩ : ∃ B, decide (rs = rs') = B := ⟨_, rfl⟩
  obtain ⟨R, hR⟩ : ∃ R, decide (d = d' ∧ os = os' ∧ rs = rs') = R := ⟨_, rfl⟩
  rw [hB2] at HO
  have hres : R = (decide (d = d') && B2 && B3) := by rw [← hR, ← hB2, ← hB3]; simp [Bool.decide_and, Bool.and_assoc]
  rw [hR, hres]
  have e0 : W.heap[w.heap.size]? = some (.cells #[.int .i64 d, .slice a l1 c, .slice b l2 e] 25) := by
    rw [← hW, Below.heap_alloc _ _ _ (by rw [heap_new0]; omega)]; exact heap_new _ _
  have e1 : W.heap[w.heap.size + 1]? = some (.cells #[.int .i64 d', .slice a' l1' c', .slice b' l2' e'] 25) := by
    rw [← hW, ← heap_new0 w (.cells #[.int .i64 d, .slice a l1 c, .slice b l2 e] 25)]; exact heap_new _ _
  obtain ⟨x0, x1, x2, _, _, _⟩ := box_cells e0
  obtain ⟨x3, x4, x5, _, _, _⟩ := box_cells e1
  clear e0 e1
  have hmx : l2 ≤ 9223372036854775807 := by
    obtain ⟨vs, r1, r2, _⟩ := h2
    have h3 := r1.1
    unfold maxLen at h3
    omega
  have H2 := Lib.hid (And.intro h2 (And.intro h2' (And.intro hl2 (And.intro hl2' (And.intro hB3 hb)))))
  clear h1 h2 h1' h2' hb hb' hl1 hl2 hl1' hl2' hB2 hB3 hR hres
  by_cases hd : d = d'
  · subst hd
    have hdd : (d != d) = false := by simp
    cases B2 with
    | false =>
      go_enter Tryz.func31, Tryz.ntmps31
      go_wp2_with (go_at_call 89; refine (HO.out 0).mono ?_; rintro e1 w1 ⟨rfl, q1, rfl⟩)
      go_ret
      exact ⟨by simp, HB.out _⟩
    | true =>
      by_cases hll : l2 = l2'
      · subst hll
        have hlb : ((l2 : Int) != (l2 : Int)) = false := by simp
        go_enter Tryz.func31, Tryz.ntmps31
        go_wp2_with (go_at_call 89; refine (HO.out 0).mono ?_; rintro e1 w1 ⟨rfl, q1, rfl⟩)
        go_loopw [5] (fun i wr => ∃ (k q : Nat), k ≤ l2 ∧ i = .int .i64 (k : Int) ∧ wr = W.drewN q ∧ rs.take k = rs'.take k) (fun i _ => l2 - (intOf i).toNat)
        case atStart => exact ⟨0, _, by omega, rfl, rfl, by simp⟩
        case round =>
          obtain ⟨k, q, hk, rfl, rfl, htk⟩ := hrel
          have HT := Lib.hid htk
          clear htk
          by_cases hkl : k < l2
          · obtain ⟨xs, hxs⟩ : ∃ x, rs[k]? = some x := ⟨_, List.getElem?_eq_getElem (by rw [H2.out.2.2.1]; exact hkl)⟩
            obtain ⟨ys, hys⟩ : ∃ x, rs'[k]? = some x := ⟨_, List.getElem?_eq_getElem (by rw [H2.out.2.2.2.1]; exact hkl)⟩
            obtain ⟨vs, r1, r2, r3⟩ := H2.out.1
            obtain ⟨vs', s1, s2, s3⟩ := H2.out.2.1
            obtain ⟨u, hu⟩ : ∃ x, vs[k]? = some x := ⟨_, List.getElem?_eq_getElem (by rw [r2, H2.out.2.2.1]; exact hkl)⟩
            obtain ⟨u', hu'⟩ : ∃ x, vs'[k]? = some x := ⟨_, List.getElem?_eq_getElem (by rw [s2, H2.out.2.2.2.1]; exact hkl)⟩
            obtain ⟨ba, ca, rfl, hra⟩ := r3 k u xs hu hxs
            obtain ⟨bb, cb, rfl, hrb⟩ := s3 k u' ys hu' hys
            obtain ⟨ab, ao, hae, _, hac⟩ := (r1.below H2.out.2.2.2.2.2).2 k _ hu
            obtain ⟨ab', ao', hae', _, hac'⟩ := (s1.below H2.out.2.2.2.2.2).2 k _ hu'
            subst hae
            subst hae'
            have hcall := fun q => same47 ba bb ca cb xs ys (W.drewN q) (hra.below (HB.out q)) (hrb.below (HB.out q))
            obtain ⟨r, hr⟩ : ∃ r, decide (xs = ys) = r := ⟨_, rfl⟩
            obtain ⟨lx, hlx⟩ : ∃ r, xs.length = r := ⟨_, rfl⟩
            obtain ⟨ly, hly⟩ : ∃ r, ys.length = r := ⟨_, rfl⟩
            rw [hlx] at hcall hac
            rw [hly] at hcall hac'
            rw [hr] at hcall
            have HC := Lib.hid hcall
            have HV := Lib.hid (And.intro hxs (And.intro hys hr))
            have hk1 : (k : Int) < l2 := by omega
            clear hcall hxs hys hr hlx hly hra hrb hu hu' r1 r2 r3 s1 s2 s3
            cases r with
            | false =>
              go_wp2_with fail
              go_quiet ((go_at_call 47; exact quiet_add (HC.out _)))
              go_wp2_with fail
              go_ret
              have hne : B3 = false := by
                rw [← H2.out.2.2.2.2.1]
                refine decide_eq_false fun h => ?_
                have h1 := HV.out.1
                rw [h, HV.out.2.1] at h1
                exact of_decide_eq_false HV.out.2.2 (Option.some.inj h1).symm
              exact ⟨by rw [hne]; simp, by rw [World.drewN_drewN]; exact HB.out _⟩
            | true =>
              go_wp2_with fail
              go_quiet ((go_at_call 47; exact quiet_add (HC.out _)))
              go_wp2_with fail
              exact ⟨⟨k + 1, q + nq, by omega, by go_num, rfl, by rw [List.take_add_one, List.take_add_one, HT.out, HV.out.1, HV.out.2.1, of_decide_eq_true HV.out.2.2]⟩, by simp [intOf]; omega⟩
          · obtain rfl : k = l2 := by omega
            have hk1 : ¬ (k : Int) < k := by omega
            go_wp2_with fail
            go_ret
            have hne : B3 = true := by
              rw [← H2.out.2.2.2.2.1]
              refine decide_eq_true ?_
              have h1 := HT.out
              rw [List.take_of_length_le (by rw [H2.out.2.2.1]; omega), List.take_of_length_le (by rw [H2.out.2.2.2.1]; omega)] at h1
              exact h1
            exact ⟨by rw [hne]; simp, HB.out _⟩
      · have hlb : ((l2 : Int) != (l2' : Int)) = true := by simp; omega
        have hne : B3 = false := by
          rw [← H2.out.2.2.2.2.1]
          refine decide_eq_false fun h => hll ?_
          rw [← H2.out.2.2.1, ← H2.out.2.2.2.1, h]
        have HN := Lib.hid hne
        clear hne hll
        go_enter Tryz.func31, Tryz.ntmps31
        go_wp2_with (go_at_call 89; refine (HO.out 0).mono ?_; rintro e1 w1 ⟨rfl, q1, rfl⟩)
        go_ret
        exact ⟨by rw [HN.out]; simp, HB.out _⟩
  · have hdd : (d != d') = true := by simp [hd]
    have Hd := Lib.hid hd
    clear hd
    go_enter Tryz.func31, Tryz.ntmps31
    go_wp2_with fail
    go_ret
    exact ⟨by simp [Hd.out], HB.out 0⟩
end Go.Proofs.YtbejhkojdiadaaaGreat
namespace Go.Proofs.YtbejhkojdiadaaaGreat
open Go.RowKit PlainPm
def RV (w : World) (us : List Value) (xss : List (List Int)) : Prop :=
  us.length = xss.length ∧ ∀ (i : Nat) u xs, us[i]? = some u → xss[i]? = some xs → ∃ b c, u = .slice b xs.length c ∧ Ints w b xs
theorem RV.below {w w' : World} {us : List Value} {xss : List (List Int)} (h : RV w us xss) (k : Below w.heap.size w w') : RV w' us xss :=
  ⟨h.1, fun i u xs hu hx => by obtain ⟨b, c, e, h2⟩ := h.2 i u xs hu hx; exact ⟨b, c, e, h2.below k⟩⟩
theorem RV.app {w : World} {us us' : List Value} {xss xss' : List (List Int)} (h : RV w us xss) (h' : RV w us' xss') : RV w (us ++ us') (xss ++ xss') := by
  refine ⟨by simp [h.1, h'.1], fun i u xs hu hx => ?_⟩
  by_cases hi : i < us.length
  · rw [List.getElem?_append_left hi] at hu
    rw [List.getElem?_append_left (by rw [← h.1]; exact hi)] at hx
    exact h.2 i u xs hu hx
  · rw [List.getElem?_append_right (by omega)] at hu
    rw [List.getElem?_append_right (by rw [← h.1]; omega), ← h.1] at hx
    exact h'.2 _ u xs hu hx
theorem RV.one_ {w : World} {us : List Value} {xss : List (List Int)} (h : RV w us xss) : ∀ y ∈ us, y.oneCell' = true := fun y hy => by
  obtain ⟨k, hk⟩ := List.mem_iff_getElem?.1 hy
  have hkl : k < xss.length := by rw [← h.1]; exact (List.getElem?_eq_some_iff.1 hk).1
  obtain ⟨b, c, rfl, _⟩ := h.2 k y _ hk (List.getElem?_eq_getElem hkl)
  rfl
end Go.Proofs.YtbejhkojdiadaaaGreat
namespace Go.Proofs.YtbejhkojdiadaaaGreat
open Go.RowKit PlainPm
def ChkR (d : Int) (os : List (List Int)) (rs : List (List (List Int))) (E : Int) : Prop :=
  ((d < 1 ∨ 64 < d) ∧ E = 2) ∨ (1 ≤ d ∧ d ≤ 64 ∧ ((E = 3 ∧ ¬ Valid d.toNat os rs) ∨ (E = 0 ∧ Valid d.toNat os rs)))
theorem ChkR.uniq {d : Int} {os : List (List Int)} {rs : List (List (List Int))} {E E' : Int} (h : ChkR d os rs E) (h' : ChkR d os rs E') : E = E' := by
  rcases h with ⟨h1, rfl⟩ | ⟨h1, h2, ⟨rfl, h3⟩ | ⟨rfl, h3⟩⟩ <;> rcases h' with ⟨k1, rfl⟩ | ⟨k1, k2, ⟨rfl, k3⟩ | ⟨rfl, k3⟩⟩ <;> first | rfl | omega | exact absurd h3 k3 | exact absurd k3 h3
theorem Valid.len {n : Nat} {os : List (List Int)} {rs : List (List (List Int))} (h : Valid n os rs) : os.length = n ∧ rs.length = n := by
  obtain ⟨L, T, _, _, rfl, rfl⟩ := h
  simp [orbI, repI]
set_option maxRecDepth 100000 in
set_option maxHeartbeats 1000000 in
theorem check54 {w : World} {v : Value} {d : Int} {os : List (List Int)} {rs : List (List (List Int))} (h : ChV w v d os rs) :
    Calls Tryz.prog 54 #[v] w fun e w' => (∃ E : Int, e = .returned (.int .i64 E) ∧ ChkR d os rs E) ∧ Below w.heap.size w w' := by
  obtain ⟨a, c, b, e, rfl, h1, h2⟩ := h
  obtain ⟨lo, hlo⟩ : ∃ l, os.length = l := ⟨_, rfl⟩
  obtain ⟨lr, hlr⟩ : ∃ l, rs.length = l := ⟨_, rfl⟩
  by_cases hd1 : d < 1
  · rw [hlo, hlr]
    clear h1 h2 hlo hlr
    have hdd : decide (d < 1) = true := by simp [hd1]
    go_enter Tryz.func54, Tryz.ntmps54
    go_wp2_with fail
    refine bodyPost_ret (v := .int .i64 2) (by simp [results, Tryz.results54, go_sem]) rfl ?_
    exact ⟨⟨2, rfl, .inl ⟨.inl hd1, rfl⟩⟩, alloc_b (alloc_b (alloc_b (Below.refl _ _) _) _) _⟩
  by_cases hd2 : 64 < d
  · rw [hlo, hlr]
    clear h1 h2 hlo hlr
    have hd3 := Lib.hid hd2
    have hdd : decide (d < 1) = false := by simp; omega
    have hd4 : decide (64 < d) = true := by simp [hd2]
    clear hd1 hd2
    go_enter Tryz.func54, Tryz.ntmps54
    go_wp2_with fail
    refine bodyPost_ret (v := .int .i64 2) (by simp [results, Tryz.results54, go_sem]) rfl ?_
    exact ⟨⟨2, rfl, .inl ⟨.inr hd3.out, rfl⟩⟩, alloc_b (alloc_b (alloc_b (Below.refl _ _) _) _) _⟩
  obtain ⟨n, rfl⟩ : ∃ n : Nat, d = n := ⟨d.toNat, by omega⟩
  by_cases hn : lo = n ∧ lr = n
  · obtain ⟨rfl, rfl⟩ := hn
    have := chk_loop (c := c) (e := e) h1 h2 hlo hlr (by omega) (by omega)
    rw [hlo, hlr]
    refine this.mono ?_
    rintro e1 w1 ⟨⟨E, rfl, hE⟩, hb⟩
    exact ⟨⟨E, rfl, .inr ⟨by omega, by omega, by simpa using hE⟩⟩, hb⟩
  · have hres : ChkR (n : Int) os rs 3 := .inr ⟨by omega, by omega, .inl ⟨rfl, fun hv => by
      obtain ⟨e1, e2⟩ := hv.len
      simp at e1 e2
      exact hn ⟨by omega, by omega⟩⟩⟩
    have HR := Lib.hid hres
    rw [hlo, hlr]
    have hd3 : decide ((n : Int) < 1) = false := by simp; omega
    have hd4 : decide ((64 : Int) < n) = false := by simp; omega
    clear hres h1 h2 hlo hlr hd1 hd2
    by_cases h1 : lo = n
    · have g1 : ((lo : Int) != (n : Int)) = false := by simp [h1]
      have g2 : ((lr : Int) != (n : Int)) = true := by simp; omega
      clear hn h1
      go_enter Tryz.func54, Tryz.ntmps54
      go_wp2_with fail
      refine bodyPost_ret (v := .int .i64 3) (by simp [results, Tryz.results54, go_sem]) rfl ?_
      exact ⟨⟨3, rfl, HR.out⟩, alloc_b (alloc_b (alloc_b (Below.refl _ _) _) _) _⟩
    · have g1 : ((lo : Int) != (n : Int)) = true := by simp; omega
      clear hn h1
      go_enter Tryz.func54, Tryz.ntmps54
      go_wp2_with fail
      refine bodyPost_ret (v := .int .i64 3) (by simp [results, Tryz.results54, go_sem]) rfl ?_
      exact ⟨⟨3, rfl, HR.out⟩, alloc_b (alloc_b (alloc_b (Below.refl _ _) _) _) _⟩
end Go.Proofs.YtbejhkojdiadaaaGreat
namespace Go.Proofs.YtbejhkojdiadaaaGreat
open Go.RowKit PlainPm
def OkE (n i : Nat) (os : List (List Int)) (rs : List (List (List Int))) : Prop :=
  ∃ o r, os[i]? = some o ∧ rs[i]? = some r ∧ r.length = o.length ∧ r.length ≤ n ∧ ∀ x ∈ r, x.length = n ∧ chkPerm x = 0
theorem Valid.okE {n i : Nat} {os : List (List Int)} {rs : List (List (List Int))} (h : Valid n os rs) (h0 : 1 ≤ n) (h64 : n ≤ 64) (hi : i < n) : OkE n i os rs := by
  obtain ⟨o, r, h1, h2, h3, h4, h5⟩ := h.lv h0 h64 hi
  exact ⟨o, r, h1, h2, h3, by omega, h5⟩
theorem pms_rv {n : Nat} (hn : 0 < n) {w : World} {D : Nat} {v : Value} {us : List Value} {L : List (Pm n)} {xss : List (List Int)} (ho : Own w D v 27 us) (hr : RV w us xss) (hL : L.map (·.l) = xss) (hl : us.length ≤ 1000000) : PmsV w [] v L := by
  obtain ⟨la, lc, hle, hlr⟩ := ho.row (by unfold maxLen; omega)
  have hLl : L.length = us.length := by rw [hr.1, ← hL, List.length_map]
  refine ⟨la, lc, us, by rw [hle, hLl], hlr, hLl.symm, fun k s hs => ?_⟩
  have hk : k < us.length := by rw [← hLl]; exact (List.getElem?_eq_some_iff.1 hs).1
  refine ⟨us[k], List.getElem?_eq_getElem hk, ?_⟩
  have hf : xss[k]? = some s.l := by rw [← hL, List.getElem?_map, hs]; rfl
  obtain ⟨xa, xc, hxe, hxi⟩ := hr.2 k us[k] s.l (List.getElem?_eq_getElem hk) hf
  have hxl := s.ok.1
  obtain ⟨gb, go, hae, hgl, _⟩ := hxi.at_ (k := 0) (by omega)
  subst hae
  refine ⟨gb, go, xc, by rw [hxe, hxl], by simp, hgl, fun i hi => ?_⟩
  obtain ⟨gb2, go2, hae2, hgl2, hce2⟩ := hxi.at_ (k := i) (by omega)
  cases hae2
  rw [hce2, s.get hi]; rfl
theorem RV.snoc {w : World} {us : List Value} {xss : List (List Int)} {a : Option Addr} {c : Nat} {x : List Int} (h : RV w us xss) (hx : Ints w a x) : RV w (us ++ [.slice a x.length c]) (xss ++ [x]) :=
  h.app ⟨rfl, fun i u xs hu hx' => by
    match i, hu, hx' with
    | 0, hu, hx' => simp at hu hx'; subst hu; subst hx'; exact ⟨a, c, rfl, hx⟩
    | i + 1, hu, hx' => simp at hu⟩
set_option maxRecDepth 100000 in
set_option maxHeartbeats 4000000 in
theorem loop56 {w : World} {a b : Option Addr} {c e n : Nat} {os : List (List Int)} {rs : List (List (List Int))} (h1 : Rows w a os) (h2 : Rows2 w b rs) (hn : os.length = n) (hm : rs.length = n) (hn0 : 1 ≤ n) (hn64 : n ≤ 64) :
    Calls Tryz.prog 56 #[.agg #[.int .i64 (n : Int), .slice a n c, .slice b n e]] w fun e w' => (∃ E : Int, e = .returned (.int .i64 E) ∧ ((E = 3 ∧ ¬ Valid n os rs) ∨ (E = 0 ∧ Valid n os rs))) ∧ Below w.heap.size w w' := by
  obtain ⟨i27, hi27, hz27, hs27, hb27⟩ := info_parts Tryz.info27
  have I27 := Lib.hid (And.intro hi27 (And.intro hz27 (And.intro hs27 hb27)))
  clear hi27 hz27 hs27 hb27
  obtain ⟨X, hX⟩ : ∃ X, w.heap.size = X := ⟨_, rfl⟩
  obtain ⟨W1, hW1⟩ : ∃ W1, W1 = w.alloc (.cells #[.int .i64 (n : Int), .slice a n c, .slice b n e] 25) := ⟨_, rfl⟩
  have hbw : Below w.heap.size w W1 := by rw [hW1]; exact alloc_b (Below.refl _ _) _
  have hc1 : W1.heap[X]? = some (.cells #[.int .i64 (n : Int), .slice a n c, .slice b n e] 25) := by rw [hW1, ← hX]; exact World.alloc_heap_new w _
  have hs1 : W1.heap.size = X + 1 := by rw [hW1, ← hX]; simp
  have hbad : ∀ i, i < n → ¬ OkE n i os rs → ¬ Valid n os rs := fun i hi hb hv => hb (hv.okE hn0 hn64 hi)
  have H := Lib.hid (And.intro h1 (And.intro h2 (And.intro hn (And.intro hm (And.intro hbw (And.intro hc1 (And.intro hs1 (And.intro hX hbad))))))))
  have hd1 : decide ((n : Int) < 1) = false := by simp; omega
  have hd2 : decide ((64 : Int) < n) = false := by simp; omega
  have hd3 : ((n : Int) != (n : Int)) = false := by simp
  obtain ⟨z0, z1, z2, _, _, _⟩ := box_cells hc1
  clear h1 h2 hn hm hbw hc1 hs1 hbad
  go_enter Tryz.func56, Tryz.ntmps56
  try rw [hX]
  go_wp2_with fail
  try rw [← hW1]
  clear hW1 z0 z1 z2 hX
  go_loopw [4, 5, 6] (fun v i _ wr => ∃ (m : Nat) (us : List Value), m ≤ n ∧ i = .int .i64 (m : Int) ∧ Own wr W1.heap.size v 27 us ∧ RV w us (rs.take m).flatten ∧ us.length ≤ m * 64 ∧ Below W1.heap.size W1 wr ∧ ∀ j, j < m → OkE n j os rs) (fun _ i _ _ => n - (intOf i).toNat)
  case atStart => exact ⟨0, [], by omega, rfl, Own.nil _ _ _, ⟨rfl, fun i u xs h => by simp at h⟩, by simp, Below.refl _ _, fun j hj => by omega⟩
  case round =>
    obtain ⟨m, us, hmn, rfl, ho, hp, hul, hb, hok⟩ := hrel
    have hXW : X < W1.heap.size := by have := H.out.2.2.2.2.2.2.1; omega
    obtain ⟨x0, x1, x2, _, _, _⟩ := box_cells ((hb.block _ hXW).trans H.out.2.2.2.2.2.1)
    have hsz := hb.size
    have hbw := below_trans H.out.2.2.2.2.1 hb
    by_cases hmk : m < n
    · obtain ⟨oo, ho1⟩ : ∃ x, os[m]? = some x := ⟨_, List.getElem?_eq_getElem (by rw [H.out.2.2.1]; exact hmk)⟩
      obtain ⟨rr, hr1⟩ : ∃ x, rs[m]? = some x := ⟨_, List.getElem?_eq_getElem (by rw [H.out.2.2.2.1]; exact hmk)⟩
      obtain ⟨ag, ao, ab, ac, hae, hagl, hac0, hoi⟩ := H.out.1.at_ (k := m) (by rw [H.out.2.2.1]; exact hmk)
      obtain ⟨bg, bo, bb, bc, hbe, hbgl, hbc0, hri⟩ := H.out.2.1.at_ (k := m) (by rw [H.out.2.2.2.1]; exact hmk)
      subst hae
      subst hbe
      have hac := (hbw.cell (p := ⟨ag, ao + m, none⟩) hagl).trans hac0
      have hbc := (hbw.cell (p := ⟨bg, bo + m, none⟩) hbgl).trans hbc0
      have hbcw : ∀ V, Below w.heap.size w V → V.cell? ⟨bg, bo + m, none⟩ = some (.slice bb rr.length bc) := fun V hV => by
        have := (hV.cell (p := ⟨bg, bo + m, none⟩) hbgl).trans hbc0
        rwa [hr1, Option.getD_some] at this
      clear hac0 hbc0
      rw [ho1, Option.getD_some] at hac hoi
      rw [hr1, Option.getD_some] at hbc hri
      obtain ⟨O, hO⟩ : ∃ l, oo.length = l := ⟨_, rfl⟩
      obtain ⟨R, hR⟩ : ∃ l, rr.length = l := ⟨_, rfl⟩
      rw [hO] at hac
      rw [hR] at hbc
      have hno : ¬ (R = O ∧ R ≤ n ∧ ∀ x ∈ rr, x.length = n ∧ chkPerm x = 0) → ¬ Valid n os rs := fun hq => H.out.2.2.2.2.2.2.2.2 m hmk (fun hk => by
        obtain ⟨o', r', k1, k2, k3, k4, k5⟩ := hk
        rw [ho1] at k1; cases k1
        rw [hr1] at k2; cases k2
        exact hq ⟨by omega, by omega, k5⟩)
      have HP := Lib.hid (And.intro ho (And.intro hp (And.intro hul (And.intro hb (And.intro hok (And.intro hbw (And.intro hno (And.intro ho1 (And.intro hr1 (And.intro hri (And.intro hO (And.intro hR hbcw))))))))))))
      clear ho hp hul hb hok hbw hno ho1 hr1 hri hO hR hoi hbcw
      have hk1 : (m : Int) < n := by omega
      by_cases hOn : n < O
      · have g1 : decide ((n : Int) < (O : Int)) = true := by simp; omega
        have g2 : decide (n < O) = true := by simp; omega
        have HB := Lib.hid (HP.out.2.2.2.2.2.2.1 (fun h => by omega))
        clear hOn
        go_wp2_with fail
        go_quiet (fail)
        go_wp2_with fail
        go_ret
        exact ⟨⟨3, rfl, .inl ⟨rfl, HB.out⟩⟩, by have := below_drewN HP.out.2.2.2.2.2.1 nq; rwa [H.out.2.2.2.2.2.2.2.1] at this⟩
      · by_cases hOR : O = R
        · subst hOR
          have g1 : decide ((n : Int) < (O : Int)) = false := by simp; omega
          have g2 : decide (n < O) = false := by simp; omega
          have g3 : ((O : Int) != (O : Int)) = false := by simp
          have HOn := Lib.hid hOn
          have hO64 : O ≤ 64 := by omega
          clear hOn
          go_wp2_with fail
          go_quiet (fail)
          go_wp2_with fail
          obtain ⟨vs2, q1, q2, q3⟩ := HP.out.2.2.2.2.2.2.2.2.2.1
          have HQ := Lib.hid (And.intro q1 (And.intro q2 q3))
          clear q1 q2 q3
          obtain ⟨W5, hW5⟩ : ∃ W5, W5 = wr.drewN nq := ⟨_, rfl⟩
          have hb5 : Below wr.heap.size wr W5 := by rw [hW5]; exact below_self_drewN _ _
          have ho5 : Own W5 W1.heap.size u4 27 us := by rw [hW5]; exact HP.out.1.drewN _
          have HV := Lib.hid (And.intro hb5 ho5)
          try rw [← hW5]
          clear hb5 ho5 hW5
          obtain ⟨wo, rfl⟩ : ∃ wo : World, wo = wr := ⟨_, rfl⟩
          go_loopw [4, 6] (fun v k wi => ∃ (q : Nat) (us2 : List Value), q ≤ O ∧ k = .int .i64 (q : Int) ∧ Own wi W1.heap.size v 27 us2 ∧ RV w us2 ((rs.take m).flatten ++ rr.take q) ∧ us2.length ≤ m * 64 + q ∧ Below W1.heap.size W1 wi ∧ ∀ x ∈ rr.take q, x.length = n ∧ chkPerm x = 0) (fun _ k _ => O - (intOf k).toNat)
          case atStart => exact ⟨0, us, by omega, rfl, HV.out.2, by simpa using HP.out.2.1, by have := HP.out.2.2.1; omega, below_trans HP.out.2.2.2.1 HV.out.1, fun x hx => by simp at hx⟩
          case round =>
            obtain ⟨q, us2, hq, rfl, ho2, hp2, hul2, hb2, hch⟩ := hrel
            have hbwi := below_trans H.out.2.2.2.2.1 hb2
            obtain ⟨x0, x1, x2, _, _, _⟩ := box_cells ((hb2.block _ hXW).trans H.out.2.2.2.2.2.1)
            have y2 := HP.out.2.2.2.2.2.2.2.2.2.2.2.2 wr hbwi
            rw [HP.out.2.2.2.2.2.2.2.2.2.2.2.1] at y2
            have hszi := hb2.size
            by_cases hqO : q < O
            · obtain ⟨x, hx⟩ : ∃ x, rr[q]? = some x := ⟨_, List.getElem?_eq_getElem (by rw [HP.out.2.2.2.2.2.2.2.2.2.2.2.1]; exact hqO)⟩
              obtain ⟨u, hu⟩ : ∃ x, vs2[q]? = some x := ⟨_, List.getElem?_eq_getElem (by rw [HQ.out.2.1, HP.out.2.2.2.2.2.2.2.2.2.2.2.1]; exact hqO)⟩
              obtain ⟨xa, xc, rfl, hxi⟩ := HQ.out.2.2 q u x hu hx
              obtain ⟨pb, po, hpe, _, hpc⟩ := (HQ.out.1.below hbwi).2 q _ hu
              subst hpe
              obtain ⟨XL, hXL⟩ : ∃ l, x.length = l := ⟨_, rfl⟩
              have hck := rperm_calls (c := xc) (hxi.below hbwi)
              have hRVx := fun (h : RV w us2 ((rs.take m).flatten ++ rr.take q)) => h.snoc (c := xc) hxi
              rw [hXL] at hpc hck hRVx
              obtain ⟨E, hE⟩ : ∃ E, chkPerm x = E := ⟨_, rfl⟩
              rw [hE] at hck
              have hbadx : ¬ (XL = n ∧ E = 0) → ¬ Valid n os rs := fun hk => HP.out.2.2.2.2.2.2.1 (fun h => hk (by
                have := h.2.2 x (List.mem_of_getElem? hx)
                exact ⟨by omega, by rw [← hE]; exact this.2⟩))
              have HI := Lib.hid (And.intro ho2 (And.intro hp2 (And.intro hul2 (And.intro hb2 (And.intro hch (And.intro hbwi (And.intro hx (And.intro hck (And.intro hRVx (And.intro hE (And.intro hXL hbadx)))))))))))
              clear ho2 hp2 hul2 hb2 hch hbwi hx hu hck hRVx hE hXL hbadx hxi
              have hq1 : (q : Int) < O := by omega
              by_cases hXn : XL = n
              · subst hXn
                have g5 : ((XL : Int) != (XL : Int)) = false := by simp
                by_cases hE0 : E = 0
                · subst hE0
                  go_wp2_with (first
                    | (go_at_call 91; (with_reducible refine HI.out.2.2.2.2.2.2.2.1.mono ?_); rintro e1 w6 ⟨rfl, k1⟩; have x2' := (k1.cell (block_lt_of_cell x2)).trans x2; have y2' := (k1.cell (block_lt_of_cell y2)).trans y2; have p2' := (k1.cell (block_lt_of_cell hpc)).trans hpc; have ho6 := HI.out.1.below k1; have hs6 := Nat.le_trans hszi k1.size; have H6 := Lib.hid (And.intro k1 ho6); clear k1 ho6)
                    | (at_builtin; refine app1 rfl (.tmp 90) (.tmp 99) 44 27 rfl i27 (.slice none 0 0) 24 Tryz.underlying44 I27.out.1 I27.out.2.1 I27.out.2.2.1 I27.out.2.2.2 rfl (by omega) W1.heap.size (.slice xa XL xc) _ us2 rfl H6.out.2 rfl rfl (by have := HI.out.2.2.1; have := HOn.out; have : m * 64 ≤ 64 * 64 := Nat.mul_le_mul (by omega) (Nat.le_refl _); omega) hs6 ?_; intro v8 w8 k1 k2 k3; have H8 := Lib.hid (And.intro k1 (And.intro k2 k3)); clear k1 k2 k3))
                  have htk : rr.take (q + 1) = rr.take q ++ [x] := by rw [List.take_add_one, HI.out.2.2.2.2.2.2.1]; rfl
                  refine ⟨⟨q + 1, _, by omega, by go_num, H8.out.1, ?_, ?_, ?_, ?_⟩, by simp [intOf]; omega⟩
                  · rw [htk, ← List.append_assoc]; exact HI.out.2.2.2.2.2.2.2.2.1 HI.out.2.1
                  · rw [List.length_append]; have := HI.out.2.2.1; simp; omega
                  · exact (below_trans HI.out.2.2.2.1 H6.out.1).grown H8.out.2.1 hs6 (fun g hg => (H6.out.2.block_lt hg).2)
                  · intro x' hx'
                    rw [htk] at hx'
                    rcases List.mem_append.1 hx' with h | h
                    · exact HI.out.2.2.2.2.1 x' h
                    · rw [List.mem_singleton] at h; subst h
                      exact ⟨HI.out.2.2.2.2.2.2.2.2.2.2.1, HI.out.2.2.2.2.2.2.2.2.2.1⟩
                · have g6 : (E != 0) = true := by simp [hE0]
                  have HB := Lib.hid (HI.out.2.2.2.2.2.2.2.2.2.2.2 (fun h => hE0 h.2))
                  clear hE0
                  go_wp2_with (go_at_call 91; (with_reducible refine HI.out.2.2.2.2.2.2.2.1.mono ?_); rintro e1 w6 ⟨rfl, k1⟩; have H6 := Lib.hid k1; clear k1)
                  go_ret
                  exact ⟨⟨3, rfl, .inl ⟨rfl, HB.out⟩⟩, by have := below_trans HI.out.2.2.2.2.2.1 H6.out; rwa [H.out.2.2.2.2.2.2.2.1] at this⟩
              · have g5 : ((XL : Int) != (n : Int)) = true := by simp; omega
                have HB := Lib.hid (HI.out.2.2.2.2.2.2.2.2.2.2.2 (fun h => hXn h.1))
                clear hXn
                go_wp2_with fail
                go_ret
                exact ⟨⟨3, rfl, .inl ⟨rfl, HB.out⟩⟩, by have := HI.out.2.2.2.2.2.1; rwa [H.out.2.2.2.2.2.2.2.1] at this⟩
            · obtain rfl : q = O := by omega
              have hq1 : ¬ (q : Int) < q := by omega
              have HI := Lib.hid (And.intro ho2 (And.intro hp2 (And.intro hul2 (And.intro hb2 hch))))
              clear ho2 hp2 hul2 hb2 hch
              go_wp2_with fail
              have htk : rr.take q = rr := List.take_of_length_le (by rw [HP.out.2.2.2.2.2.2.2.2.2.2.2.1]; exact Nat.le_refl _)
              have hp3 := HI.out.2.1
              have hc3 := HI.out.2.2.2.2
              rw [htk] at hp3 hc3
              refine ⟨⟨m + 1, us2, by omega, by go_num, HI.out.1, ?_, by have := HI.out.2.2.1; have := HOn.out; omega, HI.out.2.2.2.1, fun j hj => ?_⟩, by simp [intOf]; omega⟩
              · rw [List.take_add_one, HP.out.2.2.2.2.2.2.2.2.1, Option.toList_some, List.flatten_append]
                simpa using hp3
              · by_cases ej : j = m
                · subst ej
                  exact ⟨oo, rr, HP.out.2.2.2.2.2.2.2.1, HP.out.2.2.2.2.2.2.2.2.1, by rw [HP.out.2.2.2.2.2.2.2.2.2.2.1, HP.out.2.2.2.2.2.2.2.2.2.2.2.1], by rw [HP.out.2.2.2.2.2.2.2.2.2.2.2.1]; have := HOn.out; omega, hc3⟩
                · exact HP.out.2.2.2.2.1 j (by omega)
        · have g1 : decide ((n : Int) < (O : Int)) = false := by simp; omega
          have g2 : decide (n < O) = false := by simp; omega
          have g3 : ((O : Int) != (R : Int)) = true := by simp; omega
          have HB := Lib.hid (HP.out.2.2.2.2.2.2.1 (fun h => by omega))
          clear hOn hOR
          go_wp2_with fail
          go_quiet (fail)
          go_wp2_with fail
          go_ret
          exact ⟨⟨3, rfl, .inl ⟨rfl, HB.out⟩⟩, by have := below_drewN HP.out.2.2.2.2.2.1 nq; rwa [H.out.2.2.2.2.2.2.2.1] at this⟩
    · obtain rfl : m = n := by omega
      have hk1 : ¬ (m : Int) < m := by omega
      rw [List.take_of_length_le (by rw [H.out.2.2.2.1]; exact Nat.le_refl _)] at hp
      obtain ⟨L, hL⟩ := perms_of (n := m) hn0 hn64 (l := rs.flatten) (fun x hx => by
        obtain ⟨r, hr, hxr⟩ := List.mem_flatten.1 hx
        obtain ⟨i, hi⟩ := List.mem_iff_getElem?.1 hr
        have hil := (List.getElem?_eq_some_iff.1 hi).1
        obtain ⟨_, r', _, e2, _, _, e5⟩ := hok i (by rw [H.out.2.2.2.1] at hil; exact hil)
        rw [hi] at e2; cases e2
        exact e5 x hxr)
      have hul64 : us.length ≤ 4096 := Nat.le_trans hul (Nat.le_trans (Nat.mul_le_mul_right 64 hn64) (by omega))
      have hpms := pms_rv (by omega) ho (hp.below hbw) hL (by omega)
      have hLl : L.length = us.length := by rw [hp.1, ← hL, List.length_map]
      have hmk := make96 (n := m) ⟨hn0, hn64⟩ (by omega) hpms
      obtain ⟨la, lc, hle, _⟩ := ho.row (by unfold maxLen; omega)
      obtain ⟨lu, hlu⟩ : ∃ l, us.length = l := ⟨_, rfl⟩
      rw [hlu] at hle
      subst hle
      have hlu1 : decide ((4096 : Int) < (lu : Int)) = false := by simp; omega
      have hlu2 : decide (4096 < lu) = false := by simp; omega
      have HP := Lib.hid (And.intro hmk (And.intro hL (And.intro hb hbw)))
      clear hmk hL hb hbw ho hp hul hok hul64 hpms hLl hlu
      go_wp2_with (first
        | (go_at_call 96; (with_reducible refine HP.out.1.mono ?_); rintro e1 w6 ⟨T, a6, c6, b6, d6, hT, rfl, k1, k2, k3⟩; have x0' := cell_al_old w6 (.cells #[.int .i64 (m : Int), .slice a6 m c6, .slice b6 m d6] 25) ((k3.cell (block_lt_of_cell x0)).trans x0); have x1' := cell_al_old w6 (.cells #[.int .i64 (m : Int), .slice a6 m c6, .slice b6 m d6] 25) ((k3.cell (block_lt_of_cell x1)).trans x1); have x2' := cell_al_old w6 (.cells #[.int .i64 (m : Int), .slice a6 m c6, .slice b6 m d6] 25) ((k3.cell (block_lt_of_cell x2)).trans x2); have hBg : Below w.heap.size w (w6.alloc (.cells #[.int .i64 (m : Int), .slice a6 m c6, .slice b6 m d6] 25)) := alloc_b (below_trans HP.out.2.2.2 k3) _ (by have := (below_trans HP.out.2.2.2 k3).size; omega); have hS := same31 (w := w6.alloc (.cells #[.int .i64 (m : Int), .slice a6 m c6, .slice b6 m d6] 25)) (v := .agg #[.int .i64 (m : Int), .slice a m c, .slice b m e]) (v' := .agg #[.int .i64 (m : Int), .slice a6 m c6, .slice b6 m d6]) (d := m) (d' := m) (os := os) (os' := orbI T m) (rs := rs) (rs' := repI T m) ⟨a, c, b, e, by rw [H.out.2.2.1, H.out.2.2.2.1], H.out.1.below hBg, H.out.2.1.below hBg⟩ ⟨a6, c6, b6, d6, by simp [orbI, repI], k1.below (alloc_b (Below.refl _ _) _), k2.below (alloc_b (Below.refl _ _) _)⟩; obtain ⟨B, hB⟩ : ∃ B, decide ((m : Int) = m ∧ os = orbI T m ∧ rs = repI T m) = B := ⟨_, rfl⟩; rw [hB] at hS; have H6 := Lib.hid (And.intro hT (And.intro hS (And.intro hBg hB))); clear hT k1 k2 k3 hS hBg hB)
        | (go_at_call 31; refine H6.out.2.1.mono ?_; rintro e1 w8 ⟨rfl, k8⟩; have H8 := Lib.hid k8; clear k8))
      all_goals
        have hv := valid_iff (os := os) (rs := rs) H6.out.1 HP.out.2.1
        have hbb := below_trans H6.out.2.2.1 H8.out
        rw [H.out.2.2.2.2.2.2.2.1] at hbb
        have hdB := H6.out.2.2.2
        rename_i hB1
        first
          | (have hBt : B = false := by simpa using hB1
             rw [hBt] at hdB
             refine bodyPost_ret (v := .int .i64 3) (by simp [results, Tryz.results56, go_sem]) rfl ⟨⟨3, rfl, .inl ⟨rfl, fun hV => ?_⟩⟩, hbb⟩
             exact of_decide_eq_false hdB ⟨by trivial, hv.1 hV⟩)
          | (have hBt : B = true := by simpa using hB1
             rw [hBt] at hdB
             refine bodyPost_ret (v := .int .i64 0) (by simp [results, Tryz.results56, go_sem]) rfl ⟨⟨0, rfl, .inr ⟨rfl, hv.2 (of_decide_eq_true hdB).2⟩⟩, hbb⟩)
set_option maxRecDepth 100000 in
set_option maxHeartbeats 1000000 in
theorem check56 {w : World} {v : Value} {d : Int} {os : List (List Int)} {rs : List (List (List Int))} (h : ChV w v d os rs) :
    Calls Tryz.prog 56 #[v] w fun e w' => (∃ E : Int, e = .returned (.int .i64 E) ∧ ChkR d os rs E) ∧ Below w.heap.size w w' := by
  obtain ⟨a, c, b, e, rfl, h1, h2⟩ := h
  obtain ⟨lo, hlo⟩ : ∃ l, os.length = l := ⟨_, rfl⟩
  obtain ⟨lr, hlr⟩ : ∃ l, rs.length = l := ⟨_, rfl⟩
  by_cases hd1 : d < 1
  · rw [hlo, hlr]
    clear h1 h2 hlo hlr
    have hdd : decide (d < 1) = true := by simp [hd1]
    go_enter Tryz.func56, Tryz.ntmps56
    go_wp2_with fail
    refine bodyPost_ret (v := .int .i64 2) (by simp [results, Tryz.results56, go_sem]) rfl ?_
    exact ⟨⟨2, rfl, .inl ⟨.inl hd1, rfl⟩⟩, alloc_b (Below.refl _ _) _⟩
  by_cases hd2 : 64 < d
  · rw [hlo, hlr]
    clear h1 h2 hlo hlr
    have hd3 := Lib.hid hd2
    have hdd : decide (d < 1) = false := by simp; omega
    have hd4 : decide (64 < d) = true := by simp [hd2]
    clear hd1 hd2
    go_enter Tryz.func56, Tryz.ntmps56
    go_wp2_with fail
    refine bodyPost_ret (v := .int .i64 2) (by simp [results, Tryz.results56, go_sem]) rfl ?_
    exact ⟨⟨2, rfl, .inl ⟨.inr hd3.out, rfl⟩⟩, alloc_b (Below.refl _ _) _⟩
  obtain ⟨n, rfl⟩ : ∃ n : Nat, d = n := ⟨d.toNat, by omega⟩
  by_cases hn : lo = n ∧ lr = n
  · obtain ⟨rfl, rfl⟩ := hn
    have := loop56 (c := c) (e := e) h1 h2 hlo hlr (by omega) (by omega)
    rw [hlo, hlr]
    refine this.mono ?_
    rintro e1 w1 ⟨⟨E, rfl, hE⟩, hb⟩
    exact ⟨⟨E, rfl, .inr ⟨by omega, by omega, by simpa using hE⟩⟩, hb⟩
  · have hres : ChkR (n : Int) os rs 3 := .inr ⟨by omega, by omega, .inl ⟨rfl, fun hv => by
      obtain ⟨e1, e2⟩ := hv.len
      simp at e1 e2
      exact hn ⟨by omega, by omega⟩⟩⟩
    have HR := Lib.hid hres
    rw [hlo, hlr]
    have hd3 : decide ((n : Int) < 1) = false := by simp; omega
    have hd4 : decide ((64 : Int) < n) = false := by simp; omega
    clear hres h1 h2 hlo hlr hd1 hd2
    by_cases h1 : lo = n
    · have g1 : ((lo : Int) != (n : Int)) = false := by simp [h1]
      have g2 : ((lr : Int) != (n : Int)) = true := by simp; omega
      clear hn h1
      go_enter Tryz.func56, Tryz.ntmps56
      go_wp2_with fail
      refine bodyPost_ret (v := .int .i64 3) (by simp [results, Tryz.results56, go_sem]) rfl ?_
      exact ⟨⟨3, rfl, HR.out⟩, alloc_b (Below.refl _ _) _⟩
    · have g1 : ((lo : Int) != (n : Int)) = true := by simp; omega
      clear hn h1
      go_enter Tryz.func56, Tryz.ntmps56
      go_wp2_with fail
      refine bodyPost_ret (v := .int .i64 3) (by simp [results, Tryz.results56, go_sem]) rfl ?_
      exact ⟨⟨3, rfl, HR.out⟩, alloc_b (Below.refl _ _) _⟩
end Go.Proofs.YtbejhkojdiadaaaGreat
namespace Go.Proofs.YtbejhkojdiadaaaGreat
open Go.RowKit PlainPm
open Classical in
noncomputable def chkE (d : Int) (os : List (List Int)) (rs : List (List (List Int))) : Int :=
  if 1 ≤ d ∧ d ≤ 64 then (if Valid d.toNat os rs then 0 else 3) else 2
theorem chkR_iff {d : Int} {os : List (List Int)} {rs : List (List (List Int))} {E : Int} : ChkR d os rs E ↔ E = chkE d os rs := by
  have h : ChkR d os rs (chkE d os rs) := by
    unfold chkE
    by_cases h1 : 1 ≤ d ∧ d ≤ 64
    · rw [if_pos h1]
      by_cases hv : Valid d.toNat os rs
      · rw [if_pos hv]; exact .inr ⟨h1.1, h1.2, .inr ⟨rfl, hv⟩⟩
      · rw [if_neg hv]; exact .inr ⟨h1.1, h1.2, .inl ⟨rfl, hv⟩⟩
    · rw [if_neg h1]; exact .inl ⟨by omega, rfl⟩
  exact ⟨fun k => k.uniq h, fun e => e ▸ h⟩
open Classical in
noncomputable def grpV (n : Nat) (os : List (List Int)) (rs : List (List (List Int))) : List (Pm n) :=
  if h : Valid n os rs then Classical.choose h else []
open Classical in
noncomputable def twV (n : Nat) (os : List (List Int)) (rs : List (List (List Int))) : Tw n :=
  if h : Valid n os rs then Classical.choose (Classical.choose_spec h) else tower0 n
theorem valid_tw {n : Nat} {os : List (List Int)} {rs : List (List (List Int))} (h : Valid n os rs) : Of (Grp (· ∈ grpV n os rs)) (twV n os rs) ∧ os = orbI (twV n os rs) n ∧ rs = repI (twV n os rs) n := by
  have := Classical.choose_spec (Classical.choose_spec h)
  unfold grpV twV
  rw [dif_pos h, dif_pos h]
  exact ⟨this.1, this.2.2.1, this.2.2.2⟩
noncomputable def orbV (n : Nat) (os : List (List Int)) (rs : List (List (List Int))) (i : Nat) : List Nat := ptsOf n (twV n os rs i).orb
noncomputable def repV (n : Nat) (os : List (List Int)) (rs : List (List (List Int))) (i p : Nat) : Pm n := repT (twV n os rs) i p
section
variable {n : Nat} {os : List (List Int)} {rs : List (List (List Int))}
theorem Valid.chG (h : Valid n os rs) : ChG (Grp (· ∈ grpV n os rs)) (orbV n os rs) (repV n os rs) := (valid_tw h).1.chG Grp.isG
theorem Valid.orbAt (h : Valid n os rs) {i : Nat} (hi : i < n) : os[i]? = some (nts (orbV n os rs i)) := by
  obtain ⟨_, e, _⟩ := valid_tw h
  have : (orbI (twV n os rs) n)[i]? = some (nts (orbV n os rs i)) := by
    unfold orbI; rw [List.getElem?_map, List.getElem?_range hi]; rfl
  rw [← this, ← e]
theorem Valid.repAt (h : Valid n os rs) {i : Nat} (hi : i < n) : rs[i]? = some ((orbV n os rs i).map fun p => (repV n os rs i p).l) := by
  obtain ⟨_, _, e⟩ := valid_tw h
  have : (repI (twV n os rs) n)[i]? = some ((orbV n os rs i).map fun p => (repV n os rs i p).l) := by
    unfold repI; rw [List.getElem?_map, List.getElem?_range hi]; rfl
  rw [← this, ← e]
end
end Go.Proofs.YtbejhkojdiadaaaGreat
namespace Go.Proofs.YtbejhkojdiadaaaGreat
open Go.RowKit PlainPm
def CapV (w : World) (v : Value) : Prop := ∀ d a lo c b lr e, v = .agg #[.int .i64 d, .slice a lo c, .slice b lr e] →
  (∀ ad, a = some ad → ∀ i, i < lo → ∀ x l k, w.cell? (ad.add i) = some (.slice x l k) → l ≤ k) ∧
  (∀ ad, b = some ad → ∀ i, i < lr → ∀ x l k, w.cell? (ad.add i) = some (.slice x l k) → l ≤ k)
theorem pm_of_ints {n : Nat} (hn : 0 < n) {w : World} {a : Option Addr} {c : Nat} {x : Pm n} (h : Ints w a x.l) : PmV w [] (.slice a n c) x := by
  have hl := x.ok.1
  obtain ⟨b, o, rfl, hb, _⟩ := h.at_ (k := 0) (by omega)
  refine ⟨b, o, c, rfl, by simp, hb, fun i hi => ?_⟩
  obtain ⟨b', o', he, _, hc⟩ := h.at_ (k := i) (by omega)
  cases he
  rw [hc, x.get hi]; rfl
theorem lev_of {w : World} {v : Value} {n : Nat} {os : List (List Int)} {rs : List (List (List Int))} (h : ChV w v n os rs) (hc : CapV w v) (hv : Valid n os rs) (hn0 : 1 ≤ n) (hn : n ≤ 64) :
    ∃ ab ao c bb bo e, v = cv n ab ao c bb bo e ∧ LvW n w (orbV n os rs) (repV n os rs) ab ao bb bo := by
  obtain ⟨a, c, b, e, rfl, h1, h2⟩ := h
  obtain ⟨lo, lr⟩ := hv.len
  have hG := hv.chG
  obtain ⟨hc1, hc2⟩ := hc _ _ _ _ _ _ _ rfl
  obtain ⟨ab, ao, _, _, rfl, _, _, _⟩ := h1.at_ (k := 0) (by omega)
  obtain ⟨bb, bo, _, _, rfl, _, _, _⟩ := h2.at_ (k := 0) (by omega)
  rw [lo, lr]
  refine ⟨ab, ao, c, bb, bo, e, rfl, fun i hi => ?_, fun i hi => ?_⟩
  · obtain ⟨g, o, x, k, he, hg, hcell, hints⟩ := h1.at_ (k := i) (by omega)
    cases he
    rw [hv.orbAt hi, Option.getD_some] at hcell hints
    rw [nts_len] at hcell
    have hpos := hG.pos hi
    have hcap := hc1 _ rfl i (by omega) _ _ _ (by rw [add_zero_addr]; exact hcell)
    obtain ⟨g2, o2, rfl, hg2, _⟩ := hints.at_ (k := 0) (by rw [nts_len]; exact hpos)
    refine ⟨_, hcell, g2, o2, k, rfl, hg2, Nat.le_trans (hG.short hi) hn, hcap, fun j q hq => ?_⟩
    have hj := (List.getElem?_eq_some_iff.1 hq).1
    obtain ⟨g3, o3, he3, _, hc3⟩ := hints.at_ (k := j) (by rw [nts_len]; exact hj)
    cases he3
    rw [hc3, nts_get hj, hq]; rfl
  · obtain ⟨g, o, x, k, he, hg, hcell, hrows⟩ := h2.at_ (k := i) (by omega)
    cases he
    rw [hv.repAt hi, Option.getD_some] at hcell hrows
    rw [List.length_map] at hcell
    have hpos := hG.pos hi
    have hcap := hc2 _ rfl i (by omega) _ _ _ (by rw [add_zero_addr]; exact hcell)
    obtain ⟨g2, o2, _, _, rfl, hg2, _, _⟩ := hrows.at_ (k := 0) (by rw [List.length_map]; exact hpos)
    refine ⟨_, hcell, g2, o2, k, by rw [List.length_map], hg2, by rw [List.length_map]; exact Nat.le_trans (hG.short hi) hn, by rw [List.length_map]; exact hcap, fun j y hy => ?_⟩
    rw [List.getElem?_map, Option.map_eq_some_iff] at hy
    obtain ⟨q, hq, rfl⟩ := hy
    have hj := (List.getElem?_eq_some_iff.1 hq).1
    obtain ⟨g3, o3, xa, xc, he3, _, hc3, hi3⟩ := hrows.at_ (k := j) (by rw [List.length_map]; exact hj)
    cases he3
    rw [List.getElem?_map, hq] at hc3 hi3
    simp only [Option.map_some, Option.getD_some] at hc3 hi3
    rw [(repV n os rs i q).ok.1] at hc3
    exact ⟨_, hc3, pm_of_ints (by omega) hi3⟩
theorem chk54 {w : World} {v : Value} {d : Int} {os : List (List Int)} {rs : List (List (List Int))} (h : ChV w v d os rs) : Calls Tryz.prog 54 #[v] w fun e w' => e = .returned (.int .i64 (chkE d os rs)) ∧ Below w.heap.size w w' :=
  (check54 h).mono fun _ _ ⟨⟨E, he, hr⟩, hb⟩ => ⟨by rw [he, chkR_iff.1 hr], hb⟩
theorem chk56 {w : World} {v : Value} {d : Int} {os : List (List Int)} {rs : List (List (List Int))} (h : ChV w v d os rs) : Calls Tryz.prog 56 #[v] w fun e w' => e = .returned (.int .i64 (chkE d os rs)) ∧ Below w.heap.size w w' :=
  (check56 h).mono fun _ _ ⟨⟨E, he, hr⟩, hb⟩ => ⟨by rw [he, chkR_iff.1 hr], hb⟩
section
variable {w : World} {v : Value} {d : Int} {os : List (List Int)} {rs : List (List (List Int))} {a : Option Addr} {c : Nat} {p : List Int}
end
section
variable {n ab ao c bb bo e : Nat} {G : Pm n → Prop} {O : Nat → List Nat} {R : Nat → Nat → Pm n} {w : World}
end
--WALKS
end Go.Proofs.YtbejhkojdiadaaaGreat
namespace Go.Proofs.YtbejhkojdiadaaaGreat.PlainPm
instance (n : Nat) (l : List Int) : Decidable (IsPm n l) := by unfold IsPm; infer_instance
def litP (n : Nat) (l : List Int) : Pm n := if h : IsPm n l then ⟨l, h⟩ else PlainPm.one n
theorem litP_l {n : Nat} {l : List Int} (h : IsPm n l) : (litP n l).l = l := by unfold litP; rw [dif_pos h]
section
variable {n : Nat}
def evW (L : List (Pm n)) (w : List Nat) : Pm n := w.foldl (fun x k => x.mul (L[k]?.getD (PlainPm.one n))) (PlainPm.one n)
theorem evW_grp (L : List (Pm n)) (w : List Nat) : Grp (· ∈ L) (evW L w) := by
  have key : ∀ (w : List Nat) (x : Pm n), Grp (· ∈ L) x → Grp (· ∈ L) (w.foldl (fun x k => x.mul (L[k]?.getD (PlainPm.one n))) x) := by
    intro w
    induction w with
    | nil => exact fun x h => h
    | cons k w ih =>
      intro x hx
      refine ih _ (hx.times ?_)
      cases hk : L[k]? with
      | none => exact .one
      | some y => exact Grp.base (List.mem_of_getElem? hk)
  exact key w _ .one
abbrev En := Nat × Nat × List Int × List Nat
def tabOf (n : Nat) (es : List En) (i p : Nat) : Option (Pm n) := (es.find? fun e => e.1 == i && e.2.1 == p).map fun e => litP n e.2.2.1
def chkTab (n : Nat) (L : List (Pm n)) (es : List En) : Bool :=
  (es.all fun e => decide (e.1 < n) && decide (e.2.1 < n) && decide (e.2.1 ≠ e.1) && decide ((litP n e.2.2.1).at e.1 = e.2.1) && ((List.range e.1).all fun j => decide ((litP n e.2.2.1).at j = j)) && decide (litP n e.2.2.1 = evW L e.2.2.2))
  && (L.all fun x => decide ((sft (tabTw (tabOf n es)) n 0 x).1 = n))
  && (es.all fun a => es.all fun b => decide ((sft (tabTw (tabOf n es)) n 0 ((litP n a.2.2.1).mul (litP n b.2.2.1))).1 = n))
theorem tabOf_some {es : List En} {i p : Nat} {y : Pm n} (h : tabOf n es i p = some y) : ∃ e ∈ es, e.1 = i ∧ e.2.1 = p ∧ y = litP n e.2.2.1 := by
  unfold tabOf at h
  rw [Option.map_eq_some_iff] at h
  obtain ⟨e, h1, h2⟩ := h
  have h3 := List.find?_some h1
  rw [Bool.and_eq_true, beq_iff_eq, beq_iff_eq] at h3
  exact ⟨e, List.mem_of_find?_eq_some h1, h3.1, h3.2, h2.symm⟩
theorem tower_of {L : List (Pm n)} {es : List En} (h : chkTab n L es = true) : Of (Grp (· ∈ L)) (tabTw (tabOf n es)) := by
  unfold chkTab at h
  rw [Bool.and_eq_true, Bool.and_eq_true, List.all_eq_true, List.all_eq_true, List.all_eq_true] at h
  obtain ⟨⟨h1, h2⟩, h3⟩ := h
  have h1' : ∀ e ∈ es, e.1 < n ∧ e.2.1 < n ∧ e.2.1 ≠ e.1 ∧ (litP n e.2.2.1).at e.1 = e.2.1 ∧ Fx e.1 (litP n e.2.2.1) ∧ litP n e.2.2.1 = evW L e.2.2.2 := fun e he => by
    have := h1 e he
    simp only [Bool.and_eq_true, decide_eq_true_iff, List.all_eq_true, List.mem_range] at this
    exact ⟨this.1.1.1.1.1, this.1.1.1.1.2, this.1.1.1.2, this.1.1.2, fun j hj => this.1.2 j hj, this.2⟩
  have hok : TabOk (tabOf n es) := ⟨fun i p y hy => by
    obtain ⟨e, he, rfl, rfl, rfl⟩ := tabOf_some hy
    obtain ⟨a1, a2, a3, a4, a5, _⟩ := h1' e he
    exact ⟨a1, a2, a3, a4, a5⟩⟩
  have hS : TabS L (tabOf n es) := ⟨hok, fun i p y hy => by
    obtain ⟨e, he, rfl, rfl, rfl⟩ := tabOf_some hy
    rw [(h1' e he).2.2.2.2.2]
    exact evW_grp _ _, fun x hx => by
    have := of_decide_eq_true (h2 x hx)
    exact tab_end hok (r := (sft (tabTw (tabOf n es)) n 0 x).2) (Prod.ext this rfl)⟩
  refine hS.closed fun x hx y hy => ?_
  obtain ⟨i, p, hx⟩ := (mem_entL hok).1 hx
  obtain ⟨j, q, hy⟩ := (mem_entL hok).1 hy
  obtain ⟨a, ha, _, _, rfl⟩ := tabOf_some hx
  obtain ⟨b, hb, _, _, rfl⟩ := tabOf_some hy
  have := List.all_eq_true.1 (h3 a ha) b hb
  exact tab_end hok (r := (sft (tabTw (tabOf n es)) n 0 _).2) (Prod.ext (of_decide_eq_true this) rfl)
end
def gS4 : List (Pm 4) := [litP 4 [1, 2, 3, 0], litP 4 [1, 0, 2, 3]]
def eS4 : List En := [(0, 1, [1, 0, 2, 3], [1]), (0, 2, [2, 3, 0, 1], [0, 0]), (0, 3, [3, 0, 1, 2], [0, 0, 0]), (1, 2, [0, 2, 3, 1], [0, 1]), (1, 3, [0, 3, 1, 2], [0, 1, 0, 1]), (2, 3, [0, 1, 3, 2], [0, 0, 1, 0, 0])]
theorem tS4 : Of (Grp (· ∈ gS4)) (tabTw (tabOf 4 eS4)) := tower_of (by decide +kernel)
def gV4 : List (Pm 4) := [litP 4 [1, 0, 3, 2], litP 4 [2, 3, 0, 1]]
def eV4 : List En := [(0, 1, [1, 0, 3, 2], [0]), (0, 2, [2, 3, 0, 1], [1]), (0, 3, [3, 2, 1, 0], [0, 1])]
theorem tV4 : Of (Grp (· ∈ gV4)) (tabTw (tabOf 4 eV4)) := tower_of (by decide +kernel)
def gZ2 : List (Pm 4) := [litP 4 [0, 1, 3, 2]]
def eZ2 : List En := [(2, 3, [0, 1, 3, 2], [0])]
theorem tZ2 : Of (Grp (· ∈ gZ2)) (tabTw (tabOf 4 eZ2)) := tower_of (by decide +kernel)
def orbO {n : Nat} (T : Tw n) (i : Nat) : List Nat := ptsOf n (T i).orb
end Go.Proofs.YtbejhkojdiadaaaGreat.PlainPm
namespace Go.Proofs.YtbejhkojdiadaaaGreat
open Go.RowKit PlainPm
namespace PlainPm
theorem ChG.gen {n : Nat} {G : Pm n → Prop} {O : Nat → List Nat} {R : Nat → Nat → Pm n} (h : ChG G O R) {M : Pm n → Prop} (hM : ∀ i, i < n → ∀ p ∈ O i, M (R i p)) : ∀ {f i : Nat} {x : Pm n}, i + f = n → Fx i x → G x → Grp M x
  | 0, i, x, hf, hx, _ => by
    have hi : i = n := by omega
    subst hi
    rw [Fx.all hx]; exact .one
  | f + 1, i, x, hf, hx, hg => by
    have hi : i < n := by omega
    have hm : x.at i ∈ O i := (h.mem i hi _).2 ⟨x, hg, hx, rfl⟩
    obtain ⟨h1, h2, h3⟩ := h.rep i hi _ hm
    have hx' : Fx (i + 1) (x.mul (R i (x.at i)).inv) := by
      refine (hx.mul (by omega) (h2.inv (by omega))).succ ?_
      have := (R i (x.at i)).inv_of (i := i) hi
      rw [h3] at this
      rw [Pm.mul_at _ _ hi, this]
    have ih := h.gen hM (f := f) (i := i + 1) (by omega) hx' (h.isG.mul hg (h.isG.inv h1))
    have := ih.times (Grp.base (hM i hi _ hm))
    rwa [Pm.inv_mul_cancel] at this
end PlainPm
theorem nts_inj {l m : List Nat} (h : nts l = nts m) : l = m := by
  refine List.ext_getElem? fun i => ?_
  have := congrArg (fun x : List Int => x[i]?) h
  simp only [nts, List.getElem?_map] at this
  cases h1 : l[i]? <;> cases h2 : m[i]? <;> rw [h1, h2] at this <;> simp at this ⊢
  omega
section
variable {n : Nat} {L : List (Pm n)} {T : Tw n}
theorem valid_of (h : Of (Grp (· ∈ L)) T) : Valid n (orbI T n) (repI T n) := by
  have hG := h.chG Grp.isG
  obtain ⟨L', hL'⟩ : ∃ L' : List (Pm n), L' = (repsT T).flatten := ⟨_, rfl⟩
  have hmem : ∀ y, y ∈ L' ↔ ∃ i, i < n ∧ ∃ p ∈ ptsOf n (T i).orb, y = PlainPm.repT T i p := fun y => by
    rw [hL']
    unfold repsT
    rw [List.mem_flatten]
    constructor
    · rintro ⟨l, hl, hy⟩
      obtain ⟨i, hi, rfl⟩ := List.mem_map.1 hl
      obtain ⟨p, hp, rfl⟩ := List.mem_map.1 hy
      exact ⟨i, List.mem_range.1 hi, p, hp, rfl⟩
    · rintro ⟨i, hi, p, hp, rfl⟩
      exact ⟨_, List.mem_map.2 ⟨i, List.mem_range.2 hi, rfl⟩, List.mem_map.2 ⟨p, hp, rfl⟩⟩
  refine ⟨L', T, h.congr fun x => ⟨fun hx => ?_, fun hx => ?_⟩, ?_, rfl, rfl⟩
  · exact hG.gen (fun i hi p hp => (hmem _).2 ⟨i, hi, p, hp, rfl⟩) (f := n) (i := 0) (by omega) (fun j hj => by omega) hx
  · refine Grp.sub Grp.isG (fun s hs => ?_) hx
    obtain ⟨i, hi, p, hp, rfl⟩ := (hmem s).1 hs
    exact (hG.rep i hi p hp).1
  · rw [hL', repI_eq, List.map_flatten]
theorem vals_of (h : Of (Grp (· ∈ L)) T) {i : Nat} (hi : i < n) : orbV n (orbI T n) (repI T n) i = orbO T i ∧ ∀ p ∈ orbO T i, repV n (orbI T n) (repI T n) i p = PlainPm.repT T i p := by
  obtain ⟨_, h1, h2⟩ := valid_tw (valid_of h)
  have e1 : nts (orbO T i) = nts (orbV n (orbI T n) (repI T n) i) := by
    have := congrArg (fun x : List (List Int) => x[i]?) h1
    simp only [orbI, List.getElem?_map, List.getElem?_range hi, Option.map_some] at this
    exact Option.some.inj this
  have e2 : (orbO T i).map (fun p => (PlainPm.repT T i p).l) = (orbV n (orbI T n) (repI T n) i).map fun p => (repV n (orbI T n) (repI T n) i p).l := by
    have := congrArg (fun x : List (List (List Int)) => x[i]?) h2
    simp only [repI, List.getElem?_map, List.getElem?_range hi, Option.map_some] at this
    exact Option.some.inj this
  have e3 := (nts_inj e1).symm
  refine ⟨e3, fun p hp => ?_⟩
  rw [e3] at e2
  exact (Pm.ext' (List.map_inj_left.1 e2 p hp)).symm
end
end Go.Proofs.YtbejhkojdiadaaaGreat
namespace Go.Proofs.YtbejhkojdiadaaaGreat
open Go.RowKit PlainPm
theorem CapR.below {w w' : World} {a : Option Addr} {l : Nat} (h : CapR w a l) (hb : Below w.heap.size w w') (hr : ∀ i, i < l → ∃ b o, a = some ⟨b, o, none⟩ ∧ b < w.heap.size) : CapR w' a l := fun ad ea i hi x l' k hc => by
  obtain ⟨b, o, e, hlt⟩ := hr i hi
  rw [ea] at e; cases e
  refine h _ ea i hi x l' k ?_
  rw [add_zero_addr] at hc ⊢
  rw [← hc]; exact (hb.cell (p := ⟨b, o + i, none⟩) hlt).symm
section
variable {n : Nat} {w w' : World} {v : Value} {L : List (Pm n)}
end
theorem lit_pm {n : Nat} {w : World} {X : Nat} (hX : w.heap.size = X) {x : Pm n} {cx : Array Value} (hcx : (ints x.l).toArray = cx) : PmV (w.alloc (.cells cx 3)) [] (.slice (some ⟨X, 0, none⟩) n n) x := by
  subst hX
  subst hcx
  have hh := World.alloc_heap_new w (.cells (ints x.l).toArray 3)
  refine ⟨_, 0, n, rfl, by simp, by simp, fun i hi => ?_⟩
  simp only [World.cell?, hh]
  have := ints_get (xs := x.l) (k := i) (by rw [x.ok.1]; exact hi)
  rw [x.get hi] at this
  simp [this]
theorem PmV.al {n : Nat} {w : World} {v : Value} {x : Pm n} (h : PmV w [] v x) (o : Obj) : PmV (w.alloc o) [] v x := h.below (alloc_b (Below.refl _ _) _)
theorem lit_row {w : World} {X m : Nat} (hX : w.heap.size = X) {us : List Value} (hm : us.length = m) (hl : m ≤ 1000) : Row (w.alloc (.cells us.toArray 27)) (some ⟨X, 0, none⟩) us := by
  subst hX
  have hh := World.alloc_heap_new w (.cells us.toArray 27)
  refine ⟨by unfold maxLen; omega, fun i u hu => ⟨_, 0, rfl, by simp, ?_⟩⟩
  simp only [World.cell?, hh]
  simp [hu]
theorem lit_pms2 {n : Nat} {w : World} {X : Nat} (hX : w.heap.size = X) {x y : Pm n} {cx cy : Array Value} (hcx : (ints x.l).toArray = cx) (hcy : (ints y.l).toArray = cy) :
    PmsV (((w.alloc (.cells cx 3)).alloc (.cells cy 3)).alloc (.cells #[.slice (some ⟨X, 0, none⟩) n n, .slice (some ⟨X + 1, 0, none⟩) n n] 27)) [] (.slice (some ⟨X + 1 + 1, 0, none⟩) 2 2) [x, y] := by
  have h1 := ((lit_pm hX hcx).al (.cells cy 3)).al (.cells #[.slice (some ⟨X, 0, none⟩) n n, .slice (some ⟨X + 1, 0, none⟩) n n] 27)
  have h2 := (lit_pm (w := w.alloc (.cells cx 3)) (X := X + 1) (by simp; omega) hcy).al (.cells #[.slice (some ⟨X, 0, none⟩) n n, .slice (some ⟨X + 1, 0, none⟩) n n] 27)
  refine ⟨_, 2, [.slice (some ⟨X, 0, none⟩) n n, .slice (some ⟨X + 1, 0, none⟩) n n], rfl, lit_row (m := 2) (by simp; omega) rfl (by omega), rfl, fun k s hs => ?_⟩
  match k, hs with
  | 0, hs => simp at hs; subst hs; exact ⟨_, rfl, h1⟩
  | 1, hs => simp at hs; subst hs; exact ⟨_, rfl, h2⟩
  | k + 2, hs => simp at hs
theorem lit_pms1 {n : Nat} {w : World} {X : Nat} (hX : w.heap.size = X) {x : Pm n} {cx : Array Value} (hcx : (ints x.l).toArray = cx) :
    PmsV ((w.alloc (.cells cx 3)).alloc (.cells #[.slice (some ⟨X, 0, none⟩) n n] 27)) [] (.slice (some ⟨X + 1, 0, none⟩) 1 1) [x] := by
  have h1 := (lit_pm hX hcx).al (.cells #[.slice (some ⟨X, 0, none⟩) n n] 27)
  refine ⟨_, 1, [.slice (some ⟨X, 0, none⟩) n n], rfl, lit_row (m := 1) (by simp; omega) rfl (by omega), rfl, fun k s hs => ?_⟩
  match k, hs with
  | 0, hs => simp at hs; subst hs; exact ⟨_, rfl, h1⟩
  | k + 1, hs => simp at hs
theorem lit_ints {n : Nat} {l : List Int} (h : IsPm n l) {cx : Array Value} (hc : (ints l).toArray = cx) : (ints (litP n l).l).toArray = cx := by rw [litP_l h]; exact hc
theorem kept_drew {w w' : World} {S : List Nat} (h : Kept w w' S) : Kept w w'.drew S := ⟨h.os, h.tape, h.output, h.size, h.block⟩
def set3 (w : World) (C : Nat) (u0 u1 u2 : Value) : World := ((w.setCell ⟨C, 0, none⟩ u0).setCell ⟨C, 1, none⟩ u1).setCell ⟨C, 2, none⟩ u2
theorem set3_size (w : World) (C : Nat) (u0 u1 u2 : Value) : (set3 w C u0 u1 u2).heap.size = w.heap.size := by simp [set3, World.setCell]
theorem set3_other {w : World} {C k : Nat} {u0 u1 u2 : Value} (h : k ≠ C) : (set3 w C u0 u1 u2).heap[k]? = w.heap[k]? := by
  unfold set3
  rw [Below.heap_setCell _ _ _ _ h, Below.heap_setCell _ _ _ _ h, Below.heap_setCell _ _ _ _ h]
theorem set3_box {w : World} {C : Nat} {a0 a1 a2 u0 u1 u2 : Value} (h : w.heap[C]? = some (.cells #[a0, a1, a2] 25)) : (set3 w C u0 u1 u2).heap[C]? = some (.cells #[u0, u1, u2] 25) := box_set2 (box_set1 (box_set0 h))
theorem set3_kept {w : World} {C : Nat} {u0 u1 u2 : Value} {S : List Nat} (h : C ∈ S) : Kept w (set3 w C u0 u1 u2) S :=
  Kept.ofGrown (((grown_put 0 u0).trans (grown_put 1 u1)).trans (grown_put 2 u2)) (fun k e => by cases e; exact h)
end Go.Proofs.YtbejhkojdiadaaaGreat
