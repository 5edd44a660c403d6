/- The reference's Make of a list of permutations. · What the check of a chain answers, whatever the chain holds. · A chain and a permutation checked together. · What a chain says, as functions of its lists: the error, the tower, the sizes, the ranks. · Size, Least and In: the chain's levels out of its value. · Rank and Unrank on both sides. -/
import Derived.Test.YtbejhkojdiadaaaGreatDoorRk01
import Derived.Test.YtbejhkojdiadaaaGreatDoorRk02
import Derived.Test.YtbejhkojdiadaaaGreatDoorRk03
import Derived.Test.YtbejhkojdiadaaaGreatDoorRk04
import Derived.Test.YtbejhkojdiadaaaGreatDoorRk05
import Derived.Test.YtbejhkojdiadaaaGreatDoorRk06
import Derived.Test.YtbejhkojdiadaaaGreatDoorRk07
import Derived.Test.YtbejhkojdiadaaaGreatDoorRk08
import Derived.Test.YtbejhkojdiadaaaGreatDoorRk09
import Derived.Test.YtbejhkojdiadaaaGreatDoorRk10
import Derived.Test.YtbejhkojdiadaaaGreatDoorRk11
import Derived.Test.YtbejhkojdiadaaaGreatDoorProg
import Derived.WalkKit
import Derived.WalkSpells
import Derived.BigQuiet
import Derived.Deep.QuietTactic
import Derived.Deep.LoopGhost
import Derived.Lib.Hide
import Derived.Maps.AppendAt
import Derived.Deep.AppendLies
import Derived.StillTailTactics
import Derived.Laws.CopyOwn
import Derived.Deep.OwnRows
import Derived.Deep.DeepCutAuto
import Derived.Laws.Cover3
import Derived.Deep.RegionHeld3
import Derived.RangeFuncBox
import Derived.RangeFuncLeaves
import Derived.RangeFuncWrites
import Derived.RangeFuncFrom
import Derived.Shelf.Abstract
import Derived.OwnWalkIn
import Derived.TacticsInMore
import Derived.LoopNIn
import Derived.LoopIn
import Derived.Shelf.GgSortFunc.Insertion
import Derived.Shelf.SlIter.Collect
import Derived.Shelf.Sort.Plain
import Derived.Deep.RegionLaw
import Derived.ControlIn
import Derived.RangeFuncRecord
import Derived.Lib.SlicesSearch
set_option linter.unusedSimpArgs false
set_option linter.unusedVariables false
namespace Go.Proofs.YtbejhkojdiadaaaGreatDoor
open Go.RowKit PlainPm
theorem Stp.toBelow {D : Nat} {w0 w1 w2 : World} {M M' : List Nat} (hb : Below D w0 w1) (k : Stp w1 M w2 M') (hD : D ≤ w0.heap.size) (hM : ∀ m ∈ M, D ≤ m) : Below D w0 w2 :=
  ⟨k.kept.os.trans hb.os, k.kept.tape.trans hb.tape, k.kept.output.trans hb.output, Nat.le_trans hb.size k.kept.size, fun i hi => (k.kept.block i (by have := hb.size; omega) (fun hm => by have := hM i hm; omega)).trans (hb.block i hi)⟩
theorem TabW.rows0 {n B g : Nat} {w : World} {R : Nat → Nat} {t : Nat → Nat → Option (Pm n)} (h : TabW n B g w R t) : ∃ R', TabW n B g w R' t ∧ ∀ m ∈ rowsM n R', B ≤ m := by
  have h0 := h.hn.1
  have k : Stp w (rowsM n R) w (rowsM n (fun i => if i = n then R 0 else R i)) := ⟨Kept.refl _ _, fun m hm => (mem_setR hm).elim .inl (fun e => .inl (mem_rowsM.2 ⟨0, by omega, e.symm⟩))⟩
  have hg := h.tg.2
  refine ⟨_, h.move (fun _ _ => rfl) rfl k (fun i hi => if_neg (Nat.ne_of_lt hi)) (by simp only [if_true]; exact h.mlt _ (mem_rowsM.2 ⟨0, by omega, rfl⟩)) (by simp only [if_true]; exact fun e => hg (mem_rowsM.2 ⟨0, by omega, e.symm⟩)), fun m hm => ?_⟩
  obtain ⟨i, hi, e⟩ := mem_rowsM.1 hm
  by_cases e1 : i = n
  · rw [if_pos e1] at e; rw [← e]; exact h.low 0 h0
  · rw [if_neg e1] at e; rw [← e]; exact h.low i (by omega)
theorem ins_any {n B g : Nat} {R : Nat → Nat} {t : Nat → Nat → Option (Pm n)} {x : Pm n} {L : List (Pm n)} {e : Ending} {w' : World} (hS : TabS L t) (h : InsR B g R t x e w') : ∃ (b : Bool) (t' : Nat → Nat → Option (Pm n)), e = .returned (.bool b) ∧ TabW n B g w' R t' ∧ TabS (L ++ [x]) t' := by
  rcases h with ⟨h1, h2, h3⟩ | ⟨h1, h2, h3⟩
  · exact ⟨false, t, h2, h3, hS.snocEnd (r := (sft (tabTw t) n 0 x).2) (Prod.ext h1 rfl)⟩
  · exact ⟨true, _, h2, h3, hS.snocSet (a := (sft (tabTw t) n 0 x).1) (r := (sft (tabTw t) n 0 x).2) rfl h1⟩
def CapR (W : World) (a : Option Addr) (l : Nat) : Prop := ∀ ad, a = some ad → ∀ i, i < l → ∀ x l' k, W.cell? (ad.add i) = some (.slice x l' k) → l' ≤ k
theorem own_cap {W : World} {B : Nat} {e : TypeId} {a : Option Addr} {n c : Nat} {cs : List Value} (h : Own W B (.slice a n c) e cs) (hc : ∀ u ∈ cs, ∃ e' xs, Own W B u e' xs) : CapR W a n := fun ad ea i hi x l' k hcell => by
  subst ea
  obtain ⟨g, e2, _, _, hn, _, _⟩ := h.at_form (by omega)
  cases e2
  have h1 := h.cell i (by omega)
  rw [add_zero_addr, Nat.zero_add, h1] at hcell
  obtain ⟨e', xs, ho⟩ := hc _ (List.mem_of_getElem? hcell)
  rcases ho.2 with ⟨h2, _⟩ | ⟨g2, cap2, cur2, h2, _, _, h3, _⟩
  · injection h2 with _ e1 e3; omega
  · injection h2 with _ e1 e3; omega
set_option maxRecDepth 100000 in
set_option maxHeartbeats 4000000 in
theorem make96c {n : Nat} (hn : 0 < n ∧ n ≤ 64) {w : World} {v : Value} {l : List (Pm n)} (hl : l.length ≤ 4096) (hv : PmsV w [] v l) :
    Calls Tryz.prog 31 #[.int .i64 (n : Int), v] w fun e w' => ∃ T a c0 b d, Of (Grp (· ∈ l)) T ∧ e = .returned (.tuple #[.agg #[.int .i64 (n : Int), .slice a n c0, .slice b n d], .int .i64 0]) ∧ Below w.heap.size w w' ∧ ∀ W', w'.heap.size ≤ W'.heap.size → (∀ k, w.heap.size ≤ k → k < w'.heap.size → W'.heap[k]? = w'.heap[k]?) → Rows W' a (orbI T n) ∧ Rows2 W' b (repI T n) ∧ CapR W' a n ∧ CapR W' b n := by
  obtain ⟨a, c, vs, rfl, hr, hp⟩ := hv
  have H := Lib.hid (And.intro hr hp)
  clear hr hp
  obtain ⟨L, hL⟩ : ∃ L, l.length = L := ⟨_, rfl⟩
  have hL0 := Lib.hid hL
  rw [hL] at hl ⊢
  clear hL
  obtain ⟨X, hX⟩ : ∃ X, w.heap.size = X := ⟨_, rfl⟩
  obtain ⟨W1, hW1⟩ : ∃ W1, W1 = w.alloc (.cells #[.int .i64 0, .slice none 0 0, .slice none 0 0] 25) := ⟨_, rfl⟩
  have hbw : Below w.heap.size w W1 := by rw [hW1]; exact alloc_b (Below.refl _ _) _
  have hs1 : W1.heap.size = X + 1 := by rw [hW1, ← hX]; simp
  have hr1 : W1.heap[X]? = some (.cells #[.int .i64 0, .slice none 0 0, .slice none 0 0] 25) := by rw [hW1, ← hX]; exact World.alloc_heap_new w _
  have HW := Lib.hid (And.intro hbw (And.intro hs1 hr1))
  have HX := Lib.hid hX
  have hn1 : ¬ (n : Int) < 1 := by omega
  have hn2 : ¬ (64 : Int) < n := by omega
  have hl1 : ¬ (4096 : Int) < L := by omega
  clear hbw hs1 hr1
  go_enter Tryz.func31, Tryz.ntmps31
  go_wp2_with fail
  try rw [← hW1]
  clear hW1
  go_loopw [6] (fun i wr => ∃ (k : Nat), k ≤ L ∧ i = .int .i64 (k : Int) ∧ Below W1.heap.size W1 wr) (fun i _ => L - (intOf i).toNat)
  case atStart => exact ⟨0, by omega, rfl, Below.refl _ _⟩
  case round =>
    obtain ⟨k, hk, rfl, hb⟩ := hrel
    have hbw := below_trans HW.out.1 hb
    have HB := Lib.hid (And.intro hb hbw)
    clear hb hbw
    by_cases hkl : k < L
    · obtain ⟨x, hx⟩ : ∃ x, l[k]? = some x := ⟨_, List.getElem?_eq_getElem (by rw [hL0.out]; exact hkl)⟩
      obtain ⟨u, hu, hpm⟩ := H.out.2.2 k x hx
      obtain ⟨ab, ao, hae, _, hac⟩ := (H.out.1.below HB.out.2).2 k u hu
      subst hae
      obtain ⟨ua, uc, rfl, hui⟩ := (hpm.below HB.out.2).ints (by omega)
      have hck : chkPerm x.l = 0 := (chk_iff x.ok.1 hn.1 hn.2).2 x.ok
      have hpc := rperm_calls (c := uc) hui
      rw [hck] at hpc
      have hxl := x.ok.1
      rw [hxl] at hpc hac
      have HC := Lib.hid hpc
      have hk1 : (k : Int) < L := by omega
      clear hpc hck hui hx hu hpm hxl
      go_wp2_with (go_at_call 67; refine HC.out.mono ?_; rintro e w2 ⟨rfl, k1⟩; have hac2 := (k1.cell (block_lt_of_cell hac)).trans hac; have H2 := Lib.hid k1; clear k1)
      exact ⟨⟨k + 1, by omega, by go_num, below_trans HB.out.1 H2.out⟩, by simp [intOf]; omega⟩
    · obtain rfl : k = L := by omega
      have hk1 : ¬ (k : Int) < k := by omega
      obtain ⟨wo, rfl⟩ : ∃ wo : World, wo = wr := ⟨_, rfl⟩
      go_wp2_with (go_at_call 68; refine (empty128 hn).mono ?_; rintro e w3 ⟨g, gc, R0, rfl, k1, k2, k3⟩; obtain ⟨R, k4, k5⟩ := k1.rows0; have H3 := Lib.hid (And.intro k4 (And.intro k5 (And.intro k2 k3))); clear k1 k2 k3 k4 k5)
      have hb3 : Below W1.heap.size W1 w3 := below_trans HB.out.1 H3.out.2.2.2
      have hso : W1.heap.size ≤ wo.heap.size := HB.out.1.size
      have hM3 : ∀ m ∈ rowsM n R, wo.heap.size ≤ m := H3.out.2.1
      have HM := Lib.hid (And.intro hb3 (And.intro hso hM3))
      clear hb3 hso hM3
      go_loopw [9] (fun i wr => ∃ (q : Nat) (t : Nat → Nat → Option (Pm n)), q ≤ k ∧ i = .int .i64 (q : Int) ∧ TabW n wo.heap.size g wr R t ∧ TabS (l.take q) t ∧ Stp w3 (rowsM n R) wr (rowsM n R)) (fun i _ => k - (intOf i).toNat)
      case atStart => exact ⟨0, _, by omega, rfl, H3.out.1, by rw [List.take_zero]; exact TabS.start, Stp.refl _ _⟩
      case round =>
        obtain ⟨q, t, hq, rfl, hT, hS, hst⟩ := hrel
        have hbw1 := Stp.toBelow HM.out.1 hst (Nat.le_refl _) (fun m hm => by have h1 := HM.out.2.2 m hm; have h2 := HM.out.2.1; omega)
        have hbw := below_trans HW.out.1 hbw1
        by_cases hqk : q < k
        · obtain ⟨x, hx⟩ : ∃ x, l[q]? = some x := ⟨_, List.getElem?_eq_getElem (by rw [hL0.out]; exact hqk)⟩
          obtain ⟨u, hu, hpm⟩ := H.out.2.2 q x hx
          obtain ⟨ab, ao, hae, _, hac⟩ := (H.out.1.below hbw).2 q u hu
          subst hae
          have hpm2 := hpm.fresh (M := rowsM n R) hbw (fun m hm => by have h1 := HM.out.2.2 m hm; have h2 := HM.out.2.1; have h3 := HW.out.1.size; omega)
          have hins := insert129 (c := gc) hT hpm2
          obtain ⟨ub, uo, uc, rfl⟩ := hpm.form
          have hs : l.take (q + 1) = l.take q ++ [x] := by rw [List.take_add_one, hx]; rfl
          have HI := Lib.hid (And.intro hins (And.intro hS (And.intro hs hst)))
          have hq1 : (q : Int) < k := by omega
          clear hins hS hs hst hT hbw hbw1 hx hu hpm hpm2
          go_wp2_with (go_at_call 69; refine HI.out.1.mono ?_; rintro e w4 ⟨k1, k2, _⟩; obtain ⟨bb, t4, rfl, k3⟩ := ins_any HI.out.2.1 k1; have H4 := Lib.hid (And.intro k2 k3); clear k1 k2 k3)
          exact ⟨⟨q + 1, t4, by omega, by go_num, H4.out.2.1, by rw [HI.out.2.2.1]; exact H4.out.2.2, HI.out.2.2.2.trans H4.out.1⟩, by simp [intOf]; omega⟩
        · obtain rfl : q = k := by omega
          have hk2 : ¬ (q : Int) < q := by omega
          rw [List.take_of_length_le (by rw [hL0.out]; omega)] at hS
          have hgl : g < wr.heap.size := hT.tg.1
          have hcl := close130 (c := gc) hT hS hgl
          have HT := Lib.hid (And.intro hcl (And.intro hst hbw1))
          clear hcl hst hbw hbw1 hT hS hgl
          go_wp2_with (first
            | (go_at_call 71; refine H5.out.2.2.mono ?_; rintro e w6 ⟨ra, rc, rb, rd, rfl, k1, k2, k3, csO, csR, o1, o2, o3, o4⟩; have hb6 := below_trans H5.out.1 k3; have hx6 := (hb6.block X (by rw [HW.out.2.1]; omega)).trans HW.out.2.2; obtain ⟨d0, d1, d2, d3, d4, d5⟩ := box_cells hx6; have H6 := Lib.hid (And.intro o1 (And.intro o2 (And.intro o3 (And.intro o4 (And.intro hb6 hx6))))); clear k1 k2 k3 o1 o2 o3 o4 hb6 hx6)
            | (go_at_call 70; refine HT.out.1.mono ?_; rintro e w5 ⟨rfl, R', t', k1, k2, k3, k4, k5⟩; have H5 := Lib.hid (And.intro (Stp.toBelow HT.out.2.2 k5 (Nat.le_refl _) (fun m hm => by have h1 := HM.out.2.2 m hm; have h2 := HM.out.2.1; omega)) (And.intro k2 (chain131 (c := gc) k1 k3))); clear k1 k2 k3 k4 k5))
          obtain ⟨WF, hWF⟩ : ∃ WF, WF = ((w6.setCell ⟨X, 0, none⟩ (.int .i64 (n : Int))).setCell ⟨X, 1, none⟩ (.slice ra n rc)).setCell ⟨X, 2, none⟩ (.slice rb n rd) := ⟨_, rfl⟩
          have hF : WF.heap[X]? = some (.cells #[.int .i64 (n : Int), .slice ra n rc, .slice rb n rd] 25) := by
            rw [hWF]; exact box_set2 (box_set1 (box_set0 H6.out.2.2.2.2.2))
          have gF : w6.grownBy WF (some X) := by rw [hWF]; exact ((grown_put 0 _).trans (grown_put 1 _)).trans (grown_put 2 _)
          rw [← hWF]
          clear hWF d0 d1 d2 d3 d4 d5
          obtain ⟨f0, f1, f2, _, _, _⟩ := box_cells hF
          have h5 : X < w5.heap.size := by have h1 := H5.out.1.size; have h2 := HW.out.2.1; omega
          have hO9 := H6.out.1.off gF h5
          have hR9 := H6.out.2.2.1.off gF h5
          have hOO := H6.out.2.1.off gF h5
          have hRR := H6.out.2.2.2.1.off gF h5
          have hb6 := below_trans HW.out.1 H6.out.2.2.2.2.1
          have hbF : Below w.heap.size w WF := hb6.grown gF hb6.size (fun g hg => by cases hg; rw [HX.out]; exact Nat.le_refl _)
          refine bodyPost_ret (v := .tuple #[.agg #[.int .i64 (n : Int), .slice ra n rc, .slice rb n rd], .int .i64 0]) (by simp [results, Tryz.results31, go_sem, f0, f1, f2]) rfl ?_
          have hX5 : w.heap.size ≤ w5.heap.size := by have h1 := H5.out.1.size; have h2 := HW.out.1.size; omega
          have keep : ∀ W' : World, WF.heap.size ≤ W'.heap.size → (∀ k, w.heap.size ≤ k → k < WF.heap.size → W'.heap[k]? = WF.heap[k]?) → ∀ {u : Value} {e : TypeId} {xs : List Value}, Own WF w5.heap.size u e xs → Own W' w5.heap.size u e xs := fun W' _ hW' {u e xs} ho =>
            ownsRow_block ho (fun g hg => hW' g (by have := (ho.block_lt hg).2; omega) (ho.block_lt hg).1)
          refine ⟨tabTw t', _, _, _, _, H5.out.2.1, rfl, hbF, fun W' hs' hW' => ?_⟩
          have kO := keep W' hs' hW' hO9
          have kR := keep W' hs' hW' hR9
          have kOO : OwnRows W' w5.heap.size 3 csO (orbI (tabTw t') n) := ⟨hOO.1, fun i u xs hu hx => keep W' hs' hW' (hOO.2 i u xs hu hx)⟩
          have kRR : OwnR2 W' w5.heap.size csR (repI (tabTw t') n) := ⟨hRR.1, fun i u xss hu hx => by
            obtain ⟨us, h1, h2⟩ := hRR.2 i u xss hu hx
            exact ⟨us, keep W' hs' hW' h1, h2.1, fun i' u' xs' hu' hx' => keep W' hs' hW' (h2.2 i' u' xs' hu' hx')⟩⟩
          obtain ⟨aO', cO', hvO, hrO⟩ := kOO.rows kO (by rw [kOO.1]; simp [orbI]; unfold maxLen; omega) (pts_len (tabTw t') hn.2 n)
          obtain ⟨aR', cR', hvR, hrR⟩ := kRR.rows2 kR (by rw [kRR.1]; simp [repI]; omega) (pms_len (tabTw t') hn.2 n)
          rw [show (orbI (tabTw t') n).length = n by simp [orbI]] at hvO
          rw [show (repI (tabTw t') n).length = n by simp [repI]] at hvR
          cases hvO
          cases hvR
          have cO := own_cap kO (fun u hu => by
            obtain ⟨i, hi⟩ := List.mem_iff_getElem?.1 hu
            have hil : i < (orbI (tabTw t') n).length := by rw [← kOO.1]; exact (List.getElem?_eq_some_iff.1 hi).1
            exact ⟨_, _, kOO.2 i u _ hi (List.getElem?_eq_getElem hil)⟩)
          have cR := own_cap kR (fun u hu => by
            obtain ⟨i, hi⟩ := List.mem_iff_getElem?.1 hu
            have hil : i < (repI (tabTw t') n).length := by rw [← kRR.1]; exact (List.getElem?_eq_some_iff.1 hi).1
            obtain ⟨us, h1, _⟩ := kRR.2 i u _ hi (List.getElem?_eq_getElem hil)
            exact ⟨_, _, h1⟩)
          exact ⟨hrO, hrR, cO, cR⟩
end Go.Proofs.YtbejhkojdiadaaaGreatDoor
namespace Go.Proofs.YtbejhkojdiadaaaGreatDoor
open Go.RowKit PlainPm
def ChkR (d : Int) (os : List (List Int)) (rs : List (List (List Int))) (E : Int) : Prop :=
  ((d < 1 ∨ 64 < d) ∧ E = 2) ∨ (1 ≤ d ∧ d ≤ 64 ∧ ((E = 3 ∧ ¬ Valid d.toNat os rs) ∨ (E = 0 ∧ Valid d.toNat os rs)))
theorem ChkR.uniq {d : Int} {os : List (List Int)} {rs : List (List (List Int))} {E E' : Int} (h : ChkR d os rs E) (h' : ChkR d os rs E') : E = E' := by
  rcases h with ⟨h1, rfl⟩ | ⟨h1, h2, ⟨rfl, h3⟩ | ⟨rfl, h3⟩⟩ <;> rcases h' with ⟨k1, rfl⟩ | ⟨k1, k2, ⟨rfl, k3⟩ | ⟨rfl, k3⟩⟩ <;> first | rfl | omega | exact absurd h3 k3 | exact absurd k3 h3
theorem Valid.len {n : Nat} {os : List (List Int)} {rs : List (List (List Int))} (h : Valid n os rs) : os.length = n ∧ rs.length = n := by
  obtain ⟨L, T, _, _, rfl, rfl⟩ := h
  simp [orbI, repI]
set_option maxRecDepth 100000 in
set_option maxHeartbeats 1000000 in
theorem check54 {w : World} {v : Value} {d : Int} {os : List (List Int)} {rs : List (List (List Int))} (h : ChV w v d os rs) :
    Calls Tryz.prog 37 #[v] w fun e w' => (∃ E : Int, e = .returned (.int .i64 E) ∧ ChkR d os rs E) ∧ Below w.heap.size w w' := by
  obtain ⟨a, c, b, e, rfl, h1, h2⟩ := h
  obtain ⟨lo, hlo⟩ : ∃ l, os.length = l := ⟨_, rfl⟩
  obtain ⟨lr, hlr⟩ : ∃ l, rs.length = l := ⟨_, rfl⟩
  by_cases hd1 : d < 1
  · rw [hlo, hlr]
    clear h1 h2 hlo hlr
    have hdd : decide (d < 1) = true := by simp [hd1]
    go_enter Tryz.func37, Tryz.ntmps37
    go_wp2_with fail
    refine bodyPost_ret (v := .int .i64 2) (by simp [results, Tryz.results37, go_sem]) rfl ?_
    exact ⟨⟨2, rfl, .inl ⟨.inl hd1, rfl⟩⟩, alloc_b (alloc_b (alloc_b (Below.refl _ _) _) _) _⟩
  by_cases hd2 : 64 < d
  · rw [hlo, hlr]
    clear h1 h2 hlo hlr
    have hd3 := Lib.hid hd2
    have hdd : decide (d < 1) = false := by simp; omega
    have hd4 : decide (64 < d) = true := by simp [hd2]
    clear hd1 hd2
    go_enter Tryz.func37, Tryz.ntmps37
    go_wp2_with fail
    refine bodyPost_ret (v := .int .i64 2) (by simp [results, Tryz.results37, go_sem]) rfl ?_
    exact ⟨⟨2, rfl, .inl ⟨.inr hd3.out, rfl⟩⟩, alloc_b (alloc_b (alloc_b (Below.refl _ _) _) _) _⟩
  obtain ⟨n, rfl⟩ : ∃ n : Nat, d = n := ⟨d.toNat, by omega⟩
  by_cases hn : lo = n ∧ lr = n
  · obtain ⟨rfl, rfl⟩ := hn
    have := chk_loop (c := c) (e := e) h1 h2 hlo hlr (by omega) (by omega)
    rw [hlo, hlr]
    refine this.mono ?_
    rintro e1 w1 ⟨⟨E, rfl, hE⟩, hb⟩
    exact ⟨⟨E, rfl, .inr ⟨by omega, by omega, by simpa using hE⟩⟩, hb⟩
  · have hres : ChkR (n : Int) os rs 3 := .inr ⟨by omega, by omega, .inl ⟨rfl, fun hv => by
      obtain ⟨e1, e2⟩ := hv.len
      simp at e1 e2
      exact hn ⟨by omega, by omega⟩⟩⟩
    have HR := Lib.hid hres
    rw [hlo, hlr]
    have hd3 : decide ((n : Int) < 1) = false := by simp; omega
    have hd4 : decide ((64 : Int) < n) = false := by simp; omega
    clear hres h1 h2 hlo hlr hd1 hd2
    by_cases h1 : lo = n
    · have g1 : ((lo : Int) != (n : Int)) = false := by simp [h1]
      have g2 : ((lr : Int) != (n : Int)) = true := by simp; omega
      clear hn h1
      go_enter Tryz.func37, Tryz.ntmps37
      go_wp2_with fail
      refine bodyPost_ret (v := .int .i64 3) (by simp [results, Tryz.results37, go_sem]) rfl ?_
      exact ⟨⟨3, rfl, HR.out⟩, alloc_b (alloc_b (alloc_b (Below.refl _ _) _) _) _⟩
    · have g1 : ((lo : Int) != (n : Int)) = true := by simp; omega
      clear hn h1
      go_enter Tryz.func37, Tryz.ntmps37
      go_wp2_with fail
      refine bodyPost_ret (v := .int .i64 3) (by simp [results, Tryz.results37, go_sem]) rfl ?_
      exact ⟨⟨3, rfl, HR.out⟩, alloc_b (alloc_b (alloc_b (Below.refl _ _) _) _) _⟩
end Go.Proofs.YtbejhkojdiadaaaGreatDoor
namespace Go.Proofs.YtbejhkojdiadaaaGreatDoor
open Go.RowKit PlainPm
def MemR (d : Int) (os : List (List Int)) (rs : List (List (List Int))) (p : List Int) (E : Int) : Prop :=
  ∃ E0, ChkR d os rs E0 ∧ E = if E0 ≠ 0 then E0 else if chkPerm p ≠ 0 then chkPerm p else if (p.length : Int) ≠ d then 10 else 0
set_option maxRecDepth 100000 in
set_option maxHeartbeats 1000000 in
theorem member58 {w : World} {v : Value} {d : Int} {os : List (List Int)} {rs : List (List (List Int))} {a : Option Addr} {c : Nat} {p : List Int} (h : ChV w v d os rs) (hp : Ints w a p) :
    Calls Tryz.prog 62 #[v, .slice a p.length c] w fun e w' => (∃ E : Int, e = .returned (.int .i64 E) ∧ MemR d os rs p E) ∧ Below w.heap.size w w' := by
  obtain ⟨a1, c1, b1, e1, rfl, h1, h2⟩ := h
  obtain ⟨W1, hW1⟩ : ∃ W1, W1 = w.alloc (.cells #[.int .i64 d, .slice a1 os.length c1, .slice b1 rs.length e1] 25) := ⟨_, rfl⟩
  have hbw : Below w.heap.size w W1 := by rw [hW1]; exact alloc_b (Below.refl _ _) _
  have hc1 : W1.heap[w.heap.size]? = some (.cells #[.int .i64 d, .slice a1 os.length c1, .slice b1 rs.length e1] 25) := by rw [hW1]; exact World.alloc_heap_new w _
  have hlt : w.heap.size < W1.heap.size := by rw [hW1]; simp
  have hchk := check54 (w := W1) (v := .agg #[.int .i64 d, .slice a1 os.length c1, .slice b1 rs.length e1]) (d := d) (os := os) (rs := rs) ⟨a1, c1, b1, e1, rfl, h1.below hbw, h2.below hbw⟩
  obtain ⟨x0, x1, x2, _, _, _⟩ := box_cells hc1
  obtain ⟨lo, hlo⟩ : ∃ l, os.length = l := ⟨_, rfl⟩
  obtain ⟨lr, hlr⟩ : ∃ l, rs.length = l := ⟨_, rfl⟩
  obtain ⟨lp, hlp⟩ : ∃ l, p.length = l := ⟨_, rfl⟩
  have hpc := fun (W : World) (hb : Below w.heap.size w W) => perm_calls (c := c) (hp.below hb)
  obtain ⟨K, hK⟩ : ∃ K, chkPerm p = K := ⟨_, rfl⟩
  rw [hlp, hK] at hpc
  rw [hlo] at x1
  rw [hlr] at x2
  rw [hlo, hlr] at hchk hW1 hc1 ⊢
  rw [hlp]
  have hmr : ∀ E0, ChkR d os rs E0 → MemR d os rs p (if E0 ≠ 0 then E0 else if K ≠ 0 then K else if (lp : Int) ≠ d then 10 else 0) := fun E0 h => ⟨E0, h, by rw [hK, hlp]⟩
  have H := Lib.hid (And.intro hbw (And.intro hc1 (And.intro hlt (And.intro hchk (And.intro hpc hmr)))))
  clear h1 h2 hp hbw hc1 hlt hchk hlo hlr hlp hpc hK hmr
  by_cases hv : ChkR d os rs 0
  · have H0 := Lib.hid (H.out.2.2.2.1.mono (fun e w' h => (show e = .returned (.int .i64 0) ∧ Below W1.heap.size W1 w' from by
      obtain ⟨⟨E0, he, hr⟩, hb⟩ := h
      exact ⟨by rw [he, hr.uniq hv], hb⟩)))
    have hm := H.out.2.2.2.2.2 0 hv
    rw [if_neg (by simp)] at hm
    clear hv
    by_cases hKz : K = 0
    · subst hKz
      rw [if_neg (by simp)] at hm
      by_cases hl : (lp : Int) = d
      · have hb : ((lp : Int) != d) = false := by simp [hl]
        rw [if_neg (by simp [hl])] at hm
        have HM := Lib.hid hm
        clear hm hl
        go_enter Tryz.func62, Tryz.ntmps62
        go_wp2_with (first
          | (go_at_call 73; refine H2.out.2.mono ?_; rintro e w3 ⟨rfl, k3⟩; have hc3 := (k3.block _ (Array.getElem?_eq_some_iff.1 hc2).1).trans hc2; obtain ⟨z0, z1, z2, _, _, _⟩ := box_cells hc3; have H3 := Lib.hid k3; clear k3)
          | (go_at_call 37; (try rw [← hW1]); refine H0.out.mono ?_; rintro e w2 ⟨rfl, k2⟩; have H2 := Lib.hid (And.intro k2 (H.out.2.2.2.2.1 w2 (below_trans H.out.1 k2))); have hc2 := (k2.block _ H.out.2.2.1).trans H.out.2.1; clear k2))
        go_ret
        exact ⟨⟨_, rfl, HM.out⟩, below_trans H.out.1 (below_trans H2.out.1 H3.out)⟩
      · have hb : ((lp : Int) != d) = true := by simp [hl]
        rw [if_pos hl] at hm
        have HM := Lib.hid hm
        clear hm hl
        go_enter Tryz.func62, Tryz.ntmps62
        go_wp2_with (first
          | (go_at_call 73; refine H2.out.2.mono ?_; rintro e w3 ⟨rfl, k3⟩; have hc3 := (k3.block _ (Array.getElem?_eq_some_iff.1 hc2).1).trans hc2; obtain ⟨z0, z1, z2, _, _, _⟩ := box_cells hc3; have H3 := Lib.hid k3; clear k3)
          | (go_at_call 37; (try rw [← hW1]); refine H0.out.mono ?_; rintro e w2 ⟨rfl, k2⟩; have H2 := Lib.hid (And.intro k2 (H.out.2.2.2.2.1 w2 (below_trans H.out.1 k2))); have hc2 := (k2.block _ H.out.2.2.1).trans H.out.2.1; clear k2))
        go_ret
        exact ⟨⟨_, rfl, HM.out⟩, below_trans H.out.1 (below_trans H2.out.1 H3.out)⟩
    · have hb : (K != 0) = true := by simp [hKz]
      rw [if_pos hKz] at hm
      have HM := Lib.hid hm
      clear hm hKz
      go_enter Tryz.func62, Tryz.ntmps62
      go_wp2_with (first
        | (go_at_call 73; refine H2.out.2.mono ?_; rintro e w3 ⟨rfl, k3⟩; have hc3 := (k3.block _ (Array.getElem?_eq_some_iff.1 hc2).1).trans hc2; obtain ⟨z0, z1, z2, _, _, _⟩ := box_cells hc3; have H3 := Lib.hid k3; clear k3)
        | (go_at_call 37; (try rw [← hW1]); refine H0.out.mono ?_; rintro e w2 ⟨rfl, k2⟩; have H2 := Lib.hid (And.intro k2 (H.out.2.2.2.2.1 w2 (below_trans H.out.1 k2))); have hc2 := (k2.block _ H.out.2.2.1).trans H.out.2.1; clear k2))
      go_ret
      exact ⟨⟨_, rfl, HM.out⟩, below_trans H.out.1 (below_trans H2.out.1 H3.out)⟩
  · have H0 := Lib.hid (H.out.2.2.2.1.mono (fun e w' h => (show (∃ E0 : Int, e = .returned (.int .i64 E0) ∧ (E0 != 0) = true ∧ MemR d os rs p E0) ∧ Below W1.heap.size W1 w' from by
      obtain ⟨⟨E0, he, hr⟩, hb⟩ := h
      have hE : E0 ≠ 0 := fun h => hv (h ▸ hr)
      have hm := H.out.2.2.2.2.2 E0 hr
      rw [if_pos hE] at hm
      exact ⟨⟨E0, he, by simp [hE], hm⟩, hb⟩)))
    clear hv
    go_enter Tryz.func62, Tryz.ntmps62
    go_wp2_with (go_at_call 37; (try rw [← hW1]); refine H0.out.mono ?_; rintro e w2 ⟨⟨E0, rfl, hE, k1⟩, k2⟩; have H2 := Lib.hid (And.intro k1 k2); clear k1 k2)
    go_ret
    exact ⟨⟨_, rfl, H2.out.1⟩, below_trans H.out.1 H2.out.2⟩
end Go.Proofs.YtbejhkojdiadaaaGreatDoor
namespace Go.Proofs.YtbejhkojdiadaaaGreatDoor
open Go.RowKit PlainPm
open Classical in
noncomputable def chkE (d : Int) (os : List (List Int)) (rs : List (List (List Int))) : Int :=
  if 1 ≤ d ∧ d ≤ 64 then (if Valid d.toNat os rs then 0 else 3) else 2
theorem chkR_iff {d : Int} {os : List (List Int)} {rs : List (List (List Int))} {E : Int} : ChkR d os rs E ↔ E = chkE d os rs := by
  have h : ChkR d os rs (chkE d os rs) := by
    unfold chkE
    by_cases h1 : 1 ≤ d ∧ d ≤ 64
    · rw [if_pos h1]
      by_cases hv : Valid d.toNat os rs
      · rw [if_pos hv]; exact .inr ⟨h1.1, h1.2, .inr ⟨rfl, hv⟩⟩
      · rw [if_neg hv]; exact .inr ⟨h1.1, h1.2, .inl ⟨rfl, hv⟩⟩
    · rw [if_neg h1]; exact .inl ⟨by omega, rfl⟩
  exact ⟨fun k => k.uniq h, fun e => e ▸ h⟩
theorem chkE_zero {d : Int} {os : List (List Int)} {rs : List (List (List Int))} (h : chkE d os rs = 0) : 1 ≤ d ∧ d ≤ 64 ∧ Valid d.toNat os rs := by
  rcases chkR_iff.2 h.symm with ⟨_, e⟩ | ⟨h1, h2, ⟨e, _⟩ | ⟨_, hv⟩⟩
  · cases e
  · cases e
  · exact ⟨h1, h2, hv⟩
noncomputable def memE (d : Int) (os : List (List Int)) (rs : List (List (List Int))) (p : List Int) : Int :=
  if chkE d os rs ≠ 0 then chkE d os rs else if chkPerm p ≠ 0 then chkPerm p else if (p.length : Int) ≠ d then 10 else 0
theorem memR_iff {d : Int} {os : List (List Int)} {rs : List (List (List Int))} {p : List Int} {E : Int} : MemR d os rs p E ↔ E = memE d os rs p := by
  constructor
  · rintro ⟨E0, h1, rfl⟩
    rw [chkR_iff] at h1
    subst h1; rfl
  · rintro rfl
    exact ⟨_, chkR_iff.2 rfl, rfl⟩
theorem memE_zero {d : Int} {os : List (List Int)} {rs : List (List (List Int))} {p : List Int} (h : memE d os rs p = 0) : chkE d os rs = 0 ∧ chkPerm p = 0 ∧ (p.length : Int) = d := by
  unfold memE at h
  by_cases h1 : chkE d os rs ≠ 0
  · rw [if_pos h1] at h; exact absurd h h1
  rw [if_neg h1] at h
  by_cases h2 : chkPerm p ≠ 0
  · rw [if_pos h2] at h; exact absurd h h2
  rw [if_neg h2] at h
  by_cases h3 : (p.length : Int) ≠ d
  · rw [if_pos h3] at h; cases h
  exact ⟨by omega, by omega, by omega⟩
open Classical in
noncomputable def grpV (n : Nat) (os : List (List Int)) (rs : List (List (List Int))) : List (Pm n) :=
  if h : Valid n os rs then Classical.choose h else []
open Classical in
noncomputable def twV (n : Nat) (os : List (List Int)) (rs : List (List (List Int))) : Tw n :=
  if h : Valid n os rs then Classical.choose (Classical.choose_spec h) else tower0 n
theorem valid_tw {n : Nat} {os : List (List Int)} {rs : List (List (List Int))} (h : Valid n os rs) : Of (Grp (· ∈ grpV n os rs)) (twV n os rs) ∧ os = orbI (twV n os rs) n ∧ rs = repI (twV n os rs) n := by
  have := Classical.choose_spec (Classical.choose_spec h)
  unfold grpV twV
  rw [dif_pos h, dif_pos h]
  exact ⟨this.1, this.2.2.1, this.2.2.2⟩
noncomputable def orbV (n : Nat) (os : List (List Int)) (rs : List (List (List Int))) (i : Nat) : List Nat := ptsOf n (twV n os rs i).orb
noncomputable def repV (n : Nat) (os : List (List Int)) (rs : List (List (List Int))) (i p : Nat) : Pm n := repT (twV n os rs) i p
section
variable {n : Nat} {os : List (List Int)} {rs : List (List (List Int))}
theorem Valid.chG (h : Valid n os rs) : ChG (Grp (· ∈ grpV n os rs)) (orbV n os rs) (repV n os rs) := (valid_tw h).1.chG Grp.isG
theorem Valid.orbAt (h : Valid n os rs) {i : Nat} (hi : i < n) : os[i]? = some (nts (orbV n os rs i)) := by
  obtain ⟨_, e, _⟩ := valid_tw h
  have : (orbI (twV n os rs) n)[i]? = some (nts (orbV n os rs i)) := by
    unfold orbI; rw [List.getElem?_map, List.getElem?_range hi]; rfl
  rw [← this, ← e]
theorem Valid.repAt (h : Valid n os rs) {i : Nat} (hi : i < n) : rs[i]? = some ((orbV n os rs i).map fun p => (repV n os rs i p).l) := by
  obtain ⟨_, _, e⟩ := valid_tw h
  have : (repI (twV n os rs) n)[i]? = some ((orbV n os rs i).map fun p => (repV n os rs i p).l) := by
    unfold repI; rw [List.getElem?_map, List.getElem?_range hi]; rfl
  rw [← this, ← e]
end
noncomputable def toPm (n : Nat) (p : List Int) : Pm n := open Classical in if h : IsPm n p then ⟨p, h⟩ else PlainPm.one n
theorem toPm_l {n : Nat} {p : List Int} (h : IsPm n p) : (toPm n p).l = p := by unfold toPm; rw [dif_pos h]
theorem mem_pm {d : Int} {os : List (List Int)} {rs : List (List (List Int))} {p : List Int} (h : memE d os rs p = 0) : (toPm d.toNat p).l = p ∧ p.length = d.toNat := by
  obtain ⟨h1, h2, h3⟩ := memE_zero h
  obtain ⟨h4, h5, _⟩ := chkE_zero h1
  have hl : p.length = d.toNat := by omega
  exact ⟨toPm_l ((chk_iff hl (by omega) (by omega)).1 h2), hl⟩
noncomputable def sizeN (d : Int) (os : List (List Int)) (rs : List (List (List Int))) : Nat := if chkE d os rs = 0 then szF (orbV d.toNat os rs) d.toNat 0 else 0
noncomputable def rankO (d : Int) (os : List (List Int)) (rs : List (List (List Int))) (p : List Int) : Option Nat :=
  rkF (orbV d.toNat os rs) (repV d.toNat os rs) (toPm d.toNat p) d.toNat 0 (PlainPm.one d.toNat) 0
noncomputable def rankN (d : Int) (os : List (List Int)) (rs : List (List (List Int))) (p : List Int) : Nat := if memE d os rs p = 0 then (rankO d os rs p).getD 0 else 0
noncomputable def rankE (d : Int) (os : List (List Int)) (rs : List (List (List Int))) (p : List Int) : Int :=
  if memE d os rs p = 0 then (if (rankO d os rs p).isSome then 0 else 18) else memE d os rs p
noncomputable def unrL (d : Int) (os : List (List Int)) (rs : List (List (List Int))) (k : Int) : List Int :=
  if chkE d os rs = 0 ∧ 0 ≤ k ∧ k < (sizeN d os rs : Nat) then (unF (orbV d.toNat os rs) (repV d.toNat os rs) d.toNat 0 (PlainPm.one d.toNat) k.toNat).l else []
noncomputable def unrE (d : Int) (os : List (List Int)) (rs : List (List (List Int))) (k : Int) : Int :=
  if chkE d os rs = 0 then (if 0 ≤ k ∧ k < (sizeN d os rs : Nat) then 0 else 2) else chkE d os rs
noncomputable def lstL (d : Int) (os : List (List Int)) (rs : List (List (List Int))) (p : List Int) : List Int :=
  if memE d os rs p = 0 then (lstF (orbV d.toNat os rs) (repV d.toNat os rs) d.toNat 0 (toPm d.toNat p)).l else []
end Go.Proofs.YtbejhkojdiadaaaGreatDoor
namespace Go.Proofs.YtbejhkojdiadaaaGreatDoor
open Go.RowKit PlainPm
def CapV (w : World) (v : Value) : Prop := ∀ d a lo c b lr e, v = .agg #[.int .i64 d, .slice a lo c, .slice b lr e] →
  (∀ ad, a = some ad → ∀ i, i < lo → ∀ x l k, w.cell? (ad.add i) = some (.slice x l k) → l ≤ k) ∧
  (∀ ad, b = some ad → ∀ i, i < lr → ∀ x l k, w.cell? (ad.add i) = some (.slice x l k) → l ≤ k)
theorem pm_of_ints {n : Nat} (hn : 0 < n) {w : World} {a : Option Addr} {c : Nat} {x : Pm n} (h : Ints w a x.l) : PmV w [] (.slice a n c) x := by
  have hl := x.ok.1
  obtain ⟨b, o, rfl, hb, _⟩ := h.at_ (k := 0) (by omega)
  refine ⟨b, o, c, rfl, by simp, hb, fun i hi => ?_⟩
  obtain ⟨b', o', he, _, hc⟩ := h.at_ (k := i) (by omega)
  cases he
  rw [hc, x.get hi]; rfl
theorem lev_of {w : World} {v : Value} {n : Nat} {os : List (List Int)} {rs : List (List (List Int))} (h : ChV w v n os rs) (hc : CapV w v) (hv : Valid n os rs) (hn0 : 1 ≤ n) (hn : n ≤ 64) :
    ∃ ab ao c bb bo e, v = cv n ab ao c bb bo e ∧ LvW n w (orbV n os rs) (repV n os rs) ab ao bb bo := by
  obtain ⟨a, c, b, e, rfl, h1, h2⟩ := h
  obtain ⟨lo, lr⟩ := hv.len
  have hG := hv.chG
  obtain ⟨hc1, hc2⟩ := hc _ _ _ _ _ _ _ rfl
  obtain ⟨ab, ao, _, _, rfl, _, _, _⟩ := h1.at_ (k := 0) (by omega)
  obtain ⟨bb, bo, _, _, rfl, _, _, _⟩ := h2.at_ (k := 0) (by omega)
  rw [lo, lr]
  refine ⟨ab, ao, c, bb, bo, e, rfl, fun i hi => ?_, fun i hi => ?_⟩
  · obtain ⟨g, o, x, k, he, hg, hcell, hints⟩ := h1.at_ (k := i) (by omega)
    cases he
    rw [hv.orbAt hi, Option.getD_some] at hcell hints
    rw [nts_len] at hcell
    have hpos := hG.pos hi
    have hcap := hc1 _ rfl i (by omega) _ _ _ (by rw [add_zero_addr]; exact hcell)
    obtain ⟨g2, o2, rfl, hg2, _⟩ := hints.at_ (k := 0) (by rw [nts_len]; exact hpos)
    refine ⟨_, hcell, g2, o2, k, rfl, hg2, Nat.le_trans (hG.short hi) hn, hcap, fun j q hq => ?_⟩
    have hj := (List.getElem?_eq_some_iff.1 hq).1
    obtain ⟨g3, o3, he3, _, hc3⟩ := hints.at_ (k := j) (by rw [nts_len]; exact hj)
    cases he3
    rw [hc3, nts_get hj, hq]; rfl
  · obtain ⟨g, o, x, k, he, hg, hcell, hrows⟩ := h2.at_ (k := i) (by omega)
    cases he
    rw [hv.repAt hi, Option.getD_some] at hcell hrows
    rw [List.length_map] at hcell
    have hpos := hG.pos hi
    have hcap := hc2 _ rfl i (by omega) _ _ _ (by rw [add_zero_addr]; exact hcell)
    obtain ⟨g2, o2, _, _, rfl, hg2, _, _⟩ := hrows.at_ (k := 0) (by rw [List.length_map]; exact hpos)
    refine ⟨_, hcell, g2, o2, k, by rw [List.length_map], hg2, by rw [List.length_map]; exact Nat.le_trans (hG.short hi) hn, by rw [List.length_map]; exact hcap, fun j y hy => ?_⟩
    rw [List.getElem?_map, Option.map_eq_some_iff] at hy
    obtain ⟨q, hq, rfl⟩ := hy
    have hj := (List.getElem?_eq_some_iff.1 hq).1
    obtain ⟨g3, o3, xa, xc, he3, _, hc3, hi3⟩ := hrows.at_ (k := j) (by rw [List.length_map]; exact hj)
    cases he3
    rw [List.getElem?_map, hq] at hc3 hi3
    simp only [Option.map_some, Option.getD_some] at hc3 hi3
    rw [(repV n os rs i q).ok.1] at hc3
    exact ⟨_, hc3, pm_of_ints (by omega) hi3⟩
theorem CapV.below {w w' : World} {v : Value} {d : Int} {os : List (List Int)} {rs : List (List (List Int))} (hch : ChV w v d os rs) (h : CapV w v) (k : Below w.heap.size w w') : CapV w' v := by
  obtain ⟨a0, c0, b0, e0, rfl, h1, h2⟩ := hch
  intro d a lo c b lr e he
  have hh := h d a lo c b lr e he
  simp only [Value.agg.injEq, Array.mk.injEq, List.cons.injEq, Value.int.injEq, Value.slice.injEq, and_true, true_and] at he
  obtain ⟨_, ⟨rfl, rfl, rfl⟩, rfl, rfl, rfl⟩ := he
  refine ⟨fun ad ea i hi x l k' hc => hh.1 ad ea i hi x l k' ?_, fun ad ea i hi x l k' hc => hh.2 ad ea i hi x l k' ?_⟩
  · subst ea
    obtain ⟨g, o, _, _, he, hg, _, _⟩ := h1.at_ hi
    cases he
    rw [add_zero_addr] at hc ⊢
    rw [← hc]; exact (k.cell (p := ⟨g, o + i, none⟩) hg).symm
  · subst ea
    obtain ⟨g, o, _, _, he, hg, _, _⟩ := h2.at_ hi
    cases he
    rw [add_zero_addr] at hc ⊢
    rw [← hc]; exact (k.cell (p := ⟨g, o + i, none⟩) hg).symm
theorem chk54 {w : World} {v : Value} {d : Int} {os : List (List Int)} {rs : List (List (List Int))} (h : ChV w v d os rs) : Calls Tryz.prog 37 #[v] w fun e w' => e = .returned (.int .i64 (chkE d os rs)) ∧ Below w.heap.size w w' :=
  (check54 h).mono fun _ _ ⟨⟨E, he, hr⟩, hb⟩ => ⟨by rw [he, chkR_iff.1 hr], hb⟩
section
variable {w : World} {v : Value} {d : Int} {os : List (List Int)} {rs : List (List (List Int))} {a : Option Addr} {c : Nat} {p : List Int}
theorem mem58 (h : ChV w v d os rs) (hp : Ints w a p) : Calls Tryz.prog 62 #[v, .slice a p.length c] w fun e w' => e = .returned (.int .i64 (memE d os rs p)) ∧ Below w.heap.size w w' :=
  (member58 h hp).mono fun _ _ ⟨⟨E, he, hr⟩, hb⟩ => ⟨by rw [he, memR_iff.1 hr], hb⟩
end
def SzW (w : World) (g n : Nat) (O : Nat → List Nat) : Prop := g < w.heap.size ∧ ∀ t, t ≤ n → w.cell? ⟨g, t, none⟩ = some (.int .i64 (szF O (n - t) t : Int))
theorem SzW.below {w w' : World} {g n : Nat} {O : Nat → List Nat} (h : SzW w g n O) (k : Below w.heap.size w w') : SzW w' g n O :=
  ⟨Nat.lt_of_lt_of_le h.1 k.size, fun t ht => (k.cell (p := ⟨g, t, none⟩) h.1).trans (h.2 t ht)⟩
theorem szw_of {w : World} {B n : Nat} {v : Value} {O : Nat → List Nat} (h : Own w B v 3 (ints (szP O n 0))) : ∃ g cap, v = .slice (some ⟨g, 0, none⟩) (n + 1) cap ∧ SzW w g n O := by
  have hl : (ints (szP O n 0)).length = n + 1 := by rw [ints_len, szP_len]
  obtain ⟨g, cap, rfl, _, h2, _, _⟩ := h.form (by rw [hl]; omega)
  rw [hl] at h ⊢
  refine ⟨g, cap, rfl, h2, fun t ht => ?_⟩
  rw [h.cell t (by rw [hl]; omega), ints_get (by rw [szP_len]; omega), szP_get ht (Nat.zero_le _)]
section
variable {n ab ao c bb bo e : Nat} {G : Pm n → Prop} {O : Nat → List Nat} {R : Nat → Nat → Pm n} {w : World}
theorem siz55 (hn0 : 0 < n) (hn : n ≤ 8) (hG : ChG G O R) (h : LvW n w O R ab ao bb bo) : Calls Tryz.prog 59 #[cv n ab ao c bb bo e] w fun e w' => ∃ g cap, e = .returned (.tuple #[.slice (some ⟨g, 0, none⟩) (n + 1) cap, .bool true]) ∧ SzW w' g n O ∧ Below w.heap.size w w' :=
  (sizes55 hn0 hn hG h).mono fun _ _ ⟨v, he, ho, hb⟩ => by
    obtain ⟨g, cap, rfl, hs⟩ := szw_of ho
    exact ⟨g, cap, he, hs, hb⟩
end
--WALKS
set_option maxRecDepth 100000 in
set_option maxHeartbeats 1000000 in
theorem size12 {w : World} {v : Value} {d : Int} {os : List (List Int)} {rs : List (List (List Int))} (h : ChV w v d os rs) (hc : CapV w v) (hd : ¬ (8 < d ∧ d ≤ 64)) :
    Calls Tryz.prog 35 #[v] w fun e w' => e = .returned (.tuple #[.int .i64 (sizeN d os rs : Int), .int .i64 (chkE d os rs)]) ∧ Below w.heap.size w w' := by
  obtain ⟨E, hE⟩ : ∃ E, chkE d os rs = E := ⟨_, rfl⟩
  have hchk := fun (W : World) (hb : Below w.heap.size w W) => chk54 (h.below hb)
  rw [hE] at hchk
  by_cases hE0 : E = 0
  · subst hE0
    have hE1 := hE
    obtain ⟨hd1, hd2, hv⟩ := chkE_zero hE1
    obtain ⟨n, rfl⟩ : ∃ n : Nat, d = n := ⟨d.toNat, by omega⟩
    have hn0 : 0 < n := by omega
    have hn : n ≤ 8 := by omega
    rw [Int.toNat_natCast] at hv
    obtain ⟨ab, ao, c, bb, bo, e, rfl, hl⟩ := lev_of h hc hv (by omega) (by omega)
    have hG := hv.chG
    obtain ⟨O, hO⟩ : ∃ O, orbV n os rs = O := ⟨_, rfl⟩
    obtain ⟨R, hR⟩ : ∃ R, repV n os rs = R := ⟨_, rfl⟩
    have hN : sizeN n os rs = szF O n 0 := by unfold sizeN; rw [if_pos hE, Int.toNat_natCast, hO]
    rw [hO, hR] at hl hG
    rw [hN, hE]
    obtain ⟨X, hX⟩ : ∃ X, w.heap.size = X := ⟨_, rfl⟩
    have hB0 := BoxW.start w X n ab ao c bb bo e hX
    obtain ⟨W1, hW1⟩ : ∃ W1, W1 = w.alloc (.cells #[.int .i64 (n : Int), .slice (some ⟨ab, ao, none⟩) n c, .slice (some ⟨bb, bo, none⟩) n e] 25) := ⟨_, rfl⟩
    rw [← hW1] at hB0
    have hwW : Below w.heap.size w W1 := by rw [hX]; exact hB0.bel
    have hchk1 := hchk W1 hwW
    have H := Lib.hid (And.intro hchk1 (And.intro hB0 (And.intro hwW (And.intro hX (And.intro hl hG)))))
    obtain ⟨z0, z1, z2⟩ : W1.cell? ⟨X, 0, none⟩ = some (.int .i64 (n : Int)) ∧ W1.cell? ⟨X, 1, none⟩ = some (.slice (some ⟨ab, ao, none⟩) n c) ∧ W1.cell? ⟨X, 2, none⟩ = some (.slice (some ⟨bb, bo, none⟩) n e) := ⟨hB0.c0, hB0.c1, hB0.c2⟩
    clear hchk1 hB0 hwW hl hG hchk h hc hd hd1 hd2 hv hO hR hE hE1 hN
    go_enter Tryz.func35, Tryz.ntmps35
    try rw [hX]
    go_wp2_with (first
      | (go_at_call 59; refine (siz55 hn0 hn H.out.2.2.2.2.2 (H.out.2.2.2.2.1.below H2.out.2)).mono ?_; rintro e1 w3 ⟨g, cap, rfl, k1, k3⟩; have d0 := k1.2 0 (by omega); rw [Nat.sub_zero] at d0; have H3 := Lib.hid (And.intro k1 (below_trans H2.out.2 k3)); clear k1 k3)
      | (go_at_call 37; (try rw [← hW1]); clear hW1 z0 z1 z2; (with_reducible refine H.out.1.mono ?_); rintro e1 w2 ⟨rfl, k2⟩; have hB2 := H.out.2.1.below (k2.mono H.out.2.1.lt); have b0 := hB2.c0; have b1 := hB2.c1; have b2 := hB2.c2; have hw2 := below_trans H.out.2.2.1 k2; have H2 := Lib.hid (And.intro hB2 hw2); clear hB2 hw2 k2))
    refine bodyPost_ret (v := .tuple #[.int .i64 (szF O n 0 : Int), .int .i64 0]) (by simp [results, Tryz.results35, go_sem]) rfl ?_
    have hb3 := H3.out.2
    rw [H.out.2.2.2.1] at hb3
    exact ⟨rfl, hb3⟩
  · obtain ⟨a1, c1, b1, e1, rfl, h1, h2⟩ := h
    have hN : sizeN d os rs = 0 := by unfold sizeN; rw [if_neg (by rw [hE]; exact hE0)]
    rw [hN, hE]
    have hx : (E != 0) = true := by simp [hE0]
    obtain ⟨lo, hlo⟩ : ∃ l, os.length = l := ⟨_, rfl⟩
    obtain ⟨lr, hlr⟩ : ∃ l, rs.length = l := ⟨_, rfl⟩
    rw [hlo, hlr] at hchk ⊢
    have HC := Lib.hid hchk
    clear hchk h1 h2 hlo hlr hc hd hE hE0 hN
    go_enter Tryz.func35, Tryz.ntmps35
    go_wp2_with (go_at_call 37; refine (HC.out _ (alloc_b (Below.refl _ _) _)).mono ?_; rintro e w2 ⟨rfl, k2⟩; have H2 := Lib.hid (below_trans (alloc_b (Below.refl _ _) _) k2); clear k2)
    refine bodyPost_ret (v := .tuple #[.int .i64 0, .int .i64 E]) (by simp [results, Tryz.results35, go_sem]) rfl ?_
    exact ⟨rfl, H2.out⟩
set_option maxRecDepth 100000 in
set_option maxHeartbeats 1000000 in
theorem least18 {w : World} {v : Value} {d : Int} {os : List (List Int)} {rs : List (List (List Int))} {a0 : Option Addr} {c0 : Nat} {p : List Int} (h : ChV w v d os rs) (hc : CapV w v) (hd : ¬ (8 < d ∧ d ≤ 64)) (hp : Ints w a0 p) :
    Calls Tryz.prog 21 #[v, .slice a0 p.length c0] w fun e w' => (∃ a1 c1, e = .returned (.tuple #[.slice a1 (lstL d os rs p).length c1, .int .i64 (memE d os rs p)]) ∧ Ints w' a1 (lstL d os rs p)) ∧ Below w.heap.size w w' := by
  obtain ⟨E, hE⟩ : ∃ E, memE d os rs p = E := ⟨_, rfl⟩
  have hchk := fun (W : World) (hb : Below w.heap.size w W) => mem58 (c := c0) (h.below hb) (hp.below hb)
  rw [hE] at hchk
  by_cases hE0 : E = 0
  · subst hE0
    obtain ⟨hE1, _, _⟩ := memE_zero hE
    obtain ⟨hpl, hpn⟩ := mem_pm hE
    obtain ⟨hd1, hd2, hv⟩ := chkE_zero hE1
    obtain ⟨n, rfl⟩ : ∃ n : Nat, d = n := ⟨d.toNat, by omega⟩
    have hn0 : 0 < n := by omega
    have hn : n ≤ 8 := by omega
    rw [Int.toNat_natCast] at hv
    obtain ⟨ab, ao, c, bb, bo, e, rfl, hl⟩ := lev_of h hc hv (by omega) (by omega)
    have hG := hv.chG
    obtain ⟨O, hO⟩ : ∃ O, orbV n os rs = O := ⟨_, rfl⟩
    obtain ⟨R, hR⟩ : ∃ R, repV n os rs = R := ⟨_, rfl⟩
    rw [Int.toNat_natCast] at hpl hpn
    have hN : lstL n os rs p = (lstF O R n 0 (toPm n p)).l := by unfold lstL; rw [if_pos hE, Int.toNat_natCast, hO, hR]
    obtain ⟨x, hx⟩ : ∃ x : Pm n, toPm n p = x := ⟨_, rfl⟩
    rw [hx] at hN hpl
    rw [hO, hR] at hl hG
    rw [hN, hE]
    obtain ⟨X, hX⟩ : ∃ X, w.heap.size = X := ⟨_, rfl⟩
    have hB0 := BoxW.start w X n ab ao c bb bo e hX
    obtain ⟨W1, hW1⟩ : ∃ W1, W1 = w.alloc (.cells #[.int .i64 (n : Int), .slice (some ⟨ab, ao, none⟩) n c, .slice (some ⟨bb, bo, none⟩) n e] 25) := ⟨_, rfl⟩
    rw [← hW1] at hB0
    have hwW : Below w.heap.size w W1 := by rw [hX]; exact hB0.bel
    have hchk1 := hchk W1 hwW
    subst hpl
    have hpw := pm_of_ints (c := c0) hn0 hp
    rw [hpn] at hchk1 ⊢
    have HPW := Lib.hid hpw
    obtain ⟨pb, po, pc, hpe, _⟩ := id hpw
    cases hpe
    clear hpw
    have H := Lib.hid (And.intro hchk1 (And.intro hB0 (And.intro hwW (And.intro hX (And.intro hl hG)))))
    obtain ⟨z0, z1, z2⟩ : W1.cell? ⟨X, 0, none⟩ = some (.int .i64 (n : Int)) ∧ W1.cell? ⟨X, 1, none⟩ = some (.slice (some ⟨ab, ao, none⟩) n c) ∧ W1.cell? ⟨X, 2, none⟩ = some (.slice (some ⟨bb, bo, none⟩) n e) := ⟨hB0.c0, hB0.c1, hB0.c2⟩
    clear hchk1 hB0 hwW hl hG hchk h hc hd hd1 hd2 hv hO hR hE hE1 hN hp hpn hx
    go_enter Tryz.func21, Tryz.ntmps21
    try rw [hX]
    go_wp2_with (first
      | (go_at_call 40; (with_reducible refine H3.out.1.mono ?_); rintro e1 w4 ⟨v4, rfl, k1, k2⟩; have H4 := Lib.hid (And.intro k1 k2); clear k1 k2)
      | (go_at_call 50; refine (least68 hn0 (by omega) H.out.2.2.2.2.2 (H.out.2.2.2.2.1.below H2.out.2) (HPW.out.below H2.out.2)).mono ?_; rintro e1 w3 ⟨v3, rfl, k1, k3⟩; obtain ⟨ra, rc, hre, hri⟩ := k1.ints (by omega); have hrl := (lstF O R n 0 x).ok.1; rw [hrl] at hre; cases hre; have hcl := clone67 ra rc _ w3 hri (by rw [hrl]; omega); rw [hrl] at hcl; have H3 := Lib.hid (And.intro hcl (below_trans H2.out.2 k3)); clear k1 k3 hcl hri hrl)
      | (go_at_call 62; (try rw [← hW1]); clear hW1 z0 z1 z2; (with_reducible refine H.out.1.mono ?_); rintro e1 w2 ⟨rfl, k2⟩; have hB2 := H.out.2.1.below (k2.mono H.out.2.1.lt); have b0 := hB2.c0; have b1 := hB2.c1; have b2 := hB2.c2; have hw2 := below_trans H.out.2.2.1 k2; have H2 := Lib.hid (And.intro hB2 hw2); clear hB2 hw2 k2))
    obtain ⟨a4, c4, rfl, hi4⟩ := H4.out.1.ints (by rw [(lstF O R n 0 x).ok.1]; unfold maxLen; omega)
    refine bodyPost_ret (v := .tuple #[.slice a4 (lstF O R n 0 x).l.length c4, .int .i64 0]) (by simp [results, Tryz.results21, go_sem]) rfl ?_
    have hb4 := below_trans H3.out.2 H4.out.2
    rw [H.out.2.2.2.1] at hb4
    exact ⟨⟨a4, c4, rfl, hi4⟩, hb4⟩
  · obtain ⟨a1, c1, b1, e1, rfl, h1, h2⟩ := h
    have hN : lstL d os rs p = [] := by unfold lstL; rw [if_neg (by rw [hE]; exact hE0)]
    obtain ⟨lp, hlp⟩ : ∃ l, p.length = l := ⟨_, rfl⟩
    rw [hlp] at hchk ⊢
    rw [hN, hE]
    have hx : (E != 0) = true := by simp [hE0]
    obtain ⟨lo, hlo⟩ : ∃ l, os.length = l := ⟨_, rfl⟩
    obtain ⟨lr, hlr⟩ : ∃ l, rs.length = l := ⟨_, rfl⟩
    rw [hlo, hlr] at hchk ⊢
    have HC := Lib.hid hchk
    clear hchk h1 h2 hlo hlr hc hd hE hE0 hN hp hlp
    go_enter Tryz.func21, Tryz.ntmps21
    go_wp2_with (go_at_call 62; refine (HC.out _ (alloc_b (Below.refl _ _) _)).mono ?_; rintro e w2 ⟨rfl, k2⟩; have H2 := Lib.hid (below_trans (alloc_b (Below.refl _ _) _) k2); clear k2)
    refine bodyPost_ret (v := .tuple #[.slice none 0 0, .int .i64 E]) (by simp [results, Tryz.results21, go_sem]) rfl ?_
    exact ⟨⟨_, _, rfl, ⟨Nat.zero_le _, fun i u hu => by simp at hu⟩⟩, H2.out⟩
end Go.Proofs.YtbejhkojdiadaaaGreatDoor
namespace Go.Proofs.YtbejhkojdiadaaaGreatDoor
open Go.RowKit PlainPm
theorem srtI_perm (l : List Int) : (srtI l).Perm l := List.mergeSort_perm _ _
theorem srtI_sorted (l : List Int) : (srtI l).Pairwise (· ≤ ·) := by
  have := List.pairwise_mergeSort (le := fun x y : Int => decide (x ≤ y)) (fun a b c h1 h2 => by simp at *; omega) (fun a b => by simp; omega) l
  exact this.imp (by simp)
theorem bs_rank {n c g : Nat} {z : Pm n} {l : List Nat} (hl : ∀ p ∈ l, p < n) {V : World} (hV : ∀ j u, (ints (srtI (nts (l.map z.at))))[j]? = some u → V.cell? ⟨g, j, none⟩ = some u) (h64 : l.length ≤ 64) {t C0 : Nat} {B0 : Bool} (hC : cnt z l t = C0) (hB : decide (z.inv.at t ∈ l) = B0) (ht : t < n) :
    Calls Tryz.prog 63 #[.slice (some ⟨g, 0, none⟩) (srtI (nts (l.map z.at))).length c, .int .i64 (t : Int)] V fun e w' => e = .returned (.tuple #[.int .i64 (C0 : Int), .bool B0]) ∧ ∃ q, w' = V.drewN q := by
  have hlen : (srtI (nts (l.map z.at))).length = l.length := by rw [srtI_len, nts_len, List.length_map]
  refine (bs60 (c := c) (x := (t : Int)) (by rw [hlen]; exact h64) (fun j hj => hV j _ ?_) (srtI_sorted _)).mono ?_
  · rw [ints_get hj, List.getD_eq_getElem?_getD]
  · rintro e w' ⟨rfl, hq⟩
    refine ⟨?_, hq⟩
    have h1 : (srtI (nts (l.map z.at))).countP (fun v => decide (v < (t : Int))) = C0 := by
      rw [(srtI_perm _).countP_eq, ← hC]
      unfold cnt nts
      rw [List.map_map, List.countP_map]
      congr 1
      funext q
      simp
    have h2 : (srtI (nts (l.map z.at))).contains (t : Int) = B0 := by
      rw [← hB, Bool.eq_iff_iff, decide_eq_true_iff, List.contains_iff_mem, (srtI_perm _).mem_iff]
      unfold nts
      rw [List.map_map, List.mem_map]
      constructor
      · rintro ⟨q, hq, he⟩
        have he' : z.at q = t := by simp at he; omega
        have : z.inv.at t = q := by rw [← he']; exact z.inv_of (hl q hq)
        rw [this]; exact hq
      · intro hm
        exact ⟨_, hm, by simp [(z.inv_at ht).2]⟩
    rw [h1, h2]
set_option maxRecDepth 100000 in
set_option maxHeartbeats 1000000 in
theorem rank14 {w : World} {v : Value} {d : Int} {os : List (List Int)} {rs : List (List (List Int))} {a0 : Option Addr} {c0 : Nat} {p : List Int} (h : ChV w v d os rs) (hc : CapV w v) (hd : ¬ (8 < d ∧ d ≤ 64)) (hp : Ints w a0 p) :
    Calls Tryz.prog 19 #[v, .slice a0 p.length c0] w fun e w' => e = .returned (.tuple #[.int .i64 (rankN d os rs p : Int), .int .i64 (rankE d os rs p)]) ∧ Below w.heap.size w w' := by
  obtain ⟨E, hE⟩ : ∃ E, memE d os rs p = E := ⟨_, rfl⟩
  have hchk := fun (W : World) (hb : Below w.heap.size w W) => mem58 (c := c0) (h.below hb) (hp.below hb)
  rw [hE] at hchk
  by_cases hE0 : E = 0
  · subst hE0
    obtain ⟨hE1, _, _⟩ := memE_zero hE
    obtain ⟨hpl, hpn⟩ := mem_pm hE
    obtain ⟨hd1, hd2, hv⟩ := chkE_zero hE1
    obtain ⟨n, rfl⟩ : ∃ n : Nat, d = n := ⟨d.toNat, by omega⟩
    have hn0 : 0 < n := by omega
    have hn : n ≤ 8 := by omega
    rw [Int.toNat_natCast] at hv
    obtain ⟨ab, ao, c, bb, bo, e, rfl, hl⟩ := lev_of h hc hv (by omega) (by omega)
    have hG := hv.chG
    obtain ⟨O, hO⟩ : ∃ O, orbV n os rs = O := ⟨_, rfl⟩
    obtain ⟨R, hR⟩ : ∃ R, repV n os rs = R := ⟨_, rfl⟩
    rw [Int.toNat_natCast] at hpl hpn
    obtain ⟨x, hx⟩ : ∃ x : Pm n, toPm n p = x := ⟨_, rfl⟩
    have hN0 : rankO n os rs p = rkF O R x n 0 (PlainPm.one n) 0 := by unfold rankO; rw [Int.toNat_natCast, hO, hR, hx]
    have hN : rankN n os rs p = (rkF O R x n 0 (PlainPm.one n) 0).getD 0 := by unfold rankN; rw [if_pos hE, hN0]
    have hNE : rankE n os rs p = if (rkF O R x n 0 (PlainPm.one n) 0).isSome then 0 else 18 := by unfold rankE; rw [if_pos hE, hN0]
    rw [hx] at hpl
    rw [hO, hR] at hl hG
    rw [hN, hNE]
    obtain ⟨X, hX⟩ : ∃ X, w.heap.size = X := ⟨_, rfl⟩
    have hB0 := BoxW.start w X n ab ao c bb bo e hX
    obtain ⟨W1, hW1⟩ : ∃ W1, W1 = w.alloc (.cells #[.int .i64 (n : Int), .slice (some ⟨ab, ao, none⟩) n c, .slice (some ⟨bb, bo, none⟩) n e] 25) := ⟨_, rfl⟩
    rw [← hW1] at hB0
    have hwW : Below w.heap.size w W1 := by rw [hX]; exact hB0.bel
    have hchk1 := hchk W1 hwW
    subst hpl
    have hpw := pm_of_ints (c := c0) hn0 hp
    rw [hpn] at hchk1 ⊢
    have HPW := Lib.hid hpw
    obtain ⟨pb, po, pc, hpe, _⟩ := id hpw
    cases hpe
    clear hpw
    obtain ⟨NN, hNN⟩ : ∃ N, (rkF O R x n 0 (PlainPm.one n) 0).getD 0 = N := ⟨_, rfl⟩
    obtain ⟨EE, hEE⟩ : ∃ E : Int, (if (rkF O R x n 0 (PlainPm.one n) 0).isSome = true then 0 else 18) = E := ⟨_, rfl⟩
    rw [hNN, hEE]
    have HF := Lib.hid (And.intro hNN hEE)
    clear hNN hEE
    have H := Lib.hid (And.intro hchk1 (And.intro hB0 (And.intro hwW (And.intro hX (And.intro hl hG)))))
    obtain ⟨z0, z1, z2⟩ : W1.cell? ⟨X, 0, none⟩ = some (.int .i64 (n : Int)) ∧ W1.cell? ⟨X, 1, none⟩ = some (.slice (some ⟨ab, ao, none⟩) n c) ∧ W1.cell? ⟨X, 2, none⟩ = some (.slice (some ⟨bb, bo, none⟩) n e) := ⟨hB0.c0, hB0.c1, hB0.c2⟩
    clear hchk1 hB0 hwW hl hG hchk h hc hd hd1 hd2 hv hO hR hE hE1 hN hNE hN0 hp hpn hx
    go_enter Tryz.func19, Tryz.ntmps19
    try rw [hX]
    go_wp2_with (first
      | (go_at_call 39; refine (one59 (by omega)).mono ?_; rintro e1 w4 ⟨v4, rfl, k1, k2⟩; have hB4 := H3.out.2.1.below (k2.mono H3.out.2.1.lt); have d0 := hB4.c0; have d1 := hB4.c1; have d2 := hB4.c2; have H4 := Lib.hid (And.intro k1 (And.intro hB4 (H3.out.1.below k2))); clear k1 k2 hB4)
      | (go_at_call 59; refine (siz55 hn0 hn H.out.2.2.2.2.2 (H.out.2.2.2.2.1.below H2.out.2)).mono ?_; rintro e1 w3 ⟨g, cap, rfl, k1, k3⟩; have hB3 := H2.out.1.below (k3.mono H2.out.1.lt); have f0 := hB3.c0; have f1 := hB3.c1; have f2 := hB3.c2; have H3 := Lib.hid (And.intro k1 (And.intro hB3 (below_trans H2.out.2 k3))); clear k1 k3 hB3)
      | (go_at_call 62; (try rw [← hW1]); clear hW1 z0 z1 z2; (with_reducible refine H.out.1.mono ?_); rintro e1 w2 ⟨rfl, k2⟩; have hB2 := H.out.2.1.below (k2.mono H.out.2.1.lt); have b0 := hB2.c0; have b1 := hB2.c1; have b2 := hB2.c2; have hw2 := below_trans H.out.2.2.1 k2; have H2 := Lib.hid (And.intro hB2 hw2); clear hB2 hw2 k2))
    go_loopw [9, 10, 11, 12, 13, 32] (fun acc yv _ _ _ i wr => ∃ (k A : Nat) (z : Pm n), k ≤ n ∧ i = .int .i64 (k : Int) ∧ acc = .int .i64 (A : Int) ∧ A ≤ k * 134217728 ∧ BoxW w X n ab ao c bb bo e wr ∧ PmV wr [] yv z ∧ SzW wr g n O ∧ rkF O R x (n - k) k z A = rkF O R x n 0 (PlainPm.one n) 0) (fun _ _ _ _ _ i _ => n - (intOf i).toNat)
    case atStart => exact ⟨0, 0, PlainPm.one n, by omega, rfl, rfl, by omega, H4.out.2.1, H4.out.1.pm (by simp), H4.out.2.2, rfl⟩
    case round =>
      obtain ⟨k, A, z, hk, rfl, rfl, hA, hb, hz, hs, he⟩ := hrel
      have hwr : Below w.heap.size w wr := by have h1 := hb.bel; rwa [← H.out.2.2.2.1] at h1
      by_cases hkn : k < n
      · have q0 := hb.c0
        have q1 := hb.c1
        have q2 := hb.c2
        obtain ⟨t, ht⟩ : ∃ t, x.at k = t := ⟨_, rfl⟩
        have htn : t < n := by rw [← ht]; exact x.lt hkn
        have q3 : wr.cell? ⟨pb, po + k, none⟩ = some (.int .i64 (t : Int)) := by
          obtain ⟨b', o', c', he', _, _, hc'⟩ := HPW.out.below hwr
          cases he'
          rw [← ht]; exact hc' k hkn
        have hlt := H.out.2.2.2.2.2.lt k hkn
        have hnd := H.out.2.2.2.2.2.nd k hkn
        have hsh := H.out.2.2.2.2.2.short hkn
        obtain ⟨L, hL⟩ : ∃ L, (srtI (nts ((O k).map z.at))).length = L := ⟨_, rfl⟩
        have hLl : (ints (srtI (nts ((O k).map z.at)))).length = L := by rw [ints_len, hL]
        have hL0 : 0 < L := by rw [← hL, srtI_len, nts_len, List.length_map]; exact H.out.2.2.2.2.2.pos hkn
        have hch := fun (V : World) (hV : Below wr.heap.size wr V) => (choices61 (c := c) (e := e) hkn hlt (H.out.2.2.2.2.1.below (below_trans hwr hV)) (hz.below hV)).mono (fun e1 w6 h6 => (show ∃ g6 c6, e1 = .returned (.slice (some ⟨g6, 0, none⟩) L c6) ∧ (∀ (j : Nat) u, (ints (srtI (nts ((O k).map z.at))))[j]? = some u → w6.cell? ⟨g6, j, none⟩ = some u) ∧ Below V.heap.size V w6 from by
          obtain ⟨v6, rfl, k1, k2⟩ := h6
          obtain ⟨g6, c6, rfl, _⟩ := k1.form (by rw [hLl]; exact hL0)
          rw [hLl] at k1 ⊢
          exact ⟨g6, c6, rfl, fun j u hu => (k1.cell j (List.getElem?_eq_some_iff.1 hu).1).trans hu, k2⟩))
        obtain ⟨C0, hC0⟩ : ∃ C, cnt z (O k) t = C := ⟨_, rfl⟩
        obtain ⟨q, hq⟩ : ∃ q, z.inv.at t = q := ⟨_, rfl⟩
        obtain ⟨B0, hB0⟩ : ∃ B, decide (q ∈ O k) = B := ⟨_, rfl⟩
        have hzq : z.at q = t := by rw [← hq]; exact (z.inv_at htn).2
        have hbs := fun (V : World) (g2 cap2 : Nat) (hV : ∀ j u, (ints (srtI (nts ((O k).map z.at))))[j]? = some u → V.cell? ⟨g2, j, none⟩ = some u) => bs_rank (c := cap2) (C0 := C0) (B0 := B0) hlt hV (Nat.le_trans hsh (by omega)) hC0 (by rw [hq]; exact hB0) htn
        obtain ⟨Z, hZ⟩ : ∃ Z, szF O (n - (k + 1)) (k + 1) = Z := ⟨_, rfl⟩
        have hZl2 : Z ≤ 16777216 := by
          have hZl := H.out.2.2.2.2.2.sz_le (m := 8) hn (f := n - (k + 1)) (i := k + 1) (by omega)
          rw [hZ] at hZl
          exact Nat.le_trans hZl (Nat.le_trans (Nat.pow_le_pow_right (by omega) (show n - (k + 1) ≤ 8 by omega)) (by decide))
        have q4 := hs.2 (k + 1) (by omega)
        rw [hZ] at q4
        have hC8 : C0 ≤ 8 := by have := cnt_le z (O k) t; omega
        have hCZ : C0 * Z ≤ 8 * 16777216 := Nat.mul_le_mul hC8 hZl2
        have hst := fun (hm : q ∈ O k) (V : World) (hV : Below wr.heap.size wr V) => step62 (c := c) (e := e) (by omega) hkn hlt hm (H.out.2.2.2.2.1.below (below_trans hwr hV)) (hz.below hV)
        rw [hzq] at hst
        have hnx : rkF O R x n 0 (PlainPm.one n) 0 = if q ∈ O k then rkF O R x (n - (k + 1)) (k + 1) ((R k q).mul z) (A + C0 * Z) else none := by
          rw [← he, show n - k = n - (k + 1) + 1 by omega, rkF, ht, hq, hC0, hZ]
        rw [hL] at hbs
        obtain ⟨zb, zo, zc, hze, _⟩ := id hz
        subst hze
        have HC := Lib.hid (And.intro hch (And.intro hbs (And.intro hst (And.intro hnx (And.intro hb (And.intro hs (And.intro hwr hB0)))))))
        have hA9 : A ≤ 1073741824 := by omega
        have hk1 : (k : Int) < n := by omega
        clear hch hbs hst hnx hb hs hwr hB0 hLl hL0 hL hz he hlt hnd hsh hC0 hq hzq hZ ht hC8
        go_wp2_with fail
        go_region_held3 (fun V => V.cell? ⟨X, 0, none⟩ = some (.int .i64 (n : Int)) ∧ V.cell? ⟨X, 1, none⟩ = some (.slice (some ⟨ab, ao, none⟩) n c) ∧ V.cell? ⟨X, 2, none⟩ = some (.slice (some ⟨bb, bo, none⟩) n e) ∧ V.cell? ⟨pb, po + k, none⟩ = some (.int .i64 (t : Int)) ∧ Below wr.heap.size wr V)
          (first
            | assumption
            | exact ⟨q0, q1, q2, q3, Below.refl _ _⟩
            | exact ⟨q0, q1, q2, q3, below_drew (Below.refl _ _)⟩
            | exact ⟨q0, q1, q2, q3, below_self_drewN _ _⟩
            | exact keep4 (by first | assumption | exact ⟨q0, q1, q2, q3, Below.refl _ _⟩ | exact ⟨q0, q1, q2, q3, below_drew (Below.refl _ _)⟩ | exact ⟨q0, q1, q2, q3, below_self_drewN _ _⟩) (by first | assumption | exact below_self_drewN _ _))
          (first
            | (go_at_call 63; (with_reducible refine (HC.out.2.1 _ _ _ (by exact H6.out.2)).mono ?_); rintro e1 w7 ⟨rfl, nd, rfl⟩)
            | (go_at_call 60; (with_reducible refine (HC.out.1 _ (by first | exact Below.refl _ _ | exact below_drew (Below.refl _ _) | exact below_self_drewN _ _ | assumption)).mono ?_); rintro e1 w6 ⟨g6, c6, rfl, k1, k2⟩; have H6 := Lib.hid (And.intro k2 k1); clear k1))
        have hh : (w6.drewN nd).cell? ⟨X, 0, none⟩ = some (.int .i64 (n : Int)) ∧ (w6.drewN nd).cell? ⟨X, 1, none⟩ = some (.slice (some ⟨ab, ao, none⟩) n c) ∧ (w6.drewN nd).cell? ⟨X, 2, none⟩ = some (.slice (some ⟨bb, bo, none⟩) n e) ∧ (w6.drewN nd).cell? ⟨pb, po + k, none⟩ = some (.int .i64 (t : Int)) ∧ Below wr.heap.size wr (w6.drewN nd) := by assumption
        obtain ⟨V5, hV5⟩ : ∃ V5, V5 = w6.drewN nd := ⟨_, rfl⟩
        rw [← hV5] at hh ⊢
        obtain ⟨r0, r1, r2, r3, rb⟩ := hh
        have hbx := HC.out.2.2.2.2.1.lt
        have s4 : V5.cell? ⟨g, k + 1, none⟩ = some (.int .i64 (Z : Int)) := (rb.cell (p := ⟨g, k + 1, none⟩) HC.out.2.2.2.2.2.1.1).trans q4
        clear hV5
        by_cases hm : q ∈ O k
        · have hBt : B0 = true := by rw [← HC.out.2.2.2.2.2.2.2]; simp [hm]
          subst hBt
          have hCZi : (C0 : Int) * (Z : Int) ≤ 134217728 := by rw [← Int.natCast_mul]; omega
          have hCZ0 : 0 ≤ (C0 : Int) * (Z : Int) := by rw [← Int.natCast_mul]; omega
          have hw1 : IntKind.i64.wrap ((C0 : Int) * (Z : Int)) = (C0 : Int) * (Z : Int) := IntWalk.i64_in _ (by omega)
          have hw2 : IntKind.i64.wrap ((A : Int) + (C0 : Int) * (Z : Int)) = (A : Int) + (C0 : Int) * (Z : Int) := IntWalk.i64_in _ (by omega)
          have hst := HC.out.2.2.1 hm
          have HS := Lib.hid (And.intro hst (And.intro rb hm))
          clear hst hm hCZi hCZ0 q0 q1 q2 q3 q4
          go_wp2_with fail
          go_region_held3 (fun V => V.cell? ⟨X, 0, none⟩ = some (.int .i64 (n : Int)) ∧ V.cell? ⟨X, 1, none⟩ = some (.slice (some ⟨ab, ao, none⟩) n c) ∧ V.cell? ⟨X, 2, none⟩ = some (.slice (some ⟨bb, bo, none⟩) n e) ∧ V.cell? ⟨pb, po + k, none⟩ = some (.int .i64 (t : Int)) ∧ Below wr.heap.size wr V)
            (first
              | assumption
              | exact ⟨r0, r1, r2, r3, HS.out.2.1⟩
              | exact ⟨r0, r1, r2, r3, below_drew HS.out.2.1⟩
              | exact ⟨r0, r1, r2, r3, below_drewN HS.out.2.1 _⟩
              | exact keep4 (by first | assumption | exact ⟨r0, r1, r2, r3, HS.out.2.1⟩ | exact ⟨r0, r1, r2, r3, below_drew HS.out.2.1⟩ | exact ⟨r0, r1, r2, r3, below_drewN HS.out.2.1 _⟩) (by first | assumption | exact below_self_drewN _ _))
            (first
              | (go_at_call 61; (with_reducible refine (HS.out.1 _ (by first | exact HS.out.2.1 | exact below_drew HS.out.2.1 | exact below_drewN HS.out.2.1 _ | assumption)).mono ?_); rintro e1 w8 ⟨v8, rfl, k1, k2⟩; have H8 := Lib.hid (And.intro k1 k2); clear k1))
          go_wp2_with fail
          have hb8 := below_trans (below_drew HS.out.2.1) H8.out.2
          have hCZn : ((A : Int) + (C0 : Int) * (Z : Int)) = ((A + C0 * Z : Nat) : Int) := by rw [Int.natCast_add, Int.natCast_mul]
          refine ⟨⟨k + 1, A + C0 * Z, (R k q).mul z, by omega, by go_num, by rw [hCZn], by omega, HC.out.2.2.2.2.1.below (hb8.mono hbx), H8.out.1.pm (by simp), HC.out.2.2.2.2.2.1.below hb8, ?_⟩, by simp [intOf]; omega⟩
          rw [HC.out.2.2.2.1, if_pos HS.out.2.2]
        · have hBt : B0 = false := by rw [← HC.out.2.2.2.2.2.2.2]; simp [hm]
          subst hBt
          have HS := Lib.hid (And.intro rb hm)
          clear hm
          go_wp2_with fail
          refine bodyPost_ret (v := .tuple #[.int .i64 0, .int .i64 18]) (by simp [results, Tryz.results19, go_sem]) rfl ?_
          have hf : rkF O R x n 0 (PlainPm.one n) 0 = none := by rw [HC.out.2.2.2.1, if_neg HS.out.2]
          have hN1 : NN = 0 := by rw [← HF.out.1, hf]; rfl
          have hE1 : EE = 18 := by rw [← HF.out.2, hf]; rfl
          have hb8 := below_trans HC.out.2.2.2.2.2.2.1 HS.out.1
          rw [H.out.2.2.2.1] at hb8
          rw [hN1, hE1]
          exact ⟨rfl, hb8⟩
      · obtain rfl : k = n := by omega
        have hk1 : ¬ (k : Int) < k := by omega
        rw [Nat.sub_self] at he
        have HC := Lib.hid (And.intro hb he)
        clear hb hwr he hz hs
        go_wp2_with fail
        refine bodyPost_ret (v := .tuple #[.int .i64 (A : Int), .int .i64 0]) (by simp [results, Tryz.results19, go_sem]) rfl ?_
        have hf : rkF O R x k 0 (PlainPm.one k) 0 = some A := by rw [← HC.out.2]; rfl
        have hN1 : NN = A := by rw [← HF.out.1, hf]; rfl
        have hE1 : EE = 0 := by rw [← HF.out.2, hf]; rfl
        rw [hN1, hE1]
        exact ⟨rfl, HC.out.1.bel⟩
  · obtain ⟨a1, c1, b1, e1, rfl, h1, h2⟩ := h
    have hN : rankN d os rs p = 0 := by unfold rankN; rw [if_neg (by rw [hE]; exact hE0)]
    have hNE : rankE d os rs p = E := by unfold rankE; rw [if_neg (by rw [hE]; exact hE0), hE]
    obtain ⟨lp, hlp⟩ : ∃ l, p.length = l := ⟨_, rfl⟩
    rw [hlp] at hchk ⊢
    rw [hN, hNE]
    have hx : (E != 0) = true := by simp [hE0]
    obtain ⟨lo, hlo⟩ : ∃ l, os.length = l := ⟨_, rfl⟩
    obtain ⟨lr, hlr⟩ : ∃ l, rs.length = l := ⟨_, rfl⟩
    rw [hlo, hlr] at hchk ⊢
    have HC := Lib.hid hchk
    clear hchk h1 h2 hlo hlr hc hd hE hE0 hN hNE hp hlp
    go_enter Tryz.func19, Tryz.ntmps19
    go_wp2_with (go_at_call 62; refine (HC.out _ (alloc_b (Below.refl _ _) _)).mono ?_; rintro e w2 ⟨rfl, k2⟩; have H2 := Lib.hid (below_trans (alloc_b (Below.refl _ _) _) k2); clear k2)
    refine bodyPost_ret (v := .tuple #[.int .i64 0, .int .i64 E]) (by simp [results, Tryz.results19, go_sem]) rfl ?_
    exact ⟨rfl, H2.out⟩
end Go.Proofs.YtbejhkojdiadaaaGreatDoor
