/- The kit's Pick and Taker.Take. · The kit's One with its row, cycle, Perm. · The kit's GroupOf: a drawn group. · The reference's check of a group and Of, for drawn groups. · Chapter 11's group: a drawn group and a drawn subgroup. · Arguments read: lists of ints, and chains. -/
import Derived.Test.YtbejhkojdiadaaaGreatDoorRk01
import Derived.Test.YtbejhkojdiadaaaGreatDoorRk02
import Derived.Test.YtbejhkojdiadaaaGreatDoorRk03
import Derived.Test.YtbejhkojdiadaaaGreatDoorRk04
import Derived.Test.YtbejhkojdiadaaaGreatDoorRk05
import Derived.Test.YtbejhkojdiadaaaGreatDoorRk06
import Derived.Test.YtbejhkojdiadaaaGreatDoorRk07
import Derived.Test.YtbejhkojdiadaaaGreatDoorRk08
import Derived.Test.YtbejhkojdiadaaaGreatDoorRk09
import Derived.Test.YtbejhkojdiadaaaGreatDoorRk10
import Derived.Test.YtbejhkojdiadaaaGreatDoorRk11
import Derived.Test.YtbejhkojdiadaaaGreatDoorRk12
import Derived.Test.YtbejhkojdiadaaaGreatDoorRk13
import Derived.Test.YtbejhkojdiadaaaGreatDoorRk14
import Derived.Test.YtbejhkojdiadaaaGreatDoorRk15
import Derived.Test.YtbejhkojdiadaaaGreatDoorRk16
import Derived.Test.YtbejhkojdiadaaaGreatDoorProg
import Derived.Deep.Matrix
import Derived.Below
import Derived.ChangeSame
import Derived.Deep.Slices
import Derived.Deep.Fields
import Derived.OpenShut
import Derived.WalkKit
import Derived.WalkSpells
import Derived.BigQuiet
import Derived.Deep.QuietTactic
import Derived.Deep.LoopGhost
import Derived.Lib.Hide
import Derived.Maps.AppendAt
import Derived.Deep.AppendLies
import Derived.StillTailTactics
import Derived.Laws.CopyOwn
import Derived.Deep.OwnRows
import Derived.Deep.DeepCutAuto
import Derived.Laws.Cover3
import Derived.Deep.RegionHeld3
import Derived.RangeFuncRecord
import Derived.Lib.SlicesSearch
import Derived.RangeFuncBox
import Derived.RangeFuncLeaves
import Derived.RangeFuncWrites
import Derived.RangeFuncFrom
import Derived.Shelf.Abstract
import Derived.OwnWalkIn
import Derived.TacticsInMore
import Derived.LoopNIn
import Derived.LoopIn
import Derived.Shelf.GgSortFunc.Insertion
import Derived.Shelf.SlIter.Collect
import Derived.Shelf.Sort.Plain
import Derived.Deep.RegionLaw
import Derived.ControlIn
import Derived.Deep.AppendSrc
set_option linter.unusedSimpArgs false
set_option linter.unusedVariables false
namespace Go.Proofs.YtbejhkojdiadaaaGreatDoor
open Go.RowKit PlainPm
theorem emod_of_tmod {n k : Int} (h : 0 < k) : n % k = if n.tmod k < 0 then n.tmod k + k else n.tmod k := by
  rw [Int.emod_eq_tmod]
  have h2 := Int.tmod_lt_of_pos n (b := k) h
  have h3 := Int.lt_tmod_of_pos n (b := k) h
  by_cases h4 : 0 ≤ n ∨ k ∣ n
  · rw [if_pos h4, if_neg]
    · omega
    · rcases h4 with h4 | h4
      · have := Int.tmod_nonneg k h4; omega
      · rw [Int.tmod_eq_zero_of_dvd h4]; omega
  · rw [if_neg h4]
    have hn : ¬ 0 ≤ n := fun h => h4 (.inl h)
    have hd : n.tmod k ≠ 0 := fun h => h4 (.inr (Int.dvd_of_tmod_eq_zero h))
    have h5 : n.tmod k ≤ 0 := by
      have h6 := Int.tmod_nonneg k (a := -n) (by omega)
      rw [Int.neg_tmod] at h6; omega
    rw [if_pos (by omega)]
    omega
theorem ret_int' {a b : Int} (h : a = b) : Ending.returned (.int .i64 a) = Ending.returned (.int .i64 b) := by rw [h]
theorem pick51 {x n : Int} (hn : 0 < n) (hn2 : n ≤ 1000000) (w : World) : Calls Tryz.prog 25 #[.int .i64 x, .int .i64 n] w fun e w' => e = .returned (.int .i64 (x % n)) ∧ ∃ q, w' = w.drewN q := by
  have hb := emod_of_tmod (n := x) hn
  have h2 := Int.tmod_lt_of_pos x (b := n) hn
  have h3 := Int.lt_tmod_of_pos x (b := n) hn
  have h0 : (n == 0) = false := by simp; omega
  have h0' : n ≠ 0 := by omega
  obtain ⟨r, hr⟩ : ∃ r, x.tmod n = r := ⟨_, rfl⟩
  rw [hr] at hb h2 h3
  by_cases h4 : r < 0
  · rw [if_pos h4] at hb
    have Hb := Lib.hid hb
    clear hb
    go_enter Tryz.func25, Tryz.ntmps25
    go_wp2_with fail
    go_ret
    exact ⟨ret_int' (by rw [Hb.out]), 0, rfl⟩
  · rw [if_neg h4] at hb
    have Hb := Lib.hid hb
    clear hb
    go_enter Tryz.func25, Tryz.ntmps25
    go_wp2_with fail
    go_ret
    exact ⟨ret_int' (by rw [Hb.out]), 0, rfl⟩
structure TkW (w0 w : World) (tk : Nat) (l : List Int) : Prop where
  box : ∃ a c p, w.heap[tk]? = some (.cells #[.slice a l.length c, .int .i64 ((p : Nat) : Int)] 60) ∧ p ≤ l.length ∧ Ints w0 a l
  old : w0.heap.size ≤ tk
  bel : Below w0.heap.size w0 w
theorem TkW.kept {w0 w w' : World} {tk : Nat} {l : List Int} {S : List Nat} (h : TkW w0 w tk l) (k : Kept w w' S) (hs : ∀ m ∈ S, w0.heap.size ≤ m ∧ m ≠ tk) : TkW w0 w' tk l := by
  obtain ⟨⟨a, c, p, h1, h2, h3⟩, h4, h5⟩ := h
  exact ⟨⟨a, c, p, (k.block tk (Array.getElem?_eq_some_iff.1 h1).1 (fun hm => (hs tk hm).2 rfl)).trans h1, h2, h3⟩, h4, h5.trans (k.below h5.size (fun m hm => (hs m hm).1))⟩
theorem TkW.below {w0 w w' : World} {tk : Nat} {l : List Int} (h : TkW w0 w tk l) (k : Below w.heap.size w w') : TkW w0 w' tk l := h.kept (S := []) (Kept.ofBelow k) (by simp)
theorem TkW.lt {w0 w : World} {tk : Nat} {l : List Int} (h : TkW w0 w tk l) : tk < w.heap.size := by
  obtain ⟨⟨a, c, p, h1, _⟩, _⟩ := h
  exact (Array.getElem?_eq_some_iff.1 h1).1
theorem box2_cells {W : World} {Y : Nat} {u v : Value} {t : TypeId} (h : W.heap[Y]? = some (.cells #[u, v] t (0, 0))) : W.cell? ⟨Y, 0, none⟩ = some u ∧ W.cell? ⟨Y, 1, none⟩ = some v ∧ W.frozen? ⟨Y, 1, none⟩ = false := by
  refine ⟨?_, ?_, ?_⟩ <;> simp [World.cell?, World.frozen?, h]
theorem box2_set1 {W : World} {Y : Nat} {u v v' : Value} {t : TypeId} (h : W.heap[Y]? = some (.cells #[u, v] t (0, 0))) : (W.setCell ⟨Y, 1, none⟩ v').heap[Y]? = some (.cells #[u, v'] t (0, 0)) := by
  have hl := (Array.getElem?_eq_some_iff.1 h).1
  have h2 : W.heap[Y] = .cells #[u, v] t (0, 0) := by rw [Array.getElem?_eq_getElem hl] at h; exact Option.some.inj h
  simp [World.setCell, Array.getElem_modify, hl, h2]
set_option maxRecDepth 100000 in
set_option maxHeartbeats 2000000 in
theorem take98 {w0 w : World} {tk : Nat} {l : List Int} (h : TkW w0 w tk l) {n : Int} (hn : n ≤ 1000000) (hn2 : -1000000 ≤ n) :
    Calls Tryz.prog 30 #[.pointer (some ⟨tk, 0, none⟩), .int .i64 n] w fun e w' => ∃ k : Nat, e = .returned (.int .i64 (k : Int)) ∧ (0 < n → (k : Int) < n) ∧ (n ≤ 0 → k = 0) ∧ TkW w0 w' tk l ∧ Kept w w' [tk] := by
  have H := Lib.hid h
  obtain ⟨⟨a, c, p, hbx, hp, hi⟩, hold, hbel⟩ := h
  have hlen := hi.len
  obtain ⟨L, hL⟩ : ∃ L, l.length = L := ⟨_, rfl⟩
  have hat : ∀ (hpl : p < L), ∃ b o, a = some ⟨b, o, none⟩ ∧ w.cell? ⟨b, o + p, none⟩ = some (.int .i64 (l[p]?.getD 0)) ∧ b < w0.heap.size := fun hpl => by
    obtain ⟨b, o, e, hb, hc⟩ := hi.at_ (k := p) (by omega)
    exact ⟨b, o, e, (hbel.cell (p := ⟨b, o + p, none⟩) hb).trans hc, hb⟩
  rw [hL] at hbx hp hlen
  obtain ⟨z0, z1, z2⟩ := box2_cells hbx
  have HH := Lib.hid (And.intro hbx (And.intro hL (And.intro hat (And.intro hi (And.intro hold hbel)))))
  clear hbx hL hi hat hbel
  by_cases hpL : L ≤ p
  · have g1 : decide ((L : Int) ≤ (p : Int)) = true := by simp; omega
    have g2 : decide (L ≤ p) = true := by simp [hpL]
    go_enter Tryz.func30, Tryz.ntmps30
    go_wp2_with fail
    go_quiet (fail)
    go_wp2_with fail
    refine bodyPost_ret (v := .int .i64 ((0 : Nat) : Int)) (by simp [results, Tryz.results30, go_sem]) rfl ?_
    exact ⟨0, rfl, fun h => by simpa using h, fun _ => rfl, H.out.below (below_self_drewN _ _), (Kept.refl _ _).drewN _⟩
  · have g1 : decide ((L : Int) ≤ (p : Int)) = false := by simp; omega
    have g2 : decide (L ≤ p) = false := by simp; omega
    by_cases hn1 : n < 1
    · have g3 : decide (n < 1) = true := by simp [hn1]
      go_enter Tryz.func30, Tryz.ntmps30
      go_wp2_with fail
      go_quiet (fail)
      go_wp2_with fail
      refine bodyPost_ret (v := .int .i64 ((0 : Nat) : Int)) (by simp [results, Tryz.results30, go_sem]) rfl ?_
      exact ⟨0, rfl, fun h => by omega, fun _ => rfl, H.out.below (below_self_drewN _ _), (Kept.refl _ _).drewN _⟩
    · have g3 : decide (n < 1) = false := by simp [hn1]
      obtain ⟨b, o, rfl, hc, hb0⟩ := HH.out.2.2.1 (by omega)
      have hbtk : b ≠ tk := by omega
      obtain ⟨xv, hxv⟩ : ∃ x, l[p]?.getD 0 = x := ⟨_, rfl⟩
      rw [hxv] at hc
      clear hxv
      have hw1 : IntKind.i64.wrap ((p : Int) + 1) = ((p + 1 : Nat) : Int) := by rw [show ((p : Int) + 1) = ((p + 1 : Nat) : Int) by simp]; exact IntWalk.i64_in _ (by omega)
      go_enter Tryz.func30, Tryz.ntmps30
      go_wp2_with fail
      go_quiet (fail)
      go_wp2_with fail
      obtain ⟨W1, hW1⟩ : ∃ W1, (w.drewN nq).setCell ⟨tk, 1, none⟩ (.int .i64 ((p : Int) + 1)) = W1 := ⟨_, rfl⟩
      have hbx1 : W1.heap[tk]? = some (.cells #[.slice (some ⟨b, o, none⟩) L c, .int .i64 ((p : Int) + 1)] 60) := hW1 ▸ box2_set1 (W := w.drewN nq) HH.out.1
      have hk1 : Kept w W1 [tk] := hW1 ▸ ((Kept.refl _ _).drewN nq).trans (Kept.ofGrown (grown_put 1 _) (fun k e => by cases e; exact List.mem_singleton.2 rfl))
      obtain ⟨y0, y1, _⟩ := box2_cells hbx1
      have hc1 : W1.cell? ⟨b, o + p, none⟩ = some (.int .i64 xv) := (hk1.cell (p := ⟨b, o + p, none⟩) (Nat.lt_of_lt_of_le hb0 HH.out.2.2.2.2.2.size) (by simpa using hbtk)).trans hc
      have Hc := Lib.hid (fun q => pick51 (x := xv) (n := n) (by omega) hn (W1.drewN q))
      have hw2 : IntKind.i64.wrap ((p : Int) + 1 - 1) = (p : Int) := by rw [show ((p : Int) + 1 - 1) = (p : Int) by omega]; exact IntWalk.i64_in _ (by omega)
      have hw3 : (p : Int) + 1 - 1 = (p : Int) := by omega
      have hp0 : (0 : Int) ≤ (p : Int) := by omega
      have hpL1 : (p : Int) < (L : Int) := by omega
      have hw4 : IntKind.i64.wrap (p : Int) = (p : Int) := IntWalk.i64_in _ (by omega)
      obtain ⟨r, hr⟩ : ∃ r, xv % n = r := ⟨_, rfl⟩
      rw [hr] at Hc
      have HK := Lib.hid (And.intro hbx1 (And.intro hk1 hr))
      clear hbx1 hk1 hr z0 z1 hc
      rw [hW1]
      clear hW1
      go_quiet ((go_at_call 25; exact Calls.quiet_of (Hc.out _)))
      go_wp2_with fail
      have hr0 : 0 ≤ r := by rw [← HK.out.2.2]; exact Int.emod_nonneg _ (by omega)
      have hrn : r < n := by rw [← HK.out.2.2]; exact Int.emod_lt_of_pos _ (by omega)
      obtain ⟨k, rfl⟩ : ∃ k : Nat, r = (k : Int) := ⟨r.toNat, by omega⟩
      refine bodyPost_ret (v := .int .i64 (k : Int)) (by simp [results, Tryz.results30, go_sem]) rfl ?_
      refine ⟨k, rfl, fun _ => hrn, fun h => by omega, ?_, HK.out.2.1.drewN _⟩
      refine ⟨⟨some ⟨b, o, none⟩, c, p + 1, ?_, by rw [HH.out.2.1]; omega, HH.out.2.2.2.1⟩, HH.out.2.2.2.2.1, ?_⟩
      · rw [HH.out.2.1]
        exact HK.out.1
      · exact below_drewN (HH.out.2.2.2.2.2.trans (HK.out.2.1.below1 HH.out.2.2.2.2.2.size HH.out.2.2.2.2.1)) _
end Go.Proofs.YtbejhkojdiadaaaGreatDoor
namespace Go.Proofs.YtbejhkojdiadaaaGreatDoor
open Go.RowKit PlainPm
theorem ofF_congr {n : Nat} {f g : Nat → Nat} (h : ∀ i, i < n → f i = g i) : ofF n f = ofF n g := by
  unfold ofF
  exact List.map_congr_left fun i hi => by rw [h i (List.mem_range.1 hi)]
theorem ints_setF {n m v : Nat} {f : Nat → Nat} (hm : m < n) : (ints (ofF n f)).set m (.int .i64 (v : Int)) = ints (ofF n fun j => if j = m then v else f j) := by
  apply List.ext_getElem?
  intro i
  rw [List.getElem?_set]
  unfold ints ofF
  by_cases hi : i < n
  · by_cases e : m = i
    · subst e
      simp [hi]
    · rw [if_neg e]
      simp [hi, Ne.symm e]
  · rw [if_neg (by omega)]
    simp [hi]
theorem ofF_len {n : Nat} {f : Nat → Nat} : (ofF n f).length = n := by simp [ofF]
theorem pm_ofF {n : Nat} (x : Pm n) : x.l = ofF n x.at := by
  apply List.ext_getElem?
  intro i
  by_cases hi : i < n
  · rw [x.get hi, ofF_get hi]
  · rw [List.getElem?_eq_none (by have := x.ok.1; omega), List.getElem?_eq_none (by rw [ofF_len]; omega)]
theorem ints_pm {n m : Nat} {x : Pm n} (hm : m < n) : (ints x.l)[m]? = some (.int .i64 (x.at m : Int)) := by
  unfold ints; rw [List.getElem?_map, x.get hm]; rfl
set_option maxHeartbeats 400000 in
theorem one65o {n : Nat} (hn : n ≤ 64) (hn0 : 0 < n) {w : World} :
    Calls Tryz.prog 26 #[.int .i64 (n : Int)] w fun e w' => ∃ g c, e = .returned (.slice (some ⟨g, 0, none⟩) n c) ∧ Own w' w.heap.size (.slice (some ⟨g, 0, none⟩) n c) 3 (ints (PlainPm.one n).l) ∧ Below w.heap.size w w' := by
  obtain ⟨i3, hi3, hz3, hs3, hb3⟩ := info_parts Tryz.info3
  have I3 := Lib.hid (And.intro hi3 (And.intro hz3 (And.intro hs3 hb3)))
  clear hi3 hz3 hs3 hb3
  go_enter Tryz.func26, Tryz.ntmps26
  go_wp2
  go_loopw [3, 4] (fun v i wr => ∃ k : Nat, k ≤ n ∧ i = .int .i64 (k : Int) ∧ Own wr w.heap.size v 3 (ints (ofF k fun i => i)) ∧ Below w.heap.size w wr) (fun _ i _ => n - (intOf i).toNat)
  case atStart => exact ⟨0, by omega, rfl, Own.nil _ _ _, Below.refl _ _⟩
  case round =>
    obtain ⟨k, hk, rfl, ho, hb⟩ := hrel
    by_cases hkn : k < n
    · have hsz : w.heap.size ≤ wr.heap.size := hb.size
      have hl : (ints (ofF k fun i => i)).length < 1099511627776 := by rw [ints_len]; simp [ofF]; omega
      have HP := Lib.hid (And.intro ho hb)
      clear ho hb
      go_wp2_with (at_builtin; refine app1 rfl (.tmp 10) (.tmp 12) 41 3 rfl i3 (.int .i64 0) 8 Tryz.underlying41 I3.out.1 I3.out.2.1 I3.out.2.2.1 I3.out.2.2.2 rfl (by omega) w.heap.size (.int .i64 (k : Int)) u3 (ints (ofF k fun i => i)) rfl HP.out.1 rfl rfl hl hsz ?_; intro v8 w8 k1 k2 k3; have H8 := Lib.hid (And.intro k1 (HP.out.2.grown k2 hsz (fun g hg => (HP.out.1.block_lt hg).2))); clear k1 k2 k3)
      refine ⟨⟨k + 1, by omega, by go_num, ?_, H8.out.2⟩, by simp [intOf]; omega⟩
      have h8 := H8.out.1
      rw [ofF_succ]
      simpa [ints] using h8
    · obtain rfl : k = n := by omega
      have HP := Lib.hid (And.intro ho hb)
      clear ho hb
      go_wp2
      go_ret
      obtain ⟨g, c, rfl, hg1, hg2, hg3, hg4⟩ := HP.out.1.form (by rw [ints_len]; simp [ofF]; omega)
      have h8 := HP.out.1
      have hl : (ints (ofF k fun i => i)).length = k := by rw [ints_len]; simp [ofF]
      rw [hl] at h8 ⊢
      exact ⟨g, c, rfl, h8, HP.out.2⟩
set_option maxRecDepth 100000 in
set_option maxHeartbeats 2000000 in
theorem cycle133 {n f t D g cap : Nat} (hn : n ≤ 64) (hf : f < t) (ht : t ≤ n) {w : World} (ho : Own w D (.slice (some ⟨g, 0, none⟩) n cap) 3 (ints (PlainPm.one n).l)) :
    Calls Tryz.prog 64 #[.slice (some ⟨g, 0, none⟩) n cap, .int .i64 (f : Int), .int .i64 (t : Int)] w fun e w' => e = .returned (.slice (some ⟨g, 0, none⟩) n cap) ∧ Own w' D (.slice (some ⟨g, 0, none⟩) n cap) 3 (ints (cycP n f t hf ht).l) ∧ Kept w w' [g] := by
  obtain ⟨s, hs⟩ : ∃ s, t = s + 1 := ⟨t - 1, by omega⟩
  have hst : IntKind.i64.wrap ((t : Int) - 1) = (s : Int) := by rw [show ((t : Int) - 1) = (s : Int) by omega]; exact IntWalk.i64_in _ (by omega)
  have hst2 : (t : Int) - 1 = (s : Int) := by omega
  have hsn : (s : Int) < n := by omega
  have hs0 : (0 : Int) ≤ (s : Int) := by omega
  have H := Lib.hid ho
  have HS := Lib.hid hs
  have HR := Lib.hid hst2
  clear ho hs hst2
  go_enter Tryz.func64, Tryz.ntmps64
  go_wp2_with fail
  go_loopw [7] (fun i wr => ∃ (m : Nat), f ≤ m ∧ m ≤ t ∧ i = .int .i64 (m : Int) ∧ Own wr D (.slice (some ⟨g, 0, none⟩) n cap) 3 (ints (ofF n (cycF f m))) ∧ Kept w wr [g]) (fun i _ => t - (intOf i).toNat)
  case atStart =>
    refine ⟨f, Nat.le_refl _, by omega, rfl, ?_, Kept.refl _ _⟩
    have := H.out
    rw [pm_ofF] at this
    rwa [ofF_congr (g := cycF f f) fun i hi => by rw [one_at hi]; unfold cycF; rw [if_neg (by omega)]] at this
  case round =>
    obtain ⟨m, hfm, hmt, rfl, ho, hk⟩ := hrel
    by_cases hlt : m < t
    · have hm1 : (m : Int) < t := by omega
      have hmn : (m : Int) < n := by omega
      have hc := ho.cell m (by rw [ints_len, ofF_len]; omega)
      rw [show (ints (ofF n (cycF f m)))[m]? = some (.int .i64 (cycF f m m : Int)) by unfold ints; rw [List.getElem?_map, ofF_get (by omega)]; rfl] at hc
      have hfz := ho.frozen m
      have HK := Lib.hid (And.intro ho hk)
      clear ho hk
      go_wp2_with fail
      refine ⟨⟨m + 1, by omega, by omega, by go_num, ?_, HK.out.2.trans (Kept.ofGrown (grown_put m _) (fun k e => by cases e; exact List.mem_singleton.2 rfl))⟩, by simp [intOf]; omega⟩
      have h2 := HK.out.1.put m (.int .i64 ((m + 1 : Nat) : Int))
      rw [ints_setF (by omega)] at h2
      rw [ofF_congr (g := fun j => if j = m then m + 1 else cycF f m j) fun j hj => by unfold cycF; split <;> split <;> (try split) <;> omega]
      exact h2
    · have hm1 : ¬ (m : Int) < t := by omega
      have hme : m = t := by omega
      have hc := ho.cell s (by rw [ints_len, ofF_len]; omega)
      rw [show (ints (ofF n (cycF f m)))[s]? = some (.int .i64 (cycF f m s : Int)) by unfold ints; rw [List.getElem?_map, ofF_get (by omega)]; rfl] at hc
      have hfz := ho.frozen s
      have HK := Lib.hid (And.intro ho (And.intro hk hme))
      clear ho hk
      go_wp2_with fail
      go_ret
      refine ⟨rfl, ?_, HK.out.2.1.trans (Kept.ofGrown (grown_put s _) (fun k e => by cases e; exact List.mem_singleton.2 rfl))⟩
      have h2 := HK.out.1.put s (.int .i64 (f : Int))
      rw [ints_setF (by omega)] at h2
      show Own _ D _ 3 (ints (ofF n (cycG f t)))
      have e1 := HS.out
      rw [ofF_congr (g := fun j => if j = s then f else cycF f m j) fun j hj => by unfold cycF cycG; split <;> (try split) <;> (try split) <;> (try split) <;> omega]
      exact h2
theorem swp_l {n i k : Nat} {x : Pm n} (hi : i < n) (hk : k < n) : ((ints x.l).set i (.int .i64 (x.at k : Int))).set k (.int .i64 (x.at i : Int)) = ints (swpP x i k hi hk).l := by
  have h1 : (ints x.l).set i (.int .i64 (x.at k : Int)) = ints (ofF n fun j => if j = i then x.at k else x.at j) := by rw [pm_ofF x, ints_setF hi]
  rw [h1, ints_setF hk]
  show ints _ = ints (ofF n _)
  congr 1
  refine ofF_congr fun j hj => ?_
  by_cases e1 : j = i
  · subst e1
    by_cases e2 : j = k
    · rw [if_pos e2, if_pos rfl, ← e2]
    · rw [if_neg e2, if_pos rfl, if_pos rfl]
  · rw [if_neg e1, if_neg e1]
    by_cases e2 : j = k
    · rw [if_pos e2, if_pos e2]
    · rw [if_neg e2, if_neg e2]
def PmOut (n : Nat) (w w' : World) (v : Value) : Prop := ∃ x : Pm n, NewPm w w' v x
set_option maxRecDepth 100000 in
set_option maxHeartbeats 2000000 in
theorem perm132 {w0 w : World} {tk n : Nat} {l : List Int} (hn : 0 < n ∧ n ≤ 64) (h : TkW w0 w tk l) :
    Calls Tryz.prog 27 #[.pointer (some ⟨tk, 0, none⟩), .int .i64 (n : Int)] w fun e w' => ∃ v, e = .returned v ∧ PmOut n w w' v ∧ TkW w0 w' tk l ∧ Kept w w' [tk] := by
  have H := Lib.hid h
  clear h
  go_enter Tryz.func27, Tryz.ntmps27
  go_wp2_with (go_at_call 26; (with_reducible refine (one65o hn.2 hn.1).mono ?_); rintro e2 w2 ⟨g, c, rfl, k1, k2⟩; have H2 := Lib.hid (And.intro k1 k2); clear k1 k2)
  have hgt : g ∉ ([tk] : List Nat) ∧ w.heap.size ≤ g ∧ w0.heap.size ≤ w.heap.size := by
    have h1 : w.heap.size ≤ g := (H2.out.1.block_lt rfl).2
    have h2 := H.out.lt
    exact ⟨fun hm => by have := List.mem_singleton.1 hm; omega, h1, H.out.bel.size⟩
  go_loopw [6, 7] (fun i _ wr => ∃ (m : Nat) (x : Pm n), m ≤ n ∧ i = .int .i64 (m : Int) ∧ Own wr w.heap.size (.slice (some ⟨g, 0, none⟩) n c) 3 (ints x.l) ∧ TkW w0 wr tk l ∧ Kept w wr [tk, g]) (fun i _ _ => n - (intOf i).toNat)
  case atStart => exact ⟨0, PlainPm.one n, by omega, rfl, H2.out.1, H.out.below H2.out.2, Kept.ofBelow H2.out.2⟩
  case round =>
    obtain ⟨m, x, hm, rfl, ho, htk, hk⟩ := hrel
    by_cases hlt : m + 1 < n
    · have hm1 : (m : Int) + 1 < n := by omega
      have hmn : (m : Int) < n := by omega
      have hw1 : IntKind.i64.wrap ((n : Int) - (m : Int)) = (n : Int) - (m : Int) := IntWalk.i64_in _ (by omega)
      have h98 := take98 htk (n := (n : Int) - (m : Int)) (by omega) (by omega)
      have HK := Lib.hid (And.intro ho (And.intro hk h98))
      clear ho htk hk h98
      have hcast : (n : Int) - (m : Int) = ((n - m : Nat) : Int) := by omega
      have HG := Lib.hid (And.intro hgt hcast)
      clear hgt hcast
      go_wp2_with (go_at_call 30; (with_reducible refine HK.out.2.2.mono ?_); rintro e3 w3 ⟨b, rfl, k1, k2, k3, k4⟩
                   have hb := k1 (by omega)
                   have ho3 := HK.out.1.keptL k4 (fun q e => by cases e; exact HG.out.1.1)
                   have hcx := ho3.cell m (by rw [ints_len, x.ok.1]; omega)
                   have hcy := ho3.cell (m + b) (by rw [ints_len, x.ok.1]; omega)
                   rw [ints_pm (by omega)] at hcx hcy
                   have hfx := ho3.frozen m
                   have hfy := ho3.frozen (m + b)
                   have hwb : IntKind.i64.wrap ((m : Int) + (b : Int)) = ((m + b : Nat) : Int) := by rw [show ((m : Int) + (b : Int)) = ((m + b : Nat) : Int) by simp]; exact IntWalk.i64_in _ (by omega)
                   have H3 := Lib.hid (And.intro (show m + b < n by omega) (And.intro ho3 (And.intro k3 k4))); clear k1 k2 k3 k4 ho3 hb)
      have hmb : (m : Int) + (b : Int) < n := by have := H3.out.1; omega
      have hx2 : Own w3 w.heap.size (.slice (some ⟨g, 0, none⟩) n c) 3 (ints x.l) := H3.out.2.1
      have hsw := hx2.put m (.int .i64 (x.at (m + b) : Int))
      have hsw2 := hsw.put (m + b) (.int .i64 (x.at m : Int))
      have heq := swp_l (x := x) (show m < n by omega) H3.out.1
      rw [heq] at hsw2
      have hK3 : Kept w ((w3.setCell ⟨g, m, none⟩ (.int .i64 (x.at (m + b) : Int))).setCell ⟨g, m + b, none⟩ (.int .i64 (x.at m : Int))) [tk, g] := (HK.out.2.1.trans (H3.out.2.2.2.mono (by simp))).trans ((Kept.ofGrown (grown_put m _) (fun k e => by cases e; simp)).trans (Kept.ofGrown (grown_put (m + b) _) (fun k e => by cases e; simp)))
      have hT3 : TkW w0 ((w3.setCell ⟨g, m, none⟩ (.int .i64 (x.at (m + b) : Int))).setCell ⟨g, m + b, none⟩ (.int .i64 (x.at m : Int))) tk l := H3.out.2.2.1.kept (S := [g]) ((Kept.ofGrown (grown_put m _) (fun k e => by cases e; simp)).trans (Kept.ofGrown (grown_put (m + b) _) (fun k e => by cases e; simp))) (fun q hq => by
        rw [List.mem_singleton.1 hq]
        have h1 := HG.out.1
        exact ⟨by omega, fun e => h1.1 (by rw [e]; simp)⟩)
      have HW := Lib.hid (And.intro hsw2 (And.intro hT3 hK3))
      clear hx2 hsw hsw2 hK3 hT3 heq
      by_cases hb0 : b = 0
      · subst hb0
        simp only [Nat.add_zero] at hcy hfy HW hwb
        clear hcy hfy
        go_region
        all_goals
          go_wp2_with fail
          exact ⟨⟨m + 1, _, by omega, by go_num, HW.out.1.drew, HW.out.2.1.below (below_drew (Below.refl _ _)), HW.out.2.2.drewN 1⟩, by simp [intOf]; omega⟩
      · have hne : m + b ≠ m := by omega
        have hne2 : m ≠ m + b := by omega
        go_region
        all_goals
          go_wp2_with fail
          exact ⟨⟨m + 1, _, by omega, by go_num, HW.out.1.drew, HW.out.2.1.below (below_drew (Below.refl _ _)), HW.out.2.2.drewN 1⟩, by simp [intOf]; omega⟩
    · have hm1 : ¬ (m : Int) + 1 < n := by omega
      have HK := Lib.hid (And.intro ho (And.intro htk hk))
      clear ho htk hk
      go_wp2_with fail
      go_ret
      refine ⟨_, rfl, ⟨x, ?_⟩, HK.out.2.1, ⟨HK.out.2.2.os, HK.out.2.2.tape, HK.out.2.2.output, HK.out.2.2.size, fun q hq hm' => HK.out.2.2.block q hq (fun hm2 => ?_)⟩⟩
      · exact NewPm.of_own HK.out.1 (Nat.le_refl _) rfl
      · rcases List.mem_cons.1 hm2 with e | hm2
        · exact hm' (List.mem_singleton.2 e)
        · have := List.mem_singleton.1 hm2; have := hgt.2.1; omega
end Go.Proofs.YtbejhkojdiadaaaGreatDoor
namespace Go.Proofs.YtbejhkojdiadaaaGreatDoor
open Go.RowKit PlainPm
theorem box2_fz {W : World} {Y : Nat} {u v : Value} {t : TypeId} (h : W.heap[Y]? = some (.cells #[u, v] t (0, 0))) : W.frozen? ⟨Y, 0, none⟩ = false := by
  simp [World.frozen?, h]
theorem box2_set0 {W : World} {Y : Nat} {u v u' : Value} {t : TypeId} (h : W.heap[Y]? = some (.cells #[u, v] t (0, 0))) : (W.setCell ⟨Y, 0, none⟩ u').heap[Y]? = some (.cells #[u', v] t (0, 0)) := by
  have hl := (Array.getElem?_eq_some_iff.1 h).1
  have h2 : W.heap[Y] = .cells #[u, v] t (0, 0) := by rw [Array.getElem?_eq_getElem hl] at h; exact Option.some.inj h
  simp [World.setCell, Array.getElem_modify, hl, h2]
set_option maxRecDepth 100000 in
set_option maxHeartbeats 8000000 in
theorem groupOf97 {w : World} {a : Option Addr} {c most : Nat} {l : List Int} (hm : 0 < most ∧ most ≤ 6) (hi : Ints w a l) :
    Calls Tryz.prog 22 #[.slice a l.length c, .int .i64 (most : Int)] w fun e w' => ∃ n v, e = .returned (.agg #[.int .i64 ((n : Nat) : Int), v]) ∧ (0 < n ∧ n ≤ most) ∧ (∃ L : List (Pm n), L.length ≤ 3 ∧ PmsV w' [] v L) ∧ Below w.heap.size w w' := by
  obtain ⟨i27, hi27, hz27, hs27, hb27⟩ := info_parts Tryz.info41
  have I27 := Lib.hid (And.intro hi27 (And.intro hz27 (And.intro hs27 hb27)))
  clear hi27 hz27 hs27 hb27
  obtain ⟨X, hX⟩ : ∃ X, w.heap.size = X := ⟨_, rfl⟩
  obtain ⟨W2, hW2⟩ : ∃ W2, (w.alloc (.cells #[.int .i64 0, .slice none 0 0] 49)).alloc (.cells #[.slice a l.length c, .int .i64 0] 60) = W2 := ⟨_, rfl⟩
  have hsz : W2.heap.size = X + 2 := by rw [← hW2]; simp [hX]
  have hbw : Below w.heap.size w W2 := hW2 ▸ alloc_b (alloc_b (Below.refl _ _) _) _
  have k0 : W2.heap[X]? = some (.cells #[.int .i64 0, .slice none 0 0] 49) := by
    rw [← hW2]
    exact ((alloc_b (Below.refl _ _) _).block X (by simp; omega)).trans (al_at hX _)
  have k1 : W2.heap[X + 1]? = some (.cells #[.slice a l.length c, .int .i64 0] 60) := by
    rw [← hW2]
    exact al_at (by simp [hX]) _
  have htk : TkW w W2 (X + 1) l := ⟨⟨a, c, 0, k1, Nat.zero_le _, hi⟩, by omega, hbw⟩
  have h98 := take98 htk (n := (most : Int)) (by omega) (by omega)
  obtain ⟨L, hL⟩ : ∃ L, l.length = L := ⟨_, rfl⟩
  have H := Lib.hid (And.intro k0 (And.intro hsz (And.intro hbw (And.intro h98 hX))))
  rw [hL] at hW2 ⊢
  clear k0 k1 hsz hbw htk h98 hi hL
  go_enter Tryz.func22, Tryz.ntmps22
  try simp only [hX]
  go_wp2_with (go_at_call 30; (with_reducible refine H.out.2.2.2.1.mono ?_); rintro e3 w3 ⟨b, rfl, k1, k2, k3, k4⟩
               obtain ⟨n, hbn⟩ : ∃ n, b + 1 = n := ⟨_, rfl⟩
               have hwr : IntKind.i64.wrap (1 + (b : Int)) = ((n : Nat) : Int) := by rw [show (1 + (b : Int)) = ((n : Nat) : Int) by omega]; exact IntWalk.i64_in _ (by omega)
               have hnm := k1 (by omega)
               have H3 := Lib.hid (And.intro (show 0 < n ∧ n ≤ most by omega) (And.intro k3 k4)); clear k1 k2 k3 k4 hnm)
  clear hwr hbn
  obtain ⟨Y, hY⟩ : ∃ Y, w3.heap.size = Y := ⟨_, rfl⟩
  obtain ⟨W4, hW4⟩ : ∃ W4, w3.alloc (.cells #[.int .i64 (n : Int), .slice none 0 0] 49) = W4 := ⟨_, rfl⟩
  have hk4 : Kept W2 W4 [X + 1] := H3.out.2.2.trans (Kept.ofBelow (hW4 ▸ alloc_b (Below.refl _ _) _))
  have hyb : W4.heap[Y]? = some (.cells #[.int .i64 (n : Int), .slice none 0 0] 49) := hW4 ▸ al_at hY _
  have ht4 : TkW w W4 (X + 1) l := H3.out.2.1.below (hW4 ▸ alloc_b (Below.refl _ _) _)
  have hYX : X + 2 ≤ Y := by have := H3.out.2.2.size; have := H.out.2.1; omega
  have h98b := take98 ht4 (n := (4 : Int)) (by omega) (by omega)
  obtain ⟨D, hD⟩ : ∃ D, W4.heap.size = D := ⟨_, rfl⟩
  have hYD : Y < D := by rw [← hD]; exact (Array.getElem?_eq_some_iff.1 hyb).1
  have H4 := Lib.hid (And.intro hk4 (And.intro hyb (And.intro ht4 h98b)))
  have HZ := Lib.hid (And.intro hYX (And.intro hYD hD))
  clear hk4 hyb ht4 h98b hYX hYD
  rw [hW4, hY]
  clear hW4 hY hW2 hD
  go_wp2_with (go_at_call 30; (with_reducible refine H4.out.2.2.2.mono ?_); rintro e5 w5 ⟨b5, rfl, k1, k2, k3, k4⟩
               have H5 := Lib.hid (And.intro (k1 (by omega)) (And.intro k3 k4)); clear k1 k2 k3 k4)
  go_loopw [7, 8, 9] (fun kv _ _ wr => ∃ (k : Nat) (G : List (Pm n)) (us : List Value) (v : Value), kv = .int .i64 (k : Int) ∧ G.length + k ≤ 3 ∧ wr.heap[Y]? = some (.cells #[.int .i64 (n : Int), v] 49) ∧ GrowL [X + 1, Y, X] wr D v us G ∧ TkW w wr (X + 1) l ∧ wr.heap[X]? = some (.cells #[.int .i64 0, .slice none 0 0] 49) ∧ D ≤ wr.heap.size) (fun kv _ _ _ => (intOf kv).toNat)
  case atStart =>
    have h5 := H5.out.2.2
    have hs5 : D ≤ w5.heap.size := by rw [← HZ.out.2.2]; exact h5.size
    have h1 := HZ.out.1
    have h2 := HZ.out.2.1
    refine ⟨b5, [], [], .slice none 0 0, rfl, by have := H5.out.1; simp; omega, (h5.block Y (Array.getElem?_eq_some_iff.1 H4.out.2.1).1 (by simp; omega)).trans H4.out.2.1, GrowL.nil _ (fun q hq => by simp at hq; omega), H5.out.2.1, ?_, hs5⟩
    exact (h5.block X (by have := HZ.out.2.2; omega) (by simp)).trans ((H4.out.1.block X (by have := H.out.2.1; omega) (by simp)).trans H.out.1)
  case round =>
    obtain ⟨k, G, us, v, rfl, hG, hyb, hgl, htk, hxb, hDs⟩ := hrel
    obtain ⟨wo, rfl⟩ : ∃ wo, wo = wr := ⟨_, rfl⟩
    have hvb : ∀ q, v.ownBlock = some q → q ∉ [X + 1, Y, X] := fun q e hq => by
      have h1 := (hgl.1.block_lt e).2
      have h2 := HZ.out.1
      have h3 := HZ.out.2.1
      simp at hq; omega
    obtain ⟨z0, z1, z2⟩ := box2_cells hyb
    by_cases hk0 : 0 < k
    · obtain ⟨j, rfl⟩ : ∃ j, k = j + 1 := ⟨k - 1, by omega⟩
      have hk1 : (0 : Int) < ((j + 1 : Nat) : Int) := by omega
      have hj3 : j ≤ 3 := by omega
      have h65 := fun (V : World) => one65o (n := n) (w := V) (by have := H3.out.1; omega) H3.out.1.1
      have HK := Lib.hid (And.intro hG (And.intro hyb (And.intro hgl (And.intro htk (And.intro hxb (And.intro hDs hvb))))))
      clear hG hyb hgl htk hxb hDs hvb
      go_wp2_with (go_at_call 26; (with_reducible refine (h65 _).mono ?_); rintro e6 w6 ⟨g1, c1, rfl, k1, k2⟩
                   have htk6 := HK.out.2.2.2.1.below k2
                   have h98 := take98 htk6 (n := (3 : Int)) (by omega) (by omega)
                   have zy := (k2.block Y (Array.getElem?_eq_some_iff.1 HK.out.2.1).1).trans HK.out.2.1
                   obtain ⟨q0, q1, q2⟩ := box2_cells zy
                   have H6 := Lib.hid (And.intro k1 (And.intro k2 h98)); clear k1 k2 htk6 h98 zy)
      go_wp2_with (go_at_call 30; (with_reducible refine H6.out.2.2.mono ?_); rintro e7 w7 ⟨b7, rfl, k1, k2, k3, k4⟩
                   have hK7 : Kept wo w7 [X + 1] := (Kept.ofBelow H6.out.2.1).trans k4
                   have zy := (hK7.block Y (Array.getElem?_eq_some_iff.1 HK.out.2.1).1 (by simp; have := HZ.out.1; omega)).trans HK.out.2.1
                   obtain ⟨r0, r1, r2⟩ := box2_cells zy
                   have hg1 : g1 ∉ [X + 1] := fun hq => by have h1 : wo.heap.size ≤ g1 := (H6.out.1.block_lt rfl).2; have h2 := HZ.out.1; have h3 := HK.out.2.2.2.2.2.1; have h4 := HZ.out.2.1; simp at hq; omega
                   have hO7 := H6.out.1.keptL k4 (fun q e => by cases e; exact hg1)
                   have H7 := Lib.hid (And.intro k3 (And.intro hK7 (And.intro hO7 hg1))); clear k1 k2 k3 k4 hK7 zy hO7 hg1)
      · have h132 := perm132 (n := n) ⟨H3.out.1.1, by have := H3.out.1; omega⟩ H7.out.1
        have HP0 := Lib.hid h132
        clear h132
        go_wp2_with (first
          | (at_builtin; refine app1 rfl (.tmp 74) (.tmp 76) 28 41 rfl i27 (.slice none 0 0) 24 Tryz.underlying28 I27.out.1 I27.out.2.1 I27.out.2.2.1 I27.out.2.2.2 rfl (by omega) D (.slice (some ⟨pb, 0, none⟩) n pc) v us rfl HQ.out.2.1 rfl rfl hul hsz ?_; intro v8 w8 k1 k2 k3
             have yb8 := (k2.block Y (Array.getElem?_eq_some_iff.1 HQ.out.1).1 (fun e => HK.out.2.2.2.2.2.2 Y e.symm (by simp))).trans HQ.out.1
             obtain ⟨u0, u1, u2⟩ := box2_cells yb8
             obtain ⟨va, vc, rfl, _⟩ := k1.row (by simp; unfold maxLen; omega)
             have H8 := Lib.hid (And.intro k1 (And.intro k2 (And.intro k3 yb8))); clear k1 k2 k3 yb8)
          | (go_at_call 27; (with_reducible refine HP0.out.mono ?_); rintro e8 wq ⟨v9, rfl, ⟨x, PV⟩, PT, k4⟩
             have PK : Kept wo wq [X + 1] := H7.out.2.1.trans k4
             have PV := PV.from (w0 := wo) H7.out.2.1.size
             clear k4
             obtain ⟨pb, pc, rfl, _⟩ := id PV
             have yb := (PK.block Y (Array.getElem?_eq_some_iff.1 HK.out.2.1).1 (by simp; have := HZ.out.1; omega)).trans HK.out.2.1
             obtain ⟨t0, t1, t2⟩ := box2_cells yb
             have hown := HK.out.2.2.1.1.keptL PK (fun q e hq => HK.out.2.2.2.2.2.2 q e (by rw [List.mem_singleton.1 hq]; simp))
             have hul : us.length < 1099511627776 := by have := HK.out.2.2.1.len; have := HK.out.1; omega
             have hsz : D ≤ wq.heap.size := Nat.le_trans HK.out.2.2.2.2.2.1 PK.size
             have HQ := Lib.hid (And.intro yb (And.intro hown (And.intro PV (And.intro PK PT))))
             clear PV PK PT yb hown))
        obtain ⟨W9, hW9⟩ : ∃ W, w8.setCell ⟨Y, 1, none⟩ (.slice va (us.length + 1) vc) = W := ⟨_, rfl⟩
        have k9 : Kept w8 W9 [Y] := hW9 ▸ Kept.ofGrown (grown_put 1 _) (fun q e => by cases e; exact List.mem_singleton.2 rfl)
        have y9 : W9.heap[Y]? = some (.cells #[.int .i64 (n : Int), .slice va (us.length + 1) vc] 49) := hW9 ▸ box2_set1 H8.out.2.2.2
        rw [hW9]
        have hYX := HZ.out.1
        have hYD := HZ.out.2.1
        have gq : GrowL [X + 1, Y, X] wq D v us G := ⟨HQ.out.2.1, HK.out.2.2.1.2.1.stp ⟨HQ.out.2.2.2.1.mono (fun q hq => List.mem_append_right _ (by rw [List.mem_singleton.1 hq]; simp)), fun q hq => .inl hq⟩, fun q hq => Nat.lt_of_lt_of_le (HK.out.2.2.1.2.2 q hq) HQ.out.2.2.2.1.size⟩
        have g8 := gq.app (NewPm.growV HK.out.2.2.1 HQ.out.2.2.1) H8.out.1 H8.out.2.1 H8.out.2.2.1
        have l8 : (us ++ [Value.slice (some ⟨pb, 0, none⟩) n pc]).length = us.length + 1 := by simp
        rw [l8] at g8
        have g9 : GrowL [X + 1, Y, X] W9 D (.slice va (us.length + 1) vc) (us ++ [.slice (some ⟨pb, 0, none⟩) n pc]) (G ++ [x]) := ⟨g8.1.keptL k9 (fun q e hq => by have h1 := (g8.1.block_lt e).2; rw [List.mem_singleton.1 hq] at h1; omega), g8.2.1.stp ⟨k9.mono (fun q hq => List.mem_append_right _ (by rw [List.mem_singleton.1 hq]; simp)), fun q hq => .inl hq⟩, fun q hq => Nat.lt_of_lt_of_le (g8.2.2 q hq) k9.size⟩
        have hob : ∀ q, v.ownBlock = some q → D ≤ q := fun q e => (HQ.out.2.1.block_lt e).2
        have hDw : w.heap.size ≤ D := by have := H.out.2.2.2.2; omega
        have kq8 : Kept wq w8 v.ownBlock.toList := Kept.ofGrown H8.out.2.1 (fun q e => mem_ob.2 e)
        have t8 : TkW w w8 (X + 1) l := HQ.out.2.2.2.2.kept kq8 (fun q hq => by have h1 := hob q (mem_ob.1 hq); exact ⟨by omega, by omega⟩)
        have t9 : TkW w W9 (X + 1) l := t8.kept k9 (fun q hq => by rw [List.mem_singleton.1 hq]; have := H.out.2.2.2.2; exact ⟨by omega, by omega⟩)
        have hXs : X < wo.heap.size := (Array.getElem?_eq_some_iff.1 HK.out.2.2.2.2.1).1
        have x9 : W9.heap[X]? = some (.cells #[.int .i64 0, .slice none 0 0] 49) := (k9.block X (by have := kq8.size; have := HQ.out.2.2.2.1.size; omega) (by simp; omega)).trans ((kq8.block X (by have := HQ.out.2.2.2.1.size; omega) (fun hq => by have h1 := hob X (mem_ob.1 hq); omega)).trans ((HQ.out.2.2.2.1.block X hXs (by simp)).trans HK.out.2.2.2.2.1))
        exact ⟨⟨j, G ++ [x], _, _, by go_num, by rw [List.length_append]; have := HK.out.1; simp; omega, y9, g9, t9, x9, Nat.le_trans (Nat.le_trans HK.out.2.2.2.2.2.1 HQ.out.2.2.2.1.size) (Nat.le_trans kq8.size k9.size)⟩, by first | (simp [intOf]; done) | (simp [intOf]; omega)⟩
      · have h98 := take98 H7.out.1 (n := (n : Int)) (by have := H3.out.1; omega) (by omega)
        have HA := Lib.hid h98
        clear h98
        go_wp2_with (first
          | (go_at_call 30; (with_reducible refine HA.out.mono ?_); rintro e8 w8 ⟨f, rfl, k1, k2, k3, k4⟩
             have hfn := k1 (by have := H3.out.1; omega)
             have hK8 : Kept wo w8 [X + 1] := H7.out.2.1.trans k4
             have zy := (hK8.block Y (Array.getElem?_eq_some_iff.1 HK.out.2.1).1 (by simp; have := HZ.out.1; omega)).trans HK.out.2.1
             obtain ⟨s0, s1, s2⟩ := box2_cells zy
             have hO8 := H7.out.2.2.1.keptL k4 (fun q e => by cases e; exact H7.out.2.2.2)
             have hwn : IntKind.i64.wrap ((n : Int) - (f : Int)) = (n : Int) - (f : Int) := IntWalk.i64_in _ (by have := H3.out.1; omega)
             have hwf : IntKind.i64.wrap ((f : Int) + 1) = (f : Int) + 1 := IntWalk.i64_in _ (by have := H3.out.1; omega)
             have h98 := take98 k3 (n := (n : Int) - (f : Int)) (by have := H3.out.1; omega) (by omega)
             have H8 := Lib.hid (And.intro k3 (And.intro hK8 (And.intro hO8 (And.intro hfn h98)))); clear k1 k2 k3 k4 hK8 zy hO8 hfn h98))
        go_wp2_with (first
          | (go_at_call 64; (with_reducible refine H9.out.2.2.2.2.mono ?_); rintro e10 w10 ⟨rfl, k1, k2⟩
             have hK10 : Kept wo w10 [X + 1] := H9.out.2.1.transW k2 (fun q hq => .inr (by rw [List.mem_singleton.1 hq]; exact H9.out.2.2.1))
             have zy := (hK10.block Y (Array.getElem?_eq_some_iff.1 HK.out.2.1).1 (by simp; have := HZ.out.1; omega)).trans HK.out.2.1
             obtain ⟨p0, p1, p2⟩ := box2_cells zy
             have hT10 := H9.out.1.kept k2 (fun q hq => by rw [List.mem_singleton.1 hq]; have h1 := H9.out.2.2.1; have h2 := HK.out.2.2.2.1.bel.size; exact ⟨by omega, fun e => H7.out.2.2.2 (by rw [e]; simp)⟩)
             have h98 := take98 hT10 (n := (n : Int)) (by have := H3.out.1; omega) (by omega)
             have H10 := Lib.hid (And.intro hT10 (And.intro hK10 (And.intro k1 h98))); clear k1 k2 hK10 zy hT10 h98)
          | (go_at_call 30; (with_reducible refine H8.out.2.2.2.2.mono ?_); rintro e9 w9 ⟨d, rfl, k1, k2, k3, k4⟩
             have hfn := H8.out.2.2.2.1
             have hdn := k1 (by omega)
             have hK9 : Kept wo w9 [X + 1] := H8.out.2.1.trans k4
             have hO9 := H8.out.2.2.1.keptL k4 (fun q e => by cases e; exact H7.out.2.2.2)
             obtain ⟨t, ht⟩ : ∃ t, f + 1 + d = t := ⟨_, rfl⟩
             have hwt : IntKind.i64.wrap ((f : Int) + 1 + (d : Int)) = (t : Int) := by rw [show ((f : Int) + 1 + (d : Int)) = (t : Int) by omega]; exact IntWalk.i64_in _ (by have := H3.out.1; omega)
             have hft : f < t := by omega
             have htn : t ≤ n := by omega
             have h133 := cycle133 (n := n) (f := f) (t := t) (by have := H3.out.1; omega) hft htn hO9
             have hg1o : wo.heap.size ≤ g1 := (H6.out.1.block_lt rfl).2
             have H9 := Lib.hid (And.intro k3 (And.intro hK9 (And.intro hg1o (And.intro htn h133)))); clear k1 k2 k3 k4 hK9 hO9 hfn hdn h133 hg1o ht))
        go_wp2_with (first
          | (at_builtin; refine app1 rfl (.tmp 74) (.tmp 76) 28 41 rfl i27 (.slice none 0 0) 24 Tryz.underlying28 I27.out.1 I27.out.2.1 I27.out.2.2.1 I27.out.2.2.2 rfl (by omega) D (.slice (some ⟨pb, 0, none⟩) n pc) v us rfl HQ.out.2.1 rfl rfl hul hsz ?_; intro v8 w8 k1 k2 k3
             have yb8 := (k2.block Y (Array.getElem?_eq_some_iff.1 HQ.out.1).1 (fun e => HK.out.2.2.2.2.2.2 Y e.symm (by simp))).trans HQ.out.1
             obtain ⟨u0, u1, u2⟩ := box2_cells yb8
             obtain ⟨va, vc, rfl, _⟩ := k1.row (by simp; unfold maxLen; omega)
             have H8 := Lib.hid (And.intro k1 (And.intro k2 (And.intro k3 yb8))); clear k1 k2 k3 yb8)
          | (go_at_call 30; (with_reducible refine H11.out.2.2.2.2.mono ?_); rintro e12 wq ⟨e2, rfl, k1, k2, PT, k4⟩
             have PK : Kept wo wq [X + 1] := H11.out.2.1.trans k4
             have hO12 := H11.out.2.2.1.keptL k4 (fun q e => by cases e; exact H7.out.2.2.2)
             have PV : NewPm wo wq (.slice (some ⟨g1, 0, none⟩) n c1) (cycP n f t hft htn) := NewPm.of_own hO12 (Nat.le_refl _) rfl
             obtain ⟨pb, hpb⟩ : ∃ pb, g1 = pb := ⟨_, rfl⟩
             obtain ⟨pc, hpc⟩ : ∃ pc, c1 = pc := ⟨_, rfl⟩
             obtain ⟨x, hx⟩ : ∃ x, cycP n f t hft htn = x := ⟨_, rfl⟩
             rw [hpb, hpc, hx] at PV
             rw [hpb, hpc]
             clear k1 k2 k4 hO12 hx
             have yb := (PK.block Y (Array.getElem?_eq_some_iff.1 HK.out.2.1).1 (by simp; have := HZ.out.1; omega)).trans HK.out.2.1
             obtain ⟨t0, t1, t2⟩ := box2_cells yb
             have hown := HK.out.2.2.1.1.keptL PK (fun q e hq => HK.out.2.2.2.2.2.2 q e (by rw [List.mem_singleton.1 hq]; simp))
             have hul : us.length < 1099511627776 := by have := HK.out.2.2.1.len; have := HK.out.1; omega
             have hsz : D ≤ wq.heap.size := Nat.le_trans HK.out.2.2.2.2.2.1 PK.size
             have HQ := Lib.hid (And.intro yb (And.intro hown (And.intro PV (And.intro PK PT))))
             clear PV PK PT yb hown)
          | (go_at_call 30; (with_reducible refine H10.out.2.2.2.mono ?_); rintro e11 w11 ⟨f2, rfl, k1, k2, k3, k4⟩
             have hf2 := k1 (by have := H3.out.1; omega)
             have hK11 : Kept wo w11 [X + 1] := H10.out.2.1.trans k4
             have zy := (hK11.block Y (Array.getElem?_eq_some_iff.1 HK.out.2.1).1 (by simp; have := HZ.out.1; omega)).trans HK.out.2.1
             obtain ⟨q0, q1, q2⟩ := box2_cells zy
             have hO11 := H10.out.2.2.1.keptL k4 (fun q e => by cases e; exact H7.out.2.2.2)
             have h98 := take98 k3 (n := (2 : Int)) (by omega) (by omega)
             have H11 := Lib.hid (And.intro k3 (And.intro hK11 (And.intro hO11 (And.intro hf2 h98)))); clear k1 k2 k3 k4 hK11 zy hO11 h98 hf2))
        · skip
          have h65 := fun (V : World) => one65o (n := n) (w := V) (by have := H3.out.1; omega) H3.out.1.1
          have hf2n := H11.out.2.2.2.1
          have hwn2 : IntKind.i64.wrap ((n : Int) - (f2 : Int)) = (n : Int) - (f2 : Int) := IntWalk.i64_in _ (by have := H3.out.1; omega)
          have hwf2 : IntKind.i64.wrap ((f2 : Int) + 1) = (f2 : Int) + 1 := IntWalk.i64_in _ (by have := H3.out.1; omega)
          have hX1q : X + 1 < wq.heap.size := by have := HZ.out.1; have := HZ.out.2.1; have := hsz; omega
          go_region_law
           (first
          | (go_simp; go_at_call 28; (with_reducible refine (mul49 (x := x) (y := cycP n f2 t2 hft2 htn2) (by have := H3.out.1; omega) H3.out.1.1 ((HQ.out.2.2.1.pm (M := [X + 1]) (fun q hq => by rw [List.mem_singleton.1 hq]; have := HZ.out.1; have := HZ.out.2.1; have := HK.out.2.2.2.2.2.1; omega)).kept K23).weak ((NewPm.of_own (w := wq) O23 (Nat.le_refl _) rfl).pm (by simp))).mono ?_)
             rintro e24 wz ⟨v24, rfl, k1, k2⟩
             have PV2 : NewPm wo wz v24 _ := k1.from (Nat.le_trans HQ.out.2.2.2.1.size K23.size)
             have PK2 : Kept wo wz [X + 1] := HQ.out.2.2.2.1.trans (K23.trans (Kept.ofBelow k2))
             have PT2 := T23.below k2
             obtain ⟨y, hy⟩ : ∃ y, x.mul (cycP n f2 t2 hft2 htn2) = y := ⟨_, rfl⟩
             rw [hy] at PV2
             clear k1 k2 hy
             obtain ⟨pz, pcz, rfl, _⟩ := id PV2
             have yb := (PK2.block Y (Array.getElem?_eq_some_iff.1 HK.out.2.1).1 (by simp; have := HZ.out.1; omega)).trans HK.out.2.1
             obtain ⟨t0, t1, t2⟩ := box2_cells yb
             have hown := HK.out.2.2.1.1.keptL PK2 (fun q e hq => HK.out.2.2.2.2.2.2 q e (by rw [List.mem_singleton.1 hq]; simp))
             have hul2 : us.length < 1099511627776 := by have := HK.out.2.2.1.len; have := HK.out.1; omega
             have hsz2 : D ≤ wz.heap.size := Nat.le_trans HK.out.2.2.2.2.2.1 PK2.size
             have HR := Lib.hid (And.intro yb (And.intro hown (And.intro PV2 (And.intro PK2 PT2))))
             clear PV2 PK2 PT2 yb hown)
          | (go_simp; go_at_call 64; (with_reducible refine (cycle133 (n := n) (f := f2) (t := t2) (by have := H3.out.1; omega) hft2 htn2 O22).mono ?_)
             rintro e23 w23 ⟨rfl, O23, k2⟩
             have hg2 : wq.heap.size ≤ g2 := (O22.block_lt rfl).2
             have K23 : Kept wq w23 [X + 1] := K22.transW k2 (fun q hq => .inr (by rw [List.mem_singleton.1 hq]; exact hg2))
             have T23 := T22.kept k2 (fun q hq => by rw [List.mem_singleton.1 hq]; have h1 := HQ.out.2.2.2.2.bel.size; exact ⟨by omega, by omega⟩)
             clear k2)
          | (go_simp; go_at_call 30; (with_reducible refine (take98 (n := (n : Int) - (f2 : Int)) T21 (by have := H3.out.1; omega) (by omega)).mono ?_)
             rintro e22 w22 ⟨d2, rfl, k1, k2, T22, k4⟩
             have K22 : Kept wq w22 [X + 1] := (Kept.ofBelow b21).trans k4
             have hg2 : wq.heap.size ≤ g2 := (O21.block_lt rfl).2
             have O22 := O21.keptL k4 (fun q e hq => by have h8 : some g2 = some q := e; cases h8; have h9 : g2 = X + 1 := List.mem_singleton.1 hq; omega)
             obtain ⟨t2, ht2⟩ : ∃ t2, f2 + 1 + d2 = t2 := ⟨_, rfl⟩
             have hd2 := k1 (by omega)
             have hwt2 : IntKind.i64.wrap ((f2 : Int) + 1 + (d2 : Int)) = (t2 : Int) := by rw [show ((f2 : Int) + 1 + (d2 : Int)) = (t2 : Int) by omega]; exact IntWalk.i64_in _ (by have := H3.out.1; omega)
             have hft2 : f2 < t2 := by omega
             have htn2 : t2 ≤ n := by omega
             clear k1 k2 k4)
          | (go_simp; go_at_call 26; (with_reducible refine (h65 _).mono ?_)
             rintro e22 w22 ⟨g2, c2, rfl, k1, k2⟩
             have K22 : Kept wq w22 [X + 1] := K21.trans (Kept.ofBelow k2)
             have T22 := T21a.below k2
             have O22 := k1.mono K21.size
             clear k1 k2)
          | (go_simp; go_at_call 26; (with_reducible refine (h65 _).mono ?_)
             rintro e21 w21 ⟨g2, c2, rfl, k1, k2⟩
             have b21 : Below wq.heap.size wq w21 := below_trans (by first | exact Below.refl _ _ | exact below_drw (Below.refl _ _) | exact below_self_drewN _ _) k2
             have T21 := HQ.out.2.2.2.2.below b21
             have O21 : Own w21 wq.heap.size (.slice (some ⟨g2, 0, none⟩) n c2) 3 (ints (PlainPm.one n).l) := k1.mono (show wq.heap.size ≤ _ from by first | exact Nat.le_refl _ | simp)
             have zy := (b21.block Y (Array.getElem?_eq_some_iff.1 HQ.out.1).1).trans HQ.out.1
             obtain ⟨q0', q1', q2'⟩ := box2_cells zy
             clear k1 k2 zy)
          | (go_simp; go_at_call 30; (with_reducible refine (take98 (n := (n : Int) - (f2 : Int)) (HQ.out.2.2.2.2.below ?_) (by have := H3.out.1; omega) (by omega)).mono ?_)
             first | exact Below.refl _ _ | exact below_drw (Below.refl _ _) | exact below_self_drewN _ _
             rintro e21 w21 ⟨d2, rfl, k1, k2, T21a, k4⟩
             have K21 : Kept wq w21 [X + 1] := (Kept.ofBelow (by first | exact Below.refl _ _ | exact below_drw (Below.refl _ _) | exact below_self_drewN _ _)).trans k4
             have zy := (K21.block Y (Array.getElem?_eq_some_iff.1 HQ.out.1).1 (by simp; have := HZ.out.1; omega)).trans HQ.out.1
             obtain ⟨q0', q1', q2'⟩ := box2_cells zy
             obtain ⟨t2, ht2⟩ : ∃ t2, f2 + 1 + d2 = t2 := ⟨_, rfl⟩
             have hd2 := k1 (by omega)
             have hwt2 : IntKind.i64.wrap ((f2 : Int) + 1 + (d2 : Int)) = (t2 : Int) := by rw [show ((f2 : Int) + 1 + (d2 : Int)) = (t2 : Int) by omega]; exact IntWalk.i64_in _ (by have := H3.out.1; omega)
             have hft2 : f2 < t2 := by omega
             have htn2 : t2 ≤ n := by omega
             clear k1 k2 k4 zy))
          all_goals
            go_wp2_with (first
              | (at_builtin; refine app1 rfl (.tmp 74) (.tmp 76) 28 41 rfl i27 (.slice none 0 0) 24 Tryz.underlying28 I27.out.1 I27.out.2.1 I27.out.2.2.1 I27.out.2.2.2 rfl (by omega) D (.slice (some ⟨pz, 0, none⟩) n pcz) v us rfl HR.out.2.1 rfl rfl hul2 hsz2 ?_; intro v8 w8 k1 k2 k3
                 have yb8 := (k2.block Y (Array.getElem?_eq_some_iff.1 HR.out.1).1 (fun e => HK.out.2.2.2.2.2.2 Y e.symm (by simp))).trans HR.out.1
                 obtain ⟨u0, u1, u2⟩ := box2_cells yb8
                 obtain ⟨va, vc, rfl, _⟩ := k1.row (by simp; unfold maxLen; omega)
                 have H8 := Lib.hid (And.intro k1 (And.intro k2 (And.intro k3 yb8))); clear k1 k2 k3 yb8))
            obtain ⟨W9, hW9⟩ : ∃ W, w8.setCell ⟨Y, 1, none⟩ (.slice va (us.length + 1) vc) = W := ⟨_, rfl⟩
            have k9 : Kept w8 W9 [Y] := hW9 ▸ Kept.ofGrown (grown_put 1 _) (fun q e => by cases e; exact List.mem_singleton.2 rfl)
            have y9 : W9.heap[Y]? = some (.cells #[.int .i64 (n : Int), .slice va (us.length + 1) vc] 49) := hW9 ▸ box2_set1 H8.out.2.2.2
            rw [hW9]
            have hYX := HZ.out.1
            have hYD := HZ.out.2.1
            have gq : GrowL [X + 1, Y, X] wz D v us G := ⟨HR.out.2.1, HK.out.2.2.1.2.1.stp ⟨HR.out.2.2.2.1.mono (fun q hq => List.mem_append_right _ (by rw [List.mem_singleton.1 hq]; simp)), fun q hq => .inl hq⟩, fun q hq => Nat.lt_of_lt_of_le (HK.out.2.2.1.2.2 q hq) HR.out.2.2.2.1.size⟩
            have g8 := gq.app (NewPm.growV HK.out.2.2.1 HR.out.2.2.1) H8.out.1 H8.out.2.1 H8.out.2.2.1
            have l8 : (us ++ [Value.slice (some ⟨pz, 0, none⟩) n pcz]).length = us.length + 1 := by simp
            rw [l8] at g8
            have g9 : GrowL [X + 1, Y, X] W9 D (.slice va (us.length + 1) vc) (us ++ [.slice (some ⟨pz, 0, none⟩) n pcz]) (G ++ [y]) := ⟨g8.1.keptL k9 (fun q e hq => by have h1 := (g8.1.block_lt e).2; rw [List.mem_singleton.1 hq] at h1; omega), g8.2.1.stp ⟨k9.mono (fun q hq => List.mem_append_right _ (by rw [List.mem_singleton.1 hq]; simp)), fun q hq => .inl hq⟩, fun q hq => Nat.lt_of_lt_of_le (g8.2.2 q hq) k9.size⟩
            have hob : ∀ q, v.ownBlock = some q → D ≤ q := fun q e => (HR.out.2.1.block_lt e).2
            have hDw : w.heap.size ≤ D := by have := H.out.2.2.2.2; omega
            have kq8 : Kept wz w8 v.ownBlock.toList := Kept.ofGrown H8.out.2.1 (fun q e => mem_ob.2 e)
            have t8 : TkW w w8 (X + 1) l := HR.out.2.2.2.2.kept kq8 (fun q hq => by have h1 := hob q (mem_ob.1 hq); exact ⟨by omega, by omega⟩)
            have t9 : TkW w W9 (X + 1) l := t8.kept k9 (fun q hq => by rw [List.mem_singleton.1 hq]; have := H.out.2.2.2.2; exact ⟨by omega, by omega⟩)
            have hXs : X < wo.heap.size := (Array.getElem?_eq_some_iff.1 HK.out.2.2.2.2.1).1
            have x9 : W9.heap[X]? = some (.cells #[.int .i64 0, .slice none 0 0] 49) := (k9.block X (by have := kq8.size; have := HR.out.2.2.2.1.size; omega) (by simp; omega)).trans ((kq8.block X (by have := HR.out.2.2.2.1.size; omega) (fun hq => by have h1 := hob X (mem_ob.1 hq); omega)).trans ((HR.out.2.2.2.1.block X hXs (by simp)).trans HK.out.2.2.2.2.1))
            exact ⟨⟨j, G ++ [y], _, _, by go_num, by rw [List.length_append]; have := HK.out.1; simp; omega, y9, g9, t9, x9, Nat.le_trans (Nat.le_trans HK.out.2.2.2.2.2.1 HR.out.2.2.2.1.size) (Nat.le_trans kq8.size k9.size)⟩, by first | (simp [intOf]; done) | (simp [intOf]; omega)⟩
        · skip
          obtain ⟨W9, hW9⟩ : ∃ W, w8.setCell ⟨Y, 1, none⟩ (.slice va (us.length + 1) vc) = W := ⟨_, rfl⟩
          have k9 : Kept w8 W9 [Y] := hW9 ▸ Kept.ofGrown (grown_put 1 _) (fun q e => by cases e; exact List.mem_singleton.2 rfl)
          have y9 : W9.heap[Y]? = some (.cells #[.int .i64 (n : Int), .slice va (us.length + 1) vc] 49) := hW9 ▸ box2_set1 H8.out.2.2.2
          rw [hW9]
          have hYX := HZ.out.1
          have hYD := HZ.out.2.1
          have gq : GrowL [X + 1, Y, X] wq D v us G := ⟨HQ.out.2.1, HK.out.2.2.1.2.1.stp ⟨HQ.out.2.2.2.1.mono (fun q hq => List.mem_append_right _ (by rw [List.mem_singleton.1 hq]; simp)), fun q hq => .inl hq⟩, fun q hq => Nat.lt_of_lt_of_le (HK.out.2.2.1.2.2 q hq) HQ.out.2.2.2.1.size⟩
          have g8 := gq.app (NewPm.growV HK.out.2.2.1 HQ.out.2.2.1) H8.out.1 H8.out.2.1 H8.out.2.2.1
          have l8 : (us ++ [Value.slice (some ⟨pb, 0, none⟩) n pc]).length = us.length + 1 := by simp
          rw [l8] at g8
          have g9 : GrowL [X + 1, Y, X] W9 D (.slice va (us.length + 1) vc) (us ++ [.slice (some ⟨pb, 0, none⟩) n pc]) (G ++ [x]) := ⟨g8.1.keptL k9 (fun q e hq => by have h1 := (g8.1.block_lt e).2; rw [List.mem_singleton.1 hq] at h1; omega), g8.2.1.stp ⟨k9.mono (fun q hq => List.mem_append_right _ (by rw [List.mem_singleton.1 hq]; simp)), fun q hq => .inl hq⟩, fun q hq => Nat.lt_of_lt_of_le (g8.2.2 q hq) k9.size⟩
          have hob : ∀ q, v.ownBlock = some q → D ≤ q := fun q e => (HQ.out.2.1.block_lt e).2
          have hDw : w.heap.size ≤ D := by have := H.out.2.2.2.2; omega
          have kq8 : Kept wq w8 v.ownBlock.toList := Kept.ofGrown H8.out.2.1 (fun q e => mem_ob.2 e)
          have t8 : TkW w w8 (X + 1) l := HQ.out.2.2.2.2.kept kq8 (fun q hq => by have h1 := hob q (mem_ob.1 hq); exact ⟨by omega, by omega⟩)
          have t9 : TkW w W9 (X + 1) l := t8.kept k9 (fun q hq => by rw [List.mem_singleton.1 hq]; have := H.out.2.2.2.2; exact ⟨by omega, by omega⟩)
          have hXs : X < wo.heap.size := (Array.getElem?_eq_some_iff.1 HK.out.2.2.2.2.1).1
          have x9 : W9.heap[X]? = some (.cells #[.int .i64 0, .slice none 0 0] 49) := (k9.block X (by have := kq8.size; have := HQ.out.2.2.2.1.size; omega) (by simp; omega)).trans ((kq8.block X (by have := HQ.out.2.2.2.1.size; omega) (fun hq => by have h1 := hob X (mem_ob.1 hq); omega)).trans ((HQ.out.2.2.2.1.block X hXs (by simp)).trans HK.out.2.2.2.2.1))
          exact ⟨⟨j, G ++ [x], _, _, by go_num, by rw [List.length_append]; have := HK.out.1; simp; omega, y9, g9, t9, x9, Nat.le_trans (Nat.le_trans HK.out.2.2.2.2.2.1 HQ.out.2.2.2.1.size) (Nat.le_trans kq8.size k9.size)⟩, by first | (simp [intOf]; done) | (simp [intOf]; omega)⟩
    · obtain rfl : k = 0 := by omega
      have hk1 : ¬ (0 : Int) < ((0 : Nat) : Int) := by simp
      obtain ⟨va, vc, rfl, _⟩ := hgl.1.row (by rw [hgl.len]; unfold maxLen; omega)
      obtain ⟨y0, y1, y2⟩ := box2_cells hxb
      have y3 := box2_fz hxb
      have HK := Lib.hid (And.intro hG (And.intro hgl (And.intro htk hxb)))
      clear hG hgl htk hxb hyb hvb
      go_wp2_with fail
      have hfin : ((wo.setCell ⟨X, 0, none⟩ (.int .i64 (n : Int))).setCell ⟨X, 1, none⟩ (.slice va us.length vc)).heap[X]? = some (.cells #[.int .i64 (n : Int), .slice va us.length vc] 49) := box2_set1 (box2_set0 HK.out.2.2.2)
      obtain ⟨V, hV⟩ : ∃ V, (wo.setCell ⟨X, 0, none⟩ (.int .i64 (n : Int))).setCell ⟨X, 1, none⟩ (.slice va us.length vc) = V := ⟨_, rfl⟩
      have hKp : Kept wo V [X] := hV ▸ (Kept.ofGrown (grown_put 0 _) (fun q e => by cases e; exact List.mem_singleton.2 rfl)).trans (Kept.ofGrown (grown_put 1 _) (fun q e => by cases e; exact List.mem_singleton.2 rfl))
      rw [hV] at hfin
      rw [hV]
      obtain ⟨f0, f1, _⟩ := box2_cells hfin
      refine bodyPost_ret (v := .agg #[.int .i64 (n : Int), .slice va us.length vc]) (by simp [results, Tryz.results22, go_sem, f0, f1]) rfl ?_
      have hgl9 : GrowL [X + 1, Y, X] V D (.slice va us.length vc) us G := ⟨HK.out.2.1.1.keptL hKp (fun q e hq => by
        have h1 := (HK.out.2.1.1.block_lt e).2
        have h2 := HZ.out.1
        have h3 := HZ.out.2.1
        rw [List.mem_singleton.1 hq] at h1; omega), HK.out.2.1.2.1.stp ⟨hKp.mono (fun q hq => List.mem_append_right _ (by rw [List.mem_singleton.1 hq]; simp)), fun q hq => .inl hq⟩, fun q hq => Nat.lt_of_lt_of_le (HK.out.2.1.2.2 q hq) hKp.size⟩
      refine ⟨n, _, rfl, H3.out.1, ⟨G, by have := HK.out.1; omega, pms_ownB hgl9.1 hgl9.2.1.weakM (by have := HK.out.1; omega)⟩, ?_⟩
      have hb := HK.out.2.2.1.bel
      rw [H.out.2.2.2.2] at hb
      exact hb.trans (hKp.below1 (by have h1 := hb.size; have h2 := H.out.2.2.2.2; omega) (Nat.le_refl _))
end Go.Proofs.YtbejhkojdiadaaaGreatDoor
namespace Go.Proofs.YtbejhkojdiadaaaGreatDoor
open Go.RowKit PlainPm
section
variable {n : Nat}
set_option maxRecDepth 100000 in
set_option maxHeartbeats 2000000 in
theorem check134 (hn : 0 < n ∧ n ≤ 64) {w : World} {a : Option Addr} {m c : Nat} {L : List (Pm n)} (hm : L.length = m) (hm2 : m ≤ 16) (hv : PmsV w [] (.slice a m c) L) :
    Calls Tryz.prog 66 #[.agg #[.int .i64 (n : Int), .slice a m c]] w fun e w' => e = .returned (.int .i64 0) ∧ Below w.heap.size w w' := by
  obtain ⟨X, hX⟩ : ∃ X, w.heap.size = X := ⟨_, rfl⟩
  obtain ⟨W1, hW1⟩ : ∃ W1, w.alloc (.cells #[.int .i64 (n : Int), .slice a m c] 49) = W1 := ⟨_, rfl⟩
  have hwW : Below w.heap.size w W1 := hW1 ▸ alloc_b (Below.refl _ _) _
  have k0 : W1.heap[X]? = some (.cells #[.int .i64 (n : Int), .slice a m c] 49) := hW1 ▸ al_at hX _
  obtain ⟨x0, x1, _⟩ := box2_cells k0
  have hx0 := And.intro x0 (And.intro x1 (Below.refl W1.heap.size W1))
  have hn1 : decide ((n : Int) < 1) = false := by simp; omega
  have hn2 : decide ((64 : Int) < n) = false := by simp; omega
  have hl1 : decide ((16 : Int) < m) = false := by simp; omega
  have hl2 : decide (16 < m) = false := by simp; omega
  have H := Lib.hid (And.intro hv (And.intro hm (And.intro hwW hX)))
  clear hv hm hwW k0
  go_enter Tryz.func66, Tryz.ntmps66
  try rw [hX]
  go_wp2_with fail
  go_loopw [3, 4] (fun i _ wr => ∃ (k : Nat), k ≤ m ∧ i = .int .i64 (k : Int) ∧ Below W1.heap.size W1 wr) (fun i _ _ => m - (intOf i).toNat)
  case atStart => exact ⟨0, by omega, rfl, Below.refl _ _⟩
  case round =>
    obtain ⟨k, hk, rfl, hb⟩ := hrel
    obtain ⟨z0, z1, _⟩ := keep2c hx0 hb
    have hbw := below_trans H.out.2.2.1 hb
    by_cases hkm : k < m
    · obtain ⟨x, hx⟩ : ∃ x, L[k]? = some x := ⟨_, List.getElem?_eq_getElem (by rw [H.out.2.1]; exact hkm)⟩
      obtain ⟨_, _, q4, _, hat⟩ := pms_at (H.out.1.below hbw)
      rw [H.out.2.1] at q4
      simp only [Value.slice.injEq, true_and] at q4
      obtain ⟨rfl, rfl⟩ := q4
      obtain ⟨g6, o6, u6, rfl, hc6, hp6⟩ := hat k x hx
      obtain ⟨ua, uc, ex, hui⟩ := hp6.ints (by omega)
      have hpc := rperm_calls (c := uc) hui
      have hxl := x.ok.1
      simp only [chkP_l hn x, hxl] at hpc
      rw [hxl] at ex
      subst ex
      have hk1 : (k : Int) < m := by omega
      have g1 : ((n : Int) != (n : Int)) = false := by simp
      have HK := Lib.hid (And.intro hpc hb)
      clear hpc hb hp6 hui hat hx
      go_wp2_with (go_at_call 67; (with_reducible refine HK.out.1.mono ?_); rintro e3 w3 ⟨rfl, kk⟩
                   obtain ⟨p0, p1, _⟩ := keep2c hx0 (below_trans HK.out.2 kk)
                   have c6 := (kk.cell (block_lt_of_cell hc6)).trans hc6
                   have H3 := Lib.hid (below_trans HK.out.2 kk); clear kk)
      go_quiet (fail)
      go_wp2_with fail
      exact ⟨⟨k + 1, by omega, by go_num, below_drewN H3.out _⟩, by simp [intOf]; omega⟩
    · have hk1 : ¬ (k : Int) < m := by omega
      have HK := Lib.hid hb
      clear hb hbw
      go_wp2_with fail
      refine bodyPost_ret (v := .int .i64 0) (by simp [results, Tryz.results66, go_sem]) rfl ?_
      exact ⟨rfl, by have h := below_trans H.out.2.2.1 HK.out; rwa [H.out.2.2.2] at h⟩
set_option maxRecDepth 100000 in
set_option maxHeartbeats 2000000 in
theorem of99 (hn : 0 < n ∧ n ≤ 64) {w : World} {a : Option Addr} {m c : Nat} {L : List (Pm n)} (hm : L.length = m) (hm2 : m ≤ 16) (hv : PmsV w [] (.slice a m c) L) :
    Calls Tryz.prog 24 #[.agg #[.int .i64 (n : Int), .slice a m c]] w fun e w' => ∃ a c b d, e = .returned (.tuple #[.agg #[.int .i64 (n : Int), .slice a n c, .slice b n d], .int .i64 0]) ∧ Below w.heap.size w w' ∧
      ∀ S, (∀ m ∈ S, m < w.heap.size) → GrS w' (.agg #[.int .i64 (n : Int), .slice a n c, .slice b n d]) (Grp (· ∈ L)) S := by
  obtain ⟨X, hX⟩ : ∃ X, w.heap.size = X := ⟨_, rfl⟩
  obtain ⟨W1, hW1⟩ : ∃ W1, (w.alloc (.cells #[.int .i64 (n : Int), .slice a m c] 49)).alloc (.cells #[.int .i64 0, .slice none 0 0, .slice none 0 0] 25) = W1 := ⟨_, rfl⟩
  have hsz : W1.heap.size = X + 2 := by rw [← hW1]; simp [hX]
  have hwW : Below w.heap.size w W1 := hW1 ▸ alloc_b (alloc_b (Below.refl _ _) _) _
  have k0 : W1.heap[X]? = some (.cells #[.int .i64 (n : Int), .slice a m c] 49) := by
    rw [← hW1]
    exact ((alloc_b (Below.refl _ _) _).block X (by simp; omega)).trans (al_at hX _)
  have k1 : W1.heap[X + 1]? = some (.cells #[.int .i64 0, .slice none 0 0, .slice none 0 0] 25) := by
    rw [← hW1]
    exact box_al25 (by simp [hX]) _ _ _
  obtain ⟨x0, x1, _⟩ := box2_cells k0
  have hx0 := And.intro x0 (And.intro x1 (Below.refl W1.heap.size W1))
  have h134 := check134 hn hm hm2 (hv.below hwW)
  have H := Lib.hid (And.intro k1 (And.intro hsz (And.intro hwW (And.intro h134 (And.intro hX (And.intro hm hv))))))
  clear k0 k1 hsz hwW h134 hm hv
  go_enter Tryz.func24, Tryz.ntmps24
  try simp only [hX]
  go_wp2_with (first
    | (go_at_call 31; (with_reducible refine H2.out.2.mono ?_); rintro e7 w7 ⟨a7, c7, b7', d7, rfl, k2, k3⟩
       have hr7 := (k2.block (X + 1) (by have := H2.out.1.size; have := H.out.2.1; omega)).trans ((H2.out.1.block (X + 1) (by rw [H.out.2.1]; omega)).trans H.out.1)
       obtain ⟨r0, r1, r2, r3, r4, r5⟩ := box_cells hr7
       have hg7 := k3 (List.range (X + 2)) (fun q hq => by have := List.mem_range.1 hq; have := H2.out.1.size; have := H.out.2.1; omega)
       have H7 := Lib.hid (And.intro hg7 (And.intro hr7 (below_trans H.out.2.2.1 (below_trans H2.out.1 k2))))
       clear k2 k3 hg7 hr7)
    | (go_at_call 66; (with_reducible refine H.out.2.2.2.1.mono ?_); rintro e2 w2 ⟨rfl, k⟩
       obtain ⟨z0, z1, _⟩ := keep2c hx0 k
       have h96 := mk96 hn (by rw [H.out.2.2.2.2.2.1]; omega) (H.out.2.2.2.2.2.2.below (below_trans H.out.2.2.1 k))
       have H2 := Lib.hid (And.intro k h96); clear k h96))
  have hfin : (set3 w7 (X + 1) (.int .i64 (n : Int)) (.slice a7 n c7) (.slice b7' n d7)).heap[X + 1]? = some (.cells #[.int .i64 (n : Int), .slice a7 n c7, .slice b7' n d7] 25) := set3_box H7.out.2.1
  obtain ⟨V, hV⟩ : ∃ V, set3 w7 (X + 1) (.int .i64 (n : Int)) (.slice a7 n c7) (.slice b7' n d7) = V := ⟨_, rfl⟩
  have hKp : Kept w7 V [X + 1] := hV ▸ set3_kept (by simp)
  rw [hV] at hfin
  unfold set3 at hV
  rw [hV]
  obtain ⟨f0, f1, f2, _⟩ := box_cells hfin
  refine bodyPost_ret (v := .tuple #[.agg #[.int .i64 (n : Int), .slice a7 n c7, .slice b7' n d7], .int .i64 0]) (by simp [results, Tryz.results24, go_sem, f0, f1, f2]) rfl ?_
  refine ⟨a7, c7, b7', d7, rfl, ?_, fun S hS => ?_⟩
  · have h1 := H7.out.2.2
    rw [H.out.2.2.2.2.1] at h1
    have h2 := h1.size
    exact h1.trans (hKp.below1 (by omega) (by omega))
  · refine (H7.out.1.kept (hKp.mono (fun q hq => ?_))).ext (fun q hq => .inl ?_)
    · rw [List.mem_singleton.1 hq]
      exact List.mem_range.2 (by omega)
    · have := hS q hq
      exact List.mem_range.2 (by omega)
end
end Go.Proofs.YtbejhkojdiadaaaGreatDoor
namespace Go.Proofs.YtbejhkojdiadaaaGreatDoor
open Go.RowKit PlainPm
def LstV {n : Nat} (w : World) (v : Value) (G : Pm n → Prop) : Prop := ∃ E : List (Pm n), PmsV w [] v E ∧ E.Pairwise lexLt ∧ (∀ x, x ∈ E ↔ G x)
def LstS {n : Nat} (w : World) (M : List Nat) (v : Value) (G : Pm n → Prop) : Prop := ∃ E : List (Pm n), PmsN w M v E ∧ E.Pairwise lexLt ∧ (∀ x, x ∈ E ↔ G x)
theorem LstS.now {n : Nat} {w : World} {M : List Nat} {v : Value} {G : Pm n → Prop} (h : LstS w M v G) : LstV w v G := by
  obtain ⟨E, h1, h2⟩ := h
  exact ⟨E, h1.v, h2⟩
theorem ElsOut.lst {n : Nat} {w w' : World} {v : Value} {gens : List (Pm n)} {M : List Nat} (hn : n ≤ 6) (h : ElsOut w w' v gens) (hM : ∀ m ∈ M, m < w.heap.size) : LstS w' M v (Grp (· ∈ gens)) := by
  obtain ⟨us, L, h1, h2, h3, h4, h5⟩ := h
  have h7 := pm_card (sorted_nodup h3)
  have h6 := fac_le6 hn
  have hlm : us.length ≤ maxLen := by rw [h2.1]; unfold maxLen; omega
  obtain ⟨a, c, e, hr⟩ := h1.row hlm
  refine ⟨L, ⟨a, c, us, by rw [e, h2.1], fun W' k => ?_, h2.1, fun i x hx => ?_⟩, h3, h4⟩
  · have h' : Own W' w.heap.size v 41 us := h1.keptL k (fun g hg hm => by have h1 := (h1.block_lt hg).2; have := hM g hm; omega)
    obtain ⟨a', c', e', hr'⟩ := h'.row hlm
    rw [e] at e'
    simp only [Value.slice.injEq, true_and] at e'
    obtain ⟨rfl, rfl⟩ := e'
    exact hr'
  · obtain ⟨u, hu, hp⟩ := h2.2 i x hx
    obtain ⟨b, o, l, c', e1, hb⟩ := h5 u (List.mem_of_getElem? hu)
    obtain ⟨b2, o2, c2, e2, _, h8⟩ := hp
    rw [e1] at e2
    simp only [Value.slice.injEq, Option.some.injEq, Addr.mk.injEq] at e2
    obtain ⟨⟨rfl, rfl, _⟩, rfl, rfl⟩ := e2
    exact ⟨u, hu, _, _, _, e1, fun hm => by have := hM _ hm; omega, h8⟩
end Go.Proofs.YtbejhkojdiadaaaGreatDoor
namespace Go.Proofs.YtbejhkojdiadaaaGreatDoor
open Go.RowKit Go.WideShapes Go.ChangeShapes Go.Deep
theorem Tryz.cells3 : Tryz.prog.cellsOf 3 = 1 := by kernel_rfl
theorem list_choice {α β : Type} {P : α → β → Prop} : ∀ {us : List α}, (∀ u ∈ us, ∃ x, P u x) → ∃ xs : List β, us.length = xs.length ∧ ∀ (i : Nat) u x, us[i]? = some u → xs[i]? = some x → P u x
  | [], _ => ⟨[], rfl, fun i u x h => by simp at h⟩
  | u :: us, h => by
    obtain ⟨x, hx⟩ := h u (by simp)
    obtain ⟨xs, hl, hp⟩ := list_choice (us := us) (fun u' hu => h u' (by simp [hu]))
    refine ⟨x :: xs, by simp [hl], fun i u' x' hu hx' => ?_⟩
    match i, hu, hx' with
    | 0, hu, hx' => simp at hu hx'; subst hu; subst hx'; exact hx
    | i + 1, hu, hx' => exact hp i u' x' (by simpa using hu) (by simpa using hx')
section
variable {H : Type} {enc : TypeId × Value → H}
theorem spot_none {w : World} {a : Addr} {v : Value} (h : w.cell? (a.add 0) = some v) : ∃ b o, a = ⟨b, o, none⟩ := by
  obtain ⟨b, o, s⟩ := a
  have hs : s = none := by simpa [Addr.add] using World.cell?_spot h
  exact ⟨b, o, by rw [hs]⟩
set_option maxRecDepth 100000 in
theorem elems_of {t e : TypeId} (ht : Tryz.prog.underlying t = some (.slice e)) (he : Tryz.prog.cellsOf e = 1) {W : World} {b0 n : Nat} {v : Value} {y : DataW H × List MemPlace} {Q : Value → Prop}
    (hf : DataW.trod enc Tryz.prog W b0 (fun _ => true) true n t [v] = some y) (hQ : ∀ n' u y', DataW.trod enc Tryz.prog W b0 (fun _ => true) true n' e [u] = some y' → Q u) :
    ∃ a c us, v = .slice a (List.length us) c ∧ us.length ≤ c ∧ Row W a us ∧ ∀ u ∈ us, Q u := by
  rcases open_slice ht hf with ⟨hcs0, hx⟩ | ⟨a, len, cap, m, n, D, Pl, hcs0, hb, hl, hm, hmm, hx, hi⟩
  · simp at hcs0
    subst hcs0
    exact ⟨none, 0, [], rfl, Nat.le_refl _, Row.nil, by simp⟩
  · simp at hcs0
    subst hcs0
    simp only [if_true] at hmm
    subst hmm
    rw [he] at hi
    have each : ∀ i, ∃ u, i < len → W.cell? (a.add i) = some u ∧ Q u := fun i => by
      by_cases hlt : i < len
      · obtain ⟨cs, hc, ht'⟩ := hi i (by omega)
        obtain ⟨_, hcl, hat⟩ := World.cells?_some hc
        match cs, hcl, hat, ht' with
        | [u], _, hat, ht' =>
          refine ⟨u, fun _ => ⟨?_, hQ _ u _ ht'⟩⟩
          have := hat 0 (by decide)
          rw [add_of_add, Nat.mul_one, Nat.add_zero] at this
          exact this
      · exact ⟨.bool false, fun h => absurd h hlt⟩
    obtain ⟨f, hfe⟩ := Classical.axiomOfChoice each
    refine ⟨some a, m, (List.range len).map f, by simp, by simpa using hl, ⟨by simp; unfold maxLen at hm ⊢; omega, fun i u hu => ?_⟩, fun u hu => ?_⟩
    · have hlt : i < len := by have := (List.getElem?_eq_some_iff.1 hu).1; simpa using this
      rw [List.getElem?_map, List.getElem?_range hlt] at hu
      cases hu
      obtain ⟨c0, _⟩ := hfe i hlt
      obtain ⟨z0, _⟩ := hfe 0 (by omega)
      obtain ⟨b, o, rfl⟩ := spot_none z0
      rw [add_zero_addr] at c0
      exact ⟨b, o, rfl, block_lt_of_cell c0, c0⟩
    · obtain ⟨i, hi', rfl⟩ := List.mem_map.1 hu
      exact (hfe i (List.mem_range.1 hi')).2
set_option maxRecDepth 100000 in
theorem ints_of_trod {t : TypeId} (ht : Tryz.prog.underlying t = some (.slice 3)) {W : World} {b0 n : Nat} {v : Value} {y : DataW H × List MemPlace} (hf : DataW.trod enc Tryz.prog W b0 (fun _ => true) true n t [v] = some y) :
    ∃ a c l, v = .slice a (List.length l) c ∧ l.length ≤ c ∧ Ints W a l := by
  obtain ⟨a, c, us, rfl, hl, hr, hq⟩ := elems_of (Q := fun u => ∃ x : Int, u = .int .i64 x) ht Tryz.cells3 hf (fun n' u y' h => by
    obtain ⟨x, hx, _, _⟩ := DataW.trod_int Tryz.underlying3 h
    simp at hx
    exact ⟨x, hx⟩)
  obtain ⟨xs, hxl, hp⟩ := list_choice hq
  have he : us = xs.map (Value.int .i64) := by
    refine List.ext_getElem? fun i => ?_
    rw [List.getElem?_map]
    by_cases hi : i < us.length
    · rw [List.getElem?_eq_getElem hi, List.getElem?_eq_getElem (by omega : i < xs.length)]
      exact congrArg some (hp i _ _ (List.getElem?_eq_getElem hi) (List.getElem?_eq_getElem (by omega)))
    · rw [List.getElem?_eq_none (by omega), List.getElem?_eq_none (by omega)]; rfl
  refine ⟨a, c, xs, by rw [hxl], by omega, ?_⟩
  unfold Ints; rw [← he]; exact hr
set_option maxRecDepth 100000 in
theorem open_ints1 {t : TypeId} (ht : Tryz.prog.underlying t = some (.slice 3)) {W : World} {base b0 : Nat} {v : Value} {d : DataW H} {p : List MemPlace} (hv : Value.okWide Tryz.prog W .any base t v) (h : DataW.Trod enc Tryz.prog W b0 (fun _ => true) true t v d p) :
    ∃ a c l, v = .slice a (List.length l) c ∧ Ints W a l := by
  obtain ⟨a0, len, cap, rfl⟩ := okWide_slice ht hv
  obtain ⟨fuel, hf⟩ := h
  obtain ⟨a, c, l, h1, _, h2⟩ := ints_of_trod ht hf
  exact ⟨a, c, l, h1, h2⟩
end
end Go.Proofs.YtbejhkojdiadaaaGreatDoor
