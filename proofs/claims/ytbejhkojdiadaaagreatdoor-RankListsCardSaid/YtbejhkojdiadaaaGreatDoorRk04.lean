/- Products, inverses and the identity: what the program's and the references' functions hand back. · The tower's sift. · The tower's add and close, against one another. · The tower's close: each generator is tried at each point of a level's orbit. -/
import Derived.Test.YtbejhkojdiadaaaGreatDoorRk01
import Derived.Test.YtbejhkojdiadaaaGreatDoorRk02
import Derived.Test.YtbejhkojdiadaaaGreatDoorRk03
import Derived.Test.YtbejhkojdiadaaaGreatDoorProg
import Derived.Deep.DeepCutAuto
import Derived.Laws.Cover3
import Derived.Deep.AppendLies
import Derived.Deep.RegionHeld3
import Derived.WalkKit
import Derived.WalkSpells
import Derived.BigQuiet
import Derived.Deep.QuietTactic
import Derived.Deep.LoopGhost
import Derived.Lib.Hide
import Derived.Maps.AppendAt
import Derived.StillTailTactics
import Derived.Laws.CopyOwn
import Derived.Deep.OwnRows
set_option linter.unusedSimpArgs false
set_option linter.unusedVariables false
namespace Go.Proofs.YtbejhkojdiadaaaGreatDoor
open Go.RowKit PlainPm
theorem Tryz.info3 : (Tryz.prog.info? 3).map (fun i => (i.zero, i.size, i.bytes)) = some (some (.int .i64 0), 1, 8) := by kernel_rfl
theorem cell_set_same {w : World} {p : Addr} {u v : Value} (h : w.cell? p = some u) : (w.setCell p v).cell? p = some v := World.cell?_setCell_same _ _ _ h
theorem cell_set_other {w : World} {p r : Addr} {v : Value} (h : p ≠ r) : (w.setCell p v).cell? r = w.cell? r := World.cell?_setCell_other _ _ _ _ h
def upF (n k : Nat) (f : Nat → Nat) : List Int := (List.range n).map fun i => if i < k then (f i : Int) else 0
theorem upF_zero (n : Nat) (f : Nat → Nat) : upF n 0 f = List.replicate n 0 := by
  apply List.ext_getElem? ; intro i
  unfold upF
  rw [List.getElem?_map, List.getElem?_replicate]
  by_cases hi : i < n
  · rw [List.getElem?_range hi, if_pos hi]; rfl
  · rw [List.getElem?_eq_none (by simp; omega), if_neg hi]; rfl
theorem upF_len (n k : Nat) (f : Nat → Nat) : (upF n k f).length = n := by simp [upF]
theorem upF_set {n k : Nat} {f : Nat → Nat} : (upF n k f).set k (f k : Int) = upF n (k + 1) f := by
  apply List.ext_getElem? ; intro i
  rw [List.getElem?_set]
  unfold upF
  by_cases hi : i < n
  · rw [List.getElem?_map, List.getElem?_range hi, List.getElem?_map, List.getElem?_range hi]
    by_cases e : k = i
    · subst e; simp [hi]
    · simp only [e, if_false, Option.map_some]
      by_cases h2 : i < k
      · rw [if_pos h2, if_pos (by omega)]
      · rw [if_neg h2, if_neg (by omega)]
  · rw [List.getElem?_eq_none (by simp; omega)]
    by_cases e : k = i
    · subst e; simp [hi]
    · simp [e, hi]
theorem upF_all {n : Nat} {f : Nat → Nat} : upF n n f = ofF n f := by
  unfold upF ofF
  apply List.map_congr_left
  intro i hi
  rw [if_pos (by simpa using hi)]
theorem ofF_succ {k : Nat} {f : Nat → Nat} : ofF (k + 1) f = ofF k f ++ [(f k : Int)] := by
  unfold ofF; rw [List.range_succ, List.map_append]; rfl
def upG {n : Nat} (x : Pm n) (k : Nat) : List Int := (List.range n).map fun j => if x.inv.at j < k then (x.inv.at j : Int) else 0
theorem upG_len {n : Nat} (x : Pm n) (k : Nat) : (upG x k).length = n := by simp [upG]
theorem upG_zero {n : Nat} (x : Pm n) : upG x 0 = List.replicate n 0 := by
  apply List.ext_getElem? ; intro i
  unfold upG
  rw [List.getElem?_map, List.getElem?_replicate]
  by_cases hi : i < n
  · rw [List.getElem?_range hi, if_pos hi]; rfl
  · rw [List.getElem?_eq_none (by simp; omega), if_neg hi]; rfl
theorem upG_set {n k : Nat} {x : Pm n} (hk : k < n) : (upG x k).set (x.at k) (k : Int) = upG x (k + 1) := by
  apply List.ext_getElem? ; intro i
  rw [List.getElem?_set]
  unfold upG
  by_cases hi : i < n
  · rw [List.getElem?_map, List.getElem?_range hi, List.getElem?_map, List.getElem?_range hi]
    by_cases e : x.at k = i
    · subst e
      have := x.inv_of hk
      simp [hi, this]
    · have hne : x.inv.at i ≠ k := fun h => by
        have := (x.inv_at hi).2
        rw [h] at this; exact e this
      simp only [e, if_false, Option.map_some]
      by_cases h2 : x.inv.at i < k
      · rw [if_pos h2, if_pos (by omega)]
      · rw [if_neg h2, if_neg (by omega)]
  · rw [List.getElem?_eq_none (by simp; omega)]
    by_cases e : x.at k = i
    · subst e; exact absurd (x.lt hk) hi
    · simp [e, hi]
theorem upG_all {n : Nat} {x : Pm n} : upG x n = x.inv.l := by
  apply List.ext_getElem? ; intro i
  unfold upG
  by_cases hi : i < n
  · rw [List.getElem?_map, List.getElem?_range hi, x.inv.get hi]
    simp only [Option.map_some]
    rw [if_pos (x.inv.lt hi)]
  · rw [List.getElem?_eq_none (by simp; omega), List.getElem?_eq_none (by have := x.inv.ok.1; omega)]
set_option maxHeartbeats 400000 in
theorem mul161 {n : Nat} (hn : n ≤ 64) {x y : Pm n} {va vb : Value} {w : World} (ha : PmV w [] va x) (hb : PmV w [] vb y) :
    Calls Tryz.prog 138 #[va, vb] w fun e w' => ∃ v, e = .returned v ∧ NewPm w w' v (x.mul y) ∧ Below w.heap.size w w' := by
  obtain ⟨i3, hi3, hz3, hs3, hb3⟩ := info_parts Tryz.info3
  have I3 := Lib.hid (And.intro hi3 (And.intro hz3 (And.intro hs3 hb3)))
  clear hi3 hz3 hs3 hb3
  obtain ⟨ba, oa, ca, rfl, _, hal, hac⟩ := ha
  obtain ⟨bb, ob, cb, rfl, _, hbl, hbc⟩ := hb
  have H := Lib.hid (And.intro hal (And.intro hac (And.intro hbl hbc)))
  clear hal hac hbl hbc
  go_enter Tryz.func138, Tryz.ntmps138
  go_wp2_with (at_make; refine mk1 rfl _ _ 41 3 rfl i3 (.int .i64 0) 8 Tryz.underlying41 I3.out.1 I3.out.2.1 I3.out.2.2.1 I3.out.2.2.2 rfl (by omega) w.heap.size n rfl rfl (by omega) (Nat.le_refl _) ?_; intro w1 hd hg hz1; have H1 := Lib.hid (And.intro hd (And.intro hg hz1)); clear hd hg hz1)
  go_loopw [13] (fun i wr => ∃ k : Nat, k ≤ n ∧ i = .int .i64 (k : Int) ∧ Own wr w.heap.size (.slice (some ⟨w.heap.size, 0, none⟩) n n) 3 (ints (upF n k fun i => y.at (x.at i))) ∧ Below w.heap.size w wr) (fun i _ => n - (intOf i).toNat)
  case atStart => exact ⟨0, by omega, rfl, by rw [upF_zero, ← ints_zero]; exact H1.out.1, (Below.refl _ w).grown H1.out.2.1 (Nat.le_refl _) (by simp)⟩
  case round =>
    obtain ⟨k, hk, rfl, ho, hb⟩ := hrel
    by_cases hkn : k < n
    · have c1 : wr.cell? ⟨ba, oa + k, none⟩ = some (.int .i64 (x.at k : Int)) := (hb.cell (p := ⟨ba, oa + k, none⟩) H.out.1).trans (H.out.2.1 k hkn)
      have c2 : wr.cell? ⟨bb, ob + x.at k, none⟩ = some (.int .i64 (y.at (x.at k) : Int)) := (hb.cell (p := ⟨bb, ob + x.at k, none⟩) H.out.2.2.1).trans (H.out.2.2.2 _ (x.lt hkn))
      have hp : x.at k < n := x.lt hkn
      have f1 := ho.frozen k
      have d1 := (ho.cell k (by rw [ints_len, upF_len]; exact hkn)).trans (ints_get (by rw [upF_len]; exact hkn))
      obtain ⟨p, hpe⟩ : ∃ p, x.at k = p := ⟨_, rfl⟩
      obtain ⟨q, hqe⟩ : ∃ q, y.at p = q := ⟨_, rfl⟩
      have HP := Lib.hid (And.intro ho (And.intro hb (And.intro hpe hqe)))
      rw [hpe] at c1 c2 hp
      rw [hqe] at c2
      clear ho hb hpe hqe
      go_wp2
      refine ⟨⟨k + 1, by omega, by go_num, ?_, ?_⟩, by simp [intOf]; omega⟩
      · have := HP.out.1.put k (.int .i64 (q : Int))
        rw [← HP.out.2.2.2, ← HP.out.2.2.1, ints_set, upF_set] at this
        rw [← HP.out.2.2.2, ← HP.out.2.2.1]
        exact this
      · exact HP.out.2.1.setCell (p := ⟨w.heap.size, k, none⟩) (Nat.le_refl _) _
    · obtain rfl : k = n := by omega
      have HP := Lib.hid (And.intro ho hb)
      clear ho hb
      go_wp2
      go_ret
      refine ⟨_, rfl, ?_, HP.out.2⟩
      exact NewPm.of_own HP.out.1 (Nat.le_refl _) (by rw [upF_all]; rfl)
set_option maxHeartbeats 400000 in
theorem mul110 {n : Nat} (hn : n ≤ 64) {x y : Pm n} {va vb : Value} {w : World} (ha : PmV w [] va x) (hb : PmV w [] vb y) :
    Calls Tryz.prog 53 #[va, vb] w fun e w' => ∃ v, e = .returned v ∧ NewPm w w' v (x.mul y) ∧ Below w.heap.size w w' := by
  obtain ⟨i3, hi3, hz3, hs3, hb3⟩ := info_parts Tryz.info3
  have I3 := Lib.hid (And.intro hi3 (And.intro hz3 (And.intro hs3 hb3)))
  clear hi3 hz3 hs3 hb3
  obtain ⟨ba, oa, ca, rfl, _, hal, hac⟩ := ha
  obtain ⟨bb, ob, cb, rfl, _, hbl, hbc⟩ := hb
  have H := Lib.hid (And.intro hal (And.intro hac (And.intro hbl hbc)))
  clear hal hac hbl hbc
  go_enter Tryz.func53, Tryz.ntmps53
  go_wp2_with (at_make; refine mk1 rfl _ _ 41 3 rfl i3 (.int .i64 0) 8 Tryz.underlying41 I3.out.1 I3.out.2.1 I3.out.2.2.1 I3.out.2.2.2 rfl (by omega) w.heap.size n rfl rfl (by omega) (Nat.le_refl _) ?_; intro w1 hd hg hz1; have H1 := Lib.hid (And.intro hd (And.intro hg hz1)); clear hd hg hz1)
  go_loopw [13] (fun i wr => ∃ k : Nat, k ≤ n ∧ i = .int .i64 (k : Int) ∧ Own wr w.heap.size (.slice (some ⟨w.heap.size, 0, none⟩) n n) 3 (ints (upF n k fun i => y.at (x.at i))) ∧ Below w.heap.size w wr) (fun i _ => n - (intOf i).toNat)
  case atStart => exact ⟨0, by omega, rfl, by rw [upF_zero, ← ints_zero]; exact H1.out.1, (Below.refl _ w).grown H1.out.2.1 (Nat.le_refl _) (by simp)⟩
  case round =>
    obtain ⟨k, hk, rfl, ho, hb⟩ := hrel
    by_cases hkn : k < n
    · have c1 : wr.cell? ⟨ba, oa + k, none⟩ = some (.int .i64 (x.at k : Int)) := (hb.cell (p := ⟨ba, oa + k, none⟩) H.out.1).trans (H.out.2.1 k hkn)
      have c2 : wr.cell? ⟨bb, ob + x.at k, none⟩ = some (.int .i64 (y.at (x.at k) : Int)) := (hb.cell (p := ⟨bb, ob + x.at k, none⟩) H.out.2.2.1).trans (H.out.2.2.2 _ (x.lt hkn))
      have hp : x.at k < n := x.lt hkn
      have f1 := ho.frozen k
      have d1 := (ho.cell k (by rw [ints_len, upF_len]; exact hkn)).trans (ints_get (by rw [upF_len]; exact hkn))
      obtain ⟨p, hpe⟩ : ∃ p, x.at k = p := ⟨_, rfl⟩
      obtain ⟨q, hqe⟩ : ∃ q, y.at p = q := ⟨_, rfl⟩
      have HP := Lib.hid (And.intro ho (And.intro hb (And.intro hpe hqe)))
      rw [hpe] at c1 c2 hp
      rw [hqe] at c2
      clear ho hb hpe hqe
      go_wp2
      refine ⟨⟨k + 1, by omega, by go_num, ?_, ?_⟩, by simp [intOf]; omega⟩
      · have := HP.out.1.put k (.int .i64 (q : Int))
        rw [← HP.out.2.2.2, ← HP.out.2.2.1, ints_set, upF_set] at this
        rw [← HP.out.2.2.2, ← HP.out.2.2.1]
        exact this
      · exact HP.out.2.1.setCell (p := ⟨w.heap.size, k, none⟩) (Nat.le_refl _) _
    · obtain rfl : k = n := by omega
      have HP := Lib.hid (And.intro ho hb)
      clear ho hb
      go_wp2
      go_ret
      refine ⟨_, rfl, ?_, HP.out.2⟩
      exact NewPm.of_own HP.out.1 (Nat.le_refl _) (by rw [upF_all]; rfl)
set_option maxHeartbeats 400000 in
theorem inv173 {n : Nat} (hn : n ≤ 64) {x : Pm n} {va : Value} {w : World} (ha : PmV w [] va x) :
    Calls Tryz.prog 139 #[va] w fun e w' => ∃ v, e = .returned v ∧ NewPm w w' v x.inv ∧ Below w.heap.size w w' := by
  obtain ⟨i3, hi3, hz3, hs3, hb3⟩ := info_parts Tryz.info3
  have I3 := Lib.hid (And.intro hi3 (And.intro hz3 (And.intro hs3 hb3)))
  clear hi3 hz3 hs3 hb3
  obtain ⟨ba, oa, ca, rfl, _, hal, hac⟩ := ha
  have H := Lib.hid (And.intro hal hac)
  clear hal hac
  go_enter Tryz.func139, Tryz.ntmps139
  go_wp2_with (at_make; refine mk1 rfl _ _ 41 3 rfl i3 (.int .i64 0) 8 Tryz.underlying41 I3.out.1 I3.out.2.1 I3.out.2.2.1 I3.out.2.2.2 rfl (by omega) w.heap.size n rfl rfl (by omega) (Nat.le_refl _) ?_; intro w1 hd hg hz1; have H1 := Lib.hid (And.intro hd (And.intro hg hz1)); clear hd hg hz1)
  go_loopw [11] (fun i wr => ∃ k : Nat, k ≤ n ∧ i = .int .i64 (k : Int) ∧ Own wr w.heap.size (.slice (some ⟨w.heap.size, 0, none⟩) n n) 3 (ints (upG x k)) ∧ Below w.heap.size w wr) (fun i _ => n - (intOf i).toNat)
  case atStart => exact ⟨0, by omega, rfl, by rw [upG_zero, ← ints_zero]; exact H1.out.1, (Below.refl _ w).grown H1.out.2.1 (Nat.le_refl _) (by simp)⟩
  case round =>
    obtain ⟨k, hk, rfl, ho, hb⟩ := hrel
    by_cases hkn : k < n
    · have c1 : wr.cell? ⟨ba, oa + k, none⟩ = some (.int .i64 (x.at k : Int)) := (hb.cell (p := ⟨ba, oa + k, none⟩) H.out.1).trans (H.out.2 k hkn)
      have hp : x.at k < n := x.lt hkn
      have f1 := ho.frozen (x.at k)
      have d1 := (ho.cell (x.at k) (by rw [ints_len, upG_len]; exact hp)).trans (ints_get (by rw [upG_len]; exact hp))
      obtain ⟨p, hpe⟩ : ∃ p, x.at k = p := ⟨_, rfl⟩
      have HP := Lib.hid (And.intro ho (And.intro hb hpe))
      rw [hpe] at c1 hp f1 d1
      clear ho hb hpe
      go_wp2
      refine ⟨⟨k + 1, by omega, by go_num, ?_, ?_⟩, by simp [intOf]; omega⟩
      · have := HP.out.1.put p (.int .i64 (k : Int))
        rw [← HP.out.2.2, ints_set, upG_set hkn] at this
        rw [← HP.out.2.2]
        exact this
      · exact HP.out.2.1.setCell (p := ⟨w.heap.size, p, none⟩) (Nat.le_refl _) _
    · obtain rfl : k = n := by omega
      have HP := Lib.hid (And.intro ho hb)
      clear ho hb
      go_wp2
      go_ret
      refine ⟨_, rfl, ?_, HP.out.2⟩
      exact NewPm.of_own HP.out.1 (Nat.le_refl _) upG_all
set_option maxHeartbeats 400000 in
theorem one156 {n : Nat} (hn : n ≤ 64) {w : World} :
    Calls Tryz.prog 133 #[.int .i64 (n : Int)] w fun e w' => ∃ v, e = .returned v ∧ NewPm w w' v (PlainPm.one n) ∧ Below w.heap.size w w' := by
  obtain ⟨i3, hi3, hz3, hs3, hb3⟩ := info_parts Tryz.info3
  have I3 := Lib.hid (And.intro hi3 (And.intro hz3 (And.intro hs3 hb3)))
  clear hi3 hz3 hs3 hb3
  go_enter Tryz.func133, Tryz.ntmps133
  go_wp2_with (at_make; refine mk1 rfl _ _ 41 3 rfl i3 (.int .i64 0) 8 Tryz.underlying41 I3.out.1 I3.out.2.1 I3.out.2.2.1 I3.out.2.2.2 rfl (by omega) w.heap.size n rfl rfl (by omega) (Nat.le_refl _) ?_; intro w1 hd hg hz1; have H1 := Lib.hid (And.intro hd (And.intro hg hz1)); clear hd hg hz1)
  go_loopw [9] (fun i wr => ∃ k : Nat, k ≤ n ∧ i = .int .i64 (k : Int) ∧ Own wr w.heap.size (.slice (some ⟨w.heap.size, 0, none⟩) n n) 3 (ints (upF n k fun i => i)) ∧ Below w.heap.size w wr) (fun i _ => n - (intOf i).toNat)
  case atStart => exact ⟨0, by omega, rfl, by rw [upF_zero, ← ints_zero]; exact H1.out.1, (Below.refl _ w).grown H1.out.2.1 (Nat.le_refl _) (by simp)⟩
  case round =>
    obtain ⟨k, hk, rfl, ho, hb⟩ := hrel
    by_cases hkn : k < n
    · have f1 := ho.frozen k
      have d1 := (ho.cell k (by rw [ints_len, upF_len]; exact hkn)).trans (ints_get (by rw [upF_len]; exact hkn))
      have HP := Lib.hid (And.intro ho hb)
      clear ho hb
      go_wp2
      refine ⟨⟨k + 1, by omega, by go_num, ?_, ?_⟩, by simp [intOf]; omega⟩
      · have := HP.out.1.put k (.int .i64 (k : Int))
        rw [ints_set] at this
        rw [← upF_set]
        exact this
      · exact HP.out.2.setCell (p := ⟨w.heap.size, k, none⟩) (Nat.le_refl _) _
    · obtain rfl : k = n := by omega
      have HP := Lib.hid (And.intro ho hb)
      clear ho hb
      go_wp2
      go_ret
      refine ⟨_, rfl, ?_, HP.out.2⟩
      exact NewPm.of_own HP.out.1 (Nat.le_refl _) (by rw [upF_all]; rfl)
set_option maxHeartbeats 400000 in
theorem one59 {n : Nat} (hn : n ≤ 64) {w : World} :
    Calls Tryz.prog 39 #[.int .i64 (n : Int)] w fun e w' => ∃ v, e = .returned v ∧ NewPm w w' v (PlainPm.one n) ∧ Below w.heap.size w w' := by
  obtain ⟨i3, hi3, hz3, hs3, hb3⟩ := info_parts Tryz.info3
  have I3 := Lib.hid (And.intro hi3 (And.intro hz3 (And.intro hs3 hb3)))
  clear hi3 hz3 hs3 hb3
  go_enter Tryz.func39, Tryz.ntmps39
  go_wp2_with (at_make; refine mk1 rfl _ _ 41 3 rfl i3 (.int .i64 0) 8 Tryz.underlying41 I3.out.1 I3.out.2.1 I3.out.2.2.1 I3.out.2.2.2 rfl (by omega) w.heap.size n rfl rfl (by omega) (Nat.le_refl _) ?_; intro w1 hd hg hz1; have H1 := Lib.hid (And.intro hd (And.intro hg hz1)); clear hd hg hz1)
  go_loopw [9] (fun i wr => ∃ k : Nat, k ≤ n ∧ i = .int .i64 (k : Int) ∧ Own wr w.heap.size (.slice (some ⟨w.heap.size, 0, none⟩) n n) 3 (ints (upF n k fun i => i)) ∧ Below w.heap.size w wr) (fun i _ => n - (intOf i).toNat)
  case atStart => exact ⟨0, by omega, rfl, by rw [upF_zero, ← ints_zero]; exact H1.out.1, (Below.refl _ w).grown H1.out.2.1 (Nat.le_refl _) (by simp)⟩
  case round =>
    obtain ⟨k, hk, rfl, ho, hb⟩ := hrel
    by_cases hkn : k < n
    · have f1 := ho.frozen k
      have d1 := (ho.cell k (by rw [ints_len, upF_len]; exact hkn)).trans (ints_get (by rw [upF_len]; exact hkn))
      have HP := Lib.hid (And.intro ho hb)
      clear ho hb
      go_wp2
      refine ⟨⟨k + 1, by omega, by go_num, ?_, ?_⟩, by simp [intOf]; omega⟩
      · have := HP.out.1.put k (.int .i64 (k : Int))
        rw [ints_set] at this
        rw [← upF_set]
        exact this
      · exact HP.out.2.setCell (p := ⟨w.heap.size, k, none⟩) (Nat.le_refl _) _
    · obtain rfl : k = n := by omega
      have HP := Lib.hid (And.intro ho hb)
      clear ho hb
      go_wp2
      go_ret
      refine ⟨_, rfl, ?_, HP.out.2⟩
      exact NewPm.of_own HP.out.1 (Nat.le_refl _) (by rw [upF_all]; rfl)
set_option maxHeartbeats 400000 in
theorem mul49 {n : Nat} (hn : n ≤ 64) (hn0 : 0 < n) {x y : Pm n} {va vb : Value} {w : World} (ha : PmV w [] va x) (hb : PmV w [] vb y) :
    Calls Tryz.prog 28 #[va, vb] w fun e w' => ∃ v, e = .returned v ∧ NewPm w w' v (x.mul y) ∧ Below w.heap.size w w' := by
  obtain ⟨i3, hi3, hz3, hs3, hb3⟩ := info_parts Tryz.info3
  have I3 := Lib.hid (And.intro hi3 (And.intro hz3 (And.intro hs3 hb3)))
  clear hi3 hz3 hs3 hb3
  obtain ⟨ba, oa, ca, rfl, _, hal, hac⟩ := ha
  obtain ⟨bb, ob, cb, rfl, _, hbl, hbc⟩ := hb
  have H := Lib.hid (And.intro hal (And.intro hac (And.intro hbl hbc)))
  clear hal hac hbl hbc
  go_enter Tryz.func28, Tryz.ntmps28
  go_wp2
  go_loopw [5, 6] (fun v i wr => ∃ k : Nat, k ≤ n ∧ i = .int .i64 (k : Int) ∧ Own wr w.heap.size v 3 (ints (ofF k fun i => y.at (x.at i))) ∧ Below w.heap.size w wr) (fun _ i _ => n - (intOf i).toNat)
  case atStart => exact ⟨0, by omega, rfl, Own.nil _ _ _, Below.refl _ _⟩
  case round =>
    obtain ⟨k, hk, rfl, ho, hb⟩ := hrel
    by_cases hkn : k < n
    · have c1 : wr.cell? ⟨ba, oa + k, none⟩ = some (.int .i64 (x.at k : Int)) := (hb.cell (p := ⟨ba, oa + k, none⟩) H.out.1).trans (H.out.2.1 k hkn)
      have c2 : wr.cell? ⟨bb, ob + x.at k, none⟩ = some (.int .i64 (y.at (x.at k) : Int)) := (hb.cell (p := ⟨bb, ob + x.at k, none⟩) H.out.2.2.1).trans (H.out.2.2.2 _ (x.lt hkn))
      have hp : x.at k < n := x.lt hkn
      have hsz : w.heap.size ≤ wr.heap.size := hb.size
      have hl : (ints (ofF k fun i => y.at (x.at i))).length < 1099511627776 := by rw [ints_len]; simp [ofF]; omega
      obtain ⟨p, hpe⟩ : ∃ p, x.at k = p := ⟨_, rfl⟩
      obtain ⟨q, hqe⟩ : ∃ q, y.at p = q := ⟨_, rfl⟩
      have HP := Lib.hid (And.intro ho (And.intro hb (And.intro hpe hqe)))
      rw [hpe] at c1 c2 hp
      rw [hqe] at c2
      clear ho hb hpe hqe
      go_wp2_with (at_builtin; refine app1 rfl (.tmp 13) (.tmp 21) 41 3 rfl i3 (.int .i64 0) 8 Tryz.underlying41 I3.out.1 I3.out.2.1 I3.out.2.2.1 I3.out.2.2.2 rfl (by omega) w.heap.size (.int .i64 (q : Int)) u5 (ints (ofF k fun i => y.at (x.at i))) rfl HP.out.1 rfl rfl hl hsz ?_; intro v8 w8 k1 k2 k3; have H8 := Lib.hid (And.intro k1 (HP.out.2.1.grown k2 hsz (fun g hg => (HP.out.1.block_lt hg).2))); clear k1 k2 k3)
      refine ⟨⟨k + 1, by omega, by go_num, ?_, H8.out.2⟩, by simp [intOf]; omega⟩
      have h8 := H8.out.1
      rw [ofF_succ, HP.out.2.2.1, HP.out.2.2.2]
      simpa [ints] using h8
    · obtain rfl : k = n := by omega
      have HP := Lib.hid (And.intro ho hb)
      clear ho hb
      go_wp2
      go_ret
      obtain ⟨g, c, rfl, hg1, hg2, hg3, hg4⟩ := HP.out.1.form (by rw [ints_len]; simp [ofF]; omega)
      refine ⟨_, rfl, ?_, HP.out.2⟩
      have h8 := HP.out.1
      have hl : (ints (ofF k fun i => y.at (x.at i))).length = k := by rw [ints_len]; simp [ofF]
      rw [hl] at h8 ⊢
      exact NewPm.of_own h8 (Nat.le_refl _) rfl
set_option maxHeartbeats 400000 in
theorem inv50 {n : Nat} (hn : n ≤ 64) {x : Pm n} {va : Value} {w : World} (ha : PmV w [] va x) :
    Calls Tryz.prog 96 #[va] w fun e w' => ∃ v, e = .returned v ∧ NewPm w w' v x.inv ∧ Below w.heap.size w w' := by
  obtain ⟨i3, hi3, hz3, hs3, hb3⟩ := info_parts Tryz.info3
  have I3 := Lib.hid (And.intro hi3 (And.intro hz3 (And.intro hs3 hb3)))
  clear hi3 hz3 hs3 hb3
  obtain ⟨ba, oa, ca, rfl, _, hal, hac⟩ := ha
  have H := Lib.hid (And.intro hal hac)
  clear hal hac
  go_enter Tryz.func96, Tryz.ntmps96
  go_wp2_with (at_make; refine mk1 rfl _ _ 41 3 rfl i3 (.int .i64 0) 8 Tryz.underlying41 I3.out.1 I3.out.2.1 I3.out.2.2.1 I3.out.2.2.2 rfl (by omega) w.heap.size n rfl rfl (by omega) (Nat.le_refl _) ?_; intro w1 hd hg hz1; have H1 := Lib.hid (And.intro hd (And.intro hg hz1)); clear hd hg hz1)
  go_loopw [4] (fun i wr => ∃ k : Nat, k ≤ n ∧ i = .int .i64 (k : Int) ∧ Own wr w.heap.size (.slice (some ⟨w.heap.size, 0, none⟩) n n) 3 (ints (upG x k)) ∧ Below w.heap.size w wr) (fun i _ => n - (intOf i).toNat)
  case atStart => exact ⟨0, by omega, rfl, by rw [upG_zero, ← ints_zero]; exact H1.out.1, (Below.refl _ w).grown H1.out.2.1 (Nat.le_refl _) (by simp)⟩
  case round =>
    obtain ⟨k, hk, rfl, ho, hb⟩ := hrel
    by_cases hkn : k < n
    · have c1 : wr.cell? ⟨ba, oa + k, none⟩ = some (.int .i64 (x.at k : Int)) := (hb.cell (p := ⟨ba, oa + k, none⟩) H.out.1).trans (H.out.2 k hkn)
      have hp : x.at k < n := x.lt hkn
      have f1 := ho.frozen (x.at k)
      have d1 := (ho.cell (x.at k) (by rw [ints_len, upG_len]; exact hp)).trans (ints_get (by rw [upG_len]; exact hp))
      obtain ⟨p, hpe⟩ : ∃ p, x.at k = p := ⟨_, rfl⟩
      have HP := Lib.hid (And.intro ho (And.intro hb hpe))
      rw [hpe] at c1 hp f1 d1
      clear ho hb hpe
      go_wp2
      refine ⟨⟨k + 1, by omega, by go_num, ?_, ?_⟩, by simp [intOf]; omega⟩
      · have := HP.out.1.put p (.int .i64 (k : Int))
        rw [← HP.out.2.2, ints_set, upG_set hkn] at this
        rw [← HP.out.2.2]
        exact this
      · exact HP.out.2.1.setCell (p := ⟨w.heap.size, p, none⟩) (Nat.le_refl _) _
    · obtain rfl : k = n := by omega
      have HP := Lib.hid (And.intro ho hb)
      clear ho hb
      go_wp2
      go_ret
      refine ⟨_, rfl, ?_, HP.out.2⟩
      exact NewPm.of_own HP.out.1 (Nat.le_refl _) upG_all
set_option maxHeartbeats 400000 in
theorem one65 {n : Nat} (hn : n ≤ 64) (hn0 : 0 < n) {w : World} :
    Calls Tryz.prog 26 #[.int .i64 (n : Int)] w fun e w' => ∃ v, e = .returned v ∧ NewPm w w' v (PlainPm.one n) ∧ Below w.heap.size w w' := by
  obtain ⟨i3, hi3, hz3, hs3, hb3⟩ := info_parts Tryz.info3
  have I3 := Lib.hid (And.intro hi3 (And.intro hz3 (And.intro hs3 hb3)))
  clear hi3 hz3 hs3 hb3
  go_enter Tryz.func26, Tryz.ntmps26
  go_wp2
  go_loopw [3, 4] (fun v i wr => ∃ k : Nat, k ≤ n ∧ i = .int .i64 (k : Int) ∧ Own wr w.heap.size v 3 (ints (ofF k fun i => i)) ∧ Below w.heap.size w wr) (fun _ i _ => n - (intOf i).toNat)
  case atStart => exact ⟨0, by omega, rfl, Own.nil _ _ _, Below.refl _ _⟩
  case round =>
    obtain ⟨k, hk, rfl, ho, hb⟩ := hrel
    by_cases hkn : k < n
    · have hsz : w.heap.size ≤ wr.heap.size := hb.size
      have hl : (ints (ofF k fun i => i)).length < 1099511627776 := by rw [ints_len]; simp [ofF]; omega
      have HP := Lib.hid (And.intro ho hb)
      clear ho hb
      go_wp2_with (at_builtin; refine app1 rfl (.tmp 10) (.tmp 12) 41 3 rfl i3 (.int .i64 0) 8 Tryz.underlying41 I3.out.1 I3.out.2.1 I3.out.2.2.1 I3.out.2.2.2 rfl (by omega) w.heap.size (.int .i64 (k : Int)) u3 (ints (ofF k fun i => i)) rfl HP.out.1 rfl rfl hl hsz ?_; intro v8 w8 k1 k2 k3; have H8 := Lib.hid (And.intro k1 (HP.out.2.grown k2 hsz (fun g hg => (HP.out.1.block_lt hg).2))); clear k1 k2 k3)
      refine ⟨⟨k + 1, by omega, by go_num, ?_, H8.out.2⟩, by simp [intOf]; omega⟩
      have h8 := H8.out.1
      rw [ofF_succ]
      simpa [ints] using h8
    · obtain rfl : k = n := by omega
      have HP := Lib.hid (And.intro ho hb)
      clear ho hb
      go_wp2
      go_ret
      obtain ⟨g, c, rfl, hg1, hg2, hg3, hg4⟩ := HP.out.1.form (by rw [ints_len]; simp [ofF]; omega)
      refine ⟨_, rfl, ?_, HP.out.2⟩
      have h8 := HP.out.1
      have hl : (ints (ofF k fun i => i)).length = k := by rw [ints_len]; simp [ofF]
      rw [hl] at h8 ⊢
      exact NewPm.of_own h8 (Nat.le_refl _) rfl
end Go.Proofs.YtbejhkojdiadaaaGreatDoor
namespace Go.Proofs.YtbejhkojdiadaaaGreatDoor
open Go.RowKit PlainPm
theorem below_drewN_self (w : World) (q : Nat) : Below w.heap.size w (w.drewN q) := ⟨rfl, rfl, rfl, Nat.le_refl _, fun _ _ => rfl⟩
theorem below_trans {a b c : World} (h : Below a.heap.size a b) (k : Below b.heap.size b c) : Below a.heap.size a c := h.trans (k.mono h.size)
theorem eql_nil27 (w : World) (a : Option Addr) (l c : Nat) : (binOp .eql 41 (.slice a l c) (.slice none 0 0)).run Tryz.prog w = .ok (.bool a.isNone) w := by
  simp [binOp, run_equal_slice_nil w 41 3 a l c Tryz.underlying41]
set_option maxRecDepth 100000 in
set_option maxHeartbeats 1000000 in
theorem sift_calls {n B t G i : Nat} {w : World} {M : List Nat} {T : Tw n} {F : Nat → Value} {x : Pm n} {vx : Value} (hT : TowW n B t G w M T F) (hx : PmV w M vx x) (hi : i ≤ n) :
    Calls Tryz.prog 134 #[.pointer (some ⟨t, 0, none⟩), vx, .int .i64 (i : Int)] w fun e w' => ∃ v, e = .returned (.tuple #[.int .i64 ((sft T (n - i) i x).1 : Int), v]) ∧ PmV w' M v (sft T (n - i) i x).2 ∧ Below w.heap.size w w' := by
  have hn := hT.hn.2
  have H := Lib.hid (And.intro hT hx)
  clear hT hx
  go_enter Tryz.func134, Tryz.ntmps134
  go_wp2_with fail
  go_loopw [1, 8] (fun v i' wr => ∃ (k : Nat) (x' : Pm n), k ≤ n ∧ i' = .int .i64 (k : Int) ∧ PmV wr M v x' ∧ Below w.heap.size w wr ∧ sft T (n - i) i x = sft T (n - k) k x') (fun _ i' _ => n - (intOf i').toNat)
  case atStart => exact ⟨i, x, hi, rfl, H.out.2, Below.refl _ _, rfl⟩
  case round =>
    obtain ⟨k, x', hk, rfl, hx', hb, hs⟩ := hrel
    have hT' := H.out.1.below hb
    have t0 := hT'.tb
    have t1 := hT'.tl
    by_cases hkn : k < n
    · have hbx := hT'.by_ hkn (p := x'.at k) (by have := x'.lt hkn; omega)
      have hcx := hT'.cell hkn (c := 66 + x'.at k) (by have := x'.lt hkn; omega)
      obtain ⟨p, hp⟩ : ∃ p, x'.at k = p := ⟨_, rfl⟩
      rw [hp] at hbx hcx
      have hpn : p < n := by rw [← hp]; exact x'.lt hkn
      obtain ⟨bx, ox, cx, rfl, hxm, hxl, hxc⟩ := id hx'
      have c1 := hxc k hkn
      rw [hp] at c1
      have HP := Lib.hid (And.intro hT' (And.intro hx' (And.intro hb (And.intro hs (And.intro hp hxm)))))
      clear hT' hx' hb hs hp hxc hxm
      obtain ⟨f, hf⟩ : ∃ f, F (194 * k + (66 + p)) = f := ⟨_, rfl⟩
      rw [hf] at hbx hcx
      clear hf
      have hk1 : (k : Int) < n := by omega
      have hp64 : (p : Int) < 64 := by omega
      rw [show 194 * k + (66 + p) = k * 194 + 66 + p by omega] at hcx
      go_wp2_with fail
      go_quiet (fail)
      have hst : sft T (n - k) k x' = match (T k).to p with
          | none => (k, x')
          | some y => sft T (n - (k + 1)) (k + 1) (if p = k then x' else x'.mul y.inv) := by
        rw [show n - k = n - (k + 1) + 1 by omega, sft, HP.out.2.2.2.2.1]
        cases (T k).to p <;> rfl
      cases hto : (T k).to p with
      | none =>
        rw [hto] at hbx hst
        have hfn : f = .slice none 0 0 := hbx
        subst hfn
        have he := eql_nil27 (wr.drewN nq) none 0 0
        have Hs := Lib.hid hst
        clear hst hto hbx
        go_wp2_with fail
        go_ret2
        rw [HP.out.2.2.2.1, Hs.out]
        exact ⟨_, rfl, HP.out.2.1, below_drewN HP.out.2.2.1 _⟩
      | some y =>
        rw [hto] at hbx hst
        have hbx : PmV wr M f y.inv := hbx
        have hbw := hbx.weak
        obtain ⟨bf, of', cf, rfl, _, _, _⟩ := id hbx
        have he := eql_nil27 (wr.drewN nq) (some ⟨bf, of', none⟩) n cf
        have Hs := Lib.hid (And.intro hst (And.intro hbx hbw))
        clear hst hto hbx hbw
        by_cases hpk : p = k
        · have hne : ((p : Int) != (k : Int)) = false := by simp [hpk]
          have hpk' := Lib.hid hpk
          clear hpk
          go_wp2_with fail
          refine ⟨⟨k + 1, x', by omega, by go_num, HP.out.2.1.drewN _, below_drewN HP.out.2.2.1 _, ?_⟩, by simp [intOf]; omega⟩
          rw [HP.out.2.2.2.1, Hs.out.1]
          try dsimp only
          rw [if_pos hpk'.out]
        · have hne : ((p : Int) != (k : Int)) = true := by simp; omega
          have hpk' := Lib.hid hpk
          clear hpk
          go_wp2_with (go_at_call 138; refine (mul161 hn (HP.out.2.1.weak.drewN nq) (Hs.out.2.2.drewN nq)).mono ?_; rintro e w4 ⟨v4, rfl, k4, k5⟩; have HM := Lib.hid (And.intro k4 k5); clear k4 k5)
          refine ⟨⟨k + 1, x'.mul y.inv, by omega, by go_num, ?_, ?_, ?_⟩, by simp [intOf]; omega⟩
          · exact HM.out.1.pm fun m hm => (HP.out.1.mb m hm).2
          · exact below_trans (below_drewN HP.out.2.2.1 nq) HM.out.2
          · rw [HP.out.2.2.2.1, Hs.out.1]
            try dsimp only
            rw [if_neg hpk'.out]
    · obtain rfl : k = n := by omega
      have HP := Lib.hid (And.intro hT' (And.intro hx' (And.intro hb hs)))
      clear hT' hx' hb hs
      go_wp2_with fail
      go_ret2
      rw [HP.out.2.2.2, Nat.sub_self]
      exact ⟨_, rfl, HP.out.2.1, HP.out.2.2.1⟩
end Go.Proofs.YtbejhkojdiadaaaGreatDoor
namespace Go.Proofs.YtbejhkojdiadaaaGreatDoor
open Go.RowKit PlainPm
theorem Own.below {w w' : World} {B : Nat} {v : Value} {e : TypeId} {xs : List Value} (h : Own w B v e xs) (hb : Below w.heap.size w w') : Own w' B v e xs := ownsRow_block h fun g hg => hb.block g (h.block_lt hg).1
theorem step_app1 {w : World} {ops : Array Oper} {o : Oper} {a : Act} {K : Act → World → Prop} {Q : Exit → Act → World → Prop} {E : Prop} (hgd : o.guard = none) (s x : Operand) (T e : TypeId)
    (ho : o.op = .call { callee := .builtin .append, args := #[s, x], argTypes := #[T, T] })
    (i : TypeInfo) (z : Value) (bytes : Nat) (ht : Tryz.prog.underlying T = some (.slice e)) (hi : Tryz.prog.info? e = some i) (hz : i.zero = some z) (hs1 : i.size = 1) (hby : i.bytes = bytes) (hzs : z.cells.size = 1) (hb64 : bytes ≤ 64)
    (B : Nat) (u v : Value) (xs : List Value) (hs : a.eval s = v) (Wb : World) (h : Own Wb B v e xs) (hb : Below Wb.heap.size Wb w) (hx : ∃ ad, a.eval x = .slice (some ad) 1 1 ∧ w.cell? ad = some u) (h1 : u.oneCell' = true) (hl : xs.length < 1000000) (hB : B ≤ Wb.heap.size)
    (hK : ∀ v' w', Own w' B v' e (xs ++ [u]) → Wb.grownBy w' v.ownBlock → w.grownBy w' v.ownBlock → (v'.ownBlock = v.ownBlock ∨ ∃ g, v'.ownBlock = some g ∧ Wb.heap.size ≤ g) → K (a.put o.dst v') w') :
    if Region.wanted o (yielded ops a.tmps) = true then Oper.wp Tryz.prog o a w K Q else E := by
  have hw : Region.wanted o (yielded ops a.tmps) = true := by simp [Region.wanted, hgd]
  rw [if_pos hw]
  obtain ⟨ad, hx, hn⟩ := hx
  have hown : w.ownsRow B e 1 v xs.length xs := h.below hb
  obtain ⟨v', w', hr, h2, h3, _, h5⟩ := run_append_own_at (P := Tryz.prog) w B T o.type e i z 1 bytes ht hi hz hs1 hby hzs (by omega) v xs.length xs hown ad 1 1 [u] rfl (by
    intro j y hj
    match j, hj with
    | 0, hj => simp at hj; subst hj; simpa [Addr.add] using hn) (by intro y hy; rw [List.mem_singleton.1 hy]; exact h1) (by unfold maxLen; omega) (Nat.le_trans (Nat.mul_le_mul_left _ hb64) (by omega)) (Nat.le_trans hB hb.size)
  unfold Oper.wp execOp
  simp only [ho, resolve, invoke, builtin, Sem.run_bind, Sem.run_pure, Result.andThen_ok, List.map_toArray, List.map_cons, List.map_nil, hs, hx, hr]
  refine hK v' w' (by unfold Own; rw [List.length_append]; exact h2) ((grown_below hb _).trans h3) h3 ?_
  rcases h5 with h5 | h5
  · exact .inl h5
  · exact .inr ⟨_, h5, hb.size⟩
theorem below_drw {B : Nat} {a w : World} (h : Below B a w) : Below B a w.drew := ⟨h.os, h.tape, h.output, h.size, h.block⟩
theorem alloc_b {B : Nat} {a w : World} (h : Below B a w) (o : Obj) (hB : B ≤ a.heap.size := by first | exact Nat.le_refl _ | assumption | omega) : Below B a (w.alloc o) := h.alloc (Nat.le_trans hB h.size) o
theorem Tryz.info41 : (Tryz.prog.info? 41).map (fun i => (i.zero, i.size, i.bytes)) = some (some (.slice none 0 0), 1, 24) := by kernel_rfl
def AddC (n B t G i : Nat) : Prop := ∀ (w : World) (M : List Nat) (T : Tw n) (F : Nat → Value) (x : Pm n) (vx : Value), TowW n B t G w M T F → AddPre T x i → (∀ j, (T j).gens.length ≤ many T + i) → PmV w M vx x →
  Calls Tryz.prog 110 #[.pointer (some ⟨t, 0, none⟩), vx, .int .i64 (i : Int)] w fun e w' => e = .returned (.tuple #[]) ∧ ∃ M' T' F', TowW n B t G w' M' T' F' ∧ AddPost T x i T' ∧ Stp w M w' M'
def CloseC (n B t G k : Nat) : Prop := ∀ (w : World) (M : List Nat) (T : Tw n) (F : Nat → Value), TowW n B t G w M T F → ClosePre T k → (∀ j, (T j).gens.length ≤ many T + (k + 1)) →
  Calls Tryz.prog 135 #[.pointer (some ⟨t, 0, none⟩), .int .i64 (k : Int)] w fun e w' => e = .returned (.tuple #[]) ∧ ∃ M' T' F', TowW n B t G w' M' T' F' ∧ CloseR T k T' ∧ DoneL T' k ∧ Stp w M w' M'
def addUp {n : Nat} (T : Tw n) (i k : Nat) (r : Pm n) : Tw n := fun j => if i ≤ j ∧ j < k then addGen (T j) r else T j
theorem addUp_start {n : Nat} (T : Tw n) (i : Nat) (r : Pm n) : addUp T i i r = T := funext fun j => if_neg (by omega)
theorem addUp_end {n : Nat} (T : Tw n) (i a : Nat) (r : Pm n) : addUp T i (a + 1) r = addTo T i a r := funext fun j => by
  unfold addUp addTo
  by_cases h : i ≤ j ∧ j ≤ a
  · rw [if_pos h, if_pos (by omega)]
  · rw [if_neg h, if_neg (by omega)]
theorem addUp_at {n : Nat} (T : Tw n) (i k : Nat) (r : Pm n) : addUp T i k r k = T k := if_neg (by omega)
theorem addUp_step {n : Nat} (T : Tw n) {i k : Nat} (r : Pm n) (h : i ≤ k) : updL (addUp T i k r) k (addGen (T k) r) = addUp T i (k + 1) r := funext fun j => by
  by_cases e : j = k
  · subst e; rw [updL_at]; exact (if_pos ⟨h, by omega⟩).symm
  · rw [updL_ne _ _ e]
    unfold addUp
    by_cases h2 : i ≤ j ∧ j < k
    · rw [if_pos h2, if_pos (by omega)]
    · rw [if_neg h2, if_neg (by omega)]
theorem PmV.form {n : Nat} {w : World} {M : List Nat} {v : Value} {x : Pm n} (h : PmV w M v x) : ∃ b o c, v = .slice (some ⟨b, o, none⟩) n c := by
  obtain ⟨b, o, c, rfl, _⟩ := h; exact ⟨b, o, c, rfl⟩
theorem fld_addGen {n : Nat} {l : Lv n} {r : Pm n} {c : Nat} (hc : c ≠ 0) : fld (addGen l r) c = fld l c := by
  unfold fld addGen
  rw [if_neg hc, if_neg hc]
theorem TowW.gB {n B t G : Nat} {w : World} {M : List Nat} {T : Tw n} {F : Nat → Value} (h : TowW n B t G w M T F) : B ≤ w.heap.size := by
  have h1 := (h.mb G h.gm); omega
theorem TowW.appG {n B t G i g cap : Nat} {w w6 : World} {M : List Nat} {T : Tw n} {F : Nat → Value} {r : Pm n} {vr : Value} {gs : List Value} (h : TowW n B t G w M T F) (hi : i < n) (hr : PmV w M vr r) (hgs : PmL w M gs (T i).gens)
    (hg : w.grownBy w6 (F (194 * i)).ownBlock) (hnew : (Value.slice (some ⟨g, 0, none⟩) (gs.length + 1) cap).ownBlock = (F (194 * i)).ownBlock ∨ ∃ b, (Value.slice (some ⟨g, 0, none⟩) (gs.length + 1) cap).ownBlock = some b ∧ w.heap.size ≤ b)
    (hown : Own w6 B (.slice (some ⟨g, 0, none⟩) (gs.length + 1) cap) 41 (gs ++ [vr])) :
    TowW n B t G (w6.setCell ⟨G, i * 194, none⟩ (.slice (some ⟨g, 0, none⟩) (gs.length + 1) cap)) (g :: M) (updL T i (addGen (T i) r)) (fun k => if k = 194 * i + 0 then .slice (some ⟨g, 0, none⟩) (gs.length + 1) cap else F k) ∧
    Stp w M (w6.setCell ⟨G, i * 194, none⟩ (.slice (some ⟨g, 0, none⟩) (gs.length + 1) cap)) (g :: M) := by
  have := h.app (i := i) (c0 := 0) (g := g) (cap := cap) (m := gs.length + 1) (l := addGen (T i) r) (w6 := w6) h.gB hi (by omega) (fun c _ hc => fld_addGen hc) hg (by
    rcases hnew with e | ⟨b, e, e2⟩
    · exact .inl e.symm
    · cases e; exact .inr e2) (hown.block_lt rfl).1 (fun w7 M7 k hb => by
      unfold CellOk fld addGen
      exact ⟨_, ownsRow_block hown (fun b e => by cases e; exact hb), (hgs.snoc hr).stp k⟩)
  rw [show 194 * i + 0 = i * 194 by omega] at this
  rw [show 194 * i + 0 = i * 194 by omega]
  exact this
theorem many_le {n : Nat} {T : Tw n} (h : Wf T) : many T ≤ n * n := by
  have key : ∀ m, m ≤ n → ((List.range m).map fun j => (T j).orb.length).sum ≤ m * n := by
    intro m
    induction m with
    | zero => intro _; simp
    | succ m ih =>
      intro hm
      have w := h m (by omega)
      have := ih (by omega)
      have hl : (T m).orb.length ≤ n := by
        have := sub_len (l := (T m).orb) (m := List.range n) w.nd (fun p hp => by
          obtain ⟨z, hz⟩ := Option.isSome_iff_exists.1 ((w.orb p).1 hp)
          exact List.mem_range.2 (w.img p z hz).1)
        simpa using this
      rw [List.range_succ, List.map_append, List.sum_append, Nat.add_mul]
      simp; omega
  exact key n (Nat.le_refl _)
theorem addR_short {n : Nat} {T T' : Tw n} {x r : Pm n} {i a k : Nat} (h : AddR T x i a r (k + 1) T') (hlen : ∀ j, (T j).gens.length ≤ many T + i) (hik : i ≤ k) (hka : k ≤ a) : ∀ j, (T' j).gens.length ≤ many T' + (k + 1) := fun j => by
  by_cases e : k + 1 ≤ a
  · have h1 := h.pot e j
    have h2 := hlen j
    omega
  · have h1 := h.first (by omega)
    have h2 := hlen j
    rw [h1, addTo_many]
    unfold addTo
    split
    · simp [addGen]; omega
    · omega
set_option maxRecDepth 100000 in
set_option maxHeartbeats 4000000 in
theorem add_of_close {n B t G i : Nat} (hi : i < n) (hC : ∀ k, i ≤ k → k < n → CloseC n B t G k) : AddC n B t G i := by
  intro w M T F x vx hT hA hlen hx
  obtain ⟨i27, hi27, hz27, hs27, hb27⟩ := info_parts Tryz.info41
  have I := Lib.hid (And.intro hi27 (And.intro hz27 (And.intro hs27 hb27)))
  clear hi27 hz27 hs27 hb27
  have hn := hT.hn.2
  have HS := Lib.hid (sift_calls hT hx (Nat.le_of_lt hi))
  obtain ⟨a, ha⟩ : ∃ a, (sft T (n - i) i x).1 = a := ⟨_, rfl⟩
  obtain ⟨r, hr⟩ : ∃ r, (sft T (n - i) i x).2 = r := ⟨_, rfl⟩
  rw [ha, hr] at HS
  have hs : sft T (n - i) i x = (a, r) := by rw [← ha, ← hr]
  obtain ⟨s1, s2, _⟩ := sft_spec (f := n - i) hA.inv.wf (by omega) hA.fx
  rw [hs] at s1 s2
  dsimp only at s1 s2
  have H := Lib.hid (And.intro hT (And.intro hA (And.intro hlen (And.intro hx hs))))
  clear hT hA hlen hx hs ha hr
  by_cases han : a = n
  · have hA := Lib.hid han
    have hd : ((a : Int) == (n : Int)) = true := by simp [han]
    clear han
    go_enter Tryz.func110, Tryz.ntmps110
    go_wp2_with (go_at_call 134; refine HS.out.mono ?_; rintro e w1 ⟨v1, rfl, k1, k2⟩; have H1 := Lib.hid (And.intro k1 k2); have c0 := (H.out.1.below k2).tb; clear k1 k2)
    refine bodyPost_ret (results_none rfl _ _ _) rfl ?_
    refine ⟨rfl, M, T, F, H.out.1.below H1.out.2, ?_, Stp.below H1.out.2⟩
    exact AddPost.none H.out.2.1 (Nat.le_of_lt hi) (by rw [H.out.2.2.2.2, hA.out])
  · have hd : ((a : Int) == (n : Int)) = false := by simp; omega
    go_enter Tryz.func110, Tryz.ntmps110
    go_wp2_with (go_at_call 134; refine HS.out.mono ?_; rintro e w1 ⟨v1, rfl, k1, k2⟩; obtain ⟨rb, ro, rc, rfl⟩ := k1.form; have H1 := Lib.hid (And.intro k1 k2); have c0 := (H.out.1.below k2).tb; clear k1 k2)
    have hT1 := H.out.1.below H1.out.2
    have HT1 := Lib.hid hT1
    clear hT1
    go_loopw [8] (fun i' wr => ∃ (k : Nat) (M' : List Nat) (F' : Nat → Value), i ≤ k ∧ k ≤ a + 1 ∧ i' = .int .i64 (k : Int) ∧ TowW n B t G wr M' (addUp T i k r) F' ∧ Stp w1 M wr M') (fun i' _ => a + 1 - (intOf i').toNat)
    case atStart => exact ⟨i, M, F, Nat.le_refl _, by omega, rfl, by rw [addUp_start]; exact HT1.out, Stp.refl _ _⟩
    case round =>
      obtain ⟨k, M', F', hik, hka, rfl, hT', hS⟩ := hrel
      by_cases hk : k ≤ a
      · have hkn : k < n := by omega
        have t1 := hT'.tl
        have g0 := hT'.cell (c := 0) hkn (by omega)
        have hvr := H1.out.1.stp hS
        obtain ⟨gs, hgs, hpl⟩ := hT'.gens_ hkn
        have f0 := hT'.row.frozen (k * 194)
        rw [show 194 * k + 0 = k * 194 by omega] at g0
        obtain ⟨gv, hgv⟩ : ∃ gv, F' (194 * k) = gv := ⟨_, rfl⟩
        rw [show k * 194 = 194 * k by omega, hgv] at g0
        rw [show 194 * k = k * 194 by omega] at g0
        rw [hgv] at hgs
        have hgl : gs.length < 1000000 := by
          have h1 := hpl.1
          rw [addUp_at] at h1
          have h2 := H.out.2.2.1 k
          have h3 := many_le H.out.2.1.inv.wf
          have h4 : n * n ≤ 64 * 64 := Nat.mul_le_mul hn hn
          omega
        have hGt : G ≠ t := fun e => hT'.tm.1 (e ▸ hT'.gm)
        have hGw := hT'.row.lt
        have hB := hT'.gB
        have HP := Lib.hid (And.intro hT' (And.intro hS (And.intro hvr (And.intro hgs (And.intro hpl hgv)))))
        clear hT' hS hvr hgs hpl hgv c0
        have hk1 : (k : Int) < n := by omega
        have hrt : gv.ownBlock ≠ some t := fun e => HP.out.1.tm.1 (HP.out.1.blk k 0 hkn (by omega) t (by rw [Nat.add_zero, HP.out.2.2.2.2.2]; exact e)).1
        have hrG : gv.ownBlock ≠ some G := fun e => (HP.out.1.blk k 0 hkn (by omega) G (by rw [Nat.add_zero, HP.out.2.2.2.2.2]; exact e)).2 rfl
        obtain ⟨row, hrow⟩ : ∃ row, gv.ownBlock = row := ⟨_, rfl⟩
        have Hrow := Lib.hid hrow
        rw [hrow] at hrt hrG
        clear hrow
        go_upto_region 5 with (fail)
        have lt1 : t < wr.heap.size := HP.out.1.tm.2
        have nt1 : t ≠ wr.heap.size := by omega
        have nG1 : G ≠ wr.heap.size := by omega
        go_region_law
          (first
            | (refine step_app1 ?_ (.tmp 41) (.tmp 43) 28 41 ?_ i27 (.slice none 0 0) 24 Tryz.underlying28 I.out.1 I.out.2.1 I.out.2.2.1 I.out.2.2.2 ?_ ?_ B (.slice (some ⟨rb, ro, none⟩) n rc) gv gs ?_ wr HP.out.2.2.2.1 ?_ ?_ ?_ hgl hB ?_
               rfl
               rfl
               rfl
               omega
               rfl
               (repeat (first | exact Below.refl _ _ | exact below_self_drewN _ _ | refine alloc_b ?_ _ | refine below_drw ?_ | refine below_drewN ?_ _))
               exact ⟨_, rfl, by simp⟩
               rfl
               intro v8 w8 k1 k2 k3 k4
               obtain ⟨G8, cap8, rfl, -⟩ := k1.form (by simp)
               simp only [List.length_append, List.length_singleton] at k1 k4
               rw [Hrow.out] at k3
               have f8 : w8.frozen? ⟨G, k * 194, none⟩ = false := (World.frozen?_of_block (w := wr) (a := ⟨G, k * 194, none⟩) (k2.block G hGw (fun e => hrG (by rw [← Hrow.out]; exact e.symm)))).trans f0
               have t8 : w8.cell? ⟨t, 1, none⟩ = some (.slice (some ⟨G, 0, none⟩) n n) := (World.cell?_of_block (w := wr) (a := ⟨t, 1, none⟩) (k2.block t lt1 (fun e => hrt (by rw [← Hrow.out]; exact e.symm)))).trans t1
               have c8 : w8.cell? ⟨G, k * 194, none⟩ = some gv := (World.cell?_of_block (w := wr) (a := ⟨G, k * 194, none⟩) (k2.block G hGw (fun e => hrG (by rw [← Hrow.out]; exact e.symm)))).trans g0
               have H8 := Lib.hid (And.intro k1 (And.intro k2 k4))
               clear k1 k2 k4))
        all_goals
          go_wp2
          have hT1 : PmL wr M' gs (addUp T i k r k).gens := HP.out.2.2.2.2.1
          have hq := HP.out.1.appG hkn HP.out.2.2.1 hT1 (by rw [HP.out.2.2.2.2.2]; exact H8.out.2.1) (by rw [HP.out.2.2.2.2.2]; exact H8.out.2.2) H8.out.1
          rw [addUp_at, addUp_step T r hik] at hq
          exact ⟨⟨k + 1, _, _, by omega, by omega, by go_num, hq.1, HP.out.2.1.trans hq.2⟩, by simp [intOf]; omega⟩
      · have hka1 : k = a + 1 := by omega
        have hnk : decide ((k : Int) ≤ (a : Int)) = false := by simp; omega
        rw [hka1, addUp_end] at hT'
        have HP := Lib.hid (And.intro hT' hS)
        clear hT' hS hik hka hka1 hk
        generalize hkk : (k : Int) = kk at *
        clear hkk k
        go_wp2_with fail
        go_loopw [9] (fun i' wi => ∃ (k : Nat) (M' : List Nat) (T' : Tw n) (F' : Nat → Value), i ≤ k ∧ k ≤ a + 1 ∧ i' = .int .i64 ((k : Int) - 1) ∧ TowW n B t G wi M' T' F' ∧ AddR T x i a r k T' ∧ Stp w1 M wi M') (fun i' _ => (intOf i' + 1).toNat)
        case atStart => exact ⟨a + 1, M', _, F', by omega, by omega, by go_num, HP.out.1, AddR.start H.out.2.1 (Nat.le_of_lt hi) H.out.2.2.2.2 (by omega), HP.out.2⟩
        case round =>
          obtain ⟨k, M2, T2, F2, hik2, hka2, rfl, hT2, hA2, hS2⟩ := hrel
          by_cases hk : i < k
          · obtain ⟨k, rfl⟩ : ∃ k', k = k' + 1 := ⟨k - 1, by omega⟩
            have hcl := hC k (by omega) (by omega) wr M2 T2 F2 hT2 (hA2.pre (by omega)) (addR_short hA2 H.out.2.2.1 (by omega) (by omega))
            have hz : ((k + 1 : Nat) : Int) - 1 = (k : Int) := by omega
            have HP2 := Lib.hid (And.intro hA2 (And.intro hS2 hcl))
            clear hT2 hA2 hS2 hcl
            have hge : (i : Int) ≤ (k : Int) := by omega
            rw [hz]
            go_wp2_with (go_at_call 135; refine HP2.out.2.2.mono ?_; rintro e w4 ⟨rfl, M3, T3, F3, k1, k2, k3, k4⟩; have H4 := Lib.hid (And.intro k1 (And.intro k2 (And.intro k3 k4))); clear k1 k2 k3 k4)
            refine ⟨⟨k, M3, T3, F3, by omega, by omega, by go_num, H4.out.1, HP2.out.1.step H.out.2.1 (Nat.le_of_lt hi) H.out.2.2.2.2 (by omega) (by omega) (by omega) H4.out.2.1 H4.out.2.2.1, HP2.out.2.1.trans H4.out.2.2.2⟩, by simp [intOf]⟩
          · obtain rfl : k = i := by omega
            have HP2 := Lib.hid (And.intro hT2 (And.intro hA2 hS2))
            clear hT2 hA2 hS2
            have hge : ¬ ((k : Int) ≤ (k : Int) - 1) := by omega
            go_wp2_with fail
            first | go_end0 | refine bodyPost_ret (results_none rfl _ _ _) rfl ?_
            exact ⟨rfl, M2, T2, ⟨F2, HP2.out.1⟩, HP2.out.2.1.finish H.out.2.1 (Nat.le_of_lt hi) H.out.2.2.2.2 (by omega), (Stp.below H1.out.2).trans HP2.out.2.2⟩
end Go.Proofs.YtbejhkojdiadaaaGreatDoor
namespace Go.Proofs.YtbejhkojdiadaaaGreatDoor
open Go.RowKit PlainPm
section
variable {n : Nat}
theorem NewPm.form {w w' : World} {v : Value} {x : Pm n} (h : NewPm w w' v x) : ∃ b c, v = .slice (some ⟨b, 0, none⟩) n c := by
  obtain ⟨b, c, rfl, _⟩ := h; exact ⟨b, c, rfl⟩
def PreL (l : Lv n) (kk : Nat) : Prop := ∀ j q, j < kk → l.orb[j]? = some q → l.tried q = l.gens.length
theorem PreL.step {l l' : Lv n} {kk q : Nat} {e : List Nat} (h : PreL l kk) (hq : l.orb[kk]? = some q) (hnd : l.orb.Nodup) (h1 : l'.orb = l.orb ++ e) (h2 : l'.gens = l.gens) (h3 : ∀ x, x ≠ q → l'.tried x = l.tried x) : PreL l' kk ∧ l'.orb[kk]? = some q := by
  have hl := (List.getElem?_eq_some_iff.1 hq).1
  refine ⟨fun j x hj hx => ?_, by rw [h1, List.getElem?_append_left hl]; exact hq⟩
  rw [h1, List.getElem?_append_left (by omega)] at hx
  have hne : x ≠ q := fun e => by
    subst e
    have := (List.getElem?_inj (i := j) (j := kk) (by omega) hnd).1 (hx.trans hq.symm)
    omega
  rw [h3 x hne, h2]
  exact h j x hj hx
theorem PreL.next {l : Lv n} {kk q : Nat} (h : PreL l kk) (hq : l.orb[kk]? = some q) (ht : l.tried q = l.gens.length) : PreL l (kk + 1) := fun j x hj hx => by
  by_cases e : j = kk
  · subst e; rw [hq] at hx; cases hx; exact ht
  · exact h j x (by omega) hx
theorem PreL.done {T : Tw n} {k kk : Nat} (h : PreL (T k) kk) (hk : (T k).orb.length ≤ kk) : DoneL T k := fun q hq => by
  obtain ⟨j, hj⟩ := List.mem_iff_getElem?.1 hq
  exact h j q (by have := (List.getElem?_eq_some_iff.1 hj).1; omega) hj
theorem orb_le {T : Tw n} (h : Wf T) {k : Nat} (hk : k < n) : (T k).orb.length ≤ n := by
  have w := h k hk
  have := sub_len (l := (T k).orb) (m := List.range n) w.nd (fun p hp => by
    obtain ⟨z, hz⟩ := Option.isSome_iff_exists.1 ((w.orb p).1 hp)
    exact List.mem_range.2 (w.img p z hz).1)
  simpa using this
theorem stepNew_eq (T : Tw n) (k q p : Nat) (y : Pm n) :
    updL (updL (updL T k (stepTry (T k) q)) k (setTo (updL T k (stepTry (T k) q) k) p y)) k (addOrb (updL (updL T k (stepTry (T k) q)) k (setTo (updL T k (stepTry (T k) q) k) p y) k) p) = updL T k (stepNew (T k) q p y) := funext fun j => by
  by_cases e : j = k
  · subst e; simp only [updL_at]; rfl
  · simp only [updL_ne _ _ e]
theorem tried_many (T : Tw n) (k q : Nat) : many (updL T k (stepTry (T k) q)) = many T ∧ ∀ j, (updL T k (stepTry (T k) q) j).gens = (T j).gens := by
  refine ⟨?_, fun j => ?_⟩
  · unfold many
    congr 1
    apply List.map_congr_left
    intro j _
    by_cases e : j = k
    · subst e; rw [updL_at]; rfl
    · rw [updL_ne _ _ e]
  · by_cases e : j = k
    · subst e; rw [updL_at]; rfl
    · rw [updL_ne _ _ e]
theorem fld_addOrb {l : Lv n} {p c : Nat} (hc : c ≠ 1) : fld (addOrb l p) c = fld l c := by
  unfold fld addOrb
  by_cases c0 : c = 0
  · rw [if_pos c0, if_pos c0]
  rw [if_neg c0, if_neg c0, if_neg hc, if_neg hc]
theorem nts_app (l : List Nat) (p : Nat) : ints (nts (l ++ [p])) = ints (nts l) ++ [.int .i64 (p : Int)] := by simp [ints, nts]
theorem TowW.appO {B t G i g cap m p : Nat} {w w6 : World} {M : List Nat} {T : Tw n} {F : Nat → Value} (h : TowW n B t G w M T F) (hi : i < n)
    (hg : w.grownBy w6 (F (194 * i + 1)).ownBlock) (hnew : (F (194 * i + 1)).ownBlock = some g ∨ w.heap.size ≤ g)
    (hown : Own w6 B (.slice (some ⟨g, 0, none⟩) m cap) 3 (ints (nts (T i).orb) ++ [.int .i64 (p : Int)])) :
    TowW n B t G (w6.setCell ⟨G, i * 194 + 1, none⟩ (.slice (some ⟨g, 0, none⟩) m cap)) (g :: M) (updL T i (addOrb (T i) p)) (fun k => if k = 194 * i + 1 then .slice (some ⟨g, 0, none⟩) m cap else F k) ∧
    Stp w M (w6.setCell ⟨G, i * 194 + 1, none⟩ (.slice (some ⟨g, 0, none⟩) m cap)) (g :: M) := by
  have := h.app (i := i) (c0 := 1) (g := g) (cap := cap) (m := m) (l := addOrb (T i) p) (w6 := w6) h.gB hi (by omega) (fun c _ hc => fld_addOrb hc) hg hnew (hown.block_lt rfl).1 (fun w7 M7 k hb => by
      unfold CellOk fld addOrb
      rw [← nts_app] at hown
      exact ownsRow_block hown (fun b e => by cases e; exact hb))
  rw [show 194 * i + 1 = i * 194 + 1 by omega] at this
  rw [show 194 * i + 1 = i * 194 + 1 by omega]
  exact this
end
set_option maxRecDepth 100000 in
set_option maxHeartbeats 4000000 in
theorem close_of_add {n B t G k : Nat} (hk : k < n) (hA : k + 1 < n → AddC n B t G (k + 1)) : CloseC n B t G k := by
  intro w M T F hT hP hlen
  obtain ⟨i3, hi3, hz3, hs3, hb3⟩ := info_parts Tryz.info3
  have I3 := Lib.hid (And.intro hi3 (And.intro hz3 (And.intro hs3 hb3)))
  clear hi3 hz3 hs3 hb3
  have hn := hT.hn.2
  have c1 := hT.tl
  have H := Lib.hid (And.intro hT (And.intro hP hlen))
  have HA := Lib.hid hA
  clear hT hP hlen hA
  have hkn : (k : Int) < n := by omega
  go_enter Tryz.func135, Tryz.ntmps135
  go_wp2_with fail
  go_loopw [5] (fun v wr => ∃ (kk : Nat) (M' : List Nat) (T' : Tw n) (F' : Nat → Value), v = .int .i64 (kk : Int) ∧ TowW n B t G wr M' T' F' ∧ CloseR T k T' ∧ Stp w M wr M' ∧ PreL (T' k) kk ∧ kk ≤ n) (fun v _ => n - (intOf v).toNat)
  case atStart => exact ⟨0, M, T, F, rfl, H.out.1, CloseR.start H.out.2.1, Stp.refl _ _, fun j q hj => by omega, by omega⟩
  case round =>
    obtain ⟨kk, M1, T1, F1, rfl, hT1, hC1, hS1, hL1, hkk⟩ := hrel
    have o1 := hT1.orb_ hk
    have g1 := hT1.cell (c := 1) hk (by omega)
    have hol := orb_le hC1.inv.wf hk
    obtain ⟨L, hL⟩ : ∃ L, (T1 k).orb.length = L := ⟨_, rfl⟩
    obtain ⟨ov, hov⟩ : ∃ ov, F1 (194 * k + 1) = ov := ⟨_, rfl⟩
    rw [hov] at o1 g1
    rw [show 194 * k + 1 = k * 194 + 1 by omega] at g1
    obtain ⟨oa, oc, hoe, hor⟩ := o1.row (by rw [ints_len, nts_len]; unfold maxLen; omega)
    rw [ints_len, nts_len, hL] at hoe
    subst hoe
    by_cases hlt : kk < L
    · obtain ⟨q, hq⟩ : ∃ q, (T1 k).orb[kk]? = some q := ⟨_, List.getElem?_eq_getElem (by omega)⟩
      have hoi : Ints wr oa (nts (T1 k).orb) := hor
      obtain ⟨ob, oo, hoa, _, oce⟩ := hoi.at_ (k := kk) (by rw [nts_len]; omega)
      subst hoa
      rw [nts_get (by omega), hq, Option.getD_some] at oce
      have hqs : (T1 k).to q ≠ none := by
        have := ((hC1.inv.wf k hk).orb q).1 (List.mem_of_getElem? hq)
        intro e; rw [e] at this; cases this
      have hqn : q < n := by
        obtain ⟨z, hz⟩ := Option.ne_none_iff_exists'.1 hqs
        exact ((hC1.inv.wf k hk).img q z hz).1
      have HP := Lib.hid (And.intro hT1 (And.intro hC1 (And.intro hS1 (And.intro hL1 (And.intro hov (And.intro hL hq))))))
      clear hT1 hC1 hS1 hL1 hov hL hq hqs o1 hor hoi
      have hkL : (kk : Int) < L := by omega
      go_wp2_with fail
      go_loopg [9] ((T1 k).gens.length - (T1 k).tried q) (fun gk v wr => ∃ (M' : List Nat) (T' : Tw n) (F' : Nat → Value), TowW n B t G wr M' T' F' ∧ CloseR T k T' ∧ Stp w M wr M' ∧ PreL (T' k) kk ∧ (T' k).orb[kk]? = some q ∧ gk = (T' k).gens.length - (T' k).tried q)
      case atStart => exact ⟨M1, T1, F1, HP.out.1, HP.out.2.1, HP.out.2.2.1, HP.out.2.2.2.1, HP.out.2.2.2.2.2.2, rfl⟩
      case round =>
        obtain ⟨M2, T2, F2, hT2, hC2, hS2, hL2, hq2, hgk⟩ := hrel
        have wl := hC2.inv.wf k hk
        have hgb : (T2 k).gens.length < 1000000 := by
          have h1 := hC2.ext.pot k
          have h2 := H.out.2.2 k
          have h3 := many_le hC2.inv.wf
          have h4 : n * n ≤ 64 * 64 := Nat.mul_le_mul hn hn
          omega
        obtain ⟨gs, hgs, hpl⟩ := hT2.gens_ hk
        have g0 := hT2.cell (c := 0) hk (by omega)
        have gt := hT2.cell (c := 130 + q) hk (by omega)
        rw [hT2.tried_ hk (by omega), show 194 * k + (130 + q) = k * 194 + 130 + q by omega] at gt
        obtain ⟨gv, hgv⟩ : ∃ gv, F2 (194 * k) = gv := ⟨_, rfl⟩
        rw [show 194 * k + 0 = 194 * k by omega, hgv, show 194 * k = k * 194 by omega] at g0
        rw [hgv] at hgs
        obtain ⟨ga, gc, hge, hgr⟩ := hgs.row (by have := hpl.1; unfold maxLen; omega)
        rw [hpl.1] at hge
        obtain ⟨R, hR⟩ : ∃ R, (T2 k).gens.length = R := ⟨_, rfl⟩
        obtain ⟨tq, htq⟩ : ∃ tq, (T2 k).tried q = tq := ⟨_, rfl⟩
        rw [hR] at hge hgb hgk
        rw [htq] at gt hgk
        subst hge
        have htl : tq ≤ R := by rw [← hR, ← htq]; exact wl.tl q
        have hq64 : (q : Int) < 64 := by omega
        have HQ := Lib.hid (And.intro hT2 (And.intro hC2 (And.intro hS2 (And.intro hL2 (And.intro hq2 (And.intro hR (And.intro htq (And.intro hgv (And.intro hpl (And.intro hgs wl))))))))))
        clear hT2 hC2 hS2 hL2 hq2 hR htq hgv hpl hgs wl
        by_cases hlt2 : tq < R
        · have hgd : decide ((tq : Int) < (R : Int)) = true := by simp; omega
          obtain ⟨s, hs⟩ : ∃ s, (T2 k).gens[tq]? = some s := ⟨_, List.getElem?_eq_getElem (by rw [HQ.out.2.2.2.2.2.1]; omega)⟩
          obtain ⟨sv, hsv, hsp⟩ := HQ.out.2.2.2.2.2.2.2.2.1.2 tq s hs
          obtain ⟨gb, go, hga, _, gcell⟩ := hgr.2 tq sv hsv
          subst hga
          obtain ⟨sb, so, sc, rfl⟩ := hsp.form
          have HSS := Lib.hid (And.intro hs (And.intro hsp hsv))
          have hgr' := Lib.hid hgr
          clear hs hsp hsv hgr
          have hRt : (tq : Int) < (R : Int) := by omega
          have ft := HQ.out.1.row.frozen (k * 194 + 130 + q)
          go_wp2_with fail
          go_quiet (fail)
          revert nq
          intro n1
          go_wp2_with fail
          go_quiet (fail)
          go_wp2_with fail
          go_region
          obtain ⟨V, hV⟩ : ∃ V, (wr.drewN (n1 + nq + 1)).setCell ⟨G, k * 194 + 130 + q, none⟩ (.int .i64 ((tq : Int) + 1)) = V := ⟨_, rfl⟩
          rw [hV]
          obtain ⟨T3, hT3⟩ : ∃ T3, updL T2 k (stepTry (T2 k) q) = T3 := ⟨_, rfl⟩
          obtain ⟨F3, hTV⟩ : ∃ F3, TowW n B t G V M2 T3 F3 := by
            have h3 := (HQ.out.1.below (below_drewN_self wr (n1 + nq + 1))).setTried hk (q := q) (by omega)
            rw [HQ.out.2.2.2.2.2.2.1, show 194 * k + (130 + q) = k * 194 + 130 + q by omega, show ((tq + 1 : Nat) : Int) = (tq : Int) + 1 by omega, hV, hT3] at h3
            exact ⟨_, h3⟩
          have hSV : Stp wr M2 V M2 := by
            have h3 := (HQ.out.1.below (below_drewN_self wr (n1 + nq + 1))).stored (k * 194 + 130 + q) (.int .i64 ((tq : Int) + 1))
            rw [hV] at h3
            exact (Stp.below (below_drewN_self wr (n1 + nq + 1))).trans h3
          have e3 : T3 k = stepTry (T2 k) q := by rw [← hT3, updL_at]
          obtain ⟨yq, hyq⟩ : ∃ yq, (T2 k).to q = some yq := by
            have := (HQ.out.2.2.2.2.2.2.2.2.2.2.orb q).1 (List.mem_of_getElem? HQ.out.2.2.2.2.1)
            exact Option.isSome_iff_exists.1 this
          have oq := hTV.to_ hk (p := q) (by omega)
          have cq := hTV.cell hk (c := 2 + q) (by omega)
          rw [e3, show (stepTry (T2 k) q).to q = (T2 k).to q from rfl, hyq] at oq
          obtain ⟨fq, hfq⟩ : ∃ fq, F3 (194 * k + (2 + q)) = fq := ⟨_, rfl⟩
          rw [hfq] at oq cq
          rw [show 194 * k + (2 + q) = k * 194 + 2 + q by omega] at cq
          have oq : PmV V M2 fq yq := oq
          obtain ⟨y, hy⟩ : ∃ y, yq.mul s = y := ⟨_, rfl⟩
          obtain ⟨p, hp⟩ : ∃ p, y.at k = p := ⟨_, rfl⟩
          have hpn : p < n := by rw [← hp]; exact y.lt hk
          have hmul := mul161 hn oq.weak (HSS.out.2.1.stp hSV).weak
          rw [hy] at hmul
          have op := hTV.to_ hk (p := p) (by omega)
          have cp := hTV.cell hk (c := 2 + p) (by omega)
          rw [e3, show (stepTry (T2 k) q).to p = (T2 k).to p from rfl] at op
          obtain ⟨fp, hfp⟩ : ∃ fp, F3 (194 * k + (2 + p)) = fp := ⟨_, rfl⟩
          rw [hfp] at op cp
          rw [show 194 * k + (2 + p) = k * 194 + 2 + p by omega] at cp
          obtain ⟨bq, ofq, cfq, rfl⟩ := oq.form
          have HV := Lib.hid (And.intro hTV (And.intro hSV (And.intro hyq (And.intro hy (And.intro hp (And.intro hmul (And.intro e3 hT3)))))))
          have Hfp := Lib.hid hfp
          clear hV hTV hSV hyq hy hp hmul e3 hT3 hfq hfp oq gt g0 gcell ft hgd hlt2
          have hp64 : (p : Int) < 64 := by omega
          cases hto : (T2 k).to p with
          | none =>
            rw [hto] at op
            have hfn : fp = .slice none 0 0 := op
            subst hfn
            have he : ∀ W, (binOp .eql 41 (.slice none 0 0) (.slice none 0 0)).run Tryz.prog W = .ok (.bool true) W := fun W => eql_nil27 W none 0 0
            have Hto := Lib.hid hto
            clear hto op
            go_wp2_with (go_at_call 138; refine HV.out.2.2.2.2.2.1.mono ?_; rintro e w4 ⟨v4, rfl, k4, k5⟩; obtain ⟨yb, yc, rfl, k6, k7, k8⟩ := id k4; have cy := k8 k hk; rw [HV.out.2.2.2.2.1] at cy; have cp4 := (k5.cell (p := ⟨G, k * 194 + 2 + p, none⟩) HV.out.1.row.lt).trans cp; have H4 := Lib.hid (And.intro k4 k5); clear k4 k5 k6 k7 k8)
            obtain ⟨fb, hfb⟩ : ∃ fb, F3 (194 * k + (66 + p)) = fb := ⟨_, rfl⟩
            have HFB := Lib.hid hfb
            clear hfb
            have hinv := Lib.hid (fun W (hw : PmV W [] (.slice (some ⟨yb, 0, none⟩) n yc) y) => inv173 (w := W) hn hw)
            have HT4 := Lib.hid (HV.out.1.below H4.out.2)
            have hp2 : 2 + p < 194 := by omega
            have hp66 : 66 + p < 194 := by omega
            have hpa : 194 * k + (2 + p) = k * 194 + 2 + p := by omega
            have hpb : 194 * k + (66 + p) = k * 194 + 66 + p := by omega
            have hne : k * 194 + 2 + p ≠ k * 194 + 66 + p := by omega
            have hyv : PmV w4 M2 (.slice (some ⟨yb, 0, none⟩) n yc) y := H4.out.1.pm (fun m hm => (HV.out.1.mb m hm).2)
            have Hyv := Lib.hid hyv
            clear hyv
            go_region_with (first
              | (go_at_call 139; refine (hinv.out _ (Hyv.out.weak.below (by first | exact Below.refl _ _ | exact below_self_drewN _ _))).mono ?_; rintro e w5 ⟨v5, rfl, k4, k5⟩; obtain ⟨ib, ic, rfl⟩ := k4.form; have h5 := (HT4.out.below (by first | exact Below.refl _ _ | exact below_self_drewN _ _)).below k5; have cpw5 := h5.cell hk (c := 2 + p) hp2; rw [Hfp.out, hpa] at cpw5; have cb5 := h5.cell hk (c := 66 + p) hp66; rw [HFB.out, hpb] at cb5; have fr1 := h5.row.frozen (k * 194 + 2 + p); have fr2 := h5.row.frozen (k * 194 + 66 + p); have H5 := Lib.hid (And.intro k4 (And.intro h5 k5)); clear k4 k5 h5))
            obtain ⟨V6, hV6⟩ : ∃ V6, (w5.setCell ⟨G, k * 194 + 2 + p, none⟩ (.slice (some ⟨yb, 0, none⟩) n yc)).setCell ⟨G, k * 194 + 66 + p, none⟩ (.slice (some ⟨ib, 0, none⟩) n ic) = V6 := ⟨_, rfl⟩
            rw [hV6]
            obtain ⟨T5, hT5⟩ : ∃ T5, updL T3 k (setTo (T3 k) p y) = T5 := ⟨_, rfl⟩
            obtain ⟨F5, hTV6, hSV6⟩ : ∃ F5, TowW n B t G V6 M2 T5 F5 ∧ Stp V M2 V6 M2 := by
              have h3 := H5.out.2.1.put2 hk (p := p) (by omega) ((Hyv.out.below (by first | exact Below.refl _ _ | exact below_self_drewN _ _)).below H5.out.2.2) (H5.out.1.pm (fun m hm => (HT4.out.mb m hm).2))
              rw [hpa, hpb, hV6, hT5] at h3
              exact ⟨_, h3.1, (Stp.below H4.out.2).trans ((Stp.below (by first | exact Below.refl _ _ | exact below_self_drewN _ _)).trans ((Stp.below H5.out.2.2).trans h3.2))⟩
            have e5 : (T5 k).orb = (T2 k).orb := by rw [← hT5, updL_at, HV.out.2.2.2.2.2.2.1]; rfl
            have o5 := hTV6.orb_ hk
            have g5 := hTV6.cell hk (c := 1) (by omega)
            have gf5 := hTV6.row.frozen (k * 194 + 1)
            rw [e5] at o5
            obtain ⟨ov5, hov5⟩ : ∃ ov5, F5 (194 * k + 1) = ov5 := ⟨_, rfl⟩
            rw [hov5] at o5 g5
            rw [show 194 * k + 1 = k * 194 + 1 by omega] at g5
            have hb5 : (F5 (194 * k + 1)).ownBlock ≠ some G := fun e => (hTV6.blk k 1 hk (by omega) G e).2 rfl
            have hB5 := hTV6.gB
            obtain ⟨L5, hL5⟩ : ∃ L5, (ints (nts (T2 k).orb)).length = L5 := ⟨_, rfl⟩
            have hl5 : L5 < 1099511627776 := by
              rw [← hL5, ints_len, nts_len]
              have := orb_le HQ.out.2.1.inv.wf hk
              omega
            have HW := Lib.hid (And.intro hTV6 (And.intro hSV6 (And.intro hT5 (And.intro o5 (And.intro hov5 (And.intro hL5 hb5))))))
            clear hV6 hTV6 hSV6 hT5 o5 hov5 e5 hL5 hb5 cpw5 cb5 fr1 fr2 cp4 cy he hpa hpb hne
            go_wp2_with (at_builtin; refine app1f rfl (.tmp 102) (.tmp 104) 40 3 rfl i3 (.int .i64 0) 8 Tryz.underlying40 I3.out.1 I3.out.2.1 I3.out.2.2.1 I3.out.2.2.2 rfl (by omega) B (.int .i64 (p : Int)) ov5 (ints (nts (T2 k).orb)) L5 rfl HW.out.2.2.2.1 rfl rfl HW.out.2.2.2.2.2.1 hl5 hB5 ?_; intro G8 cap8 w8 k1 k2 k3 k4 k5; have g8 : w8.cell? ⟨G, k * 194 + 1, none⟩ = some ov5 := (World.cell?_of_block (w := V6) (a := ⟨G, k * 194 + 1, none⟩) (k2.block G HW.out.1.row.lt (fun e => HW.out.2.2.2.2.2.2 (by rw [HW.out.2.2.2.2.1]; exact e.symm)))).trans g5; have gf8 : w8.frozen? ⟨G, k * 194 + 1, none⟩ = false := (World.frozen?_of_block (w := V6) (a := ⟨G, k * 194 + 1, none⟩) (k2.block G HW.out.1.row.lt (fun e => HW.out.2.2.2.2.2.2 (by rw [HW.out.2.2.2.2.1]; exact e.symm)))).trans gf5; have H8 := Lib.hid (And.intro k1 (And.intro k2 k3)); clear k1 k2 k3 k4 k5)
            have hq9 := HW.out.1.appO (p := p) hk (by rw [HW.out.2.2.2.2.1]; exact H8.out.2.1) (by rw [HW.out.2.2.2.2.1]; exact H8.out.2.2) (by rw [← HW.out.2.2.1, updL_at, HV.out.2.2.2.2.2.2.1]; exact H8.out.1)
            have hT6 := stepNew_eq T2 k q p y
            rw [HV.out.2.2.2.2.2.2.2, HW.out.2.2.1] at hT6
            rw [hT6] at hq9
            have hC9 := HQ.out.2.1.new hk HV.out.2.2.1 (by rw [HQ.out.2.2.2.2.2.2.1]; exact HSS.out.1) HV.out.2.2.2.1.symm HV.out.2.2.2.2.1 Hto.out
            have hP9 := HQ.out.2.2.2.1.step (l' := stepNew (T2 k) q p y) (e := [p]) HQ.out.2.2.2.2.1 HQ.out.2.2.2.2.2.2.2.2.2.2.nd rfl rfl (fun x hx => if_neg hx)
            go_roundg (R - (tq + 1))
            case measure => omega
            case rel =>
              refine ⟨_, _, _, hq9.1, hC9, HQ.out.2.2.1.trans (HV.out.2.1.trans (HW.out.2.1.trans hq9.2)), ?_, ?_, ?_⟩
              · rw [updL_at]; exact hP9.1
              · rw [updL_at]; exact hP9.2
              · rw [updL_at]
                have h1 : (stepNew (T2 k) q p y).tried q = tq + 1 := by rw [← HQ.out.2.2.2.2.2.2.1]; exact if_pos rfl
                have h2 : (stepNew (T2 k) q p y).gens.length = R := HQ.out.2.2.2.2.2.1
                rw [h1, h2]
          | some z =>
            rw [hto] at op
            have op : PmV V M2 fp z := op
            obtain ⟨zb, zo, zc, rfl⟩ := op.form
            have he : ∀ W, (binOp .eql 41 (.slice (some ⟨zb, zo, none⟩) n zc) (.slice none 0 0)).run Tryz.prog W = .ok (.bool false) W := fun W => eql_nil27 W _ _ _
            have oby := HV.out.1.by_ hk (p := p) (by omega)
            have cby := HV.out.1.cell hk (c := 66 + p) (by omega)
            rw [HV.out.2.2.2.2.2.2.1, show (stepTry (T2 k) q).to p = (T2 k).to p from rfl, hto] at oby
            obtain ⟨fb, hfb⟩ : ∃ fb, F3 (194 * k + (66 + p)) = fb := ⟨_, rfl⟩
            rw [hfb] at oby cby
            rw [show 194 * k + (66 + p) = k * 194 + 66 + p by omega] at cby
            have oby : PmV V M2 fb z.inv := oby
            obtain ⟨ib, io, ic, rfl⟩ := oby.form
            have hpre := AddPre.ofTry HQ.out.2.1 hk HV.out.2.2.1 (by rw [HQ.out.2.2.2.2.2.2.1]; exact HSS.out.1) HV.out.2.2.2.1.symm HV.out.2.2.2.2.1 hto
            have hold := fun T5 => CloseR.old (T2 := T5) HQ.out.2.1 hk HV.out.2.2.1 (by rw [HQ.out.2.2.2.2.2.2.1]; exact HSS.out.1) HV.out.2.2.2.1.symm HV.out.2.2.2.2.1 hto
            rw [HV.out.2.2.2.2.2.2.2] at hpre hold
            have c0 := HV.out.1.tb
            have hP9 := HQ.out.2.2.2.1.step (l' := stepTry (T2 k) q) (e := []) HQ.out.2.2.2.2.1 HQ.out.2.2.2.2.2.2.2.2.2.2.nd (by rw [List.append_nil]; rfl) rfl (fun x hx => if_neg hx)
            have hfin : ∀ (T5 : Tw n), T5 k = stepTry (T2 k) q → PreL (T5 k) kk ∧ (T5 k).orb[kk]? = some q ∧ R - (tq + 1) = (T5 k).gens.length - (T5 k).tried q := fun T5 h5 => by
              rw [h5]
              refine ⟨hP9.1, hP9.2, ?_⟩
              have h1 : (stepTry (T2 k) q).tried q = tq + 1 := by rw [← HQ.out.2.2.2.2.2.2.1]; exact if_pos rfl
              have h2 : (stepTry (T2 k) q).gens.length = R := HQ.out.2.2.2.2.2.1
              rw [h1, h2]
            have Hto := Lib.hid (And.intro hto (And.intro oby (And.intro hpre (And.intro hold hfin))))
            clear hto op oby hpre hold hfb hP9 hfin
            by_cases hkl : k + 1 < n
            · have hkd : (k : Int) + 1 < n := by omega
              have hlen3 : ∀ j, (T3 j).gens.length ≤ many T3 + (k + 1) := fun j => by
                have h1 := tried_many T2 k q
                rw [HV.out.2.2.2.2.2.2.2] at h1
                rw [h1.1, h1.2 j]
                have h2 := HQ.out.2.1.ext.pot j
                have h3 := H.out.2.2 j
                omega
              have HL3 := Lib.hid hlen3
              clear hlen3
              go_wp2_with (first
                | (go_at_call 138; refine hm5.out.mono ?_; rintro e w5 ⟨v5, rfl, k4, k5⟩; have H5 := Lib.hid (And.intro k4 k5); have hadd := Lib.hid (HA.out hkl w5 M2 T3 F3 _ v5 ((HV.out.1.below H4.out.2).below k5) Hto.out.2.2.1 HL3.out (k4.pm (fun m hm => Nat.lt_of_lt_of_le (HV.out.1.mb m hm).2 H4.out.2.size))); clear k4 k5)
                | (go_at_call 138; refine HV.out.2.2.2.2.2.1.mono ?_; rintro e w4 ⟨v4, rfl, k4, k5⟩; obtain ⟨yb, yc, rfl, k6, k7, k8⟩ := id k4; have cy := k8 k hk; rw [HV.out.2.2.2.2.1] at cy; have cp4 := (k5.cell (p := ⟨G, k * 194 + 2 + p, none⟩) HV.out.1.row.lt).trans cp; have cby4 := (k5.cell (p := ⟨G, k * 194 + 66 + p, none⟩) HV.out.1.row.lt).trans cby; have c04 := (k5.cell (p := ⟨t, 0, none⟩) HV.out.1.tm.2).trans c0; have H4 := Lib.hid (And.intro k4 k5); have hm5 := Lib.hid (mul161 (w := w4) hn (k4.pm (M := []) (by simp)) (Hto.out.2.1.below k5).weak); clear k4 k5 k6 k7 k8)
                | (go_at_call 110; refine hadd.out.mono ?_; rintro e w6 ⟨rfl, M6, T6, F6, k1, k2, k3⟩; have H6 := Lib.hid (And.intro k1 (And.intro k2 k3)); clear k1 k2 k3))
              go_roundg (R - (tq + 1))
              case measure => omega
              case rel =>
                have h5 : T6 k = stepTry (T2 k) q := (H6.out.2.1.ext.low k (by omega)).trans HV.out.2.2.2.2.2.2.1
                exact ⟨M6, T6, F6, H6.out.1, Hto.out.2.2.2.1 _ H6.out.2.1, HQ.out.2.2.1.trans (HV.out.2.1.trans ((Stp.below H4.out.2).trans ((Stp.below H5.out.2).trans H6.out.2.2))), Hto.out.2.2.2.2 T6 h5⟩
            · have hkd : ¬ (k : Int) + 1 < n := by omega
              go_wp2_with (first
                | (go_at_call 138; refine HV.out.2.2.2.2.2.1.mono ?_; rintro e w4 ⟨v4, rfl, k4, k5⟩; obtain ⟨yb, yc, rfl, k6, k7, k8⟩ := id k4; have cy := k8 k hk; rw [HV.out.2.2.2.2.1] at cy; have cp4 := (k5.cell (p := ⟨G, k * 194 + 2 + p, none⟩) HV.out.1.row.lt).trans cp; have c04 := (k5.cell (p := ⟨t, 0, none⟩) HV.out.1.tm.2).trans c0; have H4 := Lib.hid (And.intro k4 k5); clear k4 k5 k6 k7 k8))
              go_roundg (R - (tq + 1))
              case measure => omega
              case rel =>
                exact ⟨M2, T3, F3, HV.out.1.below H4.out.2, Hto.out.2.2.2.1 _ (AddPost.last Hto.out.2.2.1 (by omega)), HQ.out.2.2.1.trans (HV.out.2.1.trans (Stp.below H4.out.2)), Hto.out.2.2.2.2 T3 HV.out.2.2.2.2.2.2.1⟩
        · have hgd : decide ((tq : Int) < (R : Int)) = false := by simp; omega
          have htR : tq = R := by omega
          have HR := Lib.hid htR
          clear htR
          go_wp2_with fail
          go_quiet (fail)
          go_wp2_with fail
          have hkn2 : kk < n := by have := HP.out.2.2.2.2.2.1; omega
          refine ⟨⟨kk + 1, M2, T2, F2, by go_num, HQ.out.1.below (below_drewN_self _ _), HQ.out.2.1, HQ.out.2.2.1.trans (Stp.below (below_drewN_self _ _)), HQ.out.2.2.2.1.next HQ.out.2.2.2.2.1 (by rw [HQ.out.2.2.2.2.2.2.1, HR.out, HQ.out.2.2.2.2.2.1]), by omega⟩, by simp [intOf]; omega⟩
    · have HP := Lib.hid (And.intro hT1 (And.intro hC1 (And.intro hS1 (And.intro hL1 hL))))
      clear hT1 hC1 hS1 hL1 hL hov o1 hor
      have hkL : ¬ (kk : Int) < L := by omega
      go_wp2_with fail
      go_end0
      exact ⟨rfl, M1, T1, ⟨F1, HP.out.1⟩, HP.out.2.1, HP.out.2.2.2.1.done (by rw [HP.out.2.2.2.2]; omega), HP.out.2.2.1⟩
theorem add_close {n B t G : Nat} : ∀ (f i : Nat), i < n → n - i ≤ f → AddC n B t G i
  | 0, i, hi, hf => by omega
  | f + 1, i, hi, hf => add_of_close hi fun k hik hkn => close_of_add hkn fun h => add_close f (k + 1) h (by omega)
end Go.Proofs.YtbejhkojdiadaaaGreatDoor
