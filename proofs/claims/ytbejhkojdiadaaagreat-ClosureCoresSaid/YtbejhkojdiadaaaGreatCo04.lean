/- Products, inverses and the identity: what the program's and the references' functions hand back. · The tower's sift. · The tower's add and close, against one another. -/
import Derived.Test.YtbejhkojdiadaaaGreatCo01
import Derived.Test.YtbejhkojdiadaaaGreatCo02
import Derived.Test.YtbejhkojdiadaaaGreatCo03
import Derived.Test.YtbejhkojdiadaaaGreatProg
import Derived.Deep.DeepCutAuto
import Derived.Laws.Cover3
import Derived.Deep.AppendLies
import Derived.Deep.RegionHeld3
import Derived.WalkKit
import Derived.WalkSpells
import Derived.BigQuiet
import Derived.Deep.QuietTactic
import Derived.Deep.LoopGhost
import Derived.Lib.Hide
import Derived.Maps.AppendAt
import Derived.StillTailTactics
import Derived.Laws.CopyOwn
import Derived.Deep.OwnRows
set_option linter.unusedSimpArgs false
set_option linter.unusedVariables false
namespace Go.Proofs.YtbejhkojdiadaaaGreat
open Go.RowKit PlainPm
theorem Tryz.info3 : (Tryz.prog.info? 3).map (fun i => (i.zero, i.size, i.bytes)) = some (some (.int .i64 0), 1, 8) := by kernel_rfl
theorem cell_set_other {w : World} {p r : Addr} {v : Value} (h : p ≠ r) : (w.setCell p v).cell? r = w.cell? r := World.cell?_setCell_other _ _ _ _ h
def upF (n k : Nat) (f : Nat → Nat) : List Int := (List.range n).map fun i => if i < k then (f i : Int) else 0
theorem upF_zero (n : Nat) (f : Nat → Nat) : upF n 0 f = List.replicate n 0 := by
  apply List.ext_getElem? ; intro i
  unfold upF
  rw [List.getElem?_map, List.getElem?_replicate]
  by_cases hi : i < n
  · rw [List.getElem?_range hi, if_pos hi]; rfl
  · rw [List.getElem?_eq_none (by simp; omega), if_neg hi]; rfl
theorem upF_len (n k : Nat) (f : Nat → Nat) : (upF n k f).length = n := by simp [upF]
theorem upF_set {n k : Nat} {f : Nat → Nat} : (upF n k f).set k (f k : Int) = upF n (k + 1) f := by
  apply List.ext_getElem? ; intro i
  rw [List.getElem?_set]
  unfold upF
  by_cases hi : i < n
  · rw [List.getElem?_map, List.getElem?_range hi, List.getElem?_map, List.getElem?_range hi]
    by_cases e : k = i
    · subst e; simp [hi]
    · simp only [e, if_false, Option.map_some]
      by_cases h2 : i < k
      · rw [if_pos h2, if_pos (by omega)]
      · rw [if_neg h2, if_neg (by omega)]
  · rw [List.getElem?_eq_none (by simp; omega)]
    by_cases e : k = i
    · subst e; simp [hi]
    · simp [e, hi]
theorem upF_all {n : Nat} {f : Nat → Nat} : upF n n f = ofF n f := by
  unfold upF ofF
  apply List.map_congr_left
  intro i hi
  rw [if_pos (by simpa using hi)]
theorem ofF_succ {k : Nat} {f : Nat → Nat} : ofF (k + 1) f = ofF k f ++ [(f k : Int)] := by
  unfold ofF; rw [List.range_succ, List.map_append]; rfl
def upG {n : Nat} (x : Pm n) (k : Nat) : List Int := (List.range n).map fun j => if x.inv.at j < k then (x.inv.at j : Int) else 0
theorem upG_len {n : Nat} (x : Pm n) (k : Nat) : (upG x k).length = n := by simp [upG]
theorem upG_zero {n : Nat} (x : Pm n) : upG x 0 = List.replicate n 0 := by
  apply List.ext_getElem? ; intro i
  unfold upG
  rw [List.getElem?_map, List.getElem?_replicate]
  by_cases hi : i < n
  · rw [List.getElem?_range hi, if_pos hi]; rfl
  · rw [List.getElem?_eq_none (by simp; omega), if_neg hi]; rfl
theorem upG_set {n k : Nat} {x : Pm n} (hk : k < n) : (upG x k).set (x.at k) (k : Int) = upG x (k + 1) := by
  apply List.ext_getElem? ; intro i
  rw [List.getElem?_set]
  unfold upG
  by_cases hi : i < n
  · rw [List.getElem?_map, List.getElem?_range hi, List.getElem?_map, List.getElem?_range hi]
    by_cases e : x.at k = i
    · subst e
      have := x.inv_of hk
      simp [hi, this]
    · have hne : x.inv.at i ≠ k := fun h => by
        have := (x.inv_at hi).2
        rw [h] at this; exact e this
      simp only [e, if_false, Option.map_some]
      by_cases h2 : x.inv.at i < k
      · rw [if_pos h2, if_pos (by omega)]
      · rw [if_neg h2, if_neg (by omega)]
  · rw [List.getElem?_eq_none (by simp; omega)]
    by_cases e : x.at k = i
    · subst e; exact absurd (x.lt hk) hi
    · simp [e, hi]
theorem upG_all {n : Nat} {x : Pm n} : upG x n = x.inv.l := by
  apply List.ext_getElem? ; intro i
  unfold upG
  by_cases hi : i < n
  · rw [List.getElem?_map, List.getElem?_range hi, x.inv.get hi]
    simp only [Option.map_some]
    rw [if_pos (x.inv.lt hi)]
  · rw [List.getElem?_eq_none (by simp; omega), List.getElem?_eq_none (by have := x.inv.ok.1; omega)]
set_option maxHeartbeats 400000 in
theorem mul161 {n : Nat} (hn : n ≤ 64) {x y : Pm n} {va vb : Value} {w : World} (ha : PmV w [] va x) (hb : PmV w [] vb y) :
    Calls Tryz.prog 161 #[va, vb] w fun e w' => ∃ v, e = .returned v ∧ NewPm w w' v (x.mul y) ∧ Below w.heap.size w w' := by
  obtain ⟨i3, hi3, hz3, hs3, hb3⟩ := info_parts Tryz.info3
  have I3 := Lib.hid (And.intro hi3 (And.intro hz3 (And.intro hs3 hb3)))
  clear hi3 hz3 hs3 hb3
  obtain ⟨ba, oa, ca, rfl, _, hal, hac⟩ := ha
  obtain ⟨bb, ob, cb, rfl, _, hbl, hbc⟩ := hb
  have H := Lib.hid (And.intro hal (And.intro hac (And.intro hbl hbc)))
  clear hal hac hbl hbc
  go_enter Tryz.func161, Tryz.ntmps161
  go_wp2_with (at_make; refine mk1 rfl _ _ 27 3 rfl i3 (.int .i64 0) 8 Tryz.underlying27 I3.out.1 I3.out.2.1 I3.out.2.2.1 I3.out.2.2.2 rfl (by omega) w.heap.size n rfl rfl (by omega) (Nat.le_refl _) ?_; intro w1 hd hg hz1; have H1 := Lib.hid (And.intro hd (And.intro hg hz1)); clear hd hg hz1)
  go_loopw [13] (fun i wr => ∃ k : Nat, k ≤ n ∧ i = .int .i64 (k : Int) ∧ Own wr w.heap.size (.slice (some ⟨w.heap.size, 0, none⟩) n n) 3 (ints (upF n k fun i => y.at (x.at i))) ∧ Below w.heap.size w wr) (fun i _ => n - (intOf i).toNat)
  case atStart => exact ⟨0, by omega, rfl, by rw [upF_zero, ← ints_zero]; exact H1.out.1, (Below.refl _ w).grown H1.out.2.1 (Nat.le_refl _) (by simp)⟩
  case round =>
    obtain ⟨k, hk, rfl, ho, hb⟩ := hrel
    by_cases hkn : k < n
    · have c1 : wr.cell? ⟨ba, oa + k, none⟩ = some (.int .i64 (x.at k : Int)) := (hb.cell (p := ⟨ba, oa + k, none⟩) H.out.1).trans (H.out.2.1 k hkn)
      have c2 : wr.cell? ⟨bb, ob + x.at k, none⟩ = some (.int .i64 (y.at (x.at k) : Int)) := (hb.cell (p := ⟨bb, ob + x.at k, none⟩) H.out.2.2.1).trans (H.out.2.2.2 _ (x.lt hkn))
      have hp : x.at k < n := x.lt hkn
      have f1 := ho.frozen k
      have d1 := (ho.cell k (by rw [ints_len, upF_len]; exact hkn)).trans (ints_get (by rw [upF_len]; exact hkn))
      obtain ⟨p, hpe⟩ : ∃ p, x.at k = p := ⟨_, rfl⟩
      obtain ⟨q, hqe⟩ : ∃ q, y.at p = q := ⟨_, rfl⟩
      have HP := Lib.hid (And.intro ho (And.intro hb (And.intro hpe hqe)))
      rw [hpe] at c1 c2 hp
      rw [hqe] at c2
      clear ho hb hpe hqe
      go_wp2
      refine ⟨⟨k + 1, by omega, by go_num, ?_, ?_⟩, by simp [intOf]; omega⟩
      · have := HP.out.1.put k (.int .i64 (q : Int))
        rw [← HP.out.2.2.2, ← HP.out.2.2.1, ints_set, upF_set] at this
        rw [← HP.out.2.2.2, ← HP.out.2.2.1]
        exact this
      · exact HP.out.2.1.setCell (p := ⟨w.heap.size, k, none⟩) (Nat.le_refl _) _
    · obtain rfl : k = n := by omega
      have HP := Lib.hid (And.intro ho hb)
      clear ho hb
      go_wp2
      go_ret
      refine ⟨_, rfl, ?_, HP.out.2⟩
      exact NewPm.of_own HP.out.1 (Nat.le_refl _) (by rw [upF_all]; rfl)
set_option maxHeartbeats 400000 in
theorem mul110 {n : Nat} (hn : n ≤ 64) {x y : Pm n} {va vb : Value} {w : World} (ha : PmV w [] va x) (hb : PmV w [] vb y) :
    Calls Tryz.prog 110 #[va, vb] w fun e w' => ∃ v, e = .returned v ∧ NewPm w w' v (x.mul y) ∧ Below w.heap.size w w' := by
  obtain ⟨i3, hi3, hz3, hs3, hb3⟩ := info_parts Tryz.info3
  have I3 := Lib.hid (And.intro hi3 (And.intro hz3 (And.intro hs3 hb3)))
  clear hi3 hz3 hs3 hb3
  obtain ⟨ba, oa, ca, rfl, _, hal, hac⟩ := ha
  obtain ⟨bb, ob, cb, rfl, _, hbl, hbc⟩ := hb
  have H := Lib.hid (And.intro hal (And.intro hac (And.intro hbl hbc)))
  clear hal hac hbl hbc
  go_enter Tryz.func110, Tryz.ntmps110
  go_wp2_with (at_make; refine mk1 rfl _ _ 27 3 rfl i3 (.int .i64 0) 8 Tryz.underlying27 I3.out.1 I3.out.2.1 I3.out.2.2.1 I3.out.2.2.2 rfl (by omega) w.heap.size n rfl rfl (by omega) (Nat.le_refl _) ?_; intro w1 hd hg hz1; have H1 := Lib.hid (And.intro hd (And.intro hg hz1)); clear hd hg hz1)
  go_loopw [13] (fun i wr => ∃ k : Nat, k ≤ n ∧ i = .int .i64 (k : Int) ∧ Own wr w.heap.size (.slice (some ⟨w.heap.size, 0, none⟩) n n) 3 (ints (upF n k fun i => y.at (x.at i))) ∧ Below w.heap.size w wr) (fun i _ => n - (intOf i).toNat)
  case atStart => exact ⟨0, by omega, rfl, by rw [upF_zero, ← ints_zero]; exact H1.out.1, (Below.refl _ w).grown H1.out.2.1 (Nat.le_refl _) (by simp)⟩
  case round =>
    obtain ⟨k, hk, rfl, ho, hb⟩ := hrel
    by_cases hkn : k < n
    · have c1 : wr.cell? ⟨ba, oa + k, none⟩ = some (.int .i64 (x.at k : Int)) := (hb.cell (p := ⟨ba, oa + k, none⟩) H.out.1).trans (H.out.2.1 k hkn)
      have c2 : wr.cell? ⟨bb, ob + x.at k, none⟩ = some (.int .i64 (y.at (x.at k) : Int)) := (hb.cell (p := ⟨bb, ob + x.at k, none⟩) H.out.2.2.1).trans (H.out.2.2.2 _ (x.lt hkn))
      have hp : x.at k < n := x.lt hkn
      have f1 := ho.frozen k
      have d1 := (ho.cell k (by rw [ints_len, upF_len]; exact hkn)).trans (ints_get (by rw [upF_len]; exact hkn))
      obtain ⟨p, hpe⟩ : ∃ p, x.at k = p := ⟨_, rfl⟩
      obtain ⟨q, hqe⟩ : ∃ q, y.at p = q := ⟨_, rfl⟩
      have HP := Lib.hid (And.intro ho (And.intro hb (And.intro hpe hqe)))
      rw [hpe] at c1 c2 hp
      rw [hqe] at c2
      clear ho hb hpe hqe
      go_wp2
      refine ⟨⟨k + 1, by omega, by go_num, ?_, ?_⟩, by simp [intOf]; omega⟩
      · have := HP.out.1.put k (.int .i64 (q : Int))
        rw [← HP.out.2.2.2, ← HP.out.2.2.1, ints_set, upF_set] at this
        rw [← HP.out.2.2.2, ← HP.out.2.2.1]
        exact this
      · exact HP.out.2.1.setCell (p := ⟨w.heap.size, k, none⟩) (Nat.le_refl _) _
    · obtain rfl : k = n := by omega
      have HP := Lib.hid (And.intro ho hb)
      clear ho hb
      go_wp2
      go_ret
      refine ⟨_, rfl, ?_, HP.out.2⟩
      exact NewPm.of_own HP.out.1 (Nat.le_refl _) (by rw [upF_all]; rfl)
set_option maxHeartbeats 400000 in
theorem mul121 {n : Nat} (hn : n ≤ 64) {x y : Pm n} {va vb : Value} {w : World} (ha : PmV w [] va x) (hb : PmV w [] vb y) :
    Calls Tryz.prog 121 #[va, vb] w fun e w' => ∃ v, e = .returned v ∧ NewPm w w' v (x.mul y) ∧ Below w.heap.size w w' := by
  obtain ⟨i3, hi3, hz3, hs3, hb3⟩ := info_parts Tryz.info3
  have I3 := Lib.hid (And.intro hi3 (And.intro hz3 (And.intro hs3 hb3)))
  clear hi3 hz3 hs3 hb3
  obtain ⟨ba, oa, ca, rfl, _, hal, hac⟩ := ha
  obtain ⟨bb, ob, cb, rfl, _, hbl, hbc⟩ := hb
  have H := Lib.hid (And.intro hal (And.intro hac (And.intro hbl hbc)))
  clear hal hac hbl hbc
  go_enter Tryz.func121, Tryz.ntmps121
  go_wp2_with (at_make; refine mk1 rfl _ _ 27 3 rfl i3 (.int .i64 0) 8 Tryz.underlying27 I3.out.1 I3.out.2.1 I3.out.2.2.1 I3.out.2.2.2 rfl (by omega) w.heap.size n rfl rfl (by omega) (Nat.le_refl _) ?_; intro w1 hd hg hz1; have H1 := Lib.hid (And.intro hd (And.intro hg hz1)); clear hd hg hz1)
  go_loopw [13] (fun i wr => ∃ k : Nat, k ≤ n ∧ i = .int .i64 (k : Int) ∧ Own wr w.heap.size (.slice (some ⟨w.heap.size, 0, none⟩) n n) 3 (ints (upF n k fun i => y.at (x.at i))) ∧ Below w.heap.size w wr) (fun i _ => n - (intOf i).toNat)
  case atStart => exact ⟨0, by omega, rfl, by rw [upF_zero, ← ints_zero]; exact H1.out.1, (Below.refl _ w).grown H1.out.2.1 (Nat.le_refl _) (by simp)⟩
  case round =>
    obtain ⟨k, hk, rfl, ho, hb⟩ := hrel
    by_cases hkn : k < n
    · have c1 : wr.cell? ⟨ba, oa + k, none⟩ = some (.int .i64 (x.at k : Int)) := (hb.cell (p := ⟨ba, oa + k, none⟩) H.out.1).trans (H.out.2.1 k hkn)
      have c2 : wr.cell? ⟨bb, ob + x.at k, none⟩ = some (.int .i64 (y.at (x.at k) : Int)) := (hb.cell (p := ⟨bb, ob + x.at k, none⟩) H.out.2.2.1).trans (H.out.2.2.2 _ (x.lt hkn))
      have hp : x.at k < n := x.lt hkn
      have f1 := ho.frozen k
      have d1 := (ho.cell k (by rw [ints_len, upF_len]; exact hkn)).trans (ints_get (by rw [upF_len]; exact hkn))
      obtain ⟨p, hpe⟩ : ∃ p, x.at k = p := ⟨_, rfl⟩
      obtain ⟨q, hqe⟩ : ∃ q, y.at p = q := ⟨_, rfl⟩
      have HP := Lib.hid (And.intro ho (And.intro hb (And.intro hpe hqe)))
      rw [hpe] at c1 c2 hp
      rw [hqe] at c2
      clear ho hb hpe hqe
      go_wp2
      refine ⟨⟨k + 1, by omega, by go_num, ?_, ?_⟩, by simp [intOf]; omega⟩
      · have := HP.out.1.put k (.int .i64 (q : Int))
        rw [← HP.out.2.2.2, ← HP.out.2.2.1, ints_set, upF_set] at this
        rw [← HP.out.2.2.2, ← HP.out.2.2.1]
        exact this
      · exact HP.out.2.1.setCell (p := ⟨w.heap.size, k, none⟩) (Nat.le_refl _) _
    · obtain rfl : k = n := by omega
      have HP := Lib.hid (And.intro ho hb)
      clear ho hb
      go_wp2
      go_ret
      refine ⟨_, rfl, ?_, HP.out.2⟩
      exact NewPm.of_own HP.out.1 (Nat.le_refl _) (by rw [upF_all]; rfl)
set_option maxHeartbeats 400000 in
theorem inv173 {n : Nat} (hn : n ≤ 64) {x : Pm n} {va : Value} {w : World} (ha : PmV w [] va x) :
    Calls Tryz.prog 173 #[va] w fun e w' => ∃ v, e = .returned v ∧ NewPm w w' v x.inv ∧ Below w.heap.size w w' := by
  obtain ⟨i3, hi3, hz3, hs3, hb3⟩ := info_parts Tryz.info3
  have I3 := Lib.hid (And.intro hi3 (And.intro hz3 (And.intro hs3 hb3)))
  clear hi3 hz3 hs3 hb3
  obtain ⟨ba, oa, ca, rfl, _, hal, hac⟩ := ha
  have H := Lib.hid (And.intro hal hac)
  clear hal hac
  go_enter Tryz.func173, Tryz.ntmps173
  go_wp2_with (at_make; refine mk1 rfl _ _ 27 3 rfl i3 (.int .i64 0) 8 Tryz.underlying27 I3.out.1 I3.out.2.1 I3.out.2.2.1 I3.out.2.2.2 rfl (by omega) w.heap.size n rfl rfl (by omega) (Nat.le_refl _) ?_; intro w1 hd hg hz1; have H1 := Lib.hid (And.intro hd (And.intro hg hz1)); clear hd hg hz1)
  go_loopw [11] (fun i wr => ∃ k : Nat, k ≤ n ∧ i = .int .i64 (k : Int) ∧ Own wr w.heap.size (.slice (some ⟨w.heap.size, 0, none⟩) n n) 3 (ints (upG x k)) ∧ Below w.heap.size w wr) (fun i _ => n - (intOf i).toNat)
  case atStart => exact ⟨0, by omega, rfl, by rw [upG_zero, ← ints_zero]; exact H1.out.1, (Below.refl _ w).grown H1.out.2.1 (Nat.le_refl _) (by simp)⟩
  case round =>
    obtain ⟨k, hk, rfl, ho, hb⟩ := hrel
    by_cases hkn : k < n
    · have c1 : wr.cell? ⟨ba, oa + k, none⟩ = some (.int .i64 (x.at k : Int)) := (hb.cell (p := ⟨ba, oa + k, none⟩) H.out.1).trans (H.out.2 k hkn)
      have hp : x.at k < n := x.lt hkn
      have f1 := ho.frozen (x.at k)
      have d1 := (ho.cell (x.at k) (by rw [ints_len, upG_len]; exact hp)).trans (ints_get (by rw [upG_len]; exact hp))
      obtain ⟨p, hpe⟩ : ∃ p, x.at k = p := ⟨_, rfl⟩
      have HP := Lib.hid (And.intro ho (And.intro hb hpe))
      rw [hpe] at c1 hp f1 d1
      clear ho hb hpe
      go_wp2
      refine ⟨⟨k + 1, by omega, by go_num, ?_, ?_⟩, by simp [intOf]; omega⟩
      · have := HP.out.1.put p (.int .i64 (k : Int))
        rw [← HP.out.2.2, ints_set, upG_set hkn] at this
        rw [← HP.out.2.2]
        exact this
      · exact HP.out.2.1.setCell (p := ⟨w.heap.size, p, none⟩) (Nat.le_refl _) _
    · obtain rfl : k = n := by omega
      have HP := Lib.hid (And.intro ho hb)
      clear ho hb
      go_wp2
      go_ret
      refine ⟨_, rfl, ?_, HP.out.2⟩
      exact NewPm.of_own HP.out.1 (Nat.le_refl _) upG_all
set_option maxHeartbeats 400000 in
theorem inv122 {n : Nat} (hn : n ≤ 64) {x : Pm n} {va : Value} {w : World} (ha : PmV w [] va x) :
    Calls Tryz.prog 122 #[va] w fun e w' => ∃ v, e = .returned v ∧ NewPm w w' v x.inv ∧ Below w.heap.size w w' := by
  obtain ⟨i3, hi3, hz3, hs3, hb3⟩ := info_parts Tryz.info3
  have I3 := Lib.hid (And.intro hi3 (And.intro hz3 (And.intro hs3 hb3)))
  clear hi3 hz3 hs3 hb3
  obtain ⟨ba, oa, ca, rfl, _, hal, hac⟩ := ha
  have H := Lib.hid (And.intro hal hac)
  clear hal hac
  go_enter Tryz.func122, Tryz.ntmps122
  go_wp2_with (at_make; refine mk1 rfl _ _ 27 3 rfl i3 (.int .i64 0) 8 Tryz.underlying27 I3.out.1 I3.out.2.1 I3.out.2.2.1 I3.out.2.2.2 rfl (by omega) w.heap.size n rfl rfl (by omega) (Nat.le_refl _) ?_; intro w1 hd hg hz1; have H1 := Lib.hid (And.intro hd (And.intro hg hz1)); clear hd hg hz1)
  go_loopw [11] (fun i wr => ∃ k : Nat, k ≤ n ∧ i = .int .i64 (k : Int) ∧ Own wr w.heap.size (.slice (some ⟨w.heap.size, 0, none⟩) n n) 3 (ints (upG x k)) ∧ Below w.heap.size w wr) (fun i _ => n - (intOf i).toNat)
  case atStart => exact ⟨0, by omega, rfl, by rw [upG_zero, ← ints_zero]; exact H1.out.1, (Below.refl _ w).grown H1.out.2.1 (Nat.le_refl _) (by simp)⟩
  case round =>
    obtain ⟨k, hk, rfl, ho, hb⟩ := hrel
    by_cases hkn : k < n
    · have c1 : wr.cell? ⟨ba, oa + k, none⟩ = some (.int .i64 (x.at k : Int)) := (hb.cell (p := ⟨ba, oa + k, none⟩) H.out.1).trans (H.out.2 k hkn)
      have hp : x.at k < n := x.lt hkn
      have f1 := ho.frozen (x.at k)
      have d1 := (ho.cell (x.at k) (by rw [ints_len, upG_len]; exact hp)).trans (ints_get (by rw [upG_len]; exact hp))
      obtain ⟨p, hpe⟩ : ∃ p, x.at k = p := ⟨_, rfl⟩
      have HP := Lib.hid (And.intro ho (And.intro hb hpe))
      rw [hpe] at c1 hp f1 d1
      clear ho hb hpe
      go_wp2
      refine ⟨⟨k + 1, by omega, by go_num, ?_, ?_⟩, by simp [intOf]; omega⟩
      · have := HP.out.1.put p (.int .i64 (k : Int))
        rw [← HP.out.2.2, ints_set, upG_set hkn] at this
        rw [← HP.out.2.2]
        exact this
      · exact HP.out.2.1.setCell (p := ⟨w.heap.size, p, none⟩) (Nat.le_refl _) _
    · obtain rfl : k = n := by omega
      have HP := Lib.hid (And.intro ho hb)
      clear ho hb
      go_wp2
      go_ret
      refine ⟨_, rfl, ?_, HP.out.2⟩
      exact NewPm.of_own HP.out.1 (Nat.le_refl _) upG_all
set_option maxHeartbeats 400000 in
theorem one156 {n : Nat} (hn : n ≤ 64) {w : World} :
    Calls Tryz.prog 156 #[.int .i64 (n : Int)] w fun e w' => ∃ v, e = .returned v ∧ NewPm w w' v (PlainPm.one n) ∧ Below w.heap.size w w' := by
  obtain ⟨i3, hi3, hz3, hs3, hb3⟩ := info_parts Tryz.info3
  have I3 := Lib.hid (And.intro hi3 (And.intro hz3 (And.intro hs3 hb3)))
  clear hi3 hz3 hs3 hb3
  go_enter Tryz.func156, Tryz.ntmps156
  go_wp2_with (at_make; refine mk1 rfl _ _ 27 3 rfl i3 (.int .i64 0) 8 Tryz.underlying27 I3.out.1 I3.out.2.1 I3.out.2.2.1 I3.out.2.2.2 rfl (by omega) w.heap.size n rfl rfl (by omega) (Nat.le_refl _) ?_; intro w1 hd hg hz1; have H1 := Lib.hid (And.intro hd (And.intro hg hz1)); clear hd hg hz1)
  go_loopw [9] (fun i wr => ∃ k : Nat, k ≤ n ∧ i = .int .i64 (k : Int) ∧ Own wr w.heap.size (.slice (some ⟨w.heap.size, 0, none⟩) n n) 3 (ints (upF n k fun i => i)) ∧ Below w.heap.size w wr) (fun i _ => n - (intOf i).toNat)
  case atStart => exact ⟨0, by omega, rfl, by rw [upF_zero, ← ints_zero]; exact H1.out.1, (Below.refl _ w).grown H1.out.2.1 (Nat.le_refl _) (by simp)⟩
  case round =>
    obtain ⟨k, hk, rfl, ho, hb⟩ := hrel
    by_cases hkn : k < n
    · have f1 := ho.frozen k
      have d1 := (ho.cell k (by rw [ints_len, upF_len]; exact hkn)).trans (ints_get (by rw [upF_len]; exact hkn))
      have HP := Lib.hid (And.intro ho hb)
      clear ho hb
      go_wp2
      refine ⟨⟨k + 1, by omega, by go_num, ?_, ?_⟩, by simp [intOf]; omega⟩
      · have := HP.out.1.put k (.int .i64 (k : Int))
        rw [ints_set] at this
        rw [← upF_set]
        exact this
      · exact HP.out.2.setCell (p := ⟨w.heap.size, k, none⟩) (Nat.le_refl _) _
    · obtain rfl : k = n := by omega
      have HP := Lib.hid (And.intro ho hb)
      clear ho hb
      go_wp2
      go_ret
      refine ⟨_, rfl, ?_, HP.out.2⟩
      exact NewPm.of_own HP.out.1 (Nat.le_refl _) (by rw [upF_all]; rfl)
set_option maxHeartbeats 400000 in
theorem one59 {n : Nat} (hn : n ≤ 64) {w : World} :
    Calls Tryz.prog 59 #[.int .i64 (n : Int)] w fun e w' => ∃ v, e = .returned v ∧ NewPm w w' v (PlainPm.one n) ∧ Below w.heap.size w w' := by
  obtain ⟨i3, hi3, hz3, hs3, hb3⟩ := info_parts Tryz.info3
  have I3 := Lib.hid (And.intro hi3 (And.intro hz3 (And.intro hs3 hb3)))
  clear hi3 hz3 hs3 hb3
  go_enter Tryz.func59, Tryz.ntmps59
  go_wp2_with (at_make; refine mk1 rfl _ _ 27 3 rfl i3 (.int .i64 0) 8 Tryz.underlying27 I3.out.1 I3.out.2.1 I3.out.2.2.1 I3.out.2.2.2 rfl (by omega) w.heap.size n rfl rfl (by omega) (Nat.le_refl _) ?_; intro w1 hd hg hz1; have H1 := Lib.hid (And.intro hd (And.intro hg hz1)); clear hd hg hz1)
  go_loopw [9] (fun i wr => ∃ k : Nat, k ≤ n ∧ i = .int .i64 (k : Int) ∧ Own wr w.heap.size (.slice (some ⟨w.heap.size, 0, none⟩) n n) 3 (ints (upF n k fun i => i)) ∧ Below w.heap.size w wr) (fun i _ => n - (intOf i).toNat)
  case atStart => exact ⟨0, by omega, rfl, by rw [upF_zero, ← ints_zero]; exact H1.out.1, (Below.refl _ w).grown H1.out.2.1 (Nat.le_refl _) (by simp)⟩
  case round =>
    obtain ⟨k, hk, rfl, ho, hb⟩ := hrel
    by_cases hkn : k < n
    · have f1 := ho.frozen k
      have d1 := (ho.cell k (by rw [ints_len, upF_len]; exact hkn)).trans (ints_get (by rw [upF_len]; exact hkn))
      have HP := Lib.hid (And.intro ho hb)
      clear ho hb
      go_wp2
      refine ⟨⟨k + 1, by omega, by go_num, ?_, ?_⟩, by simp [intOf]; omega⟩
      · have := HP.out.1.put k (.int .i64 (k : Int))
        rw [ints_set] at this
        rw [← upF_set]
        exact this
      · exact HP.out.2.setCell (p := ⟨w.heap.size, k, none⟩) (Nat.le_refl _) _
    · obtain rfl : k = n := by omega
      have HP := Lib.hid (And.intro ho hb)
      clear ho hb
      go_wp2
      go_ret
      refine ⟨_, rfl, ?_, HP.out.2⟩
      exact NewPm.of_own HP.out.1 (Nat.le_refl _) (by rw [upF_all]; rfl)
set_option maxHeartbeats 400000 in
theorem mul49 {n : Nat} (hn : n ≤ 64) (hn0 : 0 < n) {x y : Pm n} {va vb : Value} {w : World} (ha : PmV w [] va x) (hb : PmV w [] vb y) :
    Calls Tryz.prog 49 #[va, vb] w fun e w' => ∃ v, e = .returned v ∧ NewPm w w' v (x.mul y) ∧ Below w.heap.size w w' := by
  obtain ⟨i3, hi3, hz3, hs3, hb3⟩ := info_parts Tryz.info3
  have I3 := Lib.hid (And.intro hi3 (And.intro hz3 (And.intro hs3 hb3)))
  clear hi3 hz3 hs3 hb3
  obtain ⟨ba, oa, ca, rfl, _, hal, hac⟩ := ha
  obtain ⟨bb, ob, cb, rfl, _, hbl, hbc⟩ := hb
  have H := Lib.hid (And.intro hal (And.intro hac (And.intro hbl hbc)))
  clear hal hac hbl hbc
  go_enter Tryz.func49, Tryz.ntmps49
  go_wp2
  go_loopw [5, 6] (fun v i wr => ∃ k : Nat, k ≤ n ∧ i = .int .i64 (k : Int) ∧ Own wr w.heap.size v 3 (ints (ofF k fun i => y.at (x.at i))) ∧ Below w.heap.size w wr) (fun _ i _ => n - (intOf i).toNat)
  case atStart => exact ⟨0, by omega, rfl, Own.nil _ _ _, Below.refl _ _⟩
  case round =>
    obtain ⟨k, hk, rfl, ho, hb⟩ := hrel
    by_cases hkn : k < n
    · have c1 : wr.cell? ⟨ba, oa + k, none⟩ = some (.int .i64 (x.at k : Int)) := (hb.cell (p := ⟨ba, oa + k, none⟩) H.out.1).trans (H.out.2.1 k hkn)
      have c2 : wr.cell? ⟨bb, ob + x.at k, none⟩ = some (.int .i64 (y.at (x.at k) : Int)) := (hb.cell (p := ⟨bb, ob + x.at k, none⟩) H.out.2.2.1).trans (H.out.2.2.2 _ (x.lt hkn))
      have hp : x.at k < n := x.lt hkn
      have hsz : w.heap.size ≤ wr.heap.size := hb.size
      have hl : (ints (ofF k fun i => y.at (x.at i))).length < 1099511627776 := by rw [ints_len]; simp [ofF]; omega
      obtain ⟨p, hpe⟩ : ∃ p, x.at k = p := ⟨_, rfl⟩
      obtain ⟨q, hqe⟩ : ∃ q, y.at p = q := ⟨_, rfl⟩
      have HP := Lib.hid (And.intro ho (And.intro hb (And.intro hpe hqe)))
      rw [hpe] at c1 c2 hp
      rw [hqe] at c2
      clear ho hb hpe hqe
      go_wp2_with (at_builtin; refine app1 rfl (.tmp 13) (.tmp 21) 27 3 rfl i3 (.int .i64 0) 8 Tryz.underlying27 I3.out.1 I3.out.2.1 I3.out.2.2.1 I3.out.2.2.2 rfl (by omega) w.heap.size (.int .i64 (q : Int)) u5 (ints (ofF k fun i => y.at (x.at i))) rfl HP.out.1 rfl rfl hl hsz ?_; intro v8 w8 k1 k2 k3; have H8 := Lib.hid (And.intro k1 (HP.out.2.1.grown k2 hsz (fun g hg => (HP.out.1.block_lt hg).2))); clear k1 k2 k3)
      refine ⟨⟨k + 1, by omega, by go_num, ?_, H8.out.2⟩, by simp [intOf]; omega⟩
      have h8 := H8.out.1
      rw [ofF_succ, HP.out.2.2.1, HP.out.2.2.2]
      simpa [ints] using h8
    · obtain rfl : k = n := by omega
      have HP := Lib.hid (And.intro ho hb)
      clear ho hb
      go_wp2
      go_ret
      obtain ⟨g, c, rfl, hg1, hg2, hg3, hg4⟩ := HP.out.1.form (by rw [ints_len]; simp [ofF]; omega)
      refine ⟨_, rfl, ?_, HP.out.2⟩
      have h8 := HP.out.1
      have hl : (ints (ofF k fun i => y.at (x.at i))).length = k := by rw [ints_len]; simp [ofF]
      rw [hl] at h8 ⊢
      exact NewPm.of_own h8 (Nat.le_refl _) rfl
set_option maxHeartbeats 400000 in
theorem inv50 {n : Nat} (hn : n ≤ 64) {x : Pm n} {va : Value} {w : World} (ha : PmV w [] va x) :
    Calls Tryz.prog 50 #[va] w fun e w' => ∃ v, e = .returned v ∧ NewPm w w' v x.inv ∧ Below w.heap.size w w' := by
  obtain ⟨i3, hi3, hz3, hs3, hb3⟩ := info_parts Tryz.info3
  have I3 := Lib.hid (And.intro hi3 (And.intro hz3 (And.intro hs3 hb3)))
  clear hi3 hz3 hs3 hb3
  obtain ⟨ba, oa, ca, rfl, _, hal, hac⟩ := ha
  have H := Lib.hid (And.intro hal hac)
  clear hal hac
  go_enter Tryz.func50, Tryz.ntmps50
  go_wp2_with (at_make; refine mk1 rfl _ _ 27 3 rfl i3 (.int .i64 0) 8 Tryz.underlying27 I3.out.1 I3.out.2.1 I3.out.2.2.1 I3.out.2.2.2 rfl (by omega) w.heap.size n rfl rfl (by omega) (Nat.le_refl _) ?_; intro w1 hd hg hz1; have H1 := Lib.hid (And.intro hd (And.intro hg hz1)); clear hd hg hz1)
  go_loopw [4] (fun i wr => ∃ k : Nat, k ≤ n ∧ i = .int .i64 (k : Int) ∧ Own wr w.heap.size (.slice (some ⟨w.heap.size, 0, none⟩) n n) 3 (ints (upG x k)) ∧ Below w.heap.size w wr) (fun i _ => n - (intOf i).toNat)
  case atStart => exact ⟨0, by omega, rfl, by rw [upG_zero, ← ints_zero]; exact H1.out.1, (Below.refl _ w).grown H1.out.2.1 (Nat.le_refl _) (by simp)⟩
  case round =>
    obtain ⟨k, hk, rfl, ho, hb⟩ := hrel
    by_cases hkn : k < n
    · have c1 : wr.cell? ⟨ba, oa + k, none⟩ = some (.int .i64 (x.at k : Int)) := (hb.cell (p := ⟨ba, oa + k, none⟩) H.out.1).trans (H.out.2 k hkn)
      have hp : x.at k < n := x.lt hkn
      have f1 := ho.frozen (x.at k)
      have d1 := (ho.cell (x.at k) (by rw [ints_len, upG_len]; exact hp)).trans (ints_get (by rw [upG_len]; exact hp))
      obtain ⟨p, hpe⟩ : ∃ p, x.at k = p := ⟨_, rfl⟩
      have HP := Lib.hid (And.intro ho (And.intro hb hpe))
      rw [hpe] at c1 hp f1 d1
      clear ho hb hpe
      go_wp2
      refine ⟨⟨k + 1, by omega, by go_num, ?_, ?_⟩, by simp [intOf]; omega⟩
      · have := HP.out.1.put p (.int .i64 (k : Int))
        rw [← HP.out.2.2, ints_set, upG_set hkn] at this
        rw [← HP.out.2.2]
        exact this
      · exact HP.out.2.1.setCell (p := ⟨w.heap.size, p, none⟩) (Nat.le_refl _) _
    · obtain rfl : k = n := by omega
      have HP := Lib.hid (And.intro ho hb)
      clear ho hb
      go_wp2
      go_ret
      refine ⟨_, rfl, ?_, HP.out.2⟩
      exact NewPm.of_own HP.out.1 (Nat.le_refl _) upG_all
set_option maxHeartbeats 400000 in
theorem one65 {n : Nat} (hn : n ≤ 64) (hn0 : 0 < n) {w : World} :
    Calls Tryz.prog 65 #[.int .i64 (n : Int)] w fun e w' => ∃ v, e = .returned v ∧ NewPm w w' v (PlainPm.one n) ∧ Below w.heap.size w w' := by
  obtain ⟨i3, hi3, hz3, hs3, hb3⟩ := info_parts Tryz.info3
  have I3 := Lib.hid (And.intro hi3 (And.intro hz3 (And.intro hs3 hb3)))
  clear hi3 hz3 hs3 hb3
  go_enter Tryz.func65, Tryz.ntmps65
  go_wp2
  go_loopw [3, 4] (fun v i wr => ∃ k : Nat, k ≤ n ∧ i = .int .i64 (k : Int) ∧ Own wr w.heap.size v 3 (ints (ofF k fun i => i)) ∧ Below w.heap.size w wr) (fun _ i _ => n - (intOf i).toNat)
  case atStart => exact ⟨0, by omega, rfl, Own.nil _ _ _, Below.refl _ _⟩
  case round =>
    obtain ⟨k, hk, rfl, ho, hb⟩ := hrel
    by_cases hkn : k < n
    · have hsz : w.heap.size ≤ wr.heap.size := hb.size
      have hl : (ints (ofF k fun i => i)).length < 1099511627776 := by rw [ints_len]; simp [ofF]; omega
      have HP := Lib.hid (And.intro ho hb)
      clear ho hb
      go_wp2_with (at_builtin; refine app1 rfl (.tmp 10) (.tmp 12) 27 3 rfl i3 (.int .i64 0) 8 Tryz.underlying27 I3.out.1 I3.out.2.1 I3.out.2.2.1 I3.out.2.2.2 rfl (by omega) w.heap.size (.int .i64 (k : Int)) u3 (ints (ofF k fun i => i)) rfl HP.out.1 rfl rfl hl hsz ?_; intro v8 w8 k1 k2 k3; have H8 := Lib.hid (And.intro k1 (HP.out.2.grown k2 hsz (fun g hg => (HP.out.1.block_lt hg).2))); clear k1 k2 k3)
      refine ⟨⟨k + 1, by omega, by go_num, ?_, H8.out.2⟩, by simp [intOf]; omega⟩
      have h8 := H8.out.1
      rw [ofF_succ]
      simpa [ints] using h8
    · obtain rfl : k = n := by omega
      have HP := Lib.hid (And.intro ho hb)
      clear ho hb
      go_wp2
      go_ret
      obtain ⟨g, c, rfl, hg1, hg2, hg3, hg4⟩ := HP.out.1.form (by rw [ints_len]; simp [ofF]; omega)
      refine ⟨_, rfl, ?_, HP.out.2⟩
      have h8 := HP.out.1
      have hl : (ints (ofF k fun i => i)).length = k := by rw [ints_len]; simp [ofF]
      rw [hl] at h8 ⊢
      exact NewPm.of_own h8 (Nat.le_refl _) rfl
end Go.Proofs.YtbejhkojdiadaaaGreat
namespace Go.Proofs.YtbejhkojdiadaaaGreat
open Go.RowKit PlainPm
theorem below_drewN_self (w : World) (q : Nat) : Below w.heap.size w (w.drewN q) := ⟨rfl, rfl, rfl, Nat.le_refl _, fun _ _ => rfl⟩
theorem below_trans {a b c : World} (h : Below a.heap.size a b) (k : Below b.heap.size b c) : Below a.heap.size a c := h.trans (k.mono h.size)
theorem eql_nil27 (w : World) (a : Option Addr) (l c : Nat) : (binOp .eql 27 (.slice a l c) (.slice none 0 0)).run Tryz.prog w = .ok (.bool a.isNone) w := by
  simp [binOp, run_equal_slice_nil w 27 3 a l c Tryz.underlying27]
set_option maxRecDepth 100000 in
set_option maxHeartbeats 1000000 in
theorem sift_calls {n B t G i : Nat} {w : World} {M : List Nat} {T : Tw n} {F : Nat → Value} {x : Pm n} {vx : Value} (hT : TowW n B t G w M T F) (hx : PmV w M vx x) (hi : i ≤ n) :
    Calls Tryz.prog 157 #[.pointer (some ⟨t, 0, none⟩), vx, .int .i64 (i : Int)] w fun e w' => ∃ v, e = .returned (.tuple #[.int .i64 ((sft T (n - i) i x).1 : Int), v]) ∧ PmV w' M v (sft T (n - i) i x).2 ∧ Below w.heap.size w w' := by
  have hn := hT.hn.2
  have H := Lib.hid (And.intro hT hx)
  clear hT hx
  go_enter Tryz.func157, Tryz.ntmps157
  go_wp2_with fail
  go_loopw [1, 8] (fun v i' wr => ∃ (k : Nat) (x' : Pm n), k ≤ n ∧ i' = .int .i64 (k : Int) ∧ PmV wr M v x' ∧ Below w.heap.size w wr ∧ sft T (n - i) i x = sft T (n - k) k x') (fun _ i' _ => n - (intOf i').toNat)
  case atStart => exact ⟨i, x, hi, rfl, H.out.2, Below.refl _ _, rfl⟩
  case round =>
    obtain ⟨k, x', hk, rfl, hx', hb, hs⟩ := hrel
    have hT' := H.out.1.below hb
    have t0 := hT'.tb
    have t1 := hT'.tl
    by_cases hkn : k < n
    · have hbx := hT'.by_ hkn (p := x'.at k) (by have := x'.lt hkn; omega)
      have hcx := hT'.cell hkn (c := 66 + x'.at k) (by have := x'.lt hkn; omega)
      obtain ⟨p, hp⟩ : ∃ p, x'.at k = p := ⟨_, rfl⟩
      rw [hp] at hbx hcx
      have hpn : p < n := by rw [← hp]; exact x'.lt hkn
      obtain ⟨bx, ox, cx, rfl, hxm, hxl, hxc⟩ := id hx'
      have c1 := hxc k hkn
      rw [hp] at c1
      have HP := Lib.hid (And.intro hT' (And.intro hx' (And.intro hb (And.intro hs (And.intro hp hxm)))))
      clear hT' hx' hb hs hp hxc hxm
      obtain ⟨f, hf⟩ : ∃ f, F (194 * k + (66 + p)) = f := ⟨_, rfl⟩
      rw [hf] at hbx hcx
      clear hf
      have hk1 : (k : Int) < n := by omega
      have hp64 : (p : Int) < 64 := by omega
      rw [show 194 * k + (66 + p) = k * 194 + 66 + p by omega] at hcx
      go_wp2_with fail
      go_quiet (fail)
      have hst : sft T (n - k) k x' = match (T k).to p with
          | none => (k, x')
          | some y => sft T (n - (k + 1)) (k + 1) (if p = k then x' else x'.mul y.inv) := by
        rw [show n - k = n - (k + 1) + 1 by omega, sft, HP.out.2.2.2.2.1]
        cases (T k).to p <;> rfl
      cases hto : (T k).to p with
      | none =>
        rw [hto] at hbx hst
        have hfn : f = .slice none 0 0 := hbx
        subst hfn
        have he := eql_nil27 (wr.drewN nq) none 0 0
        have Hs := Lib.hid hst
        clear hst hto hbx
        go_wp2_with fail
        go_ret2
        rw [HP.out.2.2.2.1, Hs.out]
        exact ⟨_, rfl, HP.out.2.1, below_drewN HP.out.2.2.1 _⟩
      | some y =>
        rw [hto] at hbx hst
        have hbx : PmV wr M f y.inv := hbx
        have hbw := hbx.weak
        obtain ⟨bf, of', cf, rfl, _, _, _⟩ := id hbx
        have he := eql_nil27 (wr.drewN nq) (some ⟨bf, of', none⟩) n cf
        have Hs := Lib.hid (And.intro hst (And.intro hbx hbw))
        clear hst hto hbx hbw
        by_cases hpk : p = k
        · have hne : ((p : Int) != (k : Int)) = false := by simp [hpk]
          have hpk' := Lib.hid hpk
          clear hpk
          go_wp2_with fail
          refine ⟨⟨k + 1, x', by omega, by go_num, HP.out.2.1.drewN _, below_drewN HP.out.2.2.1 _, ?_⟩, by simp [intOf]; omega⟩
          rw [HP.out.2.2.2.1, Hs.out.1]
          try dsimp only
          rw [if_pos hpk'.out]
        · have hne : ((p : Int) != (k : Int)) = true := by simp; omega
          have hpk' := Lib.hid hpk
          clear hpk
          go_wp2_with (go_at_call 161; refine (mul161 hn (HP.out.2.1.weak.drewN nq) (Hs.out.2.2.drewN nq)).mono ?_; rintro e w4 ⟨v4, rfl, k4, k5⟩; have HM := Lib.hid (And.intro k4 k5); clear k4 k5)
          refine ⟨⟨k + 1, x'.mul y.inv, by omega, by go_num, ?_, ?_, ?_⟩, by simp [intOf]; omega⟩
          · exact HM.out.1.pm fun m hm => (HP.out.1.mb m hm).2
          · exact below_trans (below_drewN HP.out.2.2.1 nq) HM.out.2
          · rw [HP.out.2.2.2.1, Hs.out.1]
            try dsimp only
            rw [if_neg hpk'.out]
    · obtain rfl : k = n := by omega
      have HP := Lib.hid (And.intro hT' (And.intro hx' (And.intro hb hs)))
      clear hT' hx' hb hs
      go_wp2_with fail
      go_ret2
      rw [HP.out.2.2.2, Nat.sub_self]
      exact ⟨_, rfl, HP.out.2.1, HP.out.2.2.1⟩
end Go.Proofs.YtbejhkojdiadaaaGreat
namespace Go.Proofs.YtbejhkojdiadaaaGreat
open Go.RowKit PlainPm
theorem Own.below {w w' : World} {B : Nat} {v : Value} {e : TypeId} {xs : List Value} (h : Own w B v e xs) (hb : Below w.heap.size w w') : Own w' B v e xs := ownsRow_block h fun g hg => hb.block g (h.block_lt hg).1
theorem step_app1 {w : World} {ops : Array Oper} {o : Oper} {a : Act} {K : Act → World → Prop} {Q : Exit → Act → World → Prop} {E : Prop} (hgd : o.guard = none) (s x : Operand) (T e : TypeId)
    (ho : o.op = .call { callee := .builtin .append, args := #[s, x], argTypes := #[T, T] })
    (i : TypeInfo) (z : Value) (bytes : Nat) (ht : Tryz.prog.underlying T = some (.slice e)) (hi : Tryz.prog.info? e = some i) (hz : i.zero = some z) (hs1 : i.size = 1) (hby : i.bytes = bytes) (hzs : z.cells.size = 1) (hb64 : bytes ≤ 64)
    (B : Nat) (u v : Value) (xs : List Value) (hs : a.eval s = v) (Wb : World) (h : Own Wb B v e xs) (hb : Below Wb.heap.size Wb w) (hx : ∃ ad, a.eval x = .slice (some ad) 1 1 ∧ w.cell? ad = some u) (h1 : u.oneCell' = true) (hl : xs.length < 1000000) (hB : B ≤ Wb.heap.size)
    (hK : ∀ v' w', Own w' B v' e (xs ++ [u]) → Wb.grownBy w' v.ownBlock → w.grownBy w' v.ownBlock → (v'.ownBlock = v.ownBlock ∨ ∃ g, v'.ownBlock = some g ∧ Wb.heap.size ≤ g) → K (a.put o.dst v') w') :
    if Region.wanted o (yielded ops a.tmps) = true then Oper.wp Tryz.prog o a w K Q else E := by
  have hw : Region.wanted o (yielded ops a.tmps) = true := by simp [Region.wanted, hgd]
  rw [if_pos hw]
  obtain ⟨ad, hx, hn⟩ := hx
  have hown : w.ownsRow B e 1 v xs.length xs := h.below hb
  obtain ⟨v', w', hr, h2, h3, _, h5⟩ := run_append_own_at (P := Tryz.prog) w B T o.type e i z 1 bytes ht hi hz hs1 hby hzs (by omega) v xs.length xs hown ad 1 1 [u] rfl (by
    intro j y hj
    match j, hj with
    | 0, hj => simp at hj; subst hj; simpa [Addr.add] using hn) (by intro y hy; rw [List.mem_singleton.1 hy]; exact h1) (by unfold maxLen; omega) (Nat.le_trans (Nat.mul_le_mul_left _ hb64) (by omega)) (Nat.le_trans hB hb.size)
  unfold Oper.wp execOp
  simp only [ho, resolve, invoke, builtin, Sem.run_bind, Sem.run_pure, Result.andThen_ok, List.map_toArray, List.map_cons, List.map_nil, hs, hx, hr]
  refine hK v' w' (by unfold Own; rw [List.length_append]; exact h2) ((grown_below hb _).trans h3) h3 ?_
  rcases h5 with h5 | h5
  · exact .inl h5
  · exact .inr ⟨_, h5, hb.size⟩
theorem below_drw {B : Nat} {a w : World} (h : Below B a w) : Below B a w.drew := ⟨h.os, h.tape, h.output, h.size, h.block⟩
theorem alloc_b {B : Nat} {a w : World} (h : Below B a w) (o : Obj) (hB : B ≤ a.heap.size := by first | exact Nat.le_refl _ | assumption | omega) : Below B a (w.alloc o) := h.alloc (Nat.le_trans hB h.size) o
theorem Tryz.info27 : (Tryz.prog.info? 27).map (fun i => (i.zero, i.size, i.bytes)) = some (some (.slice none 0 0), 1, 24) := by kernel_rfl
def AddC (n B t G i : Nat) : Prop := ∀ (w : World) (M : List Nat) (T : Tw n) (F : Nat → Value) (x : Pm n) (vx : Value), TowW n B t G w M T F → AddPre T x i → (∀ j, (T j).gens.length ≤ many T + i) → PmV w M vx x →
  Calls Tryz.prog 144 #[.pointer (some ⟨t, 0, none⟩), vx, .int .i64 (i : Int)] w fun e w' => e = .returned (.tuple #[]) ∧ ∃ M' T' F', TowW n B t G w' M' T' F' ∧ AddPost T x i T' ∧ Stp w M w' M'
def CloseC (n B t G k : Nat) : Prop := ∀ (w : World) (M : List Nat) (T : Tw n) (F : Nat → Value), TowW n B t G w M T F → ClosePre T k → (∀ j, (T j).gens.length ≤ many T + (k + 1)) →
  Calls Tryz.prog 158 #[.pointer (some ⟨t, 0, none⟩), .int .i64 (k : Int)] w fun e w' => e = .returned (.tuple #[]) ∧ ∃ M' T' F', TowW n B t G w' M' T' F' ∧ CloseR T k T' ∧ DoneL T' k ∧ Stp w M w' M'
def addUp {n : Nat} (T : Tw n) (i k : Nat) (r : Pm n) : Tw n := fun j => if i ≤ j ∧ j < k then addGen (T j) r else T j
theorem addUp_start {n : Nat} (T : Tw n) (i : Nat) (r : Pm n) : addUp T i i r = T := funext fun j => if_neg (by omega)
theorem addUp_end {n : Nat} (T : Tw n) (i a : Nat) (r : Pm n) : addUp T i (a + 1) r = addTo T i a r := funext fun j => by
  unfold addUp addTo
  by_cases h : i ≤ j ∧ j ≤ a
  · rw [if_pos h, if_pos (by omega)]
  · rw [if_neg h, if_neg (by omega)]
theorem addUp_at {n : Nat} (T : Tw n) (i k : Nat) (r : Pm n) : addUp T i k r k = T k := if_neg (by omega)
theorem addUp_step {n : Nat} (T : Tw n) {i k : Nat} (r : Pm n) (h : i ≤ k) : updL (addUp T i k r) k (addGen (T k) r) = addUp T i (k + 1) r := funext fun j => by
  by_cases e : j = k
  · subst e; rw [updL_at]; exact (if_pos ⟨h, by omega⟩).symm
  · rw [updL_ne _ _ e]
    unfold addUp
    by_cases h2 : i ≤ j ∧ j < k
    · rw [if_pos h2, if_pos (by omega)]
    · rw [if_neg h2, if_neg (by omega)]
theorem PmV.form {n : Nat} {w : World} {M : List Nat} {v : Value} {x : Pm n} (h : PmV w M v x) : ∃ b o c, v = .slice (some ⟨b, o, none⟩) n c := by
  obtain ⟨b, o, c, rfl, _⟩ := h; exact ⟨b, o, c, rfl⟩
theorem fld_addGen {n : Nat} {l : Lv n} {r : Pm n} {c : Nat} (hc : c ≠ 0) : fld (addGen l r) c = fld l c := by
  unfold fld addGen
  rw [if_neg hc, if_neg hc]
theorem TowW.gB {n B t G : Nat} {w : World} {M : List Nat} {T : Tw n} {F : Nat → Value} (h : TowW n B t G w M T F) : B ≤ w.heap.size := by
  have h1 := (h.mb G h.gm); omega
theorem TowW.appG {n B t G i g cap : Nat} {w w6 : World} {M : List Nat} {T : Tw n} {F : Nat → Value} {r : Pm n} {vr : Value} {gs : List Value} (h : TowW n B t G w M T F) (hi : i < n) (hr : PmV w M vr r) (hgs : PmL w M gs (T i).gens)
    (hg : w.grownBy w6 (F (194 * i)).ownBlock) (hnew : (Value.slice (some ⟨g, 0, none⟩) (gs.length + 1) cap).ownBlock = (F (194 * i)).ownBlock ∨ ∃ b, (Value.slice (some ⟨g, 0, none⟩) (gs.length + 1) cap).ownBlock = some b ∧ w.heap.size ≤ b)
    (hown : Own w6 B (.slice (some ⟨g, 0, none⟩) (gs.length + 1) cap) 27 (gs ++ [vr])) :
    TowW n B t G (w6.setCell ⟨G, i * 194, none⟩ (.slice (some ⟨g, 0, none⟩) (gs.length + 1) cap)) (g :: M) (updL T i (addGen (T i) r)) (fun k => if k = 194 * i + 0 then .slice (some ⟨g, 0, none⟩) (gs.length + 1) cap else F k) ∧
    Stp w M (w6.setCell ⟨G, i * 194, none⟩ (.slice (some ⟨g, 0, none⟩) (gs.length + 1) cap)) (g :: M) := by
  have := h.app (i := i) (c0 := 0) (g := g) (cap := cap) (m := gs.length + 1) (l := addGen (T i) r) (w6 := w6) h.gB hi (by omega) (fun c _ hc => fld_addGen hc) hg (by
    rcases hnew with e | ⟨b, e, e2⟩
    · exact .inl e.symm
    · cases e; exact .inr e2) (hown.block_lt rfl).1 (fun w7 M7 k hb => by
      unfold CellOk fld addGen
      exact ⟨_, ownsRow_block hown (fun b e => by cases e; exact hb), (hgs.snoc hr).stp k⟩)
  rw [show 194 * i + 0 = i * 194 by omega] at this
  rw [show 194 * i + 0 = i * 194 by omega]
  exact this
theorem many_le {n : Nat} {T : Tw n} (h : Wf T) : many T ≤ n * n := by
  have key : ∀ m, m ≤ n → ((List.range m).map fun j => (T j).orb.length).sum ≤ m * n := by
    intro m
    induction m with
    | zero => intro _; simp
    | succ m ih =>
      intro hm
      have w := h m (by omega)
      have := ih (by omega)
      have hl : (T m).orb.length ≤ n := by
        have := sub_len (l := (T m).orb) (m := List.range n) w.nd (fun p hp => by
          obtain ⟨z, hz⟩ := Option.isSome_iff_exists.1 ((w.orb p).1 hp)
          exact List.mem_range.2 (w.img p z hz).1)
        simpa using this
      rw [List.range_succ, List.map_append, List.sum_append, Nat.add_mul]
      simp; omega
  exact key n (Nat.le_refl _)
theorem addR_short {n : Nat} {T T' : Tw n} {x r : Pm n} {i a k : Nat} (h : AddR T x i a r (k + 1) T') (hlen : ∀ j, (T j).gens.length ≤ many T + i) (hik : i ≤ k) (hka : k ≤ a) : ∀ j, (T' j).gens.length ≤ many T' + (k + 1) := fun j => by
  by_cases e : k + 1 ≤ a
  · have h1 := h.pot e j
    have h2 := hlen j
    omega
  · have h1 := h.first (by omega)
    have h2 := hlen j
    rw [h1, addTo_many]
    unfold addTo
    split
    · simp [addGen]; omega
    · omega
set_option maxRecDepth 100000 in
set_option maxHeartbeats 4000000 in
theorem add_of_close {n B t G i : Nat} (hi : i < n) (hC : ∀ k, i ≤ k → k < n → CloseC n B t G k) : AddC n B t G i := by
  intro w M T F x vx hT hA hlen hx
  obtain ⟨i27, hi27, hz27, hs27, hb27⟩ := info_parts Tryz.info27
  have I := Lib.hid (And.intro hi27 (And.intro hz27 (And.intro hs27 hb27)))
  clear hi27 hz27 hs27 hb27
  have hn := hT.hn.2
  have HS := Lib.hid (sift_calls hT hx (Nat.le_of_lt hi))
  obtain ⟨a, ha⟩ : ∃ a, (sft T (n - i) i x).1 = a := ⟨_, rfl⟩
  obtain ⟨r, hr⟩ : ∃ r, (sft T (n - i) i x).2 = r := ⟨_, rfl⟩
  rw [ha, hr] at HS
  have hs : sft T (n - i) i x = (a, r) := by rw [← ha, ← hr]
  obtain ⟨s1, s2, _⟩ := sft_spec (f := n - i) hA.inv.wf (by omega) hA.fx
  rw [hs] at s1 s2
  dsimp only at s1 s2
  have H := Lib.hid (And.intro hT (And.intro hA (And.intro hlen (And.intro hx hs))))
  clear hT hA hlen hx hs ha hr
  by_cases han : a = n
  · have hA := Lib.hid han
    have hd : ((a : Int) == (n : Int)) = true := by simp [han]
    clear han
    go_enter Tryz.func144, Tryz.ntmps144
    go_wp2_with (go_at_call 157; refine HS.out.mono ?_; rintro e w1 ⟨v1, rfl, k1, k2⟩; have H1 := Lib.hid (And.intro k1 k2); have c0 := (H.out.1.below k2).tb; clear k1 k2)
    refine bodyPost_ret (results_none rfl _ _ _) rfl ?_
    refine ⟨rfl, M, T, F, H.out.1.below H1.out.2, ?_, Stp.below H1.out.2⟩
    exact AddPost.none H.out.2.1 (Nat.le_of_lt hi) (by rw [H.out.2.2.2.2, hA.out])
  · have hd : ((a : Int) == (n : Int)) = false := by simp; omega
    go_enter Tryz.func144, Tryz.ntmps144
    go_wp2_with (go_at_call 157; refine HS.out.mono ?_; rintro e w1 ⟨v1, rfl, k1, k2⟩; obtain ⟨rb, ro, rc, rfl⟩ := k1.form; have H1 := Lib.hid (And.intro k1 k2); have c0 := (H.out.1.below k2).tb; clear k1 k2)
    have hT1 := H.out.1.below H1.out.2
    have HT1 := Lib.hid hT1
    clear hT1
    go_loopw [8] (fun i' wr => ∃ (k : Nat) (M' : List Nat) (F' : Nat → Value), i ≤ k ∧ k ≤ a + 1 ∧ i' = .int .i64 (k : Int) ∧ TowW n B t G wr M' (addUp T i k r) F' ∧ Stp w1 M wr M') (fun i' _ => a + 1 - (intOf i').toNat)
    case atStart => exact ⟨i, M, F, Nat.le_refl _, by omega, rfl, by rw [addUp_start]; exact HT1.out, Stp.refl _ _⟩
    case round =>
      obtain ⟨k, M', F', hik, hka, rfl, hT', hS⟩ := hrel
      by_cases hk : k ≤ a
      · have hkn : k < n := by omega
        have t1 := hT'.tl
        have g0 := hT'.cell (c := 0) hkn (by omega)
        have hvr := H1.out.1.stp hS
        obtain ⟨gs, hgs, hpl⟩ := hT'.gens_ hkn
        have f0 := hT'.row.frozen (k * 194)
        rw [show 194 * k + 0 = k * 194 by omega] at g0
        obtain ⟨gv, hgv⟩ : ∃ gv, F' (194 * k) = gv := ⟨_, rfl⟩
        rw [show k * 194 = 194 * k by omega, hgv] at g0
        rw [show 194 * k = k * 194 by omega] at g0
        rw [hgv] at hgs
        have hgl : gs.length < 1000000 := by
          have h1 := hpl.1
          rw [addUp_at] at h1
          have h2 := H.out.2.2.1 k
          have h3 := many_le H.out.2.1.inv.wf
          have h4 : n * n ≤ 64 * 64 := Nat.mul_le_mul hn hn
          omega
        have hGt : G ≠ t := fun e => hT'.tm.1 (e ▸ hT'.gm)
        have hGw := hT'.row.lt
        have hB := hT'.gB
        have HP := Lib.hid (And.intro hT' (And.intro hS (And.intro hvr (And.intro hgs (And.intro hpl hgv)))))
        clear hT' hS hvr hgs hpl hgv c0
        have hk1 : (k : Int) < n := by omega
        have hrt : gv.ownBlock ≠ some t := fun e => HP.out.1.tm.1 (HP.out.1.blk k 0 hkn (by omega) t (by rw [Nat.add_zero, HP.out.2.2.2.2.2]; exact e)).1
        have hrG : gv.ownBlock ≠ some G := fun e => (HP.out.1.blk k 0 hkn (by omega) G (by rw [Nat.add_zero, HP.out.2.2.2.2.2]; exact e)).2 rfl
        obtain ⟨row, hrow⟩ : ∃ row, gv.ownBlock = row := ⟨_, rfl⟩
        have Hrow := Lib.hid hrow
        rw [hrow] at hrt hrG
        clear hrow
        go_upto_region 5 with (fail)
        have lt1 : t < wr.heap.size := HP.out.1.tm.2
        have nt1 : t ≠ wr.heap.size := by omega
        have nG1 : G ≠ wr.heap.size := by omega
        go_region_law
          (first
            | (refine step_app1 ?_ (.tmp 41) (.tmp 43) 44 27 ?_ i27 (.slice none 0 0) 24 Tryz.underlying44 I.out.1 I.out.2.1 I.out.2.2.1 I.out.2.2.2 ?_ ?_ B (.slice (some ⟨rb, ro, none⟩) n rc) gv gs ?_ wr HP.out.2.2.2.1 ?_ ?_ ?_ hgl hB ?_
               rfl
               rfl
               rfl
               omega
               rfl
               (repeat (first | exact Below.refl _ _ | exact below_self_drewN _ _ | refine alloc_b ?_ _ | refine below_drw ?_ | refine below_drewN ?_ _))
               exact ⟨_, rfl, by simp⟩
               rfl
               intro v8 w8 k1 k2 k3 k4
               obtain ⟨G8, cap8, rfl, -⟩ := k1.form (by simp)
               simp only [List.length_append, List.length_singleton] at k1 k4
               rw [Hrow.out] at k3
               have f8 : w8.frozen? ⟨G, k * 194, none⟩ = false := (World.frozen?_of_block (w := wr) (a := ⟨G, k * 194, none⟩) (k2.block G hGw (fun e => hrG (by rw [← Hrow.out]; exact e.symm)))).trans f0
               have t8 : w8.cell? ⟨t, 1, none⟩ = some (.slice (some ⟨G, 0, none⟩) n n) := (World.cell?_of_block (w := wr) (a := ⟨t, 1, none⟩) (k2.block t lt1 (fun e => hrt (by rw [← Hrow.out]; exact e.symm)))).trans t1
               have c8 : w8.cell? ⟨G, k * 194, none⟩ = some gv := (World.cell?_of_block (w := wr) (a := ⟨G, k * 194, none⟩) (k2.block G hGw (fun e => hrG (by rw [← Hrow.out]; exact e.symm)))).trans g0
               have H8 := Lib.hid (And.intro k1 (And.intro k2 k4))
               clear k1 k2 k4))
        all_goals
          go_wp2
          have hT1 : PmL wr M' gs (addUp T i k r k).gens := HP.out.2.2.2.2.1
          have hq := HP.out.1.appG hkn HP.out.2.2.1 hT1 (by rw [HP.out.2.2.2.2.2]; exact H8.out.2.1) (by rw [HP.out.2.2.2.2.2]; exact H8.out.2.2) H8.out.1
          rw [addUp_at, addUp_step T r hik] at hq
          exact ⟨⟨k + 1, _, _, by omega, by omega, by go_num, hq.1, HP.out.2.1.trans hq.2⟩, by simp [intOf]; omega⟩
      · have hka1 : k = a + 1 := by omega
        have hnk : decide ((k : Int) ≤ (a : Int)) = false := by simp; omega
        rw [hka1, addUp_end] at hT'
        have HP := Lib.hid (And.intro hT' hS)
        clear hT' hS hik hka hka1 hk
        generalize hkk : (k : Int) = kk at *
        clear hkk k
        go_wp2_with fail
        go_loopw [9] (fun i' wi => ∃ (k : Nat) (M' : List Nat) (T' : Tw n) (F' : Nat → Value), i ≤ k ∧ k ≤ a + 1 ∧ i' = .int .i64 ((k : Int) - 1) ∧ TowW n B t G wi M' T' F' ∧ AddR T x i a r k T' ∧ Stp w1 M wi M') (fun i' _ => (intOf i' + 1).toNat)
        case atStart => exact ⟨a + 1, M', _, F', by omega, by omega, by go_num, HP.out.1, AddR.start H.out.2.1 (Nat.le_of_lt hi) H.out.2.2.2.2 (by omega), HP.out.2⟩
        case round =>
          obtain ⟨k, M2, T2, F2, hik2, hka2, rfl, hT2, hA2, hS2⟩ := hrel
          by_cases hk : i < k
          · obtain ⟨k, rfl⟩ : ∃ k', k = k' + 1 := ⟨k - 1, by omega⟩
            have hcl := hC k (by omega) (by omega) wr M2 T2 F2 hT2 (hA2.pre (by omega)) (addR_short hA2 H.out.2.2.1 (by omega) (by omega))
            have hz : ((k + 1 : Nat) : Int) - 1 = (k : Int) := by omega
            have HP2 := Lib.hid (And.intro hA2 (And.intro hS2 hcl))
            clear hT2 hA2 hS2 hcl
            have hge : (i : Int) ≤ (k : Int) := by omega
            rw [hz]
            go_wp2_with (go_at_call 158; refine HP2.out.2.2.mono ?_; rintro e w4 ⟨rfl, M3, T3, F3, k1, k2, k3, k4⟩; have H4 := Lib.hid (And.intro k1 (And.intro k2 (And.intro k3 k4))); clear k1 k2 k3 k4)
            refine ⟨⟨k, M3, T3, F3, by omega, by omega, by go_num, H4.out.1, HP2.out.1.step H.out.2.1 (Nat.le_of_lt hi) H.out.2.2.2.2 (by omega) (by omega) (by omega) H4.out.2.1 H4.out.2.2.1, HP2.out.2.1.trans H4.out.2.2.2⟩, by simp [intOf]⟩
          · obtain rfl : k = i := by omega
            have HP2 := Lib.hid (And.intro hT2 (And.intro hA2 hS2))
            clear hT2 hA2 hS2
            have hge : ¬ ((k : Int) ≤ (k : Int) - 1) := by omega
            go_wp2_with fail
            first | go_end0 | refine bodyPost_ret (results_none rfl _ _ _) rfl ?_
            exact ⟨rfl, M2, T2, ⟨F2, HP2.out.1⟩, HP2.out.2.1.finish H.out.2.1 (Nat.le_of_lt hi) H.out.2.2.2.2 (by omega), (Stp.below H1.out.2).trans HP2.out.2.2⟩
end Go.Proofs.YtbejhkojdiadaaaGreat
