/- Products, inverses and the identity: what the program's and the references' functions hand back. -/
import Derived.Test.YtbejhkojdiadaaaGreatProg
import Derived.Test.YtbejhkojdiadaaaGreatChainTow
set_option linter.unusedSimpArgs false
set_option linter.unusedVariables false
namespace Go.Proofs.YtbejhkojdiadaaaGreat
open Go.RowKit PlainPm
theorem Tryz.info3 : (Tryz.prog.info? 3).map (fun i => (i.zero, i.size, i.bytes)) = some (some (.int .i64 0), 1, 8) := by kernel_rfl
theorem cell_set_same {w : World} {p : Addr} {u v : Value} (h : w.cell? p = some u) : (w.setCell p v).cell? p = some v := World.cell?_setCell_same _ _ _ h
theorem cell_set_other {w : World} {p r : Addr} {v : Value} (h : p ≠ r) : (w.setCell p v).cell? r = w.cell? r := World.cell?_setCell_other _ _ _ _ h
/-- The first k places of a list are given. -/
def upF (n k : Nat) (f : Nat → Nat) : List Int := (List.range n).map fun i => if i < k then (f i : Int) else 0
theorem upF_zero (n : Nat) (f : Nat → Nat) : upF n 0 f = List.replicate n 0 := by
  apply List.ext_getElem? ; intro i
  unfold upF
  rw [List.getElem?_map, List.getElem?_replicate]
  by_cases hi : i < n
  · rw [List.getElem?_range hi, if_pos hi]; rfl
  · rw [List.getElem?_eq_none (by simp; omega), if_neg hi]; rfl
theorem upF_len (n k : Nat) (f : Nat → Nat) : (upF n k f).length = n := by simp [upF]
theorem upF_set {n k : Nat} {f : Nat → Nat} : (upF n k f).set k (f k : Int) = upF n (k + 1) f := by
  apply List.ext_getElem? ; intro i
  rw [List.getElem?_set]
  unfold upF
  by_cases hi : i < n
  · rw [List.getElem?_map, List.getElem?_range hi, List.getElem?_map, List.getElem?_range hi]
    by_cases e : k = i
    · subst e; simp [hi]
    · simp only [e, if_false, Option.map_some]
      by_cases h2 : i < k
      · rw [if_pos h2, if_pos (by omega)]
      · rw [if_neg h2, if_neg (by omega)]
  · rw [List.getElem?_eq_none (by simp; omega)]
    by_cases e : k = i
    · subst e; simp [hi]
    · simp [e, hi]
theorem upF_all {n : Nat} {f : Nat → Nat} : upF n n f = ofF n f := by
  unfold upF ofF
  apply List.map_congr_left
  intro i hi
  rw [if_pos (by simpa using hi)]
theorem ofF_succ {k : Nat} {f : Nat → Nat} : ofF (k + 1) f = ofF k f ++ [(f k : Int)] := by
  unfold ofF; rw [List.range_succ, List.map_append]; rfl
/-- The places of the inverse that the first k points give. -/
def upG {n : Nat} (x : Pm n) (k : Nat) : List Int := (List.range n).map fun j => if x.inv.at j < k then (x.inv.at j : Int) else 0
theorem upG_len {n : Nat} (x : Pm n) (k : Nat) : (upG x k).length = n := by simp [upG]
theorem upG_zero {n : Nat} (x : Pm n) : upG x 0 = List.replicate n 0 := by
  apply List.ext_getElem? ; intro i
  unfold upG
  rw [List.getElem?_map, List.getElem?_replicate]
  by_cases hi : i < n
  · rw [List.getElem?_range hi, if_pos hi]; rfl
  · rw [List.getElem?_eq_none (by simp; omega), if_neg hi]; rfl
theorem upG_set {n k : Nat} {x : Pm n} (hk : k < n) : (upG x k).set (x.at k) (k : Int) = upG x (k + 1) := by
  apply List.ext_getElem? ; intro i
  rw [List.getElem?_set]
  unfold upG
  by_cases hi : i < n
  · rw [List.getElem?_map, List.getElem?_range hi, List.getElem?_map, List.getElem?_range hi]
    by_cases e : x.at k = i
    · subst e
      have := x.inv_of hk
      simp [hi, this]
    · have hne : x.inv.at i ≠ k := fun h => by
        have := (x.inv_at hi).2
        rw [h] at this; exact e this
      simp only [e, if_false, Option.map_some]
      by_cases h2 : x.inv.at i < k
      · rw [if_pos h2, if_pos (by omega)]
      · rw [if_neg h2, if_neg (by omega)]
  · rw [List.getElem?_eq_none (by simp; omega)]
    by_cases e : x.at k = i
    · subst e; exact absurd (x.lt hk) hi
    · simp [e, hi]
theorem upG_all {n : Nat} {x : Pm n} : upG x n = x.inv.l := by
  apply List.ext_getElem? ; intro i
  unfold upG
  by_cases hi : i < n
  · rw [List.getElem?_map, List.getElem?_range hi, x.inv.get hi]
    simp only [Option.map_some]
    rw [if_pos (x.inv.lt hi)]
  · rw [List.getElem?_eq_none (by simp; omega), List.getElem?_eq_none (by have := x.inv.ok.1; omega)]
set_option maxHeartbeats 400000 in
theorem mul161 {n : Nat} (hn : n ≤ 64) {x y : Pm n} {va vb : Value} {w : World} (ha : PmV w [] va x) (hb : PmV w [] vb y) :
    Calls Tryz.prog 161 #[va, vb] w fun e w' => ∃ v, e = .returned v ∧ NewPm w w' v (x.mul y) ∧ Below w.heap.size w w' := by
  obtain ⟨i3, hi3, hz3, hs3, hb3⟩ := info_parts Tryz.info3
  have I3 := Lib.hid (And.intro hi3 (And.intro hz3 (And.intro hs3 hb3)))
  clear hi3 hz3 hs3 hb3
  obtain ⟨ba, oa, ca, rfl, _, hal, hac⟩ := ha
  obtain ⟨bb, ob, cb, rfl, _, hbl, hbc⟩ := hb
  have H := Lib.hid (And.intro hal (And.intro hac (And.intro hbl hbc)))
  clear hal hac hbl hbc
  go_enter Tryz.func161, Tryz.ntmps161
  go_wp2_with (at_make; refine mk1 rfl _ _ 27 3 rfl i3 (.int .i64 0) 8 Tryz.underlying27 I3.out.1 I3.out.2.1 I3.out.2.2.1 I3.out.2.2.2 rfl (by omega) w.heap.size n rfl rfl (by omega) (Nat.le_refl _) ?_; intro w1 hd hg hz1; have H1 := Lib.hid (And.intro hd (And.intro hg hz1)); clear hd hg hz1)
  go_loopw [13] (fun i wr => ∃ k : Nat, k ≤ n ∧ i = .int .i64 (k : Int) ∧ Own wr w.heap.size (.slice (some ⟨w.heap.size, 0, none⟩) n n) 3 (ints (upF n k fun i => y.at (x.at i))) ∧ Below w.heap.size w wr) (fun i _ => n - (intOf i).toNat)
  case atStart => exact ⟨0, by omega, rfl, by rw [upF_zero, ← ints_zero]; exact H1.out.1, (Below.refl _ w).grown H1.out.2.1 (Nat.le_refl _) (by simp)⟩
  case round =>
    obtain ⟨k, hk, rfl, ho, hb⟩ := hrel
    by_cases hkn : k < n
    · have c1 : wr.cell? ⟨ba, oa + k, none⟩ = some (.int .i64 (x.at k : Int)) := (hb.cell (p := ⟨ba, oa + k, none⟩) H.out.1).trans (H.out.2.1 k hkn)
      have c2 : wr.cell? ⟨bb, ob + x.at k, none⟩ = some (.int .i64 (y.at (x.at k) : Int)) := (hb.cell (p := ⟨bb, ob + x.at k, none⟩) H.out.2.2.1).trans (H.out.2.2.2 _ (x.lt hkn))
      have hp : x.at k < n := x.lt hkn
      have f1 := ho.frozen k
      have d1 := (ho.cell k (by rw [ints_len, upF_len]; exact hkn)).trans (ints_get (by rw [upF_len]; exact hkn))
      obtain ⟨p, hpe⟩ : ∃ p, x.at k = p := ⟨_, rfl⟩
      obtain ⟨q, hqe⟩ : ∃ q, y.at p = q := ⟨_, rfl⟩
      have HP := Lib.hid (And.intro ho (And.intro hb (And.intro hpe hqe)))
      rw [hpe] at c1 c2 hp
      rw [hqe] at c2
      clear ho hb hpe hqe
      go_wp2
      refine ⟨⟨k + 1, by omega, by go_num, ?_, ?_⟩, by simp [intOf]; omega⟩
      · have := HP.out.1.put k (.int .i64 (q : Int))
        rw [← HP.out.2.2.2, ← HP.out.2.2.1, ints_set, upF_set] at this
        rw [← HP.out.2.2.2, ← HP.out.2.2.1]
        exact this
      · exact HP.out.2.1.setCell (p := ⟨w.heap.size, k, none⟩) (Nat.le_refl _) _
    · obtain rfl : k = n := by omega
      have HP := Lib.hid (And.intro ho hb)
      clear ho hb
      go_wp2
      go_ret
      refine ⟨_, rfl, ?_, HP.out.2⟩
      exact NewPm.of_own HP.out.1 (Nat.le_refl _) (by rw [upF_all]; rfl)
set_option maxHeartbeats 400000 in
theorem mul110 {n : Nat} (hn : n ≤ 64) {x y : Pm n} {va vb : Value} {w : World} (ha : PmV w [] va x) (hb : PmV w [] vb y) :
    Calls Tryz.prog 110 #[va, vb] w fun e w' => ∃ v, e = .returned v ∧ NewPm w w' v (x.mul y) ∧ Below w.heap.size w w' := by
  obtain ⟨i3, hi3, hz3, hs3, hb3⟩ := info_parts Tryz.info3
  have I3 := Lib.hid (And.intro hi3 (And.intro hz3 (And.intro hs3 hb3)))
  clear hi3 hz3 hs3 hb3
  obtain ⟨ba, oa, ca, rfl, _, hal, hac⟩ := ha
  obtain ⟨bb, ob, cb, rfl, _, hbl, hbc⟩ := hb
  have H := Lib.hid (And.intro hal (And.intro hac (And.intro hbl hbc)))
  clear hal hac hbl hbc
  go_enter Tryz.func110, Tryz.ntmps110
  go_wp2_with (at_make; refine mk1 rfl _ _ 27 3 rfl i3 (.int .i64 0) 8 Tryz.underlying27 I3.out.1 I3.out.2.1 I3.out.2.2.1 I3.out.2.2.2 rfl (by omega) w.heap.size n rfl rfl (by omega) (Nat.le_refl _) ?_; intro w1 hd hg hz1; have H1 := Lib.hid (And.intro hd (And.intro hg hz1)); clear hd hg hz1)
  go_loopw [13] (fun i wr => ∃ k : Nat, k ≤ n ∧ i = .int .i64 (k : Int) ∧ Own wr w.heap.size (.slice (some ⟨w.heap.size, 0, none⟩) n n) 3 (ints (upF n k fun i => y.at (x.at i))) ∧ Below w.heap.size w wr) (fun i _ => n - (intOf i).toNat)
  case atStart => exact ⟨0, by omega, rfl, by rw [upF_zero, ← ints_zero]; exact H1.out.1, (Below.refl _ w).grown H1.out.2.1 (Nat.le_refl _) (by simp)⟩
  case round =>
    obtain ⟨k, hk, rfl, ho, hb⟩ := hrel
    by_cases hkn : k < n
    · have c1 : wr.cell? ⟨ba, oa + k, none⟩ = some (.int .i64 (x.at k : Int)) := (hb.cell (p := ⟨ba, oa + k, none⟩) H.out.1).trans (H.out.2.1 k hkn)
      have c2 : wr.cell? ⟨bb, ob + x.at k, none⟩ = some (.int .i64 (y.at (x.at k) : Int)) := (hb.cell (p := ⟨bb, ob + x.at k, none⟩) H.out.2.2.1).trans (H.out.2.2.2 _ (x.lt hkn))
      have hp : x.at k < n := x.lt hkn
      have f1 := ho.frozen k
      have d1 := (ho.cell k (by rw [ints_len, upF_len]; exact hkn)).trans (ints_get (by rw [upF_len]; exact hkn))
      obtain ⟨p, hpe⟩ : ∃ p, x.at k = p := ⟨_, rfl⟩
      obtain ⟨q, hqe⟩ : ∃ q, y.at p = q := ⟨_, rfl⟩
      have HP := Lib.hid (And.intro ho (And.intro hb (And.intro hpe hqe)))
      rw [hpe] at c1 c2 hp
      rw [hqe] at c2
      clear ho hb hpe hqe
      go_wp2
      refine ⟨⟨k + 1, by omega, by go_num, ?_, ?_⟩, by simp [intOf]; omega⟩
      · have := HP.out.1.put k (.int .i64 (q : Int))
        rw [← HP.out.2.2.2, ← HP.out.2.2.1, ints_set, upF_set] at this
        rw [← HP.out.2.2.2, ← HP.out.2.2.1]
        exact this
      · exact HP.out.2.1.setCell (p := ⟨w.heap.size, k, none⟩) (Nat.le_refl _) _
    · obtain rfl : k = n := by omega
      have HP := Lib.hid (And.intro ho hb)
      clear ho hb
      go_wp2
      go_ret
      refine ⟨_, rfl, ?_, HP.out.2⟩
      exact NewPm.of_own HP.out.1 (Nat.le_refl _) (by rw [upF_all]; rfl)
set_option maxHeartbeats 400000 in
theorem mul121 {n : Nat} (hn : n ≤ 64) {x y : Pm n} {va vb : Value} {w : World} (ha : PmV w [] va x) (hb : PmV w [] vb y) :
    Calls Tryz.prog 121 #[va, vb] w fun e w' => ∃ v, e = .returned v ∧ NewPm w w' v (x.mul y) ∧ Below w.heap.size w w' := by
  obtain ⟨i3, hi3, hz3, hs3, hb3⟩ := info_parts Tryz.info3
  have I3 := Lib.hid (And.intro hi3 (And.intro hz3 (And.intro hs3 hb3)))
  clear hi3 hz3 hs3 hb3
  obtain ⟨ba, oa, ca, rfl, _, hal, hac⟩ := ha
  obtain ⟨bb, ob, cb, rfl, _, hbl, hbc⟩ := hb
  have H := Lib.hid (And.intro hal (And.intro hac (And.intro hbl hbc)))
  clear hal hac hbl hbc
  go_enter Tryz.func121, Tryz.ntmps121
  go_wp2_with (at_make; refine mk1 rfl _ _ 27 3 rfl i3 (.int .i64 0) 8 Tryz.underlying27 I3.out.1 I3.out.2.1 I3.out.2.2.1 I3.out.2.2.2 rfl (by omega) w.heap.size n rfl rfl (by omega) (Nat.le_refl _) ?_; intro w1 hd hg hz1; have H1 := Lib.hid (And.intro hd (And.intro hg hz1)); clear hd hg hz1)
  go_loopw [13] (fun i wr => ∃ k : Nat, k ≤ n ∧ i = .int .i64 (k : Int) ∧ Own wr w.heap.size (.slice (some ⟨w.heap.size, 0, none⟩) n n) 3 (ints (upF n k fun i => y.at (x.at i))) ∧ Below w.heap.size w wr) (fun i _ => n - (intOf i).toNat)
  case atStart => exact ⟨0, by omega, rfl, by rw [upF_zero, ← ints_zero]; exact H1.out.1, (Below.refl _ w).grown H1.out.2.1 (Nat.le_refl _) (by simp)⟩
  case round =>
    obtain ⟨k, hk, rfl, ho, hb⟩ := hrel
    by_cases hkn : k < n
    · have c1 : wr.cell? ⟨ba, oa + k, none⟩ = some (.int .i64 (x.at k : Int)) := (hb.cell (p := ⟨ba, oa + k, none⟩) H.out.1).trans (H.out.2.1 k hkn)
      have c2 : wr.cell? ⟨bb, ob + x.at k, none⟩ = some (.int .i64 (y.at (x.at k) : Int)) := (hb.cell (p := ⟨bb, ob + x.at k, none⟩) H.out.2.2.1).trans (H.out.2.2.2 _ (x.lt hkn))
      have hp : x.at k < n := x.lt hkn
      have f1 := ho.frozen k
      have d1 := (ho.cell k (by rw [ints_len, upF_len]; exact hkn)).trans (ints_get (by rw [upF_len]; exact hkn))
      obtain ⟨p, hpe⟩ : ∃ p, x.at k = p := ⟨_, rfl⟩
      obtain ⟨q, hqe⟩ : ∃ q, y.at p = q := ⟨_, rfl⟩
      have HP := Lib.hid (And.intro ho (And.intro hb (And.intro hpe hqe)))
      rw [hpe] at c1 c2 hp
      rw [hqe] at c2
      clear ho hb hpe hqe
      go_wp2
      refine ⟨⟨k + 1, by omega, by go_num, ?_, ?_⟩, by simp [intOf]; omega⟩
      · have := HP.out.1.put k (.int .i64 (q : Int))
        rw [← HP.out.2.2.2, ← HP.out.2.2.1, ints_set, upF_set] at this
        rw [← HP.out.2.2.2, ← HP.out.2.2.1]
        exact this
      · exact HP.out.2.1.setCell (p := ⟨w.heap.size, k, none⟩) (Nat.le_refl _) _
    · obtain rfl : k = n := by omega
      have HP := Lib.hid (And.intro ho hb)
      clear ho hb
      go_wp2
      go_ret
      refine ⟨_, rfl, ?_, HP.out.2⟩
      exact NewPm.of_own HP.out.1 (Nat.le_refl _) (by rw [upF_all]; rfl)
set_option maxHeartbeats 400000 in
theorem inv173 {n : Nat} (hn : n ≤ 64) {x : Pm n} {va : Value} {w : World} (ha : PmV w [] va x) :
    Calls Tryz.prog 173 #[va] w fun e w' => ∃ v, e = .returned v ∧ NewPm w w' v x.inv ∧ Below w.heap.size w w' := by
  obtain ⟨i3, hi3, hz3, hs3, hb3⟩ := info_parts Tryz.info3
  have I3 := Lib.hid (And.intro hi3 (And.intro hz3 (And.intro hs3 hb3)))
  clear hi3 hz3 hs3 hb3
  obtain ⟨ba, oa, ca, rfl, _, hal, hac⟩ := ha
  have H := Lib.hid (And.intro hal hac)
  clear hal hac
  go_enter Tryz.func173, Tryz.ntmps173
  go_wp2_with (at_make; refine mk1 rfl _ _ 27 3 rfl i3 (.int .i64 0) 8 Tryz.underlying27 I3.out.1 I3.out.2.1 I3.out.2.2.1 I3.out.2.2.2 rfl (by omega) w.heap.size n rfl rfl (by omega) (Nat.le_refl _) ?_; intro w1 hd hg hz1; have H1 := Lib.hid (And.intro hd (And.intro hg hz1)); clear hd hg hz1)
  go_loopw [11] (fun i wr => ∃ k : Nat, k ≤ n ∧ i = .int .i64 (k : Int) ∧ Own wr w.heap.size (.slice (some ⟨w.heap.size, 0, none⟩) n n) 3 (ints (upG x k)) ∧ Below w.heap.size w wr) (fun i _ => n - (intOf i).toNat)
  case atStart => exact ⟨0, by omega, rfl, by rw [upG_zero, ← ints_zero]; exact H1.out.1, (Below.refl _ w).grown H1.out.2.1 (Nat.le_refl _) (by simp)⟩
  case round =>
    obtain ⟨k, hk, rfl, ho, hb⟩ := hrel
    by_cases hkn : k < n
    · have c1 : wr.cell? ⟨ba, oa + k, none⟩ = some (.int .i64 (x.at k : Int)) := (hb.cell (p := ⟨ba, oa + k, none⟩) H.out.1).trans (H.out.2 k hkn)
      have hp : x.at k < n := x.lt hkn
      have f1 := ho.frozen (x.at k)
      have d1 := (ho.cell (x.at k) (by rw [ints_len, upG_len]; exact hp)).trans (ints_get (by rw [upG_len]; exact hp))
      obtain ⟨p, hpe⟩ : ∃ p, x.at k = p := ⟨_, rfl⟩
      have HP := Lib.hid (And.intro ho (And.intro hb hpe))
      rw [hpe] at c1 hp f1 d1
      clear ho hb hpe
      go_wp2
      refine ⟨⟨k + 1, by omega, by go_num, ?_, ?_⟩, by simp [intOf]; omega⟩
      · have := HP.out.1.put p (.int .i64 (k : Int))
        rw [← HP.out.2.2, ints_set, upG_set hkn] at this
        rw [← HP.out.2.2]
        exact this
      · exact HP.out.2.1.setCell (p := ⟨w.heap.size, p, none⟩) (Nat.le_refl _) _
    · obtain rfl : k = n := by omega
      have HP := Lib.hid (And.intro ho hb)
      clear ho hb
      go_wp2
      go_ret
      refine ⟨_, rfl, ?_, HP.out.2⟩
      exact NewPm.of_own HP.out.1 (Nat.le_refl _) upG_all
set_option maxHeartbeats 400000 in
theorem inv122 {n : Nat} (hn : n ≤ 64) {x : Pm n} {va : Value} {w : World} (ha : PmV w [] va x) :
    Calls Tryz.prog 122 #[va] w fun e w' => ∃ v, e = .returned v ∧ NewPm w w' v x.inv ∧ Below w.heap.size w w' := by
  obtain ⟨i3, hi3, hz3, hs3, hb3⟩ := info_parts Tryz.info3
  have I3 := Lib.hid (And.intro hi3 (And.intro hz3 (And.intro hs3 hb3)))
  clear hi3 hz3 hs3 hb3
  obtain ⟨ba, oa, ca, rfl, _, hal, hac⟩ := ha
  have H := Lib.hid (And.intro hal hac)
  clear hal hac
  go_enter Tryz.func122, Tryz.ntmps122
  go_wp2_with (at_make; refine mk1 rfl _ _ 27 3 rfl i3 (.int .i64 0) 8 Tryz.underlying27 I3.out.1 I3.out.2.1 I3.out.2.2.1 I3.out.2.2.2 rfl (by omega) w.heap.size n rfl rfl (by omega) (Nat.le_refl _) ?_; intro w1 hd hg hz1; have H1 := Lib.hid (And.intro hd (And.intro hg hz1)); clear hd hg hz1)
  go_loopw [11] (fun i wr => ∃ k : Nat, k ≤ n ∧ i = .int .i64 (k : Int) ∧ Own wr w.heap.size (.slice (some ⟨w.heap.size, 0, none⟩) n n) 3 (ints (upG x k)) ∧ Below w.heap.size w wr) (fun i _ => n - (intOf i).toNat)
  case atStart => exact ⟨0, by omega, rfl, by rw [upG_zero, ← ints_zero]; exact H1.out.1, (Below.refl _ w).grown H1.out.2.1 (Nat.le_refl _) (by simp)⟩
  case round =>
    obtain ⟨k, hk, rfl, ho, hb⟩ := hrel
    by_cases hkn : k < n
    · have c1 : wr.cell? ⟨ba, oa + k, none⟩ = some (.int .i64 (x.at k : Int)) := (hb.cell (p := ⟨ba, oa + k, none⟩) H.out.1).trans (H.out.2 k hkn)
      have hp : x.at k < n := x.lt hkn
      have f1 := ho.frozen (x.at k)
      have d1 := (ho.cell (x.at k) (by rw [ints_len, upG_len]; exact hp)).trans (ints_get (by rw [upG_len]; exact hp))
      obtain ⟨p, hpe⟩ : ∃ p, x.at k = p := ⟨_, rfl⟩
      have HP := Lib.hid (And.intro ho (And.intro hb hpe))
      rw [hpe] at c1 hp f1 d1
      clear ho hb hpe
      go_wp2
      refine ⟨⟨k + 1, by omega, by go_num, ?_, ?_⟩, by simp [intOf]; omega⟩
      · have := HP.out.1.put p (.int .i64 (k : Int))
        rw [← HP.out.2.2, ints_set, upG_set hkn] at this
        rw [← HP.out.2.2]
        exact this
      · exact HP.out.2.1.setCell (p := ⟨w.heap.size, p, none⟩) (Nat.le_refl _) _
    · obtain rfl : k = n := by omega
      have HP := Lib.hid (And.intro ho hb)
      clear ho hb
      go_wp2
      go_ret
      refine ⟨_, rfl, ?_, HP.out.2⟩
      exact NewPm.of_own HP.out.1 (Nat.le_refl _) upG_all
set_option maxHeartbeats 400000 in
theorem one156 {n : Nat} (hn : n ≤ 64) {w : World} :
    Calls Tryz.prog 156 #[.int .i64 (n : Int)] w fun e w' => ∃ v, e = .returned v ∧ NewPm w w' v (one n) ∧ Below w.heap.size w w' := by
  obtain ⟨i3, hi3, hz3, hs3, hb3⟩ := info_parts Tryz.info3
  have I3 := Lib.hid (And.intro hi3 (And.intro hz3 (And.intro hs3 hb3)))
  clear hi3 hz3 hs3 hb3
  go_enter Tryz.func156, Tryz.ntmps156
  go_wp2_with (at_make; refine mk1 rfl _ _ 27 3 rfl i3 (.int .i64 0) 8 Tryz.underlying27 I3.out.1 I3.out.2.1 I3.out.2.2.1 I3.out.2.2.2 rfl (by omega) w.heap.size n rfl rfl (by omega) (Nat.le_refl _) ?_; intro w1 hd hg hz1; have H1 := Lib.hid (And.intro hd (And.intro hg hz1)); clear hd hg hz1)
  go_loopw [9] (fun i wr => ∃ k : Nat, k ≤ n ∧ i = .int .i64 (k : Int) ∧ Own wr w.heap.size (.slice (some ⟨w.heap.size, 0, none⟩) n n) 3 (ints (upF n k fun i => i)) ∧ Below w.heap.size w wr) (fun i _ => n - (intOf i).toNat)
  case atStart => exact ⟨0, by omega, rfl, by rw [upF_zero, ← ints_zero]; exact H1.out.1, (Below.refl _ w).grown H1.out.2.1 (Nat.le_refl _) (by simp)⟩
  case round =>
    obtain ⟨k, hk, rfl, ho, hb⟩ := hrel
    by_cases hkn : k < n
    · have f1 := ho.frozen k
      have d1 := (ho.cell k (by rw [ints_len, upF_len]; exact hkn)).trans (ints_get (by rw [upF_len]; exact hkn))
      have HP := Lib.hid (And.intro ho hb)
      clear ho hb
      go_wp2
      refine ⟨⟨k + 1, by omega, by go_num, ?_, ?_⟩, by simp [intOf]; omega⟩
      · have := HP.out.1.put k (.int .i64 (k : Int))
        rw [ints_set] at this
        rw [← upF_set]
        exact this
      · exact HP.out.2.setCell (p := ⟨w.heap.size, k, none⟩) (Nat.le_refl _) _
    · obtain rfl : k = n := by omega
      have HP := Lib.hid (And.intro ho hb)
      clear ho hb
      go_wp2
      go_ret
      refine ⟨_, rfl, ?_, HP.out.2⟩
      exact NewPm.of_own HP.out.1 (Nat.le_refl _) (by rw [upF_all]; rfl)
set_option maxHeartbeats 400000 in
theorem one59 {n : Nat} (hn : n ≤ 64) {w : World} :
    Calls Tryz.prog 59 #[.int .i64 (n : Int)] w fun e w' => ∃ v, e = .returned v ∧ NewPm w w' v (one n) ∧ Below w.heap.size w w' := by
  obtain ⟨i3, hi3, hz3, hs3, hb3⟩ := info_parts Tryz.info3
  have I3 := Lib.hid (And.intro hi3 (And.intro hz3 (And.intro hs3 hb3)))
  clear hi3 hz3 hs3 hb3
  go_enter Tryz.func59, Tryz.ntmps59
  go_wp2_with (at_make; refine mk1 rfl _ _ 27 3 rfl i3 (.int .i64 0) 8 Tryz.underlying27 I3.out.1 I3.out.2.1 I3.out.2.2.1 I3.out.2.2.2 rfl (by omega) w.heap.size n rfl rfl (by omega) (Nat.le_refl _) ?_; intro w1 hd hg hz1; have H1 := Lib.hid (And.intro hd (And.intro hg hz1)); clear hd hg hz1)
  go_loopw [9] (fun i wr => ∃ k : Nat, k ≤ n ∧ i = .int .i64 (k : Int) ∧ Own wr w.heap.size (.slice (some ⟨w.heap.size, 0, none⟩) n n) 3 (ints (upF n k fun i => i)) ∧ Below w.heap.size w wr) (fun i _ => n - (intOf i).toNat)
  case atStart => exact ⟨0, by omega, rfl, by rw [upF_zero, ← ints_zero]; exact H1.out.1, (Below.refl _ w).grown H1.out.2.1 (Nat.le_refl _) (by simp)⟩
  case round =>
    obtain ⟨k, hk, rfl, ho, hb⟩ := hrel
    by_cases hkn : k < n
    · have f1 := ho.frozen k
      have d1 := (ho.cell k (by rw [ints_len, upF_len]; exact hkn)).trans (ints_get (by rw [upF_len]; exact hkn))
      have HP := Lib.hid (And.intro ho hb)
      clear ho hb
      go_wp2
      refine ⟨⟨k + 1, by omega, by go_num, ?_, ?_⟩, by simp [intOf]; omega⟩
      · have := HP.out.1.put k (.int .i64 (k : Int))
        rw [ints_set] at this
        rw [← upF_set]
        exact this
      · exact HP.out.2.setCell (p := ⟨w.heap.size, k, none⟩) (Nat.le_refl _) _
    · obtain rfl : k = n := by omega
      have HP := Lib.hid (And.intro ho hb)
      clear ho hb
      go_wp2
      go_ret
      refine ⟨_, rfl, ?_, HP.out.2⟩
      exact NewPm.of_own HP.out.1 (Nat.le_refl _) (by rw [upF_all]; rfl)
set_option maxHeartbeats 400000 in
theorem mul49 {n : Nat} (hn : n ≤ 64) (hn0 : 0 < n) {x y : Pm n} {va vb : Value} {w : World} (ha : PmV w [] va x) (hb : PmV w [] vb y) :
    Calls Tryz.prog 49 #[va, vb] w fun e w' => ∃ v, e = .returned v ∧ NewPm w w' v (x.mul y) ∧ Below w.heap.size w w' := by
  obtain ⟨i3, hi3, hz3, hs3, hb3⟩ := info_parts Tryz.info3
  have I3 := Lib.hid (And.intro hi3 (And.intro hz3 (And.intro hs3 hb3)))
  clear hi3 hz3 hs3 hb3
  obtain ⟨ba, oa, ca, rfl, _, hal, hac⟩ := ha
  obtain ⟨bb, ob, cb, rfl, _, hbl, hbc⟩ := hb
  have H := Lib.hid (And.intro hal (And.intro hac (And.intro hbl hbc)))
  clear hal hac hbl hbc
  go_enter Tryz.func49, Tryz.ntmps49
  go_wp2
  go_loopw [5, 6] (fun v i wr => ∃ k : Nat, k ≤ n ∧ i = .int .i64 (k : Int) ∧ Own wr w.heap.size v 3 (ints (ofF k fun i => y.at (x.at i))) ∧ Below w.heap.size w wr) (fun _ i _ => n - (intOf i).toNat)
  case atStart => exact ⟨0, by omega, rfl, Own.nil _ _ _, Below.refl _ _⟩
  case round =>
    obtain ⟨k, hk, rfl, ho, hb⟩ := hrel
    by_cases hkn : k < n
    · have c1 : wr.cell? ⟨ba, oa + k, none⟩ = some (.int .i64 (x.at k : Int)) := (hb.cell (p := ⟨ba, oa + k, none⟩) H.out.1).trans (H.out.2.1 k hkn)
      have c2 : wr.cell? ⟨bb, ob + x.at k, none⟩ = some (.int .i64 (y.at (x.at k) : Int)) := (hb.cell (p := ⟨bb, ob + x.at k, none⟩) H.out.2.2.1).trans (H.out.2.2.2 _ (x.lt hkn))
      have hp : x.at k < n := x.lt hkn
      have hsz : w.heap.size ≤ wr.heap.size := hb.size
      have hl : (ints (ofF k fun i => y.at (x.at i))).length < 1099511627776 := by rw [ints_len]; simp [ofF]; omega
      obtain ⟨p, hpe⟩ : ∃ p, x.at k = p := ⟨_, rfl⟩
      obtain ⟨q, hqe⟩ : ∃ q, y.at p = q := ⟨_, rfl⟩
      have HP := Lib.hid (And.intro ho (And.intro hb (And.intro hpe hqe)))
      rw [hpe] at c1 c2 hp
      rw [hqe] at c2
      clear ho hb hpe hqe
      go_wp2_with (at_builtin; refine app1 rfl (.tmp 13) (.tmp 21) 27 3 rfl i3 (.int .i64 0) 8 Tryz.underlying27 I3.out.1 I3.out.2.1 I3.out.2.2.1 I3.out.2.2.2 rfl (by omega) w.heap.size (.int .i64 (q : Int)) u5 (ints (ofF k fun i => y.at (x.at i))) rfl HP.out.1 rfl rfl hl hsz ?_; intro v8 w8 k1 k2 k3; have H8 := Lib.hid (And.intro k1 (HP.out.2.1.grown k2 hsz (fun g hg => (HP.out.1.block_lt hg).2))); clear k1 k2 k3)
      refine ⟨⟨k + 1, by omega, by go_num, ?_, H8.out.2⟩, by simp [intOf]; omega⟩
      have h8 := H8.out.1
      rw [ofF_succ, HP.out.2.2.1, HP.out.2.2.2]
      simpa [ints] using h8
    · obtain rfl : k = n := by omega
      have HP := Lib.hid (And.intro ho hb)
      clear ho hb
      go_wp2
      go_ret
      obtain ⟨g, c, rfl, hg1, hg2, hg3, hg4⟩ := HP.out.1.form (by rw [ints_len]; simp [ofF]; omega)
      refine ⟨_, rfl, ?_, HP.out.2⟩
      have h8 := HP.out.1
      have hl : (ints (ofF k fun i => y.at (x.at i))).length = k := by rw [ints_len]; simp [ofF]
      rw [hl] at h8 ⊢
      exact NewPm.of_own h8 (Nat.le_refl _) rfl
set_option maxHeartbeats 400000 in
theorem inv50 {n : Nat} (hn : n ≤ 64) {x : Pm n} {va : Value} {w : World} (ha : PmV w [] va x) :
    Calls Tryz.prog 50 #[va] w fun e w' => ∃ v, e = .returned v ∧ NewPm w w' v x.inv ∧ Below w.heap.size w w' := by
  obtain ⟨i3, hi3, hz3, hs3, hb3⟩ := info_parts Tryz.info3
  have I3 := Lib.hid (And.intro hi3 (And.intro hz3 (And.intro hs3 hb3)))
  clear hi3 hz3 hs3 hb3
  obtain ⟨ba, oa, ca, rfl, _, hal, hac⟩ := ha
  have H := Lib.hid (And.intro hal hac)
  clear hal hac
  go_enter Tryz.func50, Tryz.ntmps50
  go_wp2_with (at_make; refine mk1 rfl _ _ 27 3 rfl i3 (.int .i64 0) 8 Tryz.underlying27 I3.out.1 I3.out.2.1 I3.out.2.2.1 I3.out.2.2.2 rfl (by omega) w.heap.size n rfl rfl (by omega) (Nat.le_refl _) ?_; intro w1 hd hg hz1; have H1 := Lib.hid (And.intro hd (And.intro hg hz1)); clear hd hg hz1)
  go_loopw [4] (fun i wr => ∃ k : Nat, k ≤ n ∧ i = .int .i64 (k : Int) ∧ Own wr w.heap.size (.slice (some ⟨w.heap.size, 0, none⟩) n n) 3 (ints (upG x k)) ∧ Below w.heap.size w wr) (fun i _ => n - (intOf i).toNat)
  case atStart => exact ⟨0, by omega, rfl, by rw [upG_zero, ← ints_zero]; exact H1.out.1, (Below.refl _ w).grown H1.out.2.1 (Nat.le_refl _) (by simp)⟩
  case round =>
    obtain ⟨k, hk, rfl, ho, hb⟩ := hrel
    by_cases hkn : k < n
    · have c1 : wr.cell? ⟨ba, oa + k, none⟩ = some (.int .i64 (x.at k : Int)) := (hb.cell (p := ⟨ba, oa + k, none⟩) H.out.1).trans (H.out.2 k hkn)
      have hp : x.at k < n := x.lt hkn
      have f1 := ho.frozen (x.at k)
      have d1 := (ho.cell (x.at k) (by rw [ints_len, upG_len]; exact hp)).trans (ints_get (by rw [upG_len]; exact hp))
      obtain ⟨p, hpe⟩ : ∃ p, x.at k = p := ⟨_, rfl⟩
      have HP := Lib.hid (And.intro ho (And.intro hb hpe))
      rw [hpe] at c1 hp f1 d1
      clear ho hb hpe
      go_wp2
      refine ⟨⟨k + 1, by omega, by go_num, ?_, ?_⟩, by simp [intOf]; omega⟩
      · have := HP.out.1.put p (.int .i64 (k : Int))
        rw [← HP.out.2.2, ints_set, upG_set hkn] at this
        rw [← HP.out.2.2]
        exact this
      · exact HP.out.2.1.setCell (p := ⟨w.heap.size, p, none⟩) (Nat.le_refl _) _
    · obtain rfl : k = n := by omega
      have HP := Lib.hid (And.intro ho hb)
      clear ho hb
      go_wp2
      go_ret
      refine ⟨_, rfl, ?_, HP.out.2⟩
      exact NewPm.of_own HP.out.1 (Nat.le_refl _) upG_all
set_option maxHeartbeats 400000 in
theorem one65 {n : Nat} (hn : n ≤ 64) (hn0 : 0 < n) {w : World} :
    Calls Tryz.prog 65 #[.int .i64 (n : Int)] w fun e w' => ∃ v, e = .returned v ∧ NewPm w w' v (one n) ∧ Below w.heap.size w w' := by
  obtain ⟨i3, hi3, hz3, hs3, hb3⟩ := info_parts Tryz.info3
  have I3 := Lib.hid (And.intro hi3 (And.intro hz3 (And.intro hs3 hb3)))
  clear hi3 hz3 hs3 hb3
  go_enter Tryz.func65, Tryz.ntmps65
  go_wp2
  go_loopw [3, 4] (fun v i wr => ∃ k : Nat, k ≤ n ∧ i = .int .i64 (k : Int) ∧ Own wr w.heap.size v 3 (ints (ofF k fun i => i)) ∧ Below w.heap.size w wr) (fun _ i _ => n - (intOf i).toNat)
  case atStart => exact ⟨0, by omega, rfl, Own.nil _ _ _, Below.refl _ _⟩
  case round =>
    obtain ⟨k, hk, rfl, ho, hb⟩ := hrel
    by_cases hkn : k < n
    · have hsz : w.heap.size ≤ wr.heap.size := hb.size
      have hl : (ints (ofF k fun i => i)).length < 1099511627776 := by rw [ints_len]; simp [ofF]; omega
      have HP := Lib.hid (And.intro ho hb)
      clear ho hb
      go_wp2_with (at_builtin; refine app1 rfl (.tmp 10) (.tmp 12) 27 3 rfl i3 (.int .i64 0) 8 Tryz.underlying27 I3.out.1 I3.out.2.1 I3.out.2.2.1 I3.out.2.2.2 rfl (by omega) w.heap.size (.int .i64 (k : Int)) u3 (ints (ofF k fun i => i)) rfl HP.out.1 rfl rfl hl hsz ?_; intro v8 w8 k1 k2 k3; have H8 := Lib.hid (And.intro k1 (HP.out.2.grown k2 hsz (fun g hg => (HP.out.1.block_lt hg).2))); clear k1 k2 k3)
      refine ⟨⟨k + 1, by omega, by go_num, ?_, H8.out.2⟩, by simp [intOf]; omega⟩
      have h8 := H8.out.1
      rw [ofF_succ]
      simpa [ints] using h8
    · obtain rfl : k = n := by omega
      have HP := Lib.hid (And.intro ho hb)
      clear ho hb
      go_wp2
      go_ret
      obtain ⟨g, c, rfl, hg1, hg2, hg3, hg4⟩ := HP.out.1.form (by rw [ints_len]; simp [ofF]; omega)
      refine ⟨_, rfl, ?_, HP.out.2⟩
      have h8 := HP.out.1
      have hl : (ints (ofF k fun i => i)).length = k := by rw [ints_len]; simp [ofF]
      rw [hl] at h8 ⊢
      exact NewPm.of_own h8 (Nat.le_refl _) rfl
end Go.Proofs.YtbejhkojdiadaaaGreat
