/- SameInts and SameCells compare lists. -/
import Derived.Test.YtjjjohmppehejaaGreatProg
import Derived.Test.YtjjjohmppehejaaGreatBase
set_option linter.unusedSimpArgs false
set_option linter.unusedVariables false
namespace Go.Proofs.YtjjjohmppehejaaGreat
open Go.RowKit

def agreeTo {α : Type} (xs ys : List α) (k : Nat) : Prop := ∀ i, i < k → xs[i]? = ys[i]?
theorem agreeTo_all {α : Type} {xs ys : List α} (h : xs.length = ys.length) (k : Nat) (hk : xs.length ≤ k) (ha : agreeTo xs ys k) : xs = ys := by
  apply List.ext_getElem? ; intro i
  by_cases hi : i < k
  · exact ha i hi
  · rw [List.getElem?_eq_none (by omega), List.getElem?_eq_none (by omega)]
theorem agreeTo_succ {α : Type} {xs ys : List α} {k : Nat} (ha : agreeTo xs ys k) (h : xs[k]? = ys[k]?) : agreeTo xs ys (k + 1) := by
  intro i hi
  by_cases he : i = k
  · rw [he]; exact h
  · exact ha i (by omega)

theorem getD_eq_iff {α : Type} {xs ys : List α} {d : α} {k : Nat} (h1 : k < xs.length) (h2 : k < ys.length) : xs[k]?.getD d = ys[k]?.getD d ↔ xs[k]? = ys[k]? := by
  rw [List.getElem?_eq_getElem h1, List.getElem?_eq_getElem h2]; simp

set_option maxHeartbeats 400000 in
theorem sameInts_calls (a b : Option Addr) (c d : Nat) (xs ys : List Int) (w : World) (ha : Ints w a xs) (hb : Ints w b ys) :
    Calls Tryz.prog 19 #[.slice a xs.length c, .slice b ys.length d] w fun e w' => e = .returned (.bool (decide (xs = ys))) ∧ ∃ q, w' = w.drewN q := by
  have hA := Lib.hid ha
  have hB := Lib.hid hb
  have hmx := ha.len
  clear ha hb
  obtain ⟨n, hn⟩ : ∃ n, n = xs.length := ⟨_, rfl⟩
  obtain ⟨m, hm⟩ : ∃ m, m = ys.length := ⟨_, rfl⟩
  rw [← hn, ← hm]
  rw [← hn] at hmx
  by_cases h : n = m
  · subst h
    have Hn := Lib.hid hn
    have Hm := Lib.hid hm
    clear hn hm
    go_enter Tryz.func19, Tryz.ntmps19
    go_wp2
    go_loopw [5] (fun i wr => ∃ k q : Nat, k ≤ n ∧ i = .int .i64 k ∧ wr = w.drewN q ∧ agreeTo xs ys k) (fun i _ => n - (intOf i).toNat)
    case atStart => exact ⟨0, 0, Nat.zero_le _, rfl, rfl, fun i hi => by omega⟩
    case round =>
      obtain ⟨k, q, hk, rfl, rfl, he⟩ := hrel
      have He := Lib.hid he
      clear he
      by_cases hlt : k < n
      · obtain ⟨a', oa, rfl, _, hca⟩ := hA.out.at_ (k := k) (by have := Hn.out; omega)
        obtain ⟨b', ob, rfl, _, hcb⟩ := hB.out.at_ (k := k) (by have := Hm.out; omega)
        go_wp2
        go_quiet (fail)
        go_wp2
        · rename_i hne
          go_ret
          refine ⟨ret_bool ?_, _, World.drewN_drewN _ _ _⟩
          symm; rw [decide_eq_false_iff_not]
          rintro rfl
          simp at hne
        · rename_i heq
          refine ⟨⟨k + 1, q + nq, by omega, by go_num, rfl, agreeTo_succ He.out ?_⟩, by simp [intOf]; omega⟩
          have h1 : xs[k]?.getD 0 = ys[k]?.getD 0 := by simpa using heq
          exact (getD_eq_iff (by have := Hn.out; omega) (by have := Hm.out; omega)).1 h1
      · go_wp2
        go_ret
        refine ⟨ret_bool ?_, _, rfl⟩
        symm; rw [decide_eq_true_iff]
        exact agreeTo_all (by rw [← Hn.out, ← Hm.out]) k (by have := Hn.out; omega) He.out
  · have hne' : ((n : Int) != m) = true := by simp; omega
    have H := Lib.hid hn
    have H' := Lib.hid hm
    clear hn hm
    go_enter Tryz.func19, Tryz.ntmps19
    go_wp2
    go_ret
    refine ⟨ret_bool ?_, 0, rfl⟩
    symm; rw [decide_eq_false_iff_not]
    rintro rfl
    exact h (by rw [H.out, H'.out])

set_option maxHeartbeats 400000 in
theorem sameCells_calls (a b : Option Addr) (c d : Nat) (xs ys : List (List Int)) (w : World) (ha : Rows w a xs) (hb : Rows w b ys) :
    Calls Tryz.prog 36 #[.slice a xs.length c, .slice b ys.length d] w fun e w' => e = .returned (.bool (decide (xs = ys))) ∧ ∃ q, w' = w.drewN q := by
  have hA := Lib.hid ha
  have hB := Lib.hid hb
  have hmx := ha.len
  clear ha hb
  obtain ⟨n, hn⟩ : ∃ n, n = xs.length := ⟨_, rfl⟩
  obtain ⟨m, hm⟩ : ∃ m, m = ys.length := ⟨_, rfl⟩
  rw [← hn, ← hm]
  rw [← hn] at hmx
  by_cases h : n = m
  · subst h
    have Hn := Lib.hid hn
    have Hm := Lib.hid hm
    clear hn hm
    go_enter Tryz.func36, Tryz.ntmps36
    go_wp2
    go_loopw [5] (fun i wr => ∃ k q : Nat, k ≤ n ∧ i = .int .i64 k ∧ wr = w.drewN q ∧ agreeTo xs ys k) (fun i _ => n - (intOf i).toNat)
    case atStart => exact ⟨0, 0, Nat.zero_le _, rfl, rfl, fun i hi => by omega⟩
    case round =>
      obtain ⟨k, q, hk, rfl, rfl, he⟩ := hrel
      have He := Lib.hid he
      clear he
      by_cases hlt : k < n
      · obtain ⟨a', oa, a2, ac, rfl, _, hca, hia⟩ := hA.out.at_ (k := k) (by have := Hn.out; omega)
        obtain ⟨b', ob, b2, bc, rfl, _, hcb, hib⟩ := hB.out.at_ (k := k) (by have := Hm.out; omega)
        have hxl : k < xs.length := by have := Hn.out; omega
        have hyl : k < ys.length := by have := Hm.out; omega
        obtain ⟨x, hx⟩ : ∃ x, xs[k]?.getD [] = x := ⟨_, rfl⟩
        obtain ⟨y, hy⟩ : ∃ y, ys[k]?.getD [] = y := ⟨_, rfl⟩
        rw [hx] at hca hia
        rw [hy] at hcb hib
        have Hc := Lib.hid (fun n => sameInts_calls a2 b2 ac bc x y (w.drewN n) hia hib)
        have Hx := Lib.hid hx
        have Hy := Lib.hid hy
        obtain ⟨r, hr⟩ : ∃ r, decide (x = y) = r := ⟨_, rfl⟩
        rw [hr] at Hc
        have Hr := Lib.hid hr
        clear hia hib hx hy hr hxl hyl
        go_wp2
        go_quiet ((go_at_call 19; exact quiet_add (Hc.out _)))
        go_wp2
        · rename_i hr0
          go_ret
          refine ⟨ret_bool ?_, _, World.drewN_drewN _ _ _⟩
          symm; rw [decide_eq_false_iff_not]
          rintro rfl
          have := Hr.out
          rw [← Hx.out, ← Hy.out] at this
          simp at this hr0
          simp_all
        · rename_i hr0
          refine ⟨⟨k + 1, q + nq, by omega, by go_num, rfl, agreeTo_succ He.out ?_⟩, by simp [intOf]; omega⟩
          have h1 : x = y := by have := Hr.out; simp at hr0; simp_all
          rw [← Hx.out, ← Hy.out] at h1
          exact (getD_eq_iff (by have := Hn.out; omega) (by have := Hm.out; omega)).1 h1
      · go_wp2
        go_ret
        refine ⟨ret_bool ?_, _, rfl⟩
        symm; rw [decide_eq_true_iff]
        exact agreeTo_all (by rw [← Hn.out, ← Hm.out]) k (by have := Hn.out; omega) He.out
  · have hne' : ((n : Int) != m) = true := by simp; omega
    have H := Lib.hid hn
    have H' := Lib.hid hm
    clear hn hm
    go_enter Tryz.func36, Tryz.ntmps36
    go_wp2
    go_ret
    refine ⟨ret_bool ?_, 0, rfl⟩
    symm; rw [decide_eq_false_iff_not]
    rintro rfl
    exact h (by rw [H.out, H'.out])
end Go.Proofs.YtjjjohmppehejaaGreat
