/- The kit's small functions: Below, Number. -/
import Derived.Test.YtifkieopaoooeaaDoorSmall
set_option linter.unusedSimpArgs false
set_option linter.unusedVariables false
namespace Go.Proofs.YtifkieopaoooeaaDoor
open Go.RowKit Plain

/-- The number from 0 to k - 1 that an int selects. -/
def bel (n k : Int) : Int := if k < 1 then 0 else n % k
theorem bel_range {n k : Int} (h : 1 ≤ k) : 0 ≤ bel n k ∧ bel n k < k := by
  rw [bel, if_neg (by omega)]
  exact ⟨Int.emod_nonneg _ (by omega), Int.emod_lt_of_pos _ (by omega)⟩
theorem bel_tmod {n k : Int} (h : ¬ k < 1) : bel n k = if n.tmod k < 0 then n.tmod k + k else n.tmod k := by
  rw [bel, if_neg h, Int.emod_eq_tmod]
  have h2 := Int.tmod_lt_of_pos n (b := k) (by omega)
  have h3 := Int.lt_tmod_of_pos n (b := k) (by omega)
  by_cases h4 : 0 ≤ n ∨ k ∣ n
  · rw [if_pos h4, if_neg]
    · omega
    · rcases h4 with h4 | h4
      · have := Int.tmod_nonneg k h4; omega
      · rw [Int.tmod_eq_zero_of_dvd h4]; omega
  · rw [if_neg h4]
    have hn : ¬ 0 ≤ n := fun h => h4 (.inl h)
    have hd : n.tmod k ≠ 0 := fun h => h4 (.inr (Int.dvd_of_tmod_eq_zero h))
    have h5 : n.tmod k ≤ 0 := by
      have h6 := Int.tmod_nonneg k (a := -n) (by omega)
      rw [Int.neg_tmod] at h6; omega
    rw [if_pos (by omega)]
    omega

theorem below_calls (n k : Int) (w : World) (hk : k ≤ 1000000) : Calls Tryd.prog 6 #[.int .i64 n, .int .i64 k] w fun e w' => e = .returned (.int .i64 (bel n k)) ∧ w' = w := by
  by_cases h1 : k < 1
  · go_enter Tryd.func6, Tryd.ntmps6
    go_wp2
    go_ret
    exact ⟨ret_int (by rw [bel, if_pos h1]), rfl⟩
  · have h1' : decide (k < 1) = false := by simpa using h1
    have hb := bel_tmod (n := n) h1
    have h2 := Int.tmod_lt_of_pos n (b := k) (by omega)
    have h3 := Int.lt_tmod_of_pos n (b := k) (by omega)
    have h0 : (k == 0) = false := by simp; omega
    have h0' : k ≠ 0 := by omega
    obtain ⟨r, hr⟩ : ∃ r, n.tmod k = r := ⟨_, rfl⟩
    rw [hr] at hb h2 h3
    by_cases h4 : r < 0
    · rw [if_pos h4] at hb
      have Hb := Lib.hid hb
      clear hb
      go_enter Tryd.func6, Tryd.ntmps6
      go_wp2
      go_ret
      exact ⟨ret_int (by rw [Hb.out]), rfl⟩
    · rw [if_neg h4] at hb
      have Hb := Lib.hid hb
      clear hb
      go_enter Tryd.func6, Tryd.ntmps6
      go_wp2
      go_ret
      exact ⟨ret_int (by rw [Hb.out]), rfl⟩

/-- The number at a place, 0 if there is none. -/
def numAt (l : List Int) (i : Nat) : Int := l[i]?.getD 0
theorem kitnum_calls (a : Option Addr) (c : Nat) (l : List Int) (i : Nat) (w : World) (ha : Ints w a l) (hi : i ≤ 1000000) :
    Calls Tryd.prog 14 #[.slice a l.length c, .int .i64 i] w fun e w' => e = .returned (.int .i64 (numAt l i)) ∧ w' = w := by
  have hA := Lib.hid ha
  have hm := ha.len
  clear ha
  obtain ⟨L, hL⟩ : ∃ L, L = l.length := ⟨_, rfl⟩
  rw [← hL] at hm ⊢
  have HL := Lib.hid hL
  clear hL
  by_cases h : i < L
  · obtain ⟨b, o, rfl, _, hc⟩ := hA.out.at_ (k := i) (by rw [← HL.out]; exact h)
    go_enter Tryd.func14, Tryd.ntmps14
    go_wp2
    go_ret
    exact ⟨rfl, rfl⟩
  · have h' : decide ((L : Int) ≤ i) = true := by simp; omega
    go_enter Tryd.func14, Tryd.ntmps14
    go_wp2
    go_ret
    exact ⟨ret_int (by rw [numAt, List.getElem?_eq_none (by rw [← HL.out]; omega)]; rfl), rfl⟩
end Go.Proofs.YtifkieopaoooeaaDoor
