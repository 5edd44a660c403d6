/- is: the answer of the examples. -/
import Derived.Test.YtlnikgcanimggaaGreatSame
set_option linter.unusedSimpArgs false
set_option linter.unusedVariables false
namespace Go.Proofs.YtlnikgcanimggaaGreat
open Go.RowKit
theorem is_calls (a b : Option Addr) (c d : Nat) (xs ys : List (List Int)) (E : Int) (w : World) (ha : Rows w a xs) (hb : Rows w b ys) :
    Calls Tryz.prog 10 #[.slice a xs.length c, .int .i64 E, .slice b ys.length d] w fun e w' => e = .returned (.bool (decide (E = 0) && decide (xs = ys))) ∧ ∃ q, w' = w.drewN q := by
  have hs := fun q => sameCells_calls a b c d xs ys (w.drewN q) (ha.drewN q) (hb.drewN q)
  have hs0 := sameCells_calls a b c d xs ys w ha hb
  obtain ⟨r, hr⟩ : ∃ r, decide (xs = ys) = r := ⟨_, rfl⟩
  rw [hr] at hs0 ⊢
  obtain ⟨L, hL⟩ : ∃ L, L = xs.length := ⟨_, rfl⟩
  obtain ⟨M, hM⟩ : ∃ M, M = ys.length := ⟨_, rfl⟩
  rw [← hL, ← hM] at hs0 ⊢
  have Hs := Lib.hid hs0
  clear hs hs0 hr hL hM ha hb
  by_cases h0 : E = 0
  · subst h0
    go_enter Tryz.func10, Tryz.ntmps10
    go_wp2_with fail
    refine Hs.out.mono ?_
    rintro e w1 ⟨rfl, q, rfl⟩
    go_wp2
    go_ret
    exact ⟨by simp, q, rfl⟩
  · have h1 : (E == 0) = false := by simpa using h0
    rw [decide_eq_false h0]
    go_enter Tryz.func10, Tryz.ntmps10
    go_wp2
    go_ret
    exact ⟨rfl, 0, rfl⟩
end Go.Proofs.YtlnikgcanimggaaGreat
