/- The width of a digit. -/
import Derived.Test.YtjjjnpolhbbepaaDoorBase
import Derived.Test.YtjjjnpolhbbepaaDoorPlainLib
import Derived.Test.YtjjjnpolhbbepaaDoorShelf
set_option linter.unusedSimpArgs false
set_option linter.unusedVariables false
namespace Go.Proofs.YtjjjnpolhbbepaaDoor
open Go.RowKit
open Plain
theorem bitLen_wid : ∀ m : Fin 64, Lib.bitLen m.val = wid (m.val + 1) := by decide +kernel
set_option maxHeartbeats 1000000 in
theorem width_calls (n i : Nat) (w : World) (hi : i < n) (hn : n ≤ 64) :
    Calls Tryd.prog 26 #[.int .i64 (n : Int), .int .i64 (i : Int)] w fun e w' => e = .returned (.int .i64 ((wid (n - i) : Nat) : Int)) ∧ w = w' := by
  have hc := Tryd.bits_Len ((n - 1 - i : Nat) : Int) w (by omega) (by omega)
  rw [Int.toNat_natCast, bitLen_wid ⟨n - 1 - i, by omega⟩] at hc
  simp only [show n - 1 - i + 1 = n - i by omega] at hc
  obtain ⟨r, hr⟩ : ∃ r, n - i = r + 1 := ⟨n - i - 1, by omega⟩
  obtain rfl : n = i + (r + 1) := by omega
  rw [hr] at hc ⊢
  rw [show i + (r + 1) - 1 - i = r by omega] at hc
  have Hc := Lib.hid hc
  clear hc hr
  have w1 : IntKind.i64.wrap ((i : Int) + r - i) = (r : Int) := by rw [IntWalk.i64_in _ (by omega)]; omega
  have w2 : IntKind.u64.wrap (r : Int) = (r : Int) := by show (r : Int) % 18446744073709551616 = r; omega
  go_enter Tryd.func26, Tryd.ntmps26
  go_wp2_with (go_at_call 39; rw [show ((i : Int) + ((r : Int) + 1) - 1 - (i : Int)) = (r : Int) by omega]; refine Hc.out.mono ?_; rintro e w' ⟨rfl, rfl⟩)
  go_ret
  exact ⟨rfl, rfl⟩
end Go.Proofs.YtjjjnpolhbbepaaDoor
