/- large: some answer, and the world stands. -/
import Derived.Test.YtlnikgcanimggaaSame
import Derived.Test.YtlnikgcanimggaaProg
set_option linter.unusedSimpArgs false
set_option linter.unusedVariables false
namespace Go.Proofs.Ytlnikgcanimggaa
open Go.RowKit

/-- Some bool is answered. -/
def AnyBool (e : Ending) : Prop := ∃ z, e = .returned (.bool z)
theorem Rows.lens {w : World} {a : Option Addr} {xss : List (List Int)} (h : Rows w a xss) {k : Nat} (hk : k < xss.length) :
    ∃ g o b n c, a = some ⟨g, o, none⟩ ∧ w.cell? ⟨g, o + k, none⟩ = some (.slice b n c) := by
  obtain ⟨g, o, b, c, e, _, h1, _⟩ := h.at_ hk
  exact ⟨g, o, b, _, c, e, h1⟩

set_option maxHeartbeats 1000000 in
theorem large_calls (a b : Option Addr) (c d : Nat) (xs ys : List (List Int)) (w : World) (ha : Rows w a xs) (hb : Rows w b ys) :
    Calls Try.prog 10 #[.slice a xs.length c, .slice b ys.length d] w fun e w' => AnyBool e ∧ w' = w := by
  have hA := Lib.hid (And.intro ha hb)
  have hmx := ha.len
  have hmy := hb.len
  clear ha hb
  obtain ⟨n, hn⟩ : ∃ n, n = xs.length := ⟨_, rfl⟩
  obtain ⟨m, hm⟩ : ∃ n, n = ys.length := ⟨_, rfl⟩
  rw [← hn] at hmx ⊢
  rw [← hm] at hmy ⊢
  have Hn := Lib.hid (And.intro hn hm)
  clear hn hm
  by_cases h1 : 70 < n
  · have h1' : decide (70 < (n : Int)) = true := by simp; omega
    go_enter Try.func10, Try.ntmps10
    go_wp2
    go_ret
    exact ⟨⟨_, rfl⟩, rfl⟩
  by_cases h2 : 70 < m
  · have h1' : decide (70 < (n : Int)) = false := by simp; omega
    have h2' : decide (70 < (m : Int)) = true := by simp; omega
    go_enter Try.func10, Try.ntmps10
    go_wp2
    go_ret
    exact ⟨⟨_, rfl⟩, rfl⟩
  have h1' : decide (70 < (n : Int)) = false := by simp; omega
  have h2' : decide (70 < (m : Int)) = false := by simp; omega
  go_enter Try.func10, Try.ntmps10
  go_wp2
  go_loop [5] (fun i => ∃ k : Nat, k ≤ n ∧ i = .int .i64 k) (fun i => n - (intOf i).toNat)
  case atStart => exact ⟨0, by omega, rfl⟩
  case round =>
    obtain ⟨k, hk, rfl⟩ := hrel
    by_cases hlt : k < n
    · obtain ⟨g, o, b1, q, c1, rfl, hc⟩ := hA.out.1.lens (k := k) (by rw [← Hn.out.1]; exact hlt)
      by_cases h3 : 70 < q
      · go_wp2
        go_ret
        exact ⟨⟨_, rfl⟩, rfl⟩
      · go_wp2
        exact ⟨⟨k + 1, by omega, by go_num⟩, by simp [intOf]; omega⟩
    · go_wp2
      go_loop [6] (fun i => ∃ k : Nat, k ≤ m ∧ i = .int .i64 k) (fun i => m - (intOf i).toNat)
      case atStart => exact ⟨0, by omega, rfl⟩
      case round =>
        obtain ⟨j, hj, rfl⟩ := hrel
        by_cases hlt2 : j < m
        · obtain ⟨g, o, b1, q, c1, rfl, hc⟩ := hA.out.2.lens (k := j) (by rw [← Hn.out.2]; exact hlt2)
          by_cases h3 : 70 < q
          · go_wp2
            go_ret
            exact ⟨⟨_, rfl⟩, rfl⟩
          · go_wp2
            exact ⟨⟨j + 1, by omega, by go_num⟩, by simp [intOf]; omega⟩
        · go_wp2
          go_ret
          exact ⟨⟨_, rfl⟩, rfl⟩
end Go.Proofs.Ytlnikgcanimggaa
