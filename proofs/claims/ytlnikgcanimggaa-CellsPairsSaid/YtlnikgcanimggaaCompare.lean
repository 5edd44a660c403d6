/- The reference's compare: lists, element by element. -/
import Derived.Test.YtlnikgcanimggaaProg
import Derived.Test.YtlnikgcanimggaaBase
import Derived.Test.YtlnikgcanimggaaPlain
set_option linter.unusedSimpArgs false
set_option linter.unusedVariables false
namespace Go.Proofs.Ytlnikgcanimggaa
open Go.RowKit Plain

set_option maxHeartbeats 400000 in
theorem compare_calls (a b : Option Addr) (c d : Nat) (xs ys : List Int) (w : World) (ha : Ints w a xs) (hb : Ints w b ys) :
    Calls Try.prog 87 #[.slice a xs.length c, .slice b ys.length d] w fun e w' => e = .returned (.int .i64 (cmpL xs ys)) ∧ ∃ q, w' = w.drewN q := by
  have hA := Lib.hid ha
  have hB := Lib.hid hb
  have hmx := ha.len
  have hmy := hb.len
  clear ha hb
  obtain ⟨n, hn⟩ : ∃ n, n = xs.length := ⟨_, rfl⟩
  obtain ⟨m, hm⟩ : ∃ m, m = ys.length := ⟨_, rfl⟩
  rw [← hn, ← hm]
  rw [← hn] at hmx
  rw [← hm] at hmy
  have Hn := Lib.hid hn
  have Hm := Lib.hid hm
  clear hn hm
  go_enter Try.func87, Try.ntmps87
  go_wp2
  go_loopw [5] (fun i wr => ∃ k q : Nat, k ≤ n ∧ k ≤ m ∧ i = .int .i64 k ∧ wr = w.drewN q ∧ cmpL xs ys = cmpL (xs.drop k) (ys.drop k)) (fun i _ => n - (intOf i).toNat)
  case atStart => exact ⟨0, 0, Nat.zero_le _, Nat.zero_le _, rfl, rfl, rfl⟩
  case round =>
    obtain ⟨k, q, hk, hk2, rfl, rfl, he⟩ := hrel
    have He := Lib.hid he
    clear he
    by_cases hlt : k < n
    · by_cases hlt2 : k < m
      · obtain ⟨a', oa, rfl, _, hca⟩ := hA.out.at_ (k := k) (by have := Hn.out; omega)
        obtain ⟨b', ob, rfl, _, hcb⟩ := hB.out.at_ (k := k) (by have := Hm.out; omega)
        have hd : xs.drop k = xs[k]?.getD 0 :: xs.drop (k + 1) := drop_cons (by have := Hn.out; omega)
        have hd2 : ys.drop k = ys[k]?.getD 0 :: ys.drop (k + 1) := drop_cons (by have := Hm.out; omega)
        obtain ⟨x, hx⟩ : ∃ x, xs[k]?.getD 0 = x := ⟨_, rfl⟩
        obtain ⟨y, hy⟩ : ∃ y, ys[k]?.getD 0 = y := ⟨_, rfl⟩
        rw [hx] at hca hd
        rw [hy] at hcb hd2
        have Hd := Lib.hid (And.intro hd hd2)
        clear hd hd2 hx hy
        by_cases h1 : x < y
        · go_wp2
          go_quiet (fail)
          go_wp2
          go_ret
          exact ⟨ret_int (by rw [He.out, Hd.out.1, Hd.out.2, cmpL_lt h1]), _, World.drewN_drewN _ _ _⟩
        · by_cases h2 : y < x
          · go_wp2
            go_quiet (fail)
            go_wp2
            go_quiet (fail)
            go_wp2
            go_ret
            exact ⟨ret_int (by rw [He.out, Hd.out.1, Hd.out.2, cmpL_gt h2]), by first | exact ⟨_, rfl⟩ | (simp only [World.drewN_drewN]; exact ⟨_, rfl⟩)⟩
          · go_wp2
            go_quiet (fail)
            go_wp2
            go_quiet (fail)
            go_wp2
            exact ⟨⟨k + 1, _, by omega, by omega, by go_num, rfl, by rw [He.out, Hd.out.1, Hd.out.2, cmpL_eq (by omega)]⟩, by simp [intOf]; omega⟩
      · go_wp2
        go_ret
        exact ⟨ret_int (by rw [He.out, cmpL_end (.inr (drop_all (by have := Hm.out; omega)))]; simp [← Hn.out, ← Hm.out]; omega), _, rfl⟩
    · go_wp2
      go_ret
      exact ⟨ret_int (by rw [He.out, cmpL_end (.inl (drop_all (by have := Hn.out; omega)))]; simp [← Hn.out, ← Hm.out]; omega), _, rfl⟩
end Go.Proofs.Ytlnikgcanimggaa
