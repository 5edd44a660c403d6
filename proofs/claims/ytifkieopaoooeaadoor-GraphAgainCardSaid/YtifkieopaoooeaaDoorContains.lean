/- slices.IndexFunc and slices.ContainsFunc at the test of a row's length. -/
import Derived.Test.YtifkieopaoooeaaDoorSmall
set_option linter.unusedSimpArgs false
set_option linter.unusedVariables false
namespace Go.Proofs.YtifkieopaoooeaaDoor
open Go.RowKit Plain

def badLen (n : Int) (m : List (List Int)) : Bool := m.any fun r => ((r.length : Int) != n)

set_option maxHeartbeats 400000 in
theorem index_calls (a : Option Addr) (c : Nat) (m : List (List Int)) (n : Int) (B : Nat) (w : World) (hm : Rows w a m) (hB : w.cell? ⟨B, 0, none⟩ = some (.int .i64 n)) :
    Calls Tryd.prog 54 #[.slice a m.length c, .func (.func 41) #[] #[.pointer (some ⟨B, 0, none⟩)]] w fun e w' => (∃ i : Int, e = .returned (.int .i64 i) ∧ decide (0 ≤ i) = badLen n m) ∧ w' = w := by
  have hA := Lib.hid (And.intro hm hB)
  have hmx := hm.len
  clear hm hB
  obtain ⟨L, hL⟩ : ∃ L, L = m.length := ⟨_, rfl⟩
  rw [← hL] at hmx ⊢
  have HL := Lib.hid hL
  clear hL
  go_enter Tryd.func54, Tryd.ntmps54
  go_wp2
  go_loop [8] (fun i => ∃ k : Nat, k ≤ L ∧ i = .int .i64 k ∧ badLen n m = badLen n (m.drop k)) (fun i => L - (intOf i).toNat)
  case atStart => exact ⟨0, Nat.zero_le _, rfl, rfl⟩
  case round =>
    obtain ⟨k, hk, rfl, he⟩ := hrel
    have He := Lib.hid he
    clear he
    by_cases hlt : k < L
    · have hkm : k < m.length := by rw [← HL.out]; exact hlt
      obtain ⟨g, o, b, d, rfl, hg, hc, -⟩ := hA.out.1.at_ (k := k) hkm
      have hd : m.drop k = (m[k]?.getD []) :: m.drop (k + 1) := by
        rw [List.getElem?_eq_getElem hkm]; exact (List.getElem_cons_drop hkm).symm
      obtain ⟨r, hr⟩ : ∃ r, m[k]?.getD [] = r := ⟨_, rfl⟩
      rw [hr] at hc hd
      obtain ⟨q, hq⟩ : ∃ q, q = r.length := ⟨_, rfl⟩
      rw [← hq] at hc
      have hcall := len1_calls b q d B n w hA.out.2
      have he2 : badLen n m = (((q : Int) != n) || badLen n (m.drop (k + 1))) := by rw [He.out, hd, hq]; rfl
      have H := Lib.hid (And.intro hcall he2)
      clear hd hr hq hcall he2 hkm
      cases hb : ((q : Int) != n) with
      | false =>
        rw [hb] at H
        have Hb := Lib.hid hb
        clear hb
        go_wp2_with (go_at_call 41; refine H.out.1.mono ?_; rintro e w' ⟨rfl, rfl⟩)
        exact ⟨⟨k + 1, by omega, by go_num, by rw [H.out.2]; simp⟩, by simp [intOf]; omega⟩
      | true =>
        rw [hb] at H
        have Hb := Lib.hid hb
        clear hb
        go_wp2_with (go_at_call 41; refine H.out.1.mono ?_; rintro e w' ⟨rfl, rfl⟩)
        go_ret
        exact ⟨⟨(k : Int), rfl, by rw [H.out.2]; simp⟩, rfl⟩
    · go_wp2
      go_ret
      exact ⟨⟨-1, rfl, by rw [He.out, List.drop_eq_nil_of_le (by rw [← HL.out]; omega)]; simp [badLen]⟩, rfl⟩

theorem contains_calls (a : Option Addr) (c : Nat) (m : List (List Int)) (n : Int) (B : Nat) (w : World) (hm : Rows w a m) (hB : w.cell? ⟨B, 0, none⟩ = some (.int .i64 n)) :
    Calls Tryd.prog 40 #[.slice a m.length c, .func (.func 41) #[] #[.pointer (some ⟨B, 0, none⟩)]] w fun e w' => e = .returned (.bool (badLen n m)) ∧ w' = w := by
  have hc := Lib.hid (index_calls a c m n B w hm hB)
  clear hm hB
  obtain ⟨L, hL⟩ : ∃ L, L = m.length := ⟨_, rfl⟩
  rw [← hL] at hc ⊢
  clear hL
  go_enter Tryd.func40, Tryd.ntmps40
  go_wp2_with (go_at_call 54; refine hc.out.mono ?_; rintro e w' ⟨⟨i, rfl, hi⟩, rfl⟩; have Hi := Lib.hid hi; clear hi)
  go_ret
  exact ⟨ret_bool Hi.out, rfl⟩
end Go.Proofs.YtifkieopaoooeaaDoor
