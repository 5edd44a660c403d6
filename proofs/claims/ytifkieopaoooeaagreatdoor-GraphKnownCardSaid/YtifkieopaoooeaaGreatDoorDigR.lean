/- The reference's digits and bright, and the law's large. -/
import Derived.Test.YtifkieopaoooeaaGreatDoorTextP
import Derived.Laws.BytesArg
set_option linter.unusedSimpArgs false
set_option linter.unusedVariables false
namespace Go.Proofs.YtifkieopaoooeaaGreatDoor
open Go.RowKit Plain PlainG
theorem cell_one (w : World) (a : Value) (T : TypeId) (xs : List Int) (h : a = .int .u8 (xs.getD 0 0)) : ∀ i, i < 1 → (w.alloc (.cells #[a] T)).cell? ⟨w.heap.size, 0 + i, none⟩ = some (.int .u8 (xs.getD i 0)) := by
  intro i hi
  obtain rfl : i = 0 := by omega
  rw [← h]; simp
theorem cell_two (w : World) (a b : Value) (T : TypeId) (xs : List Int) (h : a = .int .u8 (xs.getD 0 0)) (h2 : b = .int .u8 (xs.getD 1 0)) : ∀ i, i < 2 → (w.alloc (.cells #[a, b] T)).cell? ⟨w.heap.size, 0 + i, none⟩ = some (.int .u8 (xs.getD i 0)) := by
  intro i hi
  rcases (by omega : i = 0 ∨ i = 1) with rfl | rfl
  · rw [← h]; simp
  · rw [← h2]; simp
set_option maxRecDepth 100000 in
set_option maxHeartbeats 1000000 in
theorem digits_calls (n : Nat) (hn : n < 100) (w : World) :
    Calls Tryz.prog 55 #[.int .i64 (n : Int)] w fun e w' => e = .returned (.string (sb (dec n))) ∧ Below w.heap.size w w' := by
  by_cases h : 9 < n
  · have hi : (9 : Int) < (n : Int) := by omega
    have hs : strOfNums [48 + (n : Int) / 10, 48 + (n : Int) % 10] = sb (dec n) := by
      unfold strOfNums sb dec
      rw [if_pos h]
      have e1 : (48 + (n : Int) / 10).toNat = 48 + n / 10 := by omega
      have e2 : (48 + (n : Int) % 10).toNat = 48 + n % 10 := by omega
      simp [e1, e2]
    have kc := run_convert_bytes_arg (P := Tryz.prog) (w.alloc (.cells #[.int .u8 (48 + (n : Int) / 10), .int .u8 (48 + (n : Int) % 10)] 5)) 73 5 Tryz.underlying73 Tryz.underlying5 w.heap.size 0 2 2 [48 + (n : Int) / 10, 48 + (n : Int) % 10] rfl (cell_two w _ _ 5 _ rfl rfl) 9 Tryz.underlying9
    rw [hs] at kc
    have hb : Below w.heap.size w (w.alloc (.cells #[.int .u8 (48 + (n : Int) / 10), .int .u8 (48 + (n : Int) % 10)] 5)) := (Below.refl _ _).alloc (Nat.le_refl _) _
    clear hs
    go_enter Tryz.func55, Tryz.ntmps55
    go_wp2
    go_ret
    exact ⟨rfl, hb⟩
  · have hi : ¬ (9 : Int) < (n : Int) := by omega
    have hs : strOfNums [48 + (n : Int)] = sb (dec n) := by
      unfold strOfNums sb dec
      rw [if_neg h]
      have e1 : (48 + (n : Int)).toNat = 48 + n := by omega
      simp [e1]
    have kc := run_convert_bytes_arg (P := Tryz.prog) (w.alloc (.cells #[.int .u8 (48 + (n : Int))] 5)) 73 5 Tryz.underlying73 Tryz.underlying5 w.heap.size 0 1 1 [48 + (n : Int)] rfl (cell_one w _ 5 _ rfl) 9 Tryz.underlying9
    rw [hs] at kc
    have hb : Below w.heap.size w (w.alloc (.cells #[.int .u8 (48 + (n : Int))] 5)) := (Below.refl _ _).alloc (Nat.le_refl _) _
    clear hs
    go_enter Tryz.func55, Tryz.ntmps55
    go_wp2
    go_ret
    exact ⟨rfl, hb⟩
theorem bright_calls (a : Option Addr) (c : Nat) (l : List Int) (w : World) (h : Ints w a l) :
    Calls Tryz.prog 56 #[.slice a l.length c] w fun e w' => e = .returned (.bool (! l.all (· == 0))) ∧ w' = w := by
  obtain ⟨L, hL⟩ : ∃ L, l.length = L := ⟨_, rfl⟩
  have hLl := h.len
  rw [hL] at hLl ⊢
  have H := Lib.hid (And.intro h hL)
  clear h hL
  go_enter Tryz.func56, Tryz.ntmps56
  go_wp2
  go_loopw [3] (fun i wr => ∃ k : Nat, k ≤ L ∧ i = .int .i64 (k : Int) ∧ wr = w ∧ (l.all (· == 0)) = (l.drop k).all (· == 0)) (fun i _ => L - (intOf i).toNat)
  case atStart => exact ⟨0, Nat.zero_le _, rfl, rfl, rfl⟩
  case round =>
    obtain ⟨k, hk, rfl, hw, hall⟩ := hrel
    replace hw := hw.symm
    subst hw
    by_cases hlt : k < L
    · obtain ⟨b, o, rfl, hb, hcell⟩ := H.out.1.at_ (k := k) (by rw [H.out.2]; exact hlt)
      have hd : l.drop k = (l[k]?.getD 0) :: l.drop (k + 1) := by
        rw [List.drop_eq_getElem_cons (by rw [H.out.2]; exact hlt), List.getElem?_eq_getElem (by rw [H.out.2]; exact hlt)]; rfl
      obtain ⟨x, hx⟩ : ∃ x, l[k]?.getD 0 = x := ⟨_, rfl⟩
      rw [hx] at hcell hd
      rw [hd, List.all_cons] at hall
      cases hq : (x == 0)
      · have hq2 : (x != 0) = true := by simp [bne, hq]
        have HX := Lib.hid (hall.trans (by rw [hq, Bool.false_and]))
        clear hall hd hx
        go_wp2
        go_ret
        exact ⟨by rw [HX.out]; rfl, by first | rfl | trivial⟩
      · have hq2 : (x != 0) = false := by simp [bne, hq]
        have HX := Lib.hid (hall.trans (by rw [hq, Bool.true_and]))
        clear hall hd hx
        go_wp2
        exact ⟨⟨k + 1, by omega, by go_num, by first | rfl | trivial, HX.out⟩, by first | (simp [intOf]; omega) | omega | trivial⟩
    · have HX := Lib.hid (hall.trans (by rw [List.drop_of_length_le (by rw [H.out.2]; omega)]))
      clear hall
      go_wp2
      go_ret
      exact ⟨by rw [HX.out]; rfl, by first | rfl | trivial⟩
theorem large_calls (a b : Option Addr) (c d L M : Nat) (n : Int) (w : World) :
    Calls Tryz.prog 10 #[.agg #[.int .i64 n, .slice a L c, .slice b M d]] w fun e w' => e = .returned (.bool (decide ((400 : Int) < (L : Int)) || decide ((40 : Int) < (M : Int)))) ∧ Below w.heap.size w w' := by
  have hb : Below w.heap.size w (w.alloc (.cells #[.int .i64 n, .slice a L c, .slice b M d] 25)) := (Below.refl _ _).alloc (Nat.le_refl _) _
  have H := Lib.hid hb
  clear hb
  cases h : decide ((400 : Int) < (L : Int)) <;> cases h2 : decide ((40 : Int) < (M : Int)) <;> (
    go_enter Tryz.func10, Tryz.ntmps10
    go_wp2
    go_ret
    exact ⟨rfl, H.out⟩)
end Go.Proofs.YtifkieopaoooeaaGreatDoor
