/- The reference's reader: fail, sign, more. -/
import Derived.Test.YtifkieopaoooeaaGreatDoorVerts
set_option linter.unusedSimpArgs false
set_option linter.unusedVariables false
namespace Go.Proofs.YtifkieopaoooeaaGreatDoor
open Go.RowKit Plain PlainG
set_option maxHeartbeats 2000000 in
theorem failR_yes {w : World} {p : Nat} {b : ByteArray} {at_ : Nat} (h : Rg w p b at_ (0, 0)) (e : Int) (n : Nat) :
    Calls Tryz.prog 65 #[.pointer (some ⟨p, 0, none⟩), .int .i64 e, .int .i64 (n : Int)] w fun r w' => r = .returned (.tuple #[]) ∧ RgTo w w' p b at_ (e, n) := by
  have c2 := h.c2
  have c3 := h.c3
  have hf := h.fr 2
  have hf3 := h.fr 3
  have hlt := h.lt
  have H := Lib.hid h
  clear h
  go_enter Tryz.func65, Tryz.ntmps65
  go_wp2
  go_end0
  exact ⟨rfl, H.out.setF e n, (grown_put 2 _).trans (grown_put 3 _)⟩
set_option maxHeartbeats 2000000 in
theorem failR_no {w : World} {p : Nat} {b : ByteArray} {at_ : Nat} {f : Int × Nat} (h : Rg w p b at_ f) (hf0 : f.1 ≠ 0) (e : Int) (n : Nat) :
    Calls Tryz.prog 65 #[.pointer (some ⟨p, 0, none⟩), .int .i64 e, .int .i64 (n : Int)] w fun r w' => r = .returned (.tuple #[]) ∧ w' = w := by
  have c2 := h.c2
  obtain ⟨f1, f2⟩ := f
  simp only at c2 hf0
  have hq : (f1 == 0) = false := by simp [hf0]
  clear h
  go_enter Tryz.func65, Tryz.ntmps65
  go_wp2
  go_end0
  exact ⟨rfl, rfl⟩
theorem moreR_calls {w : World} {p : Nat} {b : ByteArray} {at_ : Nat} {f : Int × Nat} (h : Rg w p b at_ f) (hat : at_ ≤ 1000000) :
    Calls Tryz.prog 63 #[.pointer (some ⟨p, 0, none⟩)] w fun r w' => r = .returned (.bool (f.1 == 0 && decide (at_ < b.size))) ∧ ∃ q, w' = w.drewN q := by
  have c0 := h.c0
  have c1 := h.c1
  have c2 := h.c2
  have hl := h.len
  obtain ⟨f1, f2⟩ := f
  simp only at c2
  clear h
  obtain ⟨n, hn⟩ : ∃ n, b.size = n := ⟨_, rfl⟩
  rw [hn] at hl ⊢
  simp only
  cases hq : (f1 == 0)
  · rw [Bool.false_and]
    go_enter Tryz.func63, Tryz.ntmps63
    go_wp2
    go_quiet (fail)
    go_wp2
    go_ret
    exact ⟨rfl, _, rfl⟩
  · rw [Bool.true_and]
    cases hd : decide (at_ < n) <;> (
      go_enter Tryz.func63, Tryz.ntmps63
      go_wp2
      go_quiet (fail)
      go_wp2
      go_ret
      exact ⟨rfl, _, rfl⟩)
theorem signR_skip {w : World} {p : Nat} {b : ByteArray} {at_ : Nat} {f : Int × Nat} (h : Rg w p b at_ f) (hf0 : f.1 ≠ 0) (c : Nat) :
    Calls Tryz.prog 64 #[.pointer (some ⟨p, 0, none⟩), .int .u8 (c : Int)] w fun r w' => r = .returned (.tuple #[]) ∧ w' = w := by
  have c2 := h.c2
  obtain ⟨f1, f2⟩ := f
  simp only at c2 hf0
  have hq : (f1 != 0) = true := by simp [hf0]
  clear h
  go_enter Tryz.func64, Tryz.ntmps64
  go_wp2
  refine bodyPost_ret (results_none rfl _ _ _) rfl ?_
  exact ⟨rfl, rfl⟩
theorem numberR_skip {w : World} {p : Nat} {b : ByteArray} {at_ : Nat} {f : Int × Nat} (h : Rg w p b at_ f) (hf0 : f.1 ≠ 0) (top : Int) :
    Calls Tryz.prog 62 #[.pointer (some ⟨p, 0, none⟩), .int .i64 top] w fun r w' => r = .returned (.int .i64 0) ∧ w' = w := by
  have c2 := h.c2
  obtain ⟨f1, f2⟩ := f
  simp only at c2 hf0
  have hq : (f1 != 0) = true := by simp [hf0]
  clear h
  go_enter Tryz.func62, Tryz.ntmps62
  go_wp2
  go_ret
  exact ⟨rfl, rfl⟩
set_option maxHeartbeats 2000000 in
theorem signR_ok {w : World} {p : Nat} {b : ByteArray} {at_ : Nat} (h : Rg w p b at_ (0, 0)) (c : Nat) (hlt : at_ < b.size) (hc : (bytesOf b)[at_]?.getD 0 = c) :
    Calls Tryz.prog 64 #[.pointer (some ⟨p, 0, none⟩), .int .u8 (c : Int)] w fun r w' => r = .returned (.tuple #[]) ∧ RgTo w w' p b (at_ + 1) (0, 0) := by
  have c0 := h.c0
  have c1 := h.c1
  have c2 := h.c2
  have hl := h.len
  have hf := h.fr 1
  have hp := h.lt
  have H := Lib.hid h
  clear h
  have hix := fun W => str_byte hlt W
  rw [hc] at hix
  clear hc
  obtain ⟨n, hn⟩ : ∃ n, b.size = n := ⟨_, rfl⟩
  rw [hn] at hlt hl
  have Hn := Lib.hid hn
  have hlt2 : ¬ (n : Int) ≤ at_ := by omega
  have hd : decide ((n : Int) ≤ (at_ : Int)) = false := by simp; omega
  go_enter Tryz.func64, Tryz.ntmps64
  go_wp2
  go_quiet (fail)
  go_wp2
  go_end0
  have h1 := fun q => (H.out.drewN q).set1 (at_ + 1)
  rw [show ((at_ + 1 : Nat) : Int) = (at_ : Int) + 1 by omega] at h1
  exact ⟨rfl, h1 _, (grown_drewN w _ _).trans (grown_put 1 _)⟩
set_option maxHeartbeats 2000000 in
theorem signR_no {w : World} {p : Nat} {b : ByteArray} {at_ : Nat} (h : Rg w p b at_ (0, 0)) (c : Nat) (hat : at_ ≤ 1000000) (hno : ¬ (at_ < b.size ∧ (bytesOf b)[at_]?.getD 0 = c)) :
    Calls Tryz.prog 64 #[.pointer (some ⟨p, 0, none⟩), .int .u8 (c : Int)] w fun r w' => r = .returned (.tuple #[]) ∧ RgTo w w' p b at_ (11, at_) := by
  have c0 := h.c0
  have c1 := h.c1
  have c2 := h.c2
  have hl := h.len
  have hfl := fun (w1 : World) (h1 : Rg w1 p b at_ (0, 0)) => failR_yes h1 11 at_
  have H := Lib.hid (And.intro h hfl)
  clear h hfl
  by_cases hlt : at_ < b.size
  · have hix := fun W => str_byte hlt W
    have hne : ((((bytesOf b)[at_]?.getD 0 : Nat) : Int) != (c : Int)) = true := by
      simp only [bne_iff_ne, ne_eq]; intro e; exact hno ⟨hlt, by omega⟩
    obtain ⟨x, hx⟩ : ∃ x, (bytesOf b)[at_]?.getD 0 = x := ⟨_, rfl⟩
    rw [hx] at hix hne
    obtain ⟨n, hn⟩ : ∃ n, b.size = n := ⟨_, rfl⟩
    rw [hn] at hlt hl
    have hlt2 : ¬ (n : Int) ≤ at_ := by omega
    clear hx hno
    go_enter Tryz.func64, Tryz.ntmps64
    go_wp2
    go_quiet (fail)
    go_wp2_with (go_at_call 65; refine (H.out.2 _ (H.out.1.drewN _)).mono ?_; rintro e w2 ⟨rfl, hw2⟩; have HW := Lib.hid hw2; clear hw2)
    refine bodyPost_ret (results_none rfl _ _ _) rfl ?_
    exact ⟨rfl, HW.out.1, (grown_drewN w _ _).trans HW.out.2⟩
  · obtain ⟨n, hn⟩ : ∃ n, b.size = n := ⟨_, rfl⟩
    rw [hn] at hlt hl
    have hlt2 : (n : Int) ≤ at_ := by omega
    clear hno
    go_enter Tryz.func64, Tryz.ntmps64
    go_wp2
    go_quiet (fail)
    go_wp2_with (go_at_call 65; refine (H.out.2 _ (H.out.1.drewN _)).mono ?_; rintro e w2 ⟨rfl, hw2⟩; have HW := Lib.hid hw2; clear hw2)
    refine bodyPost_ret (results_none rfl _ _ _) rfl ?_
    exact ⟨rfl, HW.out.1, (grown_drewN w _ _).trans HW.out.2⟩
end Go.Proofs.YtifkieopaoooeaaGreatDoor
