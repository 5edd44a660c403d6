/- The reference's reader with one state. -/
import Derived.Test.YtifkieopaoooeaaGreatDoorNumR
import Derived.Test.YtifkieopaoooeaaGreatDoorPlainRd
set_option linter.unusedSimpArgs false
set_option linter.unusedVariables false
namespace Go.Proofs.YtifkieopaoooeaaGreatDoor
open Go.RowKit Plain PlainG
/-- The reader's block in a state. -/
def RgS (w : World) (p : Nat) (b : ByteArray) (s : St) : Prop :=
  match s with
  | .ok a => a ≤ b.size ∧ Rg w p b a (0, 0)
  | .error f => f.1 ≠ 0 ∧ ∃ a, a ≤ 100000 ∧ Rg w p b a f
def RgN (w w' : World) (p : Nat) (b : ByteArray) (s : St) : Prop := RgS w' p b s ∧ w.grownBy w' (some p)
theorem numL_in {b : List Nat} {F : Nat} : ∀ f k n, F + k ≤ b.length → F + (numL b F f k n).1 ≤ b.length := by
  intro f
  induction f with
  | zero => intro k n h; exact h
  | succ f ih =>
    intro k n h
    rw [numL]
    split
    · rename_i hh; exact ih _ _ (by omega)
    · exact h
theorem num_in {b : List Nat} {F : Nat} {top : Int} {x : Nat × Nat} (hF : F ≤ b.length) (h : num b F top = .ok x) : x.2 ≤ b.length := by
  unfold num at h
  split at h
  · cases h
  · split at h
    · cases h
    · split at h
      · cases h
      · cases h; exact numL_in 3 0 0 hF
theorem RgS.drewN {w : World} {p : Nat} {b : ByteArray} {s : St} (h : RgS w p b s) (q : Nat) : RgS (w.drewN q) p b s := by
  cases s with
  | ok a => exact ⟨h.1, h.2.drewN q⟩
  | error f => obtain ⟨h1, a, h2, h3⟩ := h; exact ⟨h1, a, h2, h3.drewN q⟩
theorem RgS.at_ok {w : World} {p : Nat} {b : ByteArray} {a : Nat} (h : RgS w p b (.ok a)) : a ≤ b.size ∧ Rg w p b a (0, 0) := h
theorem signR_S {w : World} {p : Nat} {b : ByteArray} {s : St} (h : RgS w p b s) (hb : b.size ≤ 50000) (c : Nat) :
    Calls Tryz.prog 64 #[.pointer (some ⟨p, 0, none⟩), .int .u8 (c : Int)] w fun r w' => r = .returned (.tuple #[]) ∧ RgN w w' p b (nxt s fun a => sgn (bytesOf b) a c) := by
  cases s with
  | error f =>
    obtain ⟨h1, a, h2, h3⟩ := h
    refine (signR_skip h3 h1 c).mono ?_
    rintro e w' ⟨rfl, rfl⟩
    exact ⟨rfl, ⟨h1, a, h2, h3⟩, grown_drewN _ 0 _⟩
  | ok a =>
    obtain ⟨h1, h2⟩ := h
    by_cases hc : a < b.size ∧ (bytesOf b)[a]?.getD 0 = c
    · refine (signR_ok h2 c hc.1 hc.2).mono ?_
      rintro e w' ⟨rfl, h3⟩
      have hs : (nxt (.ok a) fun a => sgn (bytesOf b) a c) = .ok (a + 1) := by rw [nxt_ok]; unfold sgn; rw [bytesOf_len, if_pos hc]
      rw [hs]
      exact ⟨rfl, ⟨by omega, h3.1⟩, h3.2⟩
    · refine (signR_no h2 c (by omega) hc).mono ?_
      rintro e w' ⟨rfl, h3⟩
      have hs : (nxt (.ok a) fun a => sgn (bytesOf b) a c) = .error (11, a) := by rw [nxt_ok]; unfold sgn; rw [bytesOf_len, if_neg hc]
      rw [hs]
      exact ⟨rfl, ⟨by simp, a, by omega, h3.1⟩, h3.2⟩
theorem numberR_S {w : World} {p : Nat} {b : ByteArray} {s : St} (h : RgS w p b s) (hb : b.size ≤ 50000) (top : Int) :
    Calls Tryz.prog 62 #[.pointer (some ⟨p, 0, none⟩), .int .i64 top] w fun r w' => ∃ v : Nat, r = .returned (.int .i64 (v : Int)) ∧ IsNum (bytesOf b) top s v ∧ RgN w w' p b (nxt s (numS (bytesOf b) top)) := by
  cases s with
  | error f =>
    obtain ⟨h1, a, h2, h3⟩ := h
    refine (numberR_skip h3 h1 top).mono ?_
    rintro e w' ⟨rfl, rfl⟩
    exact ⟨0, rfl, (fun a x h => by cases h), ⟨h1, a, h2, h3⟩, grown_drewN _ 0 _⟩
  | ok a =>
    obtain ⟨h1, h2⟩ := h
    refine (numberR_calls top h2 (by omega)).mono ?_
    intro e w' hr
    rw [nxt_ok]
    unfold numS
    unfold NumResR at hr
    cases hn : num (bytesOf b) a top with
    | error f =>
      rw [hn] at hr
      obtain ⟨v, a2, rfl, ha2, h3⟩ := hr
      exact ⟨v, rfl, (fun a' x h hx => by cases h; rw [hn] at hx; cases hx), ⟨num_code hn, a2, by omega, h3.1⟩, h3.2⟩
    | ok x =>
      rw [hn] at hr
      obtain ⟨rfl, h3⟩ := hr
      have := num_in (by rw [bytesOf_len]; exact h1) hn
      rw [bytesOf_len] at this
      exact ⟨x.1, rfl, (fun a' x' h hx => by cases h; rw [hn] at hx; cases hx; rfl), ⟨this, h3.1⟩, h3.2⟩
theorem failR_S {w : World} {p : Nat} {b : ByteArray} {s : St} (h : RgS w p b s) (hb : b.size ≤ 50000) (e : Int) (n : Nat) (he : e ≠ 0) :
    Calls Tryz.prog 65 #[.pointer (some ⟨p, 0, none⟩), .int .i64 e, .int .i64 (n : Int)] w fun r w' => r = .returned (.tuple #[]) ∧ RgN w w' p b (nxt s fun _ => .error (e, n)) := by
  cases s with
  | error f =>
    obtain ⟨h1, a, h2, h3⟩ := h
    refine (failR_no h3 h1 e n).mono ?_
    rintro r w' ⟨rfl, rfl⟩
    exact ⟨rfl, ⟨h1, a, h2, h3⟩, grown_drewN _ 0 _⟩
  | ok a =>
    obtain ⟨h1, h2⟩ := h
    refine (failR_yes h2 e n).mono ?_
    rintro r w' ⟨rfl, h3⟩
    exact ⟨rfl, ⟨he, a, by omega, h3.1⟩, h3.2⟩
def goesOn (b : ByteArray) (s : St) : Bool := match s with | .ok a => decide (a < b.size) | .error _ => false
theorem moreR_S {w : World} {p : Nat} {b : ByteArray} {s : St} (h : RgS w p b s) (hb : b.size ≤ 50000) :
    Calls Tryz.prog 63 #[.pointer (some ⟨p, 0, none⟩)] w fun r w' => r = .returned (.bool (goesOn b s)) ∧ ∃ q, w' = w.drewN q := by
  cases s with
  | error f =>
    obtain ⟨h1, a, h2, h3⟩ := h
    have := moreR_calls h3 (by omega)
    rw [show (f.1 == 0) = false by simp [h1], Bool.false_and] at this
    exact this
  | ok a =>
    obtain ⟨h1, h2⟩ := h
    have := moreR_calls h2 (by omega)
    rw [show ((0 : Int) == 0) = true from rfl, Bool.true_and] at this
    exact this
end Go.Proofs.YtifkieopaoooeaaGreatDoor
