/- The reference's way to collect equal rows, as a plain function. -/
import Derived.Test.YtifkieopaoooeaaDoorPlain
set_option linter.unusedSimpArgs false
set_option linter.unusedVariables false
namespace Go.Proofs.YtifkieopaoooeaaDoor.Plain

theorem cmpL_self : ∀ xs : List Int, cmpL xs xs = 0
  | [] => by simp [cmpL]
  | x :: xs => by rw [cmpL_eq rfl, cmpL_self xs]

section
variable (R : Nat → List Int)
def better (acc : Option Nat) (k : Nat) : Option Nat :=
  match acc with
  | none => some k
  | some l => if cmpL (R k) (R l) < 0 then some k else some l
def pickTo (td : Nat → Bool) : Nat → Option Nat
  | 0 => none
  | i + 1 => if td i then better R (pickTo td i) i else pickTo td i
def cellTo (td : Nat → Bool) (l : Nat) : Nat → List Nat
  | 0 => []
  | i + 1 => if td i = true ∧ cmpL (R i) (R l) = 0 then cellTo td l i ++ [i] else cellTo td l i
def strike (td : Nat → Bool) (l i : Nat) : Nat → Bool := fun k => td k && !(decide (k < i) && (cmpL (R k) (R l) == 0))
def collectF (n : Nat) : Nat → (Nat → Bool) → List (List Nat) → List (List Nat)
  | 0, _, out => out
  | f + 1, td, out =>
    match pickTo R td n with
    | none => out
    | some l => collectF n f (strike R td l n) (out ++ [cellTo R td l n])
def count (td : Nat → Bool) : Nat → Nat
  | 0 => 0
  | i + 1 => count td i + if td i then 1 else 0

variable {R}
theorem pickTo_some {td : Nat → Bool} : ∀ {i l : Nat}, pickTo R td i = some l → l < i ∧ td l = true
  | 0, _, h => by simp [pickTo] at h
  | i + 1, l, h => by
    rw [pickTo] at h
    split at h
    · rename_i ht
      cases hp : pickTo R td i with
      | none => rw [hp] at h; simp [better] at h; subst h; exact ⟨by omega, ht⟩
      | some m =>
        have := pickTo_some hp
        rw [hp] at h; simp only [better] at h
        split at h <;> injection h with h <;> subst h
        · exact ⟨by omega, ht⟩
        · exact ⟨by omega, this.2⟩
    · have := pickTo_some h; exact ⟨by omega, this.2⟩
theorem pickTo_none {td : Nat → Bool} : ∀ {i : Nat}, pickTo R td i = none → count td i = 0
  | 0, _ => rfl
  | i + 1, h => by
    rw [pickTo] at h
    split at h
    · cases hp : pickTo R td i with
      | none => rw [hp] at h; simp [better] at h
      | some m => rw [hp] at h; simp only [better] at h; split at h <;> cases h
    · rename_i ht
      rw [count, pickTo_none h]; simp [ht]
theorem count_strike (td : Nat → Bool) (l i : Nat) : ∀ n, i ≤ n → count (strike R td l i) n + (cellTo R td l i).length = count td n := by
  induction i with
  | zero =>
    intro n _
    have : strike R td l 0 = td := by funext k; simp [strike]
    rw [this]; simp [cellTo]
  | succ i ih =>
    intro n hn
    have key : ∀ m, count (strike R td l (i + 1)) m + (if i < m ∧ td i = true ∧ cmpL (R i) (R l) = 0 then 1 else 0) = count (strike R td l i) m := by
      intro m
      induction m with
      | zero => simp [count]
      | succ m ihm =>
        rw [count, count, ← ihm]
        by_cases hm : m = i
        · subst hm
          by_cases h1 : td m = true <;> by_cases h2 : cmpL (R m) (R l) = 0 <;> simp [strike, h1, h2]
        · have e : strike R td l (i + 1) m = strike R td l i m := by
            simp only [strike]
            have : decide (m < i + 1) = decide (m < i) := by rw [decide_eq_decide]; omega
            rw [this]
          rw [e]
          have e2 : (i < m + 1 ∧ td i = true ∧ cmpL (R i) (R l) = 0) = (i < m ∧ td i = true ∧ cmpL (R i) (R l) = 0) := by
            have : i < m + 1 ↔ i < m := by omega
            rw [this]
          simp only [e2]; omega
    have h1 := ih n (by omega)
    have h2 := key n
    rw [cellTo]
    by_cases hc : td i = true ∧ cmpL (R i) (R l) = 0
    · rw [if_pos hc, List.length_append]
      rw [if_pos ⟨by omega, hc⟩] at h2
      simp; omega
    · rw [if_neg hc]
      rw [if_neg (fun h => hc h.2)] at h2
      omega
theorem mem_cellTo {td : Nat → Bool} {l : Nat} : ∀ {i k : Nat}, k ∈ cellTo R td l i ↔ k < i ∧ td k = true ∧ cmpL (R k) (R l) = 0
  | 0, k => by simp [cellTo]
  | i + 1, k => by
    rw [cellTo]
    have ih := @mem_cellTo td l i k
    split
    · rename_i h
      rw [List.mem_append, ih]
      simp only [List.mem_singleton]
      constructor
      · rintro (h1 | rfl)
        · exact ⟨by omega, h1.2⟩
        · exact ⟨by omega, h⟩
      · rintro ⟨h1, h2⟩
        by_cases e : k = i
        · exact .inr e
        · exact .inl ⟨by omega, h2⟩
    · rename_i h
      rw [ih]
      constructor
      · rintro ⟨h1, h2⟩; exact ⟨by omega, h2⟩
      · rintro ⟨h1, h2⟩
        have e : k ≠ i := by rintro rfl; exact h h2
        exact ⟨by omega, h2⟩
theorem cell_pos {td : Nat → Bool} {l n : Nat} (h : pickTo R td n = some l) : 0 < (cellTo R td l n).length := by
  have := pickTo_some h
  exact List.length_pos_of_mem (mem_cellTo.2 ⟨this.1, this.2, cmpL_self _⟩)
theorem cellTo_len (td : Nat → Bool) (l : Nat) : ∀ i, (cellTo R td l i).length ≤ i
  | 0 => by simp [cellTo]
  | i + 1 => by
    have := cellTo_len td l i
    rw [cellTo]; split <;> simp <;> omega
theorem count_le (td : Nat → Bool) : ∀ i, count td i ≤ i
  | 0 => by simp [count]
  | i + 1 => by
    have := count_le td i
    rw [count]; split <;> omega
theorem count_true : ∀ i, count (fun _ => true) i = i
  | 0 => rfl
  | i + 1 => by rw [count, count_true i]; simp
theorem pickTo_none_of {td : Nat → Bool} {n : Nat} (h : count td n = 0) : pickTo R td n = none := by
  cases hp : pickTo R td n with
  | none => rfl
  | some l =>
    have h1 := count_strike (R := R) td l n n (Nat.le_refl _)
    have h2 := cell_pos hp
    omega
theorem collectF_end {n f : Nat} {td : Nat → Bool} {out : List (List Nat)} (h : count td n = 0) : collectF R n f td out = out := by
  cases f with
  | zero => rfl
  | succ f => rw [collectF, pickTo_none_of h]
theorem collectF_step {n f : Nat} {td : Nat → Bool} {out : List (List Nat)} {l : Nat} (h : pickTo R td n = some l) :
    collectF R n (f + 1) td out = collectF R n f (strike R td l n) (out ++ [cellTo R td l n]) := by rw [collectF, h]
end
/-- The rows' partition. -/
def collect (R : List (List Int)) : List (List Int) := (collectF (fun k => R[k]?.getD []) R.length R.length (fun _ => true) []).map (·.map Int.ofNat)
end Go.Proofs.YtifkieopaoooeaaDoor.Plain
