/- Insertion sort: plain. -/
import Derived.Test.YtlnikgcanimggaaGreatPlainGroup
set_option linter.unusedSimpArgs false
set_option linter.unusedVariables false
namespace Go.Proofs.YtlnikgcanimggaaGreat.Plain
def at' (s : List Nat) (p : Nat) : Nat := s[p]?.getD 0
section
variable {R : Nat → List Int} {s : List Nat} {i j : Nat}
/-- The first i + 1 places lie in order, but for place j, which goes down. -/
def Srt (R : Nat → List Int) (s : List Nat) (i j : Nat) : Prop := ∀ p q, p < q → q ≤ i → q ≠ j → Ahead R (at' s p) (at' s q)
def Sorted' (R : Nat → List Int) (s : List Nat) (i : Nat) : Prop := ∀ p q, p < q → q < i → Ahead R (at' s p) (at' s q)
theorem Srt.start (h : Sorted' R s i) : Srt R s i i := fun p q h1 h2 h3 => h p q h1 (by omega)
theorem Srt.zero (h : Srt R s i 0) : Sorted' R s (i + 1) := fun p q h1 h2 => h p q h1 (by omega) (by omega)
theorem Srt.stop (h : Srt R s i j) (hj : 0 < j) (hji : j ≤ i) (hn : ¬ Ahead R (at' s j) (at' s (j - 1))) (hne : at' s j ≠ at' s (j - 1)) : Sorted' R s (i + 1) := by
  intro p q h1 h2
  by_cases e : q = j
  · subst e
    have hk : Ahead R (at' s (q - 1)) (at' s q) := by
      rcases Ahead.total (R := R) (at' s q) (at' s (q - 1)) with h | h | h
      · exact absurd h hn
      · exact absurd h hne
      · exact h
    by_cases e2 : p = q - 1
    · rw [e2]; exact hk
    · exact (h p (q - 1) (by omega) (by omega) (by omega)).trans hk
  · exact h p q h1 (by omega) e
/-- Two neighbours change. -/
def swapDown (s : List Nat) (j : Nat) : List Nat := (s.set j (at' s (j - 1))).set (j - 1) (at' s j)
theorem swapDown_len : (swapDown s j).length = s.length := by simp [swapDown]
theorem swapDown_at (hj : 0 < j) (hl : j < s.length) (p : Nat) : at' (swapDown s j) p = if p = j - 1 then at' s j else if p = j then at' s (j - 1) else at' s p := by
  unfold swapDown at'
  rw [List.getElem?_set, List.getElem?_set, List.length_set]
  by_cases h1 : p = j - 1
  · subst h1; rw [if_pos rfl, if_pos (by omega), if_pos rfl]; rfl
  · rw [if_neg (fun e => h1 e.symm), if_neg h1]
    by_cases h2 : p = j
    · subst h2; rw [if_pos rfl, if_pos hl, if_pos rfl]; rfl
    · rw [if_neg (fun e => h2 e.symm), if_neg h2]
theorem Srt.swap (h : Srt R s i j) (hj : 0 < j) (hji : j ≤ i) (hl : j < s.length) (ha : Ahead R (at' s j) (at' s (j - 1))) : Srt R (swapDown s j) i (j - 1) := by
  intro p q h1 h2 h3
  rw [swapDown_at hj hl, swapDown_at hj hl]
  rw [if_neg h3]
  by_cases hq : q = j
  · subst hq
    rw [if_pos rfl]
    by_cases hp : p = q - 1
    · rw [if_pos hp]; exact ha
    · rw [if_neg hp, if_neg (by omega)]
      exact h p (q - 1) (by omega) (by omega) (by omega)
  · rw [if_neg hq]
    by_cases hp : p = j - 1
    · rw [if_pos hp]
      exact h j q (by omega) h2 hq
    · rw [if_neg hp]
      by_cases hp2 : p = j
      · rw [if_pos hp2]; exact h (j - 1) q (by omega) h2 hq
      · rw [if_neg hp2]; exact h p q h1 h2 hq
theorem swapDown_perm (hj : 0 < j) (hl : j < s.length) : (swapDown s j).Perm s := by
  obtain ⟨k, rfl⟩ : ∃ k, j = k + 1 := ⟨j - 1, by omega⟩
  have hs : s = s.take k ++ (at' s k :: at' s (k + 1) :: s.drop (k + 2)) := by
    have h1 : s.drop k = at' s k :: s.drop (k + 1) := by
      rw [at', List.getElem?_eq_getElem (by omega)]; exact List.drop_eq_getElem_cons (by omega)
    have h2 : s.drop (k + 1) = at' s (k + 1) :: s.drop (k + 2) := by
      rw [at', List.getElem?_eq_getElem (by omega)]; exact List.drop_eq_getElem_cons (by omega)
    rw [← h2, ← h1, List.take_append_drop]
  have hw : swapDown s (k + 1) = s.take k ++ (at' s (k + 1) :: at' s k :: s.drop (k + 2)) := by
    apply List.ext_getElem?
    intro p
    by_cases hp : p < s.length
    · have e1 := swapDown_at (s := s) (j := k + 1) (by omega) hl p
      have hpl : p < (swapDown s (k + 1)).length := by rw [swapDown_len]; exact hp
      have e2 : (swapDown s (k + 1))[p]? = some (at' (swapDown s (k + 1)) p) := by rw [at', List.getElem?_eq_getElem hpl]; rfl
      rw [e2, e1]
      simp only [Nat.add_sub_cancel]
      have htl : (s.take k).length = k := by rw [List.length_take]; omega
      by_cases h1 : p < k
      · rw [if_neg (by omega), if_neg (by omega), List.getElem?_append_left (by omega), List.getElem?_take, if_pos h1, at', List.getElem?_eq_getElem hp]; rfl
      · rw [List.getElem?_append_right (by omega), htl]
        by_cases h2 : p = k
        · subst h2; rw [if_pos rfl, Nat.sub_self]; rfl
        · rw [if_neg h2]
          by_cases h3 : p = k + 1
          · subst h3; rw [if_pos rfl, Nat.add_sub_cancel_left]; rfl
          · rw [if_neg h3]
            obtain ⟨m, rfl⟩ : ∃ m, p = k + 2 + m := ⟨p - (k + 2), by omega⟩
            rw [show k + 2 + m - k = m + 2 by omega, List.getElem?_cons_succ, List.getElem?_cons_succ, List.getElem?_drop, at', List.getElem?_eq_getElem hp]; rfl
    · rw [List.getElem?_eq_none (by rw [swapDown_len]; omega), List.getElem?_eq_none]
      simp only [List.length_append, List.length_take, List.length_cons, List.length_drop]; omega
  rw [hw]
  conv => rhs; rw [hs]
  exact List.Perm.append_left _ (List.Perm.swap _ _ _)
theorem Sorted'.pairwise {n : Nat} (hl : s.length = n) (h : Sorted' R s n) : s.Pairwise fun p q => Ahead R p q := by
  rw [List.pairwise_iff_getElem]
  intro a b ha hb hab
  have := h a b hab (by omega)
  rwa [at', at', List.getElem?_eq_getElem ha, List.getElem?_eq_getElem hb] at this
end
end Go.Proofs.YtlnikgcanimggaaGreat.Plain
