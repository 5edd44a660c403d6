/- The sorted triples are one list, whichever sort has made them. -/
import Derived.Test.YtifkieopaoooeaaDoorPlainRound
set_option linter.unusedSimpArgs false
set_option linter.unusedVariables false
namespace Go.Proofs.YtifkieopaoooeaaDoor.Plain
def leL (x y : List Int) : Prop := ¬ cmpL y x < 0
theorem leL_antisymm {x y : List Int} (h : leL x y) (k : leL y x) : x = y := by
  unfold leL at h k
  have := cmpL_antisymm x y
  exact cmpL_zero (by omega)
theorem leL_trans {x y z : List Int} (h : leL x y) (k : leL y z) : leL x z := by
  unfold leL at *
  intro hzx
  have h1 := cmpL_antisymm x y
  by_cases e : cmpL x y = 0
  · rw [cmpL_zero e] at hzx; exact k hzx
  · exact k (cmpL_trans hzx (by omega))
theorem leL_of_lt {x y : List Int} (h : cmpL x y < 0) : leL x y := by
  unfold leL
  have := cmpL_antisymm x y
  omega
theorem atTo_spec (t : List Int) (l : List (List Int)) : ∀ k, (atTo t l k < k → cmpL t (l[atTo t l k]?.getD []) < 0) ∧ (0 < atTo t l k → leL (l[atTo t l k - 1]?.getD []) t)
  | 0 => ⟨fun h => by simp [atTo] at h, fun h => by simp [atTo] at h⟩
  | k + 1 => by
    obtain ⟨h1, h2⟩ := atTo_spec t l k
    rw [atTo]
    split
    · rename_i h
      refine ⟨fun hlt => ?_, h2⟩
      have := atTo_le t l k
      by_cases e : atTo t l k = k
      · rw [e]; exact h
      · exact h1 (by omega)
    · rename_i h
      refine ⟨fun hlt => by omega, fun _ => ?_⟩
      rw [Nat.add_sub_cancel]
      exact h
theorem insT_perm (t : List Int) (l : List (List Int)) : (insT t l).Perm (t :: l) := by
  unfold insT
  refine List.perm_middle.trans ?_
  rw [List.take_append_drop]
theorem insT_sorted {t : List Int} {l : List (List Int)} (h : l.Pairwise leL) : (insT t l).Pairwise leL := by
  obtain ⟨h1, h2⟩ := atTo_spec t l l.length
  have hk := atTo_le t l l.length
  unfold insT
  obtain ⟨k, e⟩ : ∃ k, atTo t l l.length = k := ⟨_, rfl⟩
  rw [e] at h1 h2 hk ⊢
  have hl := List.take_append_drop k l
  have hp := h
  rw [← hl, List.pairwise_append] at hp
  have htake : ∀ x ∈ l.take k, leL x t := by
    intro x hx
    obtain ⟨i, hi⟩ := List.mem_iff_getElem?.1 hx
    rw [List.getElem?_take] at hi
    split at hi
    · rename_i hik
      have h0 := h2 (by omega)
      have hil : i < l.length := (List.getElem?_eq_some_iff.1 hi).1
      by_cases e2 : i = k - 1
      · rw [← e2, hi] at h0; exact h0
      · have hkl : k - 1 < l.length := by omega
        have h3 := (List.pairwise_iff_getElem.1 h) i (k - 1) hil hkl (by omega)
        rw [List.getElem?_eq_getElem hkl] at h0
        rw [List.getElem?_eq_getElem hil] at hi
        cases hi
        exact leL_trans h3 h0
    · cases hi
  have hdrop : ∀ x ∈ l.drop k, leL t x := by
    intro x hx
    obtain ⟨i, hi⟩ := List.mem_iff_getElem?.1 hx
    rw [List.getElem?_drop] at hi
    have hil : k + i < l.length := (List.getElem?_eq_some_iff.1 hi).1
    have h0 := leL_of_lt (h1 (by omega))
    have hkl : k < l.length := by omega
    rw [List.getElem?_eq_getElem hkl] at h0
    rw [List.getElem?_eq_getElem hil] at hi
    cases hi
    by_cases e2 : i = 0
    · subst e2; exact h0
    · exact leL_trans h0 ((List.pairwise_iff_getElem.1 h) k (k + i) hkl hil (by omega))
  rw [List.pairwise_append]
  refine ⟨hp.1, List.pairwise_cons.2 ⟨hdrop, hp.2.1⟩, fun x hx y hy => ?_⟩
  rcases List.mem_cons.1 hy with e3 | hy
  · rw [e3]; exact htake x hx
  · exact hp.2.2 x hx y hy
theorem sortTo_perm (tri : Nat → List Int) : ∀ u, (sortTo tri u).Perm ((List.range u).map tri)
  | 0 => by simp [sortTo]
  | u + 1 => by
    rw [sortTo, List.range_succ, List.map_append]
    refine (insT_perm _ _).trans ?_
    refine ((sortTo_perm tri u).cons _).trans ?_
    exact (List.perm_append_comm (l₁ := [tri u])).trans (by simp)
theorem sortTo_sorted (tri : Nat → List Int) : ∀ u, (sortTo tri u).Pairwise leL
  | 0 => by simp [sortTo]
  | u + 1 => insT_sorted (sortTo_sorted tri u)
theorem sortTo_unique {tri : Nat → List Int} {u : Nat} {l : List (List Int)} (hp : l.Perm ((List.range u).map tri)) (hs : l.Pairwise leL) : l = sortTo tri u :=
  List.Perm.eq_of_pairwise (le := leL) (fun _ _ _ _ => leL_antisymm) hs (sortTo_sorted tri u) (hp.trans (sortTo_perm tri u).symm)
end Go.Proofs.YtifkieopaoooeaaDoor.Plain
