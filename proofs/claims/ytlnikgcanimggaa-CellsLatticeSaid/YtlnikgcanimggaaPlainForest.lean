/- Forests of parents: plain. -/
set_option linter.unusedSimpArgs false
set_option linter.unusedVariables false
namespace Go.Proofs.Ytlnikgcanimggaa.Plain
/-- The root of a point, by the parents fs. -/
inductive Root (fs : Nat → Nat) : Nat → Nat → Prop
  | base {p : Nat} : fs p = p → Root fs p p
  | step {p r : Nat} : fs p ≠ p → Root fs (fs p) r → Root fs p r
theorem Root.fix {fs : Nat → Nat} {p r : Nat} (h : Root fs p r) : fs r = r := by
  induction h with
  | base h => exact h
  | step _ _ ih => exact ih
theorem Root.of_fix {fs : Nat → Nat} {p r : Nat} (h : Root fs p r) (hp : fs p = p) : r = p := by
  cases h with
  | base _ => rfl
  | step h _ => exact absurd hp h
theorem Root.next {fs : Nat → Nat} {p r : Nat} (h : Root fs p r) (hp : fs p ≠ p) : Root fs (fs p) r := by
  cases h with
  | base h => exact absurd h hp
  | step _ h => exact h
def Valid (fs : Nat → Nat) : Prop := ∀ p, fs p ≤ p
theorem Root.le {fs : Nat → Nat} (hv : Valid fs) {p r : Nat} (h : Root fs p r) : r ≤ p := by
  induction h with
  | base h => exact Nat.le_refl _
  | step _ _ ih => exact Nat.le_trans ih (hv _)
def setF (fs : Nat → Nat) (p v : Nat) : Nat → Nat := fun x => if x = p then v else fs x
/-- The way to the root is halved: the roots stay. -/
theorem halve_root {fs : Nat → Nat} (hv : Valid fs) {p : Nat} (hp : fs p ≠ p) {x r : Nat} (h : Root fs x r) : Root (setF fs p (fs (fs p))) x r := by
  have hlt : fs p < p := by have := hv p; omega
  induction h with
  | @base x hx =>
    have hxp : x ≠ p := fun e => hp (e ▸ hx)
    exact .base (by rw [setF, if_neg hxp]; exact hx)
  | @step x r hx hr ih =>
    by_cases e : x = p
    · subst e
      have hy : setF fs x (fs (fs x)) (fs x) = fs (fs x) := by rw [setF, if_neg (by omega)]
      have hxx : setF fs x (fs (fs x)) x = fs (fs x) := by rw [setF, if_pos rfl]
      have hle := hv (fs x)
      refine .step (by rw [hxx]; omega) ?_
      rw [hxx]
      by_cases hyy : fs (fs x) = fs x
      · have : r = fs x := hr.of_fix hyy
        rw [hyy] at hy ⊢
        rw [this]
        exact .base (by rw [hyy] at *; exact hy)
      · have := ih.next (by rw [hy]; exact hyy)
        rwa [hy] at this
    · refine .step (by rw [setF, if_neg e]; exact hx) ?_
      rw [show setF fs p (fs (fs p)) x = fs x by rw [setF, if_neg e]]
      exact ih
theorem halve_valid {fs : Nat → Nat} (hv : Valid fs) (p : Nat) : Valid (setF fs p (fs (fs p))) := fun x => by
  rw [setF]; split
  · rename_i e; subst e; exact Nat.le_trans (hv _) (hv _)
  · exact hv x
/-- Two trees are united; the lesser root stays. -/
def uniteR (r : Nat → Nat) (p q : Nat) : Nat → Nat := fun x => if r x = max (r p) (r q) then min (r p) (r q) else r x
theorem unite_root {fs r : Nat → Nat} {p q : Nat} (hp : fs (r p) = r p) (hq : fs (r q) = r q) {x : Nat} (h : Root fs x (r x)) :
    Root (setF fs (max (r p) (r q)) (min (r p) (r q))) x (uniteR r p q x) := by
  generalize hM : max (r p) (r q) = M
  generalize hm : min (r p) (r q) = m
  have hfM : fs M = M := by rw [← hM]; rcases Nat.le_total (r p) (r q) with h | h <;> simp [Nat.max_eq_right, Nat.max_eq_left, h, hp, hq]
  have hfm : fs m = m := by rw [← hm]; rcases Nat.le_total (r p) (r q) with h | h <;> simp [Nat.min_eq_right, Nat.min_eq_left, h, hp, hq]
  have key : ∀ {x y : Nat}, Root fs x y → Root (setF fs M m) x (if y = M then m else y) := by
    intro x y h
    induction h with
    | @base x hx =>
      by_cases e : x = M
      · rw [if_pos e]
        by_cases e2 : M = m
        · rw [← e2, ← e]; exact .base (by rw [e, setF, if_pos rfl])
        · refine .step (by rw [setF, if_pos e, e]; exact fun h => e2 h.symm) ?_
          rw [setF, if_pos e]
          exact .base (by rw [setF]; split; · rfl
                          · exact hfm)
      · rw [if_neg e]; exact .base (by rw [setF, if_neg e]; exact hx)
    | @step x y hx hr ih =>
      have e : x ≠ M := fun e => hx (by rw [e]; exact hfM)
      refine .step (by rw [setF, if_neg e]; exact hx) ?_
      rw [show setF fs M m x = fs x by rw [setF, if_neg e]]
      exact ih
  unfold uniteR
  rw [hM, hm]
  exact key h
theorem unite_valid {fs : Nat → Nat} (hv : Valid fs) (a b : Nat) : Valid (setF fs (max a b) (min a b)) := fun x => by
  rw [setF]; split
  · rename_i e; subst e; omega
  · exact hv x
end Go.Proofs.Ytlnikgcanimggaa.Plain
