/- Grouping a sorted list of points gives the partition by rows. -/
import Derived.Test.YtifkieopaoooeaaDoorPlainPart
set_option linter.unusedSimpArgs false
set_option linter.unusedVariables false
namespace Go.Proofs.YtifkieopaoooeaaDoor.Plain

section
variable (R : Nat → List Int)
/-- p lies ahead of q: its row is less, or the rows are equal and p is less. -/
def Ahead (p q : Nat) : Prop := cmpL (R p) (R q) < 0 ∨ R p = R q ∧ p < q
/-- The last cell, one point longer. -/
def longer (out : List (List Nat)) (p : Nat) : List (List Nat) := out.dropLast ++ [(out.getLast?.getD []) ++ [p]]
open Classical in
noncomputable def grpTo (s : List Nat) : Nat → List (List Nat)
  | 0 => []
  | k + 1 => if k = 0 ∨ R (s[k - 1]?.getD 0) ≠ R (s[k]?.getD 0) then longer (grpTo s k ++ [[]]) (s[k]?.getD 0) else longer (grpTo s k) (s[k]?.getD 0)
variable {R}
theorem longer_snoc (out : List (List Nat)) (c : List Nat) (p : Nat) : longer (out ++ [c]) p = out ++ [c ++ [p]] := by
  simp [longer]
theorem grpTo_inv {s : List Nat} (hd : s.Nodup) (hs : s.Pairwise fun p q => Ahead R p q) : ∀ k, k ≤ s.length →
    IsPart R (· ∈ s.take k) (grpTo R s k) ∧ (0 < k → ∃ P c, grpTo R s k = P ++ [c] ∧ (s[k - 1]?.getD 0) ∈ c)
  | 0, _ => ⟨⟨by simp [grpTo], by simp [grpTo], by simp [grpTo], by simp [grpTo]⟩, fun h => by omega⟩
  | k + 1, hk => by
    obtain ⟨ih, ihl⟩ := grpTo_inv hd hs k (by omega)
    have hkl : k < s.length := by omega
    obtain ⟨p, hp⟩ : ∃ p, p = s[k] := ⟨_, rfl⟩
    have hpd : s[k]?.getD 0 = p := by rw [List.getElem?_eq_getElem hkl, hp]; rfl
    have htk : s.take (k + 1) = s.take k ++ [p] := by rw [List.take_succ_eq_append_getElem hkl, hp]
    -- all before p lie ahead of it
    have hah : ∀ x ∈ s.take k, Ahead R x p := by
      have h1 : (s.take (k + 1)).Pairwise fun p q => Ahead R p q := hs.sublist (List.take_sublist _ _)
      rw [htk, List.pairwise_append] at h1
      exact fun x hx => h1.2.2 x hx p (by simp)
    have hpn : p ∉ s.take k := by
      have h1 : (s.take (k + 1)).Nodup := hd.sublist (List.take_sublist _ _)
      rw [htk, List.nodup_append] at h1
      exact fun h => h1.2.2 p h p (by simp) rfl
    rw [grpTo, hpd]
    by_cases hk0 : k = 0
    · subst hk0
      rw [if_pos (.inl rfl)]
      have e0 : grpTo R s 0 = [] := rfl
      rw [e0, longer_snoc]
      refine ⟨⟨by simp, fun i => ?_, ?_, by simp⟩, fun _ => ⟨[], [p], by simp, ?_⟩⟩
      · rw [htk]; simp
      · intro c hc i hi j hj
        simp at hc; subst hc
        simp at hi hj; rw [hi, hj]
      · rw [show 0 + 1 - 1 = 0 from rfl, hpd]; simp
    · obtain ⟨P, c, hPc, hl⟩ := ihl (by omega)
      obtain ⟨q, hq⟩ : ∃ q, s[k - 1]?.getD 0 = q := ⟨_, rfl⟩
      rw [hq] at hl ⊢
      have hqm : q ∈ s.take k := by
        have := (ih.cover q).1 ⟨c, by rw [hPc]; simp, hl⟩
        exact this
      by_cases hR : R q = R p
      · rw [if_neg (fun h => h.elim hk0 (fun h => h hR)), hPc, longer_snoc]
        rw [hPc] at ih
        have hcr : ∀ x ∈ c, R x = R p := fun x hx => by rw [ih.same c (by simp) x hx q hl, hR]
        have hxp : ∀ x ∈ c, x < p := fun x hx => by
          have hxm : x ∈ s.take k := (ih.cover x).1 ⟨c, by simp, hx⟩
          rcases hah x hxm with h | h
          · rw [hcr x hx, cmpL_self] at h; omega
          · exact h.2
        refine ⟨⟨fun d hdm => ?_, fun i => ?_, fun d hdm i hi j hj => ?_, ?_⟩, fun _ => ⟨P, c ++ [p], rfl, ?_⟩⟩
        · rcases List.mem_append.1 hdm with h | h
          · exact ih.asc d (List.mem_append.2 (.inl h))
          · rw [List.mem_singleton.1 h]
            refine ⟨?_, by simp⟩
            rw [List.pairwise_append]
            exact ⟨(ih.asc c (by simp)).1, by simp, fun x hx y hy => by rw [List.mem_singleton.1 hy]; exact hxp x hx⟩
        · have hcov := ih.cover i
          simp only [List.mem_append, List.mem_singleton, htk] at hcov ⊢
          constructor
          · rintro ⟨d, hdm | rfl, hi⟩
            · exact .inl (hcov.1 ⟨d, .inl hdm, hi⟩)
            · rcases List.mem_append.1 hi with h | h
              · exact .inl (hcov.1 ⟨c, .inr rfl, h⟩)
              · exact .inr (List.mem_singleton.1 h)
          · rintro (h | rfl)
            · obtain ⟨d, hdm | rfl, hi⟩ := hcov.2 h
              · exact ⟨d, .inl hdm, hi⟩
              · exact ⟨_, .inr rfl, List.mem_append.2 (.inl hi)⟩
            · exact ⟨_, .inr rfl, by simp⟩
        · have hr : ∀ x ∈ c ++ [p], R x = R p := fun x hx => by
            rcases List.mem_append.1 hx with h | h
            · exact hcr x h
            · rw [List.mem_singleton.1 h]
          rcases List.mem_append.1 hdm with h | h
          · exact ih.same d (List.mem_append.2 (.inl h)) i hi j hj
          · rw [List.mem_singleton.1 h] at hi hj
            rw [hr i hi, hr j hj]
        · have ho := ih.ord
          rw [List.pairwise_append] at ho ⊢
          refine ⟨ho.1, by simp, fun d hdm e he i hi j hj => ?_⟩
          rw [List.mem_singleton.1 he] at hj
          rcases List.mem_append.1 hj with h | h
          · exact ho.2.2 d hdm c (by simp) i hi j h
          · rw [List.mem_singleton.1 h, ← hR]
            exact ho.2.2 d hdm c (by simp) i hi q hl
        · rw [show k + 1 - 1 = k from rfl, hpd]; simp
      · rw [if_pos (.inr hR), longer_snoc, List.nil_append]
        have hlt : ∀ x ∈ s.take k, cmpL (R x) (R p) < 0 := fun x hx => by
          rcases hah x hx with h | ⟨h, _⟩
          · exact h
          · exfalso
            -- x and q: q is the last one of those before p
            have hqp : cmpL (R q) (R p) < 0 := by
              rcases hah q hqm with h2 | ⟨h2, _⟩
              · exact h2
              · exact absurd h2 hR
            have hlast : s.take k = s.take (k - 1) ++ [q] := by
              have hk1 : k - 1 < s.length := by omega
              have := List.take_succ_eq_append_getElem (l := s) (i := k - 1) hk1
              rw [show k - 1 + 1 = k by omega] at this
              rw [this]
              congr 2
              rw [List.getElem?_eq_getElem hk1] at hq
              exact hq
            have h1 : (s.take k).Pairwise fun p q => Ahead R p q := hs.sublist (List.take_sublist _ _)
            rw [hlast, List.pairwise_append] at h1
            rw [hlast] at hx
            rcases List.mem_append.1 hx with h3 | h3
            · rcases h1.2.2 x h3 q (by simp) with h4 | ⟨h4, _⟩
              · rw [h] at h4
                have := cmpL_trans h4 hqp
                rw [cmpL_self] at this; omega
              · exact hR (h4.symm.trans h)
            · rw [List.mem_singleton.1 h3] at h; exact hR h
        refine ⟨⟨fun d hdm => ?_, fun i => ?_, fun d hdm i hi j hj => ?_, ?_⟩, fun _ => ⟨_, [p], rfl, ?_⟩⟩
        · rcases List.mem_append.1 hdm with h | h
          · exact ih.asc d h
          · rw [List.mem_singleton.1 h]; simp
        · have hcov := ih.cover i
          simp only [List.mem_append, List.mem_singleton, htk] at hcov ⊢
          constructor
          · rintro ⟨d, hdm, hi⟩
            rcases hdm with hdm | hdm
            · exact .inl (hcov.1 ⟨d, hdm, hi⟩)
            · rw [hdm] at hi
              exact .inr (List.mem_singleton.1 hi)
          · intro h
            rcases h with h | h
            · obtain ⟨d, hdm, hi⟩ := hcov.2 h
              exact ⟨d, .inl hdm, hi⟩
            · exact ⟨[p], .inr rfl, by rw [h]; simp⟩
        · rcases List.mem_append.1 hdm with h | h
          · exact ih.same d h i hi j hj
          · rw [List.mem_singleton.1 h] at hi hj
            rw [List.mem_singleton.1 hi, List.mem_singleton.1 hj]
        · rw [List.pairwise_append]
          refine ⟨ih.ord, by simp, fun d hdm e he i hi j hj => ?_⟩
          rw [List.mem_singleton.1 he] at hj
          rw [List.mem_singleton.1 hj]
          exact hlt i ((ih.cover i).1 ⟨d, hdm, hi⟩)
        · rw [show k + 1 - 1 = k from rfl, hpd]; simp
theorem grpTo_part {s : List Nat} {n : Nat} (hp : s.Perm (List.range n)) (hs : s.Pairwise fun p q => Ahead R p q) : IsPart R (· < n) (grpTo R s s.length) := by
  have h := (grpTo_inv (R := R) (hp.nodup_iff.2 List.nodup_range) hs s.length (Nat.le_refl _)).1
  rw [List.take_length] at h
  have e : (· ∈ s) = (· < n) := by
    funext i
    rw [hp.mem_iff, List.mem_range]
  rw [e] at h
  exact h
theorem grpTo_len (s : List Nat) : ∀ k, (grpTo R s k).length ≤ k
  | 0 => by simp [grpTo]
  | k + 1 => by
    have := grpTo_len s k
    rw [grpTo]
    split
    · simp [longer]; omega
    · simp [longer]
      by_cases h0 : k = 0
      · rename_i h; exact absurd (.inl h0) h
      · omega
end
end Go.Proofs.YtifkieopaoooeaaDoor.Plain
namespace Go.Proofs.YtifkieopaoooeaaDoor.Plain
section
variable {R : Nat → List Int}
theorem Ahead.irrefl (x : Nat) : ¬ Ahead R x x := by
  rintro (h | h)
  · rw [cmpL_self] at h; omega
  · omega
theorem Ahead.trans {x y z : Nat} (h : Ahead R x y) (k : Ahead R y z) : Ahead R x z := by
  rcases h with h | ⟨h1, h2⟩ <;> rcases k with k | ⟨k1, k2⟩
  · exact .inl (cmpL_trans h k)
  · left; rw [← k1]; exact h
  · left; rw [h1]; exact k
  · exact .inr ⟨h1.trans k1, by omega⟩
theorem Ahead.total (x y : Nat) : Ahead R x y ∨ x = y ∨ Ahead R y x := by
  by_cases h1 : cmpL (R x) (R y) < 0
  · exact .inl (.inl h1)
  · by_cases h2 : cmpL (R y) (R x) < 0
    · exact .inr (.inr (.inl h2))
    · have h3 : cmpL (R x) (R y) = 0 := by have := cmpL_antisymm (R x) (R y); omega
      have h4 := cmpL_zero h3
      rcases Nat.lt_trichotomy x y with h | h | h
      · exact .inl (.inr ⟨h4, h⟩)
      · exact .inr (.inl h)
      · exact .inr (.inr (.inr ⟨h4.symm, h⟩))
theorem pairwise_of_sorted {s : List Nat} (hd : s.Nodup) (h : ∀ i j, i < j → (hj : j < s.length) → ¬ Ahead R (s[j]?.getD 0) (s[i]?.getD 0)) : s.Pairwise fun p q => Ahead R p q := by
  rw [List.pairwise_iff_getElem]
  intro i j hi hj hij
  have h1 := h i j hij hj
  rw [List.getElem?_eq_getElem hi, List.getElem?_eq_getElem hj] at h1
  simp only [Option.getD_some] at h1
  rcases Ahead.total (R := R) s[i] s[j] with h2 | h2 | h2
  · exact h2
  · exfalso
    have := (List.pairwise_iff_getElem.1 hd) i j hi hj hij
    exact this h2
  · exact absurd h2 h1
end
end Go.Proofs.YtifkieopaoooeaaDoor.Plain
namespace Go.Proofs.YtifkieopaoooeaaDoor.Plain
theorem grpTo_new {R : Nat → List Int} {s : List Nat} {k : Nat} (h : k = 0 ∨ R (s[k - 1]?.getD 0) ≠ R (s[k]?.getD 0)) : grpTo R s (k + 1) = grpTo R s k ++ [[s[k]?.getD 0]] := by
  rw [grpTo, if_pos h, longer_snoc]; simp
theorem grpTo_same {R : Nat → List Int} {s : List Nat} {k : Nat} (h : ¬ (k = 0 ∨ R (s[k - 1]?.getD 0) ≠ R (s[k]?.getD 0))) {P : List (List Nat)} {c : List Nat} (e : grpTo R s k = P ++ [c]) : grpTo R s (k + 1) = P ++ [c ++ [s[k]?.getD 0]] := by
  rw [grpTo, if_neg h, e, longer_snoc]
theorem grpTo_cell_len (R : Nat → List Int) (s : List Nat) : ∀ k, ∀ c ∈ grpTo R s k, c.length ≤ k
  | 0 => by simp [grpTo]
  | k + 1 => by
    have ih := grpTo_cell_len R s k
    intro c hc
    by_cases h : k = 0 ∨ R (s[k - 1]?.getD 0) ≠ R (s[k]?.getD 0)
    · rw [grpTo_new h] at hc
      rcases List.mem_append.1 hc with h1 | h1
      · have := ih c h1; omega
      · rw [List.mem_singleton.1 h1]; simp
    · by_cases he : grpTo R s k = []
      · rw [grpTo, if_neg h, he] at hc
        simp [longer] at hc
        subst hc; simp
      · obtain ⟨P, d, e⟩ : ∃ P d, grpTo R s k = P ++ [d] := ⟨_, _, (List.dropLast_concat_getLast he).symm⟩
        rw [grpTo_same h e] at hc
        rw [e] at ih
        rcases List.mem_append.1 hc with h1 | h1
        · have := ih c (by simp [h1]); omega
        · rw [List.mem_singleton.1 h1]
          have := ih d (by simp); simp; omega
theorem grpTo_ne {R : Nat → List Int} {s : List Nat} {k : Nat} (h : 0 < k) : grpTo R s k ≠ [] := by
  obtain ⟨m, rfl⟩ : ∃ m, k = m + 1 := ⟨k - 1, by omega⟩
  rw [grpTo]
  split <;> simp [longer]
end Go.Proofs.YtifkieopaoooeaaDoor.Plain
