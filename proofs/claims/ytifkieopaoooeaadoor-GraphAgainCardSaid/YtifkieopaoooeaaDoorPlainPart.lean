/- A partition by rows, in the rows' order: there is one alone; the reference's collect gives it. -/
import Derived.Test.YtifkieopaoooeaaDoorPlainCollect
set_option linter.unusedSimpArgs false
set_option linter.unusedVariables false
namespace Go.Proofs.YtifkieopaoooeaaDoor.Plain

theorem cmpL_antisymm : ∀ xs ys : List Int, cmpL xs ys = - cmpL ys xs
  | [], ys => by rw [cmpL_end (.inl rfl), cmpL_end (.inr rfl)]; omega
  | x :: xs, [] => by rw [cmpL_end (.inr rfl), cmpL_end (.inl rfl)]; omega
  | x :: xs, y :: ys => by
    by_cases h1 : x < y
    · rw [cmpL_lt h1, cmpL_gt h1]
    · by_cases h2 : y < x
      · rw [cmpL_gt h2, cmpL_lt h2]; rfl
      · rw [cmpL_eq (by omega), cmpL_eq (by omega), cmpL_antisymm xs ys]
theorem cmpL_zero : ∀ {xs ys : List Int}, cmpL xs ys = 0 → xs = ys
  | [], ys, h => by
    rw [cmpL_end (.inl rfl)] at h
    have : ys.length = 0 := by simp at h; simp [h]
    rw [List.eq_nil_of_length_eq_zero this]
  | x :: xs, [], h => by rw [cmpL_end (.inr rfl)] at h; simp at h; omega
  | x :: xs, y :: ys, h => by
    by_cases h1 : x < y
    · rw [cmpL_lt h1] at h; omega
    · by_cases h2 : y < x
      · rw [cmpL_gt h2] at h; omega
      · have e : x = y := by omega
        rw [cmpL_eq e] at h
        rw [e, cmpL_zero h]
theorem cmpL_trans : ∀ {xs ys zs : List Int}, cmpL xs ys < 0 → cmpL ys zs < 0 → cmpL xs zs < 0
  | [], ys, zs, h1, h2 => by
    cases zs with
    | nil =>
      rw [cmpL_end (.inl rfl)] at h1
      rw [cmpL_end (.inr rfl)] at h2
      simp at h1 h2; omega
    | cons z zs =>
      rw [cmpL_end (.inl rfl)]
      simp only [List.length_nil, List.length_cons]; omega
  | x :: xs, [], zs, h1, h2 => by rw [cmpL_end (.inr rfl)] at h1; simp at h1; omega
  | x :: xs, y :: ys, [], h1, h2 => by rw [cmpL_end (.inr rfl)] at h2; simp at h2; omega
  | x :: xs, y :: ys, z :: zs, h1, h2 => by
    by_cases a1 : x < y
    · by_cases b1 : y < z
      · rw [cmpL_lt (by omega)]; omega
      · by_cases b2 : z < y
        · rw [cmpL_gt b2] at h2; omega
        · rw [cmpL_lt (by omega)]; omega
    · by_cases a2 : y < x
      · rw [cmpL_gt a2] at h1; omega
      · rw [cmpL_eq (by omega)] at h1
        by_cases b1 : y < z
        · rw [cmpL_lt (by omega)]; omega
        · by_cases b2 : z < y
          · rw [cmpL_gt b2] at h2; omega
          · rw [cmpL_eq (by omega)] at h2
            rw [cmpL_eq (by omega)]
            exact cmpL_trans h1 h2

structure IsPart (R : Nat → List Int) (S : Nat → Prop) (P : List (List Nat)) : Prop where
  asc : ∀ c ∈ P, c.Pairwise (· < ·) ∧ c ≠ []
  cover : ∀ i, (∃ c ∈ P, i ∈ c) ↔ S i
  same : ∀ c ∈ P, ∀ i ∈ c, ∀ j ∈ c, R i = R j
  ord : P.Pairwise fun c d => ∀ i ∈ c, ∀ j ∈ d, cmpL (R i) (R j) < 0

theorem asc_ext : ∀ {c d : List Nat}, c.Pairwise (· < ·) → d.Pairwise (· < ·) → (∀ i, i ∈ c ↔ i ∈ d) → c = d
  | [], [], _, _, _ => rfl
  | [], y :: d, _, _, h => by have := (h y).2 (by simp); simp at this
  | x :: c, [], _, _, h => by have := (h x).1 (by simp); simp at this
  | x :: c, y :: d, h1, h2, h => by
    rw [List.pairwise_cons] at h1 h2
    have hxy : x = y := by
      have a := (h x).1 (by simp)
      have b := (h y).2 (by simp)
      rcases List.mem_cons.1 a with a | a
      · exact a
      · rcases List.mem_cons.1 b with b | b
        · exact b.symm
        · have := h2.1 x a; have := h1.1 y b; omega
    subst hxy
    rw [asc_ext h1.2 h2.2 (fun i => ?_)]
    have hi := h i
    simp only [List.mem_cons] at hi
    constructor
    · intro hc
      rcases hi.1 (.inr hc) with e | e
      · have := h1.1 i hc; omega
      · exact e
    · intro hd
      rcases hi.2 (.inr hd) with e | e
      · have := h2.1 i hd; omega
      · exact e

theorem IsPart.tail {R : Nat → List Int} {S : Nat → Prop} {c : List Nat} {P : List (List Nat)} (h : IsPart R S (c :: P)) : IsPart R (fun i => S i ∧ i ∉ c) P where
  asc d hd := h.asc d (List.mem_cons_of_mem _ hd)
  cover i := by
    have hc := h.cover i
    have ho := List.pairwise_cons.1 h.ord
    constructor
    · rintro ⟨d, hd, hi⟩
      refine ⟨hc.1 ⟨d, List.mem_cons_of_mem _ hd, hi⟩, fun hic => ?_⟩
      have := ho.1 d hd i hic i hi
      rw [cmpL_self] at this; omega
    · rintro ⟨hS, hn⟩
      obtain ⟨d, hd, hi⟩ := hc.2 hS
      rcases List.mem_cons.1 hd with rfl | hd
      · exact absurd hi hn
      · exact ⟨d, hd, hi⟩
  same d hd := h.same d (List.mem_cons_of_mem _ hd)
  ord := (List.pairwise_cons.1 h.ord).2

/-- In the first cell lie just those whose row is least. -/
theorem IsPart.first {R : Nat → List Int} {S : Nat → Prop} {c : List Nat} {P : List (List Nat)} (h : IsPart R S (c :: P)) (i : Nat) :
    i ∈ c ↔ S i ∧ ∀ j, S j → ¬ cmpL (R j) (R i) < 0 := by
  have ho := List.pairwise_cons.1 h.ord
  have split : ∀ j, S j → j ∈ c ∨ ∃ d ∈ P, j ∈ d := fun j hj => by
    obtain ⟨d, hd, hi⟩ := (h.cover j).2 hj
    rcases List.mem_cons.1 hd with rfl | hd
    · exact .inl hi
    · exact .inr ⟨d, hd, hi⟩
  constructor
  · intro hi
    refine ⟨(h.cover i).1 ⟨c, by simp, hi⟩, fun j hj hlt => ?_⟩
    rcases split j hj with hj | ⟨d, hd, hj⟩
    · rw [h.same c (by simp) j hj i hi, cmpL_self] at hlt; omega
    · have := ho.1 d hd i hi j hj
      rw [cmpL_antisymm] at this; omega
  · rintro ⟨hS, hl⟩
    rcases split i hS with hi | ⟨d, hd, hi⟩
    · exact hi
    · obtain ⟨_, hne⟩ := h.asc c (by simp)
      obtain ⟨j, c', rfl⟩ := List.exists_cons_of_ne_nil hne
      exact absurd (ho.1 d hd j (by simp) i hi) (hl j ((h.cover j).1 ⟨j :: c', by simp, by simp⟩))

theorem IsPart.unique {R : Nat → List Int} : ∀ {P Q : List (List Nat)} {S : Nat → Prop}, IsPart R S P → IsPart R S Q → P = Q
  | [], [], _, _, _ => rfl
  | [], d :: Q, S, h, k => by
    obtain ⟨j, c', e⟩ := List.exists_cons_of_ne_nil (k.asc d (by simp)).2
    obtain ⟨c, hc, _⟩ := (h.cover j).2 ((k.cover j).1 ⟨d, by simp, by rw [e]; simp⟩)
    simp at hc
  | c :: P, [], S, h, k => by
    obtain ⟨j, c', e⟩ := List.exists_cons_of_ne_nil (h.asc c (by simp)).2
    obtain ⟨d, hd, _⟩ := (k.cover j).2 ((h.cover j).1 ⟨c, by simp, by rw [e]; simp⟩)
    simp at hd
  | c :: P, d :: Q, S, h, k => by
    have e : c = d := asc_ext (h.asc c (by simp)).1 (k.asc d (by simp)).1 (fun i => by rw [h.first i, k.first i])
    subst e
    rw [IsPart.unique h.tail k.tail]

section
variable {R : Nat → List Int}
theorem pick_least {td : Nat → Bool} : ∀ {i l : Nat}, pickTo R td i = some l → ∀ k, k < i → td k = true → ¬ cmpL (R k) (R l) < 0
  | 0, l, h, k, hk, _ => by omega
  | i + 1, l, h, k, hk, ht => by
    rw [pickTo] at h
    split at h
    · rename_i hti
      cases hp : pickTo R td i with
      | none =>
        rw [hp] at h; simp [better] at h; subst h
        by_cases e : k = i
        · subst e; rw [cmpL_self]; omega
        · exfalso
          have hc := pickTo_none hp
          have : ∀ m, k < m → td k = true → count td m ≠ 0 := by
            intro m
            induction m with
            | zero => intro h; omega
            | succ m ih =>
              intro h h2
              rw [count]
              by_cases e : k = m
              · subst e; simp [h2]
              · have := ih (by omega) h2; omega
          exact this i (by omega) ht hc
      | some q =>
        have ih := @pick_least td i q hp
        rw [hp] at h; simp only [better] at h
        split at h
        · rename_i hlt
          injection h with h; subst h
          by_cases e : k = i
          · subst e; rw [cmpL_self]; omega
          · intro h2
            exact ih k (by omega) ht (cmpL_trans h2 hlt)
        · rename_i hge
          injection h with h; subst h
          by_cases e : k = i
          · subst e; exact hge
          · exact ih k (by omega) ht
    · rename_i hti
      have hk2 : k ≠ i := by rintro rfl; exact hti ht
      exact pick_least h k (by omega) ht

theorem cellTo_asc (td : Nat → Bool) (l : Nat) : ∀ i, (cellTo R td l i).Pairwise (· < ·)
  | 0 => by simp [cellTo]
  | i + 1 => by
    rw [cellTo]; split
    · rw [List.pairwise_append]
      refine ⟨cellTo_asc td l i, by simp, fun x hx y hy => ?_⟩
      rw [List.mem_singleton.1 hy]
      exact (mem_cellTo.1 hx).1
    · exact cellTo_asc td l i

theorem collectF_part {n : Nat} : ∀ (f : Nat) (td : Nat → Bool) (out : List (List Nat)), count td n ≤ f →
    ∃ P, collectF R n f td out = out ++ P ∧ IsPart R (fun i => i < n ∧ td i = true) P := by
  have empty : ∀ td, count td n = 0 → IsPart R (fun i => i < n ∧ td i = true) [] := fun td h0 => by
    refine ⟨by simp, fun i => ⟨by simp, fun ⟨hi, ht⟩ => ?_⟩, by simp, by simp⟩
    exfalso
    have : ∀ m, i < m → count td m ≠ 0 := by
      intro m
      induction m with
      | zero => intro h; omega
      | succ m ih =>
        intro h
        rw [count]
        by_cases e : i = m
        · subst e; simp [ht]
        · have := ih (by omega); omega
    exact this n hi h0
  intro f
  induction f with
  | zero =>
    intro td out h
    exact ⟨[], by rw [collectF_end (by omega)]; simp, empty td (by omega)⟩
  | succ f ih =>
    intro td out h
    cases hp : pickTo R td n with
    | none =>
      have h0 := pickTo_none hp
      exact ⟨[], by rw [collectF_end h0]; simp, empty td h0⟩
    | some l =>
      have hl := pickTo_some hp
      have hcp := cell_pos hp
      have hcnt := count_strike (R := R) td l n n (Nat.le_refl _)
      obtain ⟨P, he, hP⟩ := ih (strike R td l n) (out ++ [cellTo R td l n]) (by omega)
      refine ⟨cellTo R td l n :: P, by rw [collectF_step hp, he]; simp, ?_⟩
      have hst : ∀ i, i < n → (strike R td l n i = true ↔ td i = true ∧ ¬ cmpL (R i) (R l) = 0) := fun i hi => by
        simp [strike, hi]
      refine ⟨fun c hc => ?_, fun i => ?_, fun c hc i hi j hj => ?_, ?_⟩
      · rcases List.mem_cons.1 hc with rfl | hc
        · exact ⟨cellTo_asc _ _ _, fun e => by rw [e] at hcp; simp at hcp⟩
        · exact hP.asc c hc
      · constructor
        · rintro ⟨c, hc, hi⟩
          rcases List.mem_cons.1 hc with rfl | hc
          · have := mem_cellTo.1 hi; exact ⟨this.1, this.2.1⟩
          · have h1 := (hP.cover i).1 ⟨c, hc, hi⟩
            exact ⟨h1.1, ((hst i h1.1).1 h1.2).1⟩
        · rintro ⟨hi, ht⟩
          by_cases e : cmpL (R i) (R l) = 0
          · exact ⟨_, by simp, mem_cellTo.2 ⟨hi, ht, e⟩⟩
          · obtain ⟨c, hc, h2⟩ := (hP.cover i).2 ⟨hi, (hst i hi).2 ⟨ht, e⟩⟩
            exact ⟨c, List.mem_cons_of_mem _ hc, h2⟩
      · rcases List.mem_cons.1 hc with rfl | hc
        · rw [cmpL_zero (mem_cellTo.1 hi).2.2, cmpL_zero (mem_cellTo.1 hj).2.2]
        · exact hP.same c hc i hi j hj
      · rw [List.pairwise_cons]
        refine ⟨fun d hd i hi j hj => ?_, hP.ord⟩
        have h1 := mem_cellTo.1 hi
        have h2 := (hP.cover j).1 ⟨d, hd, hj⟩
        have h3 := (hst j h2.1).1 h2.2
        rw [cmpL_zero h1.2.2, cmpL_antisymm]
        have h4 := pick_least hp j h2.1 h3.1
        have h5 := h3.2
        omega
end
/-- A partition of 0 .. n-1 by rows, as lists of ints. -/
theorem collect_part (R : List (List Int)) : ∃ P : List (List Nat), collect R = P.map (·.map Int.ofNat) ∧ IsPart (fun k => R[k]?.getD []) (· < R.length) P := by
  obtain ⟨P, he, hP⟩ := collectF_part (R := fun k => R[k]?.getD []) (n := R.length) R.length (fun _ => true) [] (by rw [count_true]; omega)
  refine ⟨P, by rw [collect, he]; simp, ?_⟩
  have : (fun i => i < R.length ∧ true = true) = (· < R.length) := by funext i; simp
  simpa [this] using hP
end Go.Proofs.YtifkieopaoooeaaDoor.Plain
