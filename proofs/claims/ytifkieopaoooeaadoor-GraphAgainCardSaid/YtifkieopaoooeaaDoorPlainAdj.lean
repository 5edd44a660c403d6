/- Edges in order: plain. -/
import Derived.Test.YtifkieopaoooeaaDoorPlainGraph
set_option linter.unusedSimpArgs false
set_option linter.unusedVariables false
namespace Go.Proofs.YtifkieopaoooeaaDoor.PlainG
abbrev E2 := Int × Int
theorem bef_iff {x y : E2} : bef x y = true ↔ x.1 < y.1 ∨ (x.1 = y.1 ∧ x.2 < y.2) := by simp [bef]
theorem bef_irrefl (x : E2) : ¬ bef x x = true := by rw [bef_iff]; omega
theorem bef_trans {x y z : E2} (h : bef x y = true) (k : bef y z = true) : bef x z = true := by rw [bef_iff] at *; omega
theorem bef_eq {x y : E2} (h : ¬ bef x y = true) (k : ¬ bef y x = true) : x = y := by
  rw [bef_iff] at *
  obtain ⟨a, b⟩ := x
  obtain ⟨c, d⟩ := y
  simp only at h k
  have h1 : a = c := by omega
  have h2 : b = d := by omega
  rw [h1, h2]
def Srt (es : List E2) : Prop := es.Pairwise fun x y => bef x y = true
theorem srt_uniq : ∀ {a b : List E2}, Srt a → Srt b → (∀ x, x ∈ a ↔ x ∈ b) → a = b
  | [], [], _, _, _ => rfl
  | [], y :: b, _, _, h => by have := (h y).2 (by simp); simp at this
  | x :: a, [], _, _, h => by have := (h x).1 (by simp); simp at this
  | x :: a, y :: b, ha, hb, h => by
    obtain ⟨ha1, ha2⟩ := List.pairwise_cons.1 ha
    obtain ⟨hb1, hb2⟩ := List.pairwise_cons.1 hb
    have hxy : x = y := by
      have h1 := (h x).1 (by simp)
      have h2 := (h y).2 (by simp)
      rcases List.mem_cons.1 h1 with e | e
      · exact e
      · rcases List.mem_cons.1 h2 with e2 | e2
        · exact e2.symm
        · exact absurd (bef_trans (ha1 y e2) (hb1 x e)) (bef_irrefl x)
    subst hxy
    have : a = b := srt_uniq ha2 hb2 fun z => by
      constructor
      · intro hz
        rcases List.mem_cons.1 ((h z).1 (List.mem_cons_of_mem _ hz)) with e | e
        · subst e; exact absurd (ha1 z hz) (bef_irrefl z)
        · exact e
      · intro hz
        rcases List.mem_cons.1 ((h z).2 (List.mem_cons_of_mem _ hz)) with e | e
        · subst e; exact absurd (hb1 z hz) (bef_irrefl z)
        · exact e
    rw [this]
/-- Neighbours that are alike become one. -/
def compact : List E2 → List E2
  | [] => []
  | x :: r => match compact r with
    | [] => [x]
    | y :: t => if x = y then y :: t else x :: y :: t
theorem compact_mem : ∀ (l : List E2) (z : E2), z ∈ compact l ↔ z ∈ l
  | [], z => by simp [compact]
  | x :: r, z => by
    have ih := compact_mem r z
    rw [compact]
    cases hc : compact r with
    | nil => rw [hc] at ih; simp only [List.mem_cons, List.not_mem_nil, or_false]; simp at ih; simp [ih]
    | cons y t =>
      rw [hc] at ih
      simp only
      split
      · rename_i h; subst h; rw [ih, List.mem_cons]; constructor
        · intro h; exact .inr h
        · rintro (h | h)
          · subst h; exact ih.1 (by simp)
          · exact h
      · rw [List.mem_cons, ih, List.mem_cons]
theorem compact_head {l : List E2} {x : E2} {t : List E2} (h : compact l = x :: t) : ∃ r, l = x :: r := by
  cases l with
  | nil => simp [compact] at h
  | cons y r =>
    rw [compact] at h
    cases hc : compact r with
    | nil => rw [hc] at h; simp only at h; cases h; exact ⟨_, rfl⟩
    | cons z s =>
      rw [hc] at h
      simp only at h
      split at h
      · rename_i e; cases h; exact ⟨_, by rw [e]⟩
      · cases h; exact ⟨_, rfl⟩
theorem compact_srt : ∀ {l : List E2}, l.Pairwise (fun x y => ¬ bef y x = true) → Srt (compact l)
  | [], _ => List.Pairwise.nil
  | x :: r, h => by
    obtain ⟨h1, h2⟩ := List.pairwise_cons.1 h
    have ih := compact_srt h2
    rw [compact]
    cases hc : compact r with
    | nil => simp [Srt]
    | cons y t =>
      rw [hc] at ih
      simp only
      split
      · exact ih
      · rename_i hne
        have hy : ∀ z ∈ y :: t, z ∈ r := fun z hz => (compact_mem r z).1 (by rw [hc]; exact hz)
        have hxy : bef x y = true := by
          have h3 := h1 y (hy y (by simp))
          rcases Bool.eq_false_or_eq_true (bef x y) with e | e
          · exact e
          · exact absurd (bef_eq (by simp [e]) h3) hne
        refine List.pairwise_cons.2 ⟨fun z hz => ?_, ih⟩
        rcases List.mem_cons.1 hz with e | e
        · subst e; exact hxy
        · exact bef_trans hxy ((List.pairwise_cons.1 ih).1 z e)
/-- All pairs i < k with f i k, in order. -/
def canon (n : Nat) (f : Nat → Nat → Bool) : List E2 := (List.range n).flatMap fun (i : Nat) => ((List.range n).filter fun (k : Nat) => decide (i < k) && f i k).map fun (k : Nat) => ((i : Int), (k : Int))
theorem mem_canon {n : Nat} {f : Nat → Nat → Bool} {x : E2} : x ∈ canon n f ↔ ∃ i k : Nat, i < k ∧ k < n ∧ f i k = true ∧ x = ((i : Int), (k : Int)) := by
  simp only [canon, List.mem_flatMap, List.mem_range, List.mem_map, List.mem_filter, Bool.and_eq_true, decide_eq_true_eq]
  constructor
  · rintro ⟨i, hi, k, ⟨hk, h1, h2⟩, rfl⟩; exact ⟨i, k, h1, hk, h2, rfl⟩
  · rintro ⟨i, k, h1, hk, h2, rfl⟩; exact ⟨i, by omega, k, ⟨hk, h1, h2⟩, rfl⟩
theorem range_pw (n : Nat) : (List.range n).Pairwise (· < ·) := List.pairwise_lt_range
theorem canon_srt (n : Nat) (f : Nat → Nat → Bool) : Srt (canon n f) := by
  unfold Srt canon
  rw [List.pairwise_flatMap]
  constructor
  · intro i _
    rw [List.pairwise_map]
    refine ((range_pw n).filter _).imp fun {a b} h => ?_
    exact bef_iff.2 (.inr ⟨rfl, Int.ofNat_lt.2 h⟩)
  · refine (range_pw n).imp fun {a b} h => ?_
    intro x hx y hy
    obtain ⟨_, _, rfl⟩ := List.mem_map.1 hx
    obtain ⟨_, _, rfl⟩ := List.mem_map.1 hy
    exact bef_iff.2 (.inl (Int.ofNat_lt.2 h))
/-- Whether two vertices are joined. -/
def adj (es : List E2) (i k : Nat) : Bool := es.any fun x => (x.1 == (i : Int) && x.2 == (k : Int)) || (x.1 == (k : Int) && x.2 == (i : Int))
theorem adj_iff {es : List E2} {i k : Nat} : adj es i k = true ↔ ((i : Int), (k : Int)) ∈ es ∨ ((k : Int), (i : Int)) ∈ es := by
  simp only [adj, List.any_eq_true, Bool.or_eq_true, Bool.and_eq_true, beq_iff_eq]
  constructor
  · rintro ⟨⟨a, b⟩, hm, ⟨rfl, rfl⟩ | ⟨rfl, rfl⟩⟩
    · exact .inl hm
    · exact .inr hm
  · rintro (h | h)
    · exact ⟨_, h, .inl ⟨rfl, rfl⟩⟩
    · exact ⟨_, h, .inr ⟨rfl, rfl⟩⟩
theorem adj_symm (es : List E2) (i k : Nat) : adj es i k = adj es k i := by
  rw [Bool.eq_iff_iff, adj_iff, adj_iff]; constructor <;> (rintro (h | h); exact .inr h; exact .inl h)
/-- Edges whose ends are vertices, the least first, in order. -/
theorem chkE_srt {n : Int} : ∀ {es : List E2} {l : Option E2}, chkE n l es = 0 → Srt es ∧ (∀ x ∈ es, 0 ≤ x.1 ∧ x.1 < x.2 ∧ x.2 < n) ∧ (∀ y, l = some y → ∀ x ∈ es, bef y x = true)
  | [], l, h => ⟨List.Pairwise.nil, by simp, by simp⟩
  | x :: es, l, h => by
    obtain ⟨h1, h2, h3, h4⟩ := chkE_cons.1 h
    obtain ⟨i1, i2, i3⟩ := chkE_srt h4
    have i4 := i3 x rfl
    simp [vert] at h1
    refine ⟨List.pairwise_cons.2 ⟨i4, i1⟩, ?_, ?_⟩
    · intro z hz
      rcases List.mem_cons.1 hz with e | e
      · subst e; omega
      · exact i2 z e
    · intro y hy z hz
      subst hy
      have hb : bef y x = true := by simpa using h3
      rcases List.mem_cons.1 hz with e | e
      · subst e; exact hb
      · exact bef_trans hb (i4 z e)
theorem chkE_of {n : Int} : ∀ {es : List E2} {l : Option E2}, Srt es → (∀ x ∈ es, 0 ≤ x.1 ∧ x.1 < x.2 ∧ x.2 < n) → (∀ y, l = some y → ∀ x ∈ es, bef y x = true) → chkE n l es = 0
  | [], l, _, _, _ => rfl
  | x :: es, l, h1, h2, h3 => by
    obtain ⟨i1, i2⟩ := List.pairwise_cons.1 h1
    have hx := h2 x (by simp)
    refine chkE_cons.2 ⟨by simp [vert]; omega, by omega, ?_, chkE_of i2 (fun z hz => h2 z (List.mem_cons_of_mem _ hz)) (fun y hy z hz => by cases hy; exact i1 z hz)⟩
    cases l with
    | none => rfl
    | some y => simp [h3 y rfl x (by simp)]
theorem canon_adj {n : Nat} {es : List E2} (h : chkE n none es = 0) : es = canon n (adj es) := by
  obtain ⟨h1, h2, _⟩ := chkE_srt h
  refine srt_uniq h1 (canon_srt _ _) fun x => ?_
  rw [mem_canon]
  constructor
  · intro hx
    obtain ⟨a, b⟩ := x
    have := h2 _ hx
    simp only at this
    refine ⟨a.toNat, b.toNat, by omega, by omega, ?_, ?_⟩
    · rw [adj_iff]; left
      rw [show ((a.toNat : Nat) : Int) = a by omega, show ((b.toNat : Nat) : Int) = b by omega]; exact hx
    · rw [show ((a.toNat : Nat) : Int) = a by omega, show ((b.toNat : Nat) : Int) = b by omega]
  · rintro ⟨i, k, hik, hk, ha, rfl⟩
    rcases adj_iff.1 ha with h | h
    · exact h
    · have := h2 _ h; simp only at this; omega
theorem chkE_canon (n : Nat) (f : Nat → Nat → Bool) : chkE n none (canon n f) = 0 := by
  refine chkE_of (canon_srt n f) ?_ (by simp)
  intro x hx
  obtain ⟨i, k, h1, h2, _, rfl⟩ := mem_canon.1 hx
  simp only; omega
end Go.Proofs.YtifkieopaoooeaaDoor.PlainG
