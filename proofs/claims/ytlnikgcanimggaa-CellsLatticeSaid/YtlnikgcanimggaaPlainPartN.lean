/- The kit's partition is a partition. -/
import Derived.Test.YtlnikgcanimggaaPlainKit
import Derived.Test.YtlnikgcanimggaaPlainMoves
set_option linter.unusedSimpArgs false
set_option linter.unusedVariables false
namespace Go.Proofs.Ytlnikgcanimggaa
open Plain
theorem mem_selTo {f : Nat → Int} {k i : Nat} : ∀ {j : Nat}, i ∈ selTo f k j ↔ i < j ∧ f i = k
  | 0 => by simp [selTo]
  | j + 1 => by
    rw [selTo]
    split
    · rename_i h
      rw [List.mem_append, mem_selTo, List.mem_singleton]
      constructor
      · rintro (⟨h1, h2⟩ | rfl)
        · exact ⟨by omega, h2⟩
        · exact ⟨by omega, h⟩
      · rintro ⟨h1, h2⟩
        by_cases e : i = j
        · exact .inr e
        · exact .inl ⟨by omega, h2⟩
    · rename_i h
      rw [mem_selTo]
      constructor
      · rintro ⟨h1, h2⟩; exact ⟨by omega, h2⟩
      · rintro ⟨h1, h2⟩
        by_cases e : i = j
        · subst e; exact absurd h2 h
        · exact ⟨by omega, h2⟩
theorem selTo_asc (f : Nat → Int) (k : Nat) : ∀ j, (selTo f k j).Pairwise (· < ·)
  | 0 => by simp [selTo]
  | j + 1 => by
    rw [selTo]
    split
    · rw [List.pairwise_append]
      refine ⟨selTo_asc f k j, by simp, fun a ha b hb => ?_⟩
      have := (mem_selTo.1 ha).1
      rw [List.mem_singleton] at hb; omega
    · exact selTo_asc f k j
theorem cellsTo_part {f : Nat → Int} {n : Nat} (hf : ∀ i, i < n → 0 ≤ f i) : ∀ k : Nat, IsPart (fun i => [f i]) (fun i => i < n ∧ f i < k) (cellsTo f n k)
  | 0 => by
    refine ⟨by simp [cellsTo], fun i => ?_, by simp [cellsTo], by simp [cellsTo]⟩
    simp only [cellsTo]
    constructor
    · rintro ⟨c, hc, _⟩; simp at hc
    · rintro ⟨h1, h2⟩; have := hf i h1; omega
  | k + 1 => by
    have ih := cellsTo_part hf k
    have hsel : ∀ i, i ∈ selTo f k n ↔ i < n ∧ f i = k := fun i => mem_selTo
    rw [cellsTo]
    split
    · rename_i h
      refine ⟨ih.asc, fun i => ?_, ih.same, ih.ord⟩
      rw [ih.cover]
      constructor
      · rintro ⟨h1, h2⟩; exact ⟨h1, by omega⟩
      · rintro ⟨h1, h2⟩
        refine ⟨h1, ?_⟩
        by_cases e : f i = k
        · have := (hsel i).2 ⟨h1, e⟩; rw [h] at this; simp at this
        · omega
    · rename_i h
      refine ⟨?_, ?_, ?_, ?_⟩
      · intro c hc
        rcases List.mem_append.1 hc with hc | hc
        · exact ih.asc c hc
        · rw [List.mem_singleton] at hc; subst hc; exact ⟨selTo_asc f k n, h⟩
      · intro i
        constructor
        · rintro ⟨c, hc, hi⟩
          rcases List.mem_append.1 hc with hc | hc
          · have := (ih.cover i).1 ⟨c, hc, hi⟩; exact ⟨this.1, by omega⟩
          · rw [List.mem_singleton] at hc; subst hc; have := (hsel i).1 hi; exact ⟨this.1, by omega⟩
        · rintro ⟨h1, h2⟩
          by_cases e : f i = k
          · exact ⟨_, List.mem_append_right _ (by simp), (hsel i).2 ⟨h1, e⟩⟩
          · obtain ⟨c, hc, hi⟩ := (ih.cover i).2 ⟨h1, by omega⟩
            exact ⟨c, List.mem_append_left _ hc, hi⟩
      · intro c hc i hi j hj
        rcases List.mem_append.1 hc with hc | hc
        · exact ih.same c hc i hi j hj
        · rw [List.mem_singleton] at hc; subst hc
          simp only [((hsel i).1 hi).2, ((hsel j).1 hj).2]
      · rw [List.pairwise_append]
        refine ⟨ih.ord, by simp, fun c hc d hd i hi j hj => ?_⟩
        rw [List.mem_singleton] at hd; subst hd
        have h1 := ((ih.cover i).1 ⟨c, hc, hi⟩).2
        have h2 := ((hsel j).1 hj).2
        rw [cmpL_lt (by omega)]; omega
theorem partN_part (n : Nat) (l : List Int) : IsPart (fun i => [bel (num l i) (max 1 n)]) (· < n) (partN n l) := by
  have h := cellsTo_part (f := fun i => bel (num l i) (max 1 n)) (n := n) (fun i _ => (bel_range (by omega)).1) n
  refine ⟨h.asc, fun i => ?_, h.same, h.ord⟩
  have h1 := h.cover i
  rw [partN, h1]
  constructor
  · exact fun h => h.1
  · intro hi
    have := (bel_range (n := num l i) (k := max 1 (n : Int)) (by omega)).2
    exact ⟨hi, by omega⟩
theorem partN_goodA (n : Nat) (l : List Int) : GoodA n ((partN n l).map (·.map Int.ofNat)) := part_goodA (partN_part n l)
theorem GoodA.cell_len {n : Nat} {l : List (List Int)} (h : GoodA n l) : ∀ c ∈ l, c.length ≤ n := fun c hc =>
  nodup_len n c (h.good.nodup.sublist (List.sublist_flatten_of_mem hc)) (h.good.inr c hc)
end Go.Proofs.Ytlnikgcanimggaa
