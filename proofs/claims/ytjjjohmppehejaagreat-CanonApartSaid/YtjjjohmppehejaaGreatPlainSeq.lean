/- All permutations one after another; what first counts and keeps: plain. -/
import Derived.Test.YtjjjohmppehejaaGreatPlainAut
set_option linter.unusedSimpArgs false
set_option linter.unusedVariables false
namespace Go.Proofs.YtjjjohmppehejaaGreat.PlainX
open Go.Proofs.YtjjjohmppehejaaGreat Plain PlainG PlainT
def chainB (l : List (List Nat)) : Bool := (List.range l.length).all fun k => nextF (l[k]?.getD []) == l[k + 1]?
theorem chain0 : chainB (seqP 0) = true ∧ (seqP 0).length ≤ 120 := by decide +kernel
theorem chain1 : chainB (seqP 1) = true ∧ (seqP 1).length ≤ 120 := by decide +kernel
theorem chain2 : chainB (seqP 2) = true ∧ (seqP 2).length ≤ 120 := by decide +kernel
theorem chain3 : chainB (seqP 3) = true ∧ (seqP 3).length ≤ 120 := by decide +kernel
theorem chain4 : chainB (seqP 4) = true ∧ (seqP 4).length ≤ 120 := by decide +kernel
theorem chain5 : chainB (seqP 5) = true ∧ (seqP 5).length ≤ 120 := by decide +kernel
theorem chain_facts {n : Nat} (hn : n ≤ 5) : chainB (seqP n) = true ∧ (seqP n).length ≤ 120 := by
  match n, hn with
  | 0, _ => exact chain0
  | 1, _ => exact chain1
  | 2, _ => exact chain2
  | 3, _ => exact chain3
  | 4, _ => exact chain4
  | 5, _ => exact chain5
theorem seq_next {n : Nat} (hn : n ≤ 5) {k : Nat} {p : List Nat} (h : (seqP n)[k]? = some p) : nextF p = (seqP n)[k + 1]? := by
  have hk : k < (seqP n).length := (List.getElem?_eq_some_iff.1 h).1
  have := List.all_eq_true.1 (chain_facts hn).1 k (List.mem_range.2 hk)
  rw [h] at this
  simpa using this
theorem seq_first {n : Nat} : (seqP n)[0]? = some (List.range n) := by
  rw [← List.head?_eq_getElem?]; exact seq_head
theorem seq_permB {n : Nat} (hn : n ≤ 5) {k : Nat} {p : List Nat} (h : (seqP n)[k]? = some p) : isPermB n p = true := (seq_mem hn).1 (List.mem_of_getElem? h)
/-- How many of the first k move g to h; the first of these. -/
def cntK (n : Nat) (g h : Gr) (k : Nat) : Nat := (((seqP n).take k).filter (hits n g h)).length
def fstK (n : Nat) (g h : Gr) (k : Nat) : Option (List Nat) := ((seqP n).take k).find? (hits n g h)
theorem cntK_zero {n : Nat} {g h : Gr} : cntK n g h 0 = 0 := by simp [cntK]
theorem fstK_zero {n : Nat} {g h : Gr} : fstK n g h 0 = none := by simp [fstK]
theorem cntK_step {n : Nat} {g h : Gr} {k : Nat} {p : List Nat} (hk : (seqP n)[k]? = some p) : cntK n g h (k + 1) = cntK n g h k + (if hits n g h p = true then 1 else 0) := by
  unfold cntK
  rw [List.take_add_one, hk, List.filter_append, List.length_append]
  by_cases hh : hits n g h p = true
  · simp [hh]
  · simp [hh]
theorem cntK_yes {n : Nat} {g h : Gr} {k : Nat} {p : List Nat} (hk : (seqP n)[k]? = some p) (hh : hits n g h p = true) : cntK n g h (k + 1) = cntK n g h k + 1 := by rw [cntK_step hk, if_pos hh]
theorem cntK_no {n : Nat} {g h : Gr} {k : Nat} {p : List Nat} (hk : (seqP n)[k]? = some p) (hh : hits n g h p = false) : cntK n g h (k + 1) = cntK n g h k := by rw [cntK_step hk, if_neg (by simp [hh]), Nat.add_zero]
theorem fstK_step {n : Nat} {g h : Gr} {k : Nat} {p : List Nat} (hk : (seqP n)[k]? = some p) : fstK n g h (k + 1) = (fstK n g h k).or (if hits n g h p = true then some p else none) := by
  unfold fstK
  rw [List.take_add_one, hk, List.find?_append]
  by_cases hh : hits n g h p = true
  · simp [hh]
  · simp [hh]
theorem fstK_no {n : Nat} {g h : Gr} {k : Nat} {p : List Nat} (hk : (seqP n)[k]? = some p) (hh : hits n g h p = false) : fstK n g h (k + 1) = fstK n g h k := by rw [fstK_step hk, if_neg (by simp [hh])]; simp
theorem fst_cnt {n : Nat} {g h : Gr} {k : Nat} : fstK n g h k = none ↔ cntK n g h k = 0 := by
  unfold fstK cntK
  rw [List.find?_eq_none, List.length_eq_zero_iff, List.filter_eq_nil_iff]
theorem fstK_yes {n : Nat} {g h : Gr} {k : Nat} {p : List Nat} (hk : (seqP n)[k]? = some p) (hh : hits n g h p = true) (h0 : cntK n g h k = 0) : fstK n g h (k + 1) = some p := by
  rw [fstK_step hk, fst_cnt.2 h0, if_pos hh]; rfl
theorem fstK_keep {n : Nat} {g h : Gr} {k : Nat} {p : List Nat} (hk : (seqP n)[k]? = some p) (h0 : cntK n g h k ≠ 0) : fstK n g h (k + 1) = fstK n g h k := by
  rw [fstK_step hk]
  cases e : fstK n g h k with
  | none => exact absurd (fst_cnt.1 e) h0
  | some q => rfl
theorem cntK_le {n : Nat} (hn : n ≤ 5) (g h : Gr) (k : Nat) : cntK n g h k ≤ 120 := by
  unfold cntK
  have h1 := List.length_filter_le (hits n g h) ((seqP n).take k)
  have h2 : ((seqP n).take k).length ≤ (seqP n).length := by simp; omega
  have := (chain_facts hn).2
  omega
theorem all_end {n k : Nat} {p : List Nat} (hn : n ≤ 5) (hk : (seqP n)[k]? = some p) (h : nextF p = none) (g h' : Gr) : cntK n g h' (k + 1) = manyP n g h' ∧ fstK n g h' (k + 1) = firstP n g h' := by
  have e := seq_next hn hk
  rw [h] at e
  have hl : (seqP n).length ≤ k + 1 := by
    rcases Nat.lt_or_ge (k + 1) (seqP n).length with h1 | h1
    · rw [List.getElem?_eq_getElem h1] at e; cases e
    · exact h1
  unfold cntK fstK manyP firstP
  rw [List.take_of_length_le hl]
  exact ⟨rfl, rfl⟩
theorem seq_more {n k : Nat} {p q : List Nat} (hn : n ≤ 5) (hk : (seqP n)[k]? = some p) (h : nextF p = some q) : (seqP n)[k + 1]? = some q := by rw [← seq_next hn hk, h]
theorem rep_len_at {n : Nat} {g : Gr} {i k : Nat} (hi : i < n) (hk : k < (orbA (adj g.es) g.cs n i).length) : ((repA (adj g.es) g.cs n i)[k]?.getD []).length = n := by
  have hk2 : k < (levA (adj g.es) g.cs n i).length := by simpa [orbA] using hk
  obtain ⟨v, q, hvq⟩ : ∃ v q, (levA (adj g.es) g.cs n i)[k] = (v, q) := ⟨_, _, rfl⟩
  have e1 : (repA (adj g.es) g.cs n i)[k]?.getD [] = q := by unfold repA; rw [List.getElem?_map, List.getElem?_eq_getElem hk2, hvq]; rfl
  obtain ⟨hv, he⟩ := lev_mem (hvq ▸ List.getElem_mem hk2)
  rw [e1]
  exact (ext_aut hi hv he).1.len
end Go.Proofs.YtjjjohmppehejaaGreat.PlainX
