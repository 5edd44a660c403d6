/- All permutations of up to five points in their order; the least isomorphism is the first one: plain. -/
import Derived.Test.YtjjjohmppehejaaGreatPlainT
set_option linter.unusedSimpArgs false
set_option linter.unusedVariables false
namespace Go.Proofs.YtjjjohmppehejaaGreat.PlainX
open Go.Proofs.YtjjjohmppehejaaGreat Plain PlainG PlainT
def at_ (p : List Nat) (i : Nat) : Nat := p[i]?.getD 0
/-- The last place below i whose entry is less than the next one. -/
def descF (p : List Nat) : Nat → Option Nat
  | 0 => none
  | i + 1 => if at_ p i > at_ p (i + 1) then descF p i else some i
/-- The last place up to k whose entry is not less than x. -/
def lastF (p : List Nat) (x : Nat) : Nat → Nat
  | 0 => 0
  | k + 1 => if at_ p (k + 1) < x then lastF p x k else k + 1
def swapF (p : List Nat) (a b : Nat) : List Nat := (p.set a (at_ p b)).set b (at_ p a)
def revF : Nat → List Nat → Nat → Nat → List Nat
  | 0, p, _, _ => p
  | f + 1, p, a, b => if a < b then revF f (swapF p a b) (a + 1) (b - 1) else p
def nextF (p : List Nat) : Option (List Nat) :=
  match descF p (p.length - 1) with
  | none => none
  | some i => some (revF p.length (swapF p i (lastF p (at_ p i) (p.length - 1))) (i + 1) (p.length - 1))
def goF : Nat → List Nat → List (List Nat)
  | 0, p => [p]
  | f + 1, p => match nextF p with
    | none => [p]
    | some q => p :: goF f q
/-- All permutations of n points (n at most 5). -/
def seqP (n : Nat) : List (List Nat) := goF 130 (List.range n)
def ltL : List Nat → List Nat → Bool
  | a :: p, b :: q => decide (a < b) || (a == b && ltL p q)
  | _, _ => false
def isPermB (n : Nat) (p : List Nat) : Bool := p.length == n && p.all (fun x => decide (x < n)) && decide p.Nodup
def allL (n : Nat) : Nat → List (List Nat)
  | 0 => [[]]
  | k + 1 => (List.range n).flatMap fun x => (allL n k).map (x :: ·)
theorem mem_allL {n : Nat} : ∀ {k : Nat} {p : List Nat}, p.length = k → (∀ x ∈ p, x < n) → p ∈ allL n k
  | 0, p, hl, _ => by rw [List.eq_nil_of_length_eq_zero hl]; simp [allL]
  | k + 1, x :: p, hl, h => by
    rw [allL, List.mem_flatMap]
    exact ⟨x, List.mem_range.2 (h x (by simp)), List.mem_map.2 ⟨p, mem_allL (by simpa using hl) (fun y hy => h y (by simp [hy])), rfl⟩⟩
theorem seq0 : (seqP 0).all (isPermB 0) = true ∧ (seqP 0).Pairwise (fun a b => ltL a b = true) ∧ (allL 0 0).all (fun p => !isPermB 0 p || (seqP 0).contains p) = true := by decide +kernel
theorem seq1 : (seqP 1).all (isPermB 1) = true ∧ (seqP 1).Pairwise (fun a b => ltL a b = true) ∧ (allL 1 1).all (fun p => !isPermB 1 p || (seqP 1).contains p) = true := by decide +kernel
theorem seq2 : (seqP 2).all (isPermB 2) = true ∧ (seqP 2).Pairwise (fun a b => ltL a b = true) ∧ (allL 2 2).all (fun p => !isPermB 2 p || (seqP 2).contains p) = true := by decide +kernel
theorem seq3 : (seqP 3).all (isPermB 3) = true ∧ (seqP 3).Pairwise (fun a b => ltL a b = true) ∧ (allL 3 3).all (fun p => !isPermB 3 p || (seqP 3).contains p) = true := by decide +kernel
theorem seq4 : (seqP 4).all (isPermB 4) = true ∧ (seqP 4).Pairwise (fun a b => ltL a b = true) ∧ (allL 4 4).all (fun p => !isPermB 4 p || (seqP 4).contains p) = true := by decide +kernel
theorem seq5 : (seqP 5).all (isPermB 5) = true ∧ (seqP 5).Pairwise (fun a b => ltL a b = true) ∧ (allL 5 5).all (fun p => !isPermB 5 p || (seqP 5).contains p) = true := by decide +kernel
theorem isPermB_iff {n : Nat} {p : List Nat} : isPermB n p = true ↔ p.length = n ∧ (∀ x ∈ p, x < n) ∧ p.Nodup := by
  simp [isPermB, and_assoc]
theorem seq_facts {n : Nat} (hn : n ≤ 5) : (seqP n).all (isPermB n) = true ∧ (seqP n).Pairwise (fun a b => ltL a b = true) ∧ (allL n n).all (fun p => !isPermB n p || (seqP n).contains p) = true := by
  match n, hn with
  | 0, _ => exact seq0
  | 1, _ => exact seq1
  | 2, _ => exact seq2
  | 3, _ => exact seq3
  | 4, _ => exact seq4
  | 5, _ => exact seq5
theorem seq_mem {n : Nat} (hn : n ≤ 5) {p : List Nat} : p ∈ seqP n ↔ isPermB n p = true := by
  obtain ⟨h1, _, h3⟩ := seq_facts hn
  constructor
  · exact fun h => List.all_eq_true.1 h1 p h
  · intro h
    obtain ⟨hl, hr, _⟩ := isPermB_iff.1 h
    have := List.all_eq_true.1 h3 p (mem_allL hl hr)
    rw [h] at this
    simpa using this
theorem ltL_asymm : ∀ {p q : List Nat}, ltL p q = true → ltL q p = true → False
  | a :: p, b :: q, h, k => by
    simp only [ltL, Bool.or_eq_true, Bool.and_eq_true, decide_eq_true_eq, beq_iff_eq] at h k
    rcases h with h | ⟨h, h2⟩ <;> rcases k with k | ⟨k, k2⟩
    · omega
    · omega
    · omega
    · exact ltL_asymm h2 k2
theorem ltL_pre {a b : Nat} (h : a < b) : ∀ (p r r' : List Nat), ltL (p ++ a :: r) (p ++ b :: r') = true
  | [], r, r' => by simp [ltL, h]
  | x :: p, r, r' => by simp [ltL, ltL_pre h p r r']
theorem iso_permB {A B : Adj} {cg ch : List Int} {n : Nat} {q : List Nat} (h : Iso A B cg ch n q) : isPermB n q = true := isPermB_iff.2 ⟨h.len, h.lt, h.nd⟩
theorem iso_iff {A B : Adj} {cg ch : List Int} {n : Nat} {q : List Nat} (h : isPermB n q = true) : preOK A B cg ch q = true ↔ Iso A B cg ch n q := by
  obtain ⟨hl, hr, _⟩ := isPermB_iff.1 h
  constructor
  · intro ho
    exact Pre.iso ⟨hr, fun i hi => List.all_eq_true.1 ho i (List.mem_range.2 hi)⟩ hl
  · intro hi
    exact List.all_eq_true.2 fun i hj => hi.pre.ok i (List.mem_range.1 hj)
theorem tryF_least {A B : Adj} {cg ch : List Int} {n : Nat} {q' : List Nat} (hq : Iso A B cg ch n q') : ∀ (f : Nat) (p : List Nat), p.length + f = n → q'.take p.length = p → ∃ q, tryF A B cg ch n f p = some q ∧ (q = q' ∨ ltL q q' = true)
  | 0, p, hl, ht => by
    refine ⟨p, rfl, .inl ?_⟩
    rw [List.take_of_length_le (by rw [hq.len]; omega)] at ht
    exact ht.symm
  | f + 1, p, hl, ht => by
    have hlt : p.length < q'.length := by rw [hq.len]; omega
    obtain ⟨v', hv'⟩ : ∃ v, q'[p.length]? = some v := ⟨_, List.getElem?_eq_getElem hlt⟩
    have hvn : v' < n := hq.lt v' (List.mem_of_getElem? hv')
    have hok := hq.pre.ok p.length hlt
    rw [ht, hv', Option.getD_some] at hok
    obtain ⟨q1, h1, h2⟩ := tryF_least hq f (p ++ [v']) (by simp; omega) (by rw [List.length_append, List.length_singleton, List.take_add_one, ht, hv']; rfl)
    have hg : (if okS A B cg ch p v' = true then tryF A B cg ch n f (p ++ [v']) else none) = some q1 := by rw [if_pos hok, h1]
    cases hr : (List.range n).findSome? (fun v => if okS A B cg ch p v = true then tryF A B cg ch n f (p ++ [v]) else none) with
    | none =>
      have := List.findSome?_eq_none_iff.1 hr v' (List.mem_range.2 hvn)
      rw [hg] at this; cases this
    | some q =>
      refine ⟨q, by rw [tryF]; exact hr, ?_⟩
      obtain ⟨l1, v0, l2, e1, e2, e3⟩ := List.findSome?_eq_some_iff.1 hr
      have hle : v0 ≤ v' := by
        rcases Nat.lt_or_ge v' v0 with hlt2 | hge
        · have hm : v' ∈ l1 := by
            have hs : (l1 ++ v0 :: l2).Pairwise (· < ·) := by rw [← e1]; exact List.pairwise_lt_range
            have hin : v' ∈ l1 ++ v0 :: l2 := by rw [← e1]; exact List.mem_range.2 hvn
            rcases List.mem_append.1 hin with h | h
            · exact h
            · rcases List.mem_cons.1 h with h | h
              · omega
              · have := (List.pairwise_cons.1 (List.pairwise_append.1 hs).2.1).1 v' h; omega
          rw [e3 v' hm] at hg; cases hg
        · exact hge
      rcases Nat.lt_or_eq_of_le hle with hlt3 | heq
      · right
        split at e2
        · have h5 := tryF_len e2
          have ea : q = p ++ v0 :: q.drop (p.length + 1) := by
            have h6 := h5.2
            rw [List.length_append, List.length_singleton] at h6
            have := List.take_append_drop (p.length + 1) q
            rw [h6, List.append_assoc] at this
            exact this.symm
          have eb : q' = p ++ v' :: q'.drop (p.length + 1) := by
            have := List.take_append_drop (p.length + 1) q'
            rw [List.take_add_one, ht, hv', Option.toList_some, List.append_assoc] at this
            exact this.symm
          rw [ea, eb]
          exact ltL_pre hlt3 p _ _
        · cases e2
      · subst heq
        rw [hg] at e2
        cases e2
        exact h2
/-- The least isomorphism is the first one of all permutations. -/
theorem ext_find {A B : Adj} {cg ch : List Int} {n : Nat} (hn : n ≤ 5) : extA A B cg ch n [] = (seqP n).find? (fun q => preOK A B cg ch q) := by
  have he : extA A B cg ch n [] = tryF A B cg ch n n [] := by simp [extA, preOK]
  have hsrt := (seq_facts hn).2.1
  cases ho : extA A B cg ch n [] with
  | none =>
    symm
    rw [List.find?_eq_none]
    intro q hq hp
    have hi := (iso_iff ((seq_mem hn).1 hq)).1 hp
    obtain ⟨q2, h2, _⟩ := tryF_least hi n [] (by simp) (by simp)
    rw [← he, ho] at h2; cases h2
  | some q =>
    have hi := ext_iso (by simp) (by simp) ho
    have hm := (seq_mem hn).2 (iso_permB hi)
    have hp := (iso_iff (iso_permB hi)).2 hi
    cases hf : (seqP n).find? (fun q => preOK A B cg ch q) with
    | none =>
      have := List.find?_eq_none.1 hf q hm
      exact absurd hp this
    | some x =>
      obtain ⟨hx, l1, l2, e, hno⟩ := List.find?_eq_some_iff_append.1 hf
      have hxm : x ∈ seqP n := by rw [e]; simp
      have hix := (iso_iff ((seq_mem hn).1 hxm)).1 hx
      obtain ⟨q2, h2, h3⟩ := tryF_least hix n [] (by simp) (by simp)
      rw [← he, ho] at h2
      cases h2
      rcases h3 with rfl | h3
      · rfl
      · exfalso
        rw [e] at hm hsrt
        rcases List.mem_append.1 hm with h | h
        · have := hno q h
          rw [hp] at this; cases this
        · rcases List.mem_cons.1 h with rfl | h
          · exact ltL_asymm h3 h3
          · have := (List.pairwise_cons.1 (List.pairwise_append.1 hsrt).2.1).1 q h
            exact ltL_asymm h3 this
end Go.Proofs.YtjjjohmppehejaaGreat.PlainX
