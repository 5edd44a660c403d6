/- Plain laws of ordered partitions: no program in sight. · The reference's way to collect equal rows, as a plain function. · A partition by rows, in the rows' order: there is one alone; the reference's collect gives it. · Grouping a sorted list of points gives the partition by rows. · The reference's key of a point: triples, sorted by insertion. · The labels of a partition, as a plain function. · One round of refining, and the rounds: plain. · The sorted triples are one list, whichever sort has made them. · What Labels, Target, Split and Single answer: plain. -/

set_option linter.unusedSimpArgs false
set_option linter.unusedVariables false
namespace Go.Proofs.YtjjjohmppehejaaGreat.Plain

/-- The scan of one cell: an error's number, or the points seen. -/
def chkCell (n : Int) : List Int → Option Int → List Int → Sum Int (List Int)
  | s, _, [] => .inr s
  | s, prev, p :: r =>
    if p < 0 ∨ n ≤ p then .inl 2
    else if p ∈ s then .inl 8
    else if ∃ q, prev = some q ∧ p < q then .inl 9
    else chkCell n (p :: s) (some p) r
def chkCells (n : Int) : List Int → List (List Int) → Sum Int (List Int)
  | s, [] => .inr s
  | s, c :: r =>
    if c = [] then .inl 3
    else match chkCell n s none c with
      | .inl e => .inl e
      | .inr s' => chkCells n s' r
/-- What the check of a partition answers. -/
def chk (n : Int) (l : List (List Int)) : Int :=
  if n < 0 ∨ 64 < n then 2
  else match chkCells n [] l with
    | .inl e => e
    | .inr s => if (s.length : Int) < n then 18 else 0

/-- What is seen is seen once, and in range. -/
def Fine (n : Int) (s : List Int) : Prop := s.Nodup ∧ ∀ p ∈ s, 0 ≤ p ∧ p < n

theorem nodup_len : ∀ (n : Nat) (s : List Int), s.Nodup → (∀ p ∈ s, 0 ≤ p ∧ p < n) → s.length ≤ n
  | 0, s, _, h => by
    cases s with
    | nil => simp
    | cons p r => have := h p (by simp); omega
  | n + 1, s, hd, h => by
    by_cases hm : (n : Int) ∈ s
    · have h1 := nodup_len n (s.erase n) (hd.erase _) (fun p hp => by
        have h2 := h p (List.mem_of_mem_erase hp)
        have h3 : p ≠ n := fun e => by subst e; exact (List.Nodup.not_mem_erase hd) hp
        omega)
      rw [List.length_erase_of_mem hm] at h1; omega
    · have := nodup_len n s hd (fun p hp => by
        have h2 := h p hp
        have h3 : p ≠ n := fun e => by subst e; exact hm hp
        omega)
      omega
theorem Fine.len {n : Int} {s : List Int} (h : Fine n s) (hn : 0 ≤ n) : (s.length : Int) ≤ n := by
  have := nodup_len n.toNat s h.1 (fun p hp => by have := h.2 p hp; omega)
  omega
theorem Fine.nil (n : Int) : Fine n [] := ⟨List.nodup_nil, fun p hp => by simp at hp⟩
theorem Fine.cons {n p : Int} {s : List Int} (h : Fine n s) (h1 : ¬ (p < 0 ∨ n ≤ p)) (h2 : p ∉ s) : Fine n (p :: s) :=
  ⟨List.nodup_cons.2 ⟨h2, h.1⟩, fun q hq => by
    rcases List.mem_cons.1 hq with rfl | hq
    · omega
    · exact h.2 q hq⟩

theorem drop_cons {α : Type} {l : List α} {k : Nat} {d : α} (h : k < l.length) : l.drop k = l[k]?.getD d :: l.drop (k + 1) := by
  rw [List.drop_eq_getElem_cons h, List.getElem?_eq_getElem h]; rfl
theorem drop_all {α : Type} {l : List α} {k : Nat} (h : l.length ≤ k) : l.drop k = [] := List.drop_eq_nil_of_le h

/-- The point before place j of a cell. -/
def prevAt (c : List Int) (j : Nat) : Option Int := if j = 0 then none else some (c[j - 1]?.getD 0)

section
variable {n : Int} {s c : List Int} {j : Nat}
theorem cell_range (h : j < c.length) (h1 : c[j]?.getD 0 < 0 ∨ n ≤ c[j]?.getD 0) : chkCell n s (prevAt c j) (c.drop j) = .inl 2 := by
  rw [drop_cons (d := 0) h, chkCell, if_pos h1]
theorem cell_twice (h : j < c.length) (h1 : ¬ (c[j]?.getD 0 < 0 ∨ n ≤ c[j]?.getD 0)) (h2 : c[j]?.getD 0 ∈ s) : chkCell n s (prevAt c j) (c.drop j) = .inl 8 := by
  rw [drop_cons (d := 0) h, chkCell, if_neg h1, if_pos h2]
theorem cell_order (h : j < c.length) (h1 : ¬ (c[j]?.getD 0 < 0 ∨ n ≤ c[j]?.getD 0)) (h2 : c[j]?.getD 0 ∉ s) (h3 : 0 < j) (h4 : c[j]?.getD 0 < c[j - 1]?.getD 0) : chkCell n s (prevAt c j) (c.drop j) = .inl 9 := by
  rw [drop_cons (d := 0) h, chkCell, if_neg h1, if_neg h2, if_pos]
  exact ⟨_, by rw [prevAt, if_neg (by omega)], h4⟩
theorem cell_next (h : j < c.length) (h1 : ¬ (c[j]?.getD 0 < 0 ∨ n ≤ c[j]?.getD 0)) (h2 : c[j]?.getD 0 ∉ s) (h3 : ¬ (0 < j ∧ c[j]?.getD 0 < c[j - 1]?.getD 0)) :
    chkCell n s (prevAt c j) (c.drop j) = chkCell n (c[j]?.getD 0 :: s) (prevAt c (j + 1)) (c.drop (j + 1)) := by
  rw [drop_cons (d := 0) h, chkCell, if_neg h1, if_neg h2, if_neg]
  · rw [prevAt, if_neg (by omega)]; rfl
  · rintro ⟨q, hq, hlt⟩
    by_cases hj : j = 0
    · simp [prevAt, hj] at hq
    · rw [prevAt, if_neg hj] at hq
      injection hq with hq
      exact h3 ⟨by omega, by rw [hq]; exact hlt⟩
theorem cell_end (h : c.length ≤ j) (p : Option Int) : chkCell n s p (c.drop j) = .inr s := by
  rw [drop_all h, chkCell]
end
section
variable {n : Int} {s : List Int} {l : List (List Int)} {k : Nat}
theorem cells_empty (h : k < l.length) (h1 : (l[k]?.getD []).length = 0) : chkCells n s (l.drop k) = .inl 3 := by
  rw [drop_cons (d := []) h, chkCells, if_pos (List.eq_nil_of_length_eq_zero h1)]
theorem cells_err {e : Int} (h : k < l.length) (h1 : (l[k]?.getD []).length ≠ 0) (h2 : chkCell n s none (l[k]?.getD []) = .inl e) : chkCells n s (l.drop k) = .inl e := by
  rw [drop_cons (d := []) h, chkCells, if_neg (fun e => h1 (by rw [e]; rfl)), h2]
theorem cells_next {s' : List Int} (h : k < l.length) (h1 : (l[k]?.getD []).length ≠ 0) (h2 : chkCell n s none (l[k]?.getD []) = .inr s') : chkCells n s (l.drop k) = chkCells n s' (l.drop (k + 1)) := by
  rw [drop_cons (d := []) h, chkCells, if_neg (fun e => h1 (by rw [e]; rfl)), h2]
theorem cells_end (h : l.length ≤ k) : chkCells n s (l.drop k) = .inr s := by rw [drop_all h, chkCells]
end
theorem chk_range {n : Int} {l : List (List Int)} (h : n < 0 ∨ 64 < n) : chk n l = 2 := by rw [chk, if_pos h]
theorem chk_err {n e : Int} {l : List (List Int)} (h : ¬ (n < 0 ∨ 64 < n)) (h2 : chkCells n [] l = .inl e) : chk n l = e := by rw [chk, if_neg h, h2]
theorem chk_end {n : Int} {s : List Int} {l : List (List Int)} (h : ¬ (n < 0 ∨ 64 < n)) (h2 : chkCells n [] l = .inr s) : chk n l = if (s.length : Int) < n then 18 else 0 := by rw [chk, if_neg h, h2]
end Go.Proofs.YtjjjohmppehejaaGreat.Plain
namespace Go.Proofs.YtjjjohmppehejaaGreat.Plain
/-- Lists, element by element; then the difference of the lengths. -/
def cmpL : List Int → List Int → Int
  | x :: xs, y :: ys => if x < y then -1 else if y < x then 1 else cmpL xs ys
  | xs, ys => (xs.length : Int) - ys.length
theorem cmpL_lt {x y : Int} {xs ys : List Int} (h : x < y) : cmpL (x :: xs) (y :: ys) = -1 := by rw [cmpL, if_pos h]
theorem cmpL_gt {x y : Int} {xs ys : List Int} (h : y < x) : cmpL (x :: xs) (y :: ys) = 1 := by rw [cmpL, if_neg (by omega), if_pos h]
theorem cmpL_eq {x y : Int} {xs ys : List Int} (h : x = y) : cmpL (x :: xs) (y :: ys) = cmpL xs ys := by rw [cmpL, if_neg (by omega), if_neg (by omega)]
theorem cmpL_end {xs ys : List Int} (h : xs = [] ∨ ys = []) : cmpL xs ys = (xs.length : Int) - ys.length := by
  rcases h with rfl | rfl
  · cases ys <;> simp [cmpL]
  · cases xs <;> simp [cmpL]
end Go.Proofs.YtjjjohmppehejaaGreat.Plain

namespace Go.Proofs.YtjjjohmppehejaaGreat.Plain

theorem cmpL_self : ∀ xs : List Int, cmpL xs xs = 0
  | [] => by simp [cmpL]
  | x :: xs => by rw [cmpL_eq rfl, cmpL_self xs]

section
variable (R : Nat → List Int)
def better (acc : Option Nat) (k : Nat) : Option Nat :=
  match acc with
  | none => some k
  | some l => if cmpL (R k) (R l) < 0 then some k else some l
def pickTo (td : Nat → Bool) : Nat → Option Nat
  | 0 => none
  | i + 1 => if td i then better R (pickTo td i) i else pickTo td i
def cellTo (td : Nat → Bool) (l : Nat) : Nat → List Nat
  | 0 => []
  | i + 1 => if td i = true ∧ cmpL (R i) (R l) = 0 then cellTo td l i ++ [i] else cellTo td l i
def strike (td : Nat → Bool) (l i : Nat) : Nat → Bool := fun k => td k && !(decide (k < i) && (cmpL (R k) (R l) == 0))
def collectF (n : Nat) : Nat → (Nat → Bool) → List (List Nat) → List (List Nat)
  | 0, _, out => out
  | f + 1, td, out =>
    match pickTo R td n with
    | none => out
    | some l => collectF n f (strike R td l n) (out ++ [cellTo R td l n])
def count (td : Nat → Bool) : Nat → Nat
  | 0 => 0
  | i + 1 => count td i + if td i then 1 else 0

variable {R}
theorem pickTo_some {td : Nat → Bool} : ∀ {i l : Nat}, pickTo R td i = some l → l < i ∧ td l = true
  | 0, _, h => by simp [pickTo] at h
  | i + 1, l, h => by
    rw [pickTo] at h
    split at h
    · rename_i ht
      cases hp : pickTo R td i with
      | none => rw [hp] at h; simp [better] at h; subst h; exact ⟨by omega, ht⟩
      | some m =>
        have := pickTo_some hp
        rw [hp] at h; simp only [better] at h
        split at h <;> injection h with h <;> subst h
        · exact ⟨by omega, ht⟩
        · exact ⟨by omega, this.2⟩
    · have := pickTo_some h; exact ⟨by omega, this.2⟩
theorem pickTo_none {td : Nat → Bool} : ∀ {i : Nat}, pickTo R td i = none → count td i = 0
  | 0, _ => rfl
  | i + 1, h => by
    rw [pickTo] at h
    split at h
    · cases hp : pickTo R td i with
      | none => rw [hp] at h; simp [better] at h
      | some m => rw [hp] at h; simp only [better] at h; split at h <;> cases h
    · rename_i ht
      rw [count, pickTo_none h]; simp [ht]
theorem count_strike (td : Nat → Bool) (l i : Nat) : ∀ n, i ≤ n → count (strike R td l i) n + (cellTo R td l i).length = count td n := by
  induction i with
  | zero =>
    intro n _
    have : strike R td l 0 = td := by funext k; simp [strike]
    rw [this]; simp [cellTo]
  | succ i ih =>
    intro n hn
    have key : ∀ m, count (strike R td l (i + 1)) m + (if i < m ∧ td i = true ∧ cmpL (R i) (R l) = 0 then 1 else 0) = count (strike R td l i) m := by
      intro m
      induction m with
      | zero => simp [count]
      | succ m ihm =>
        rw [count, count, ← ihm]
        by_cases hm : m = i
        · subst hm
          by_cases h1 : td m = true <;> by_cases h2 : cmpL (R m) (R l) = 0 <;> simp [strike, h1, h2]
        · have e : strike R td l (i + 1) m = strike R td l i m := by
            simp only [strike]
            have : decide (m < i + 1) = decide (m < i) := by rw [decide_eq_decide]; omega
            rw [this]
          rw [e]
          have e2 : (i < m + 1 ∧ td i = true ∧ cmpL (R i) (R l) = 0) = (i < m ∧ td i = true ∧ cmpL (R i) (R l) = 0) := by
            have : i < m + 1 ↔ i < m := by omega
            rw [this]
          simp only [e2]; omega
    have h1 := ih n (by omega)
    have h2 := key n
    rw [cellTo]
    by_cases hc : td i = true ∧ cmpL (R i) (R l) = 0
    · rw [if_pos hc, List.length_append]
      rw [if_pos ⟨by omega, hc⟩] at h2
      simp; omega
    · rw [if_neg hc]
      rw [if_neg (fun h => hc h.2)] at h2
      omega
theorem mem_cellTo {td : Nat → Bool} {l : Nat} : ∀ {i k : Nat}, k ∈ cellTo R td l i ↔ k < i ∧ td k = true ∧ cmpL (R k) (R l) = 0
  | 0, k => by simp [cellTo]
  | i + 1, k => by
    rw [cellTo]
    have ih := @mem_cellTo td l i k
    split
    · rename_i h
      rw [List.mem_append, ih]
      simp only [List.mem_singleton]
      constructor
      · rintro (h1 | rfl)
        · exact ⟨by omega, h1.2⟩
        · exact ⟨by omega, h⟩
      · rintro ⟨h1, h2⟩
        by_cases e : k = i
        · exact .inr e
        · exact .inl ⟨by omega, h2⟩
    · rename_i h
      rw [ih]
      constructor
      · rintro ⟨h1, h2⟩; exact ⟨by omega, h2⟩
      · rintro ⟨h1, h2⟩
        have e : k ≠ i := by rintro rfl; exact h h2
        exact ⟨by omega, h2⟩
theorem cell_pos {td : Nat → Bool} {l n : Nat} (h : pickTo R td n = some l) : 0 < (cellTo R td l n).length := by
  have := pickTo_some h
  exact List.length_pos_of_mem (mem_cellTo.2 ⟨this.1, this.2, cmpL_self _⟩)
theorem cellTo_len (td : Nat → Bool) (l : Nat) : ∀ i, (cellTo R td l i).length ≤ i
  | 0 => by simp [cellTo]
  | i + 1 => by
    have := cellTo_len td l i
    rw [cellTo]; split <;> simp <;> omega
theorem count_le (td : Nat → Bool) : ∀ i, count td i ≤ i
  | 0 => by simp [count]
  | i + 1 => by
    have := count_le td i
    rw [count]; split <;> omega
theorem count_true : ∀ i, count (fun _ => true) i = i
  | 0 => rfl
  | i + 1 => by rw [count, count_true i]; simp
theorem pickTo_none_of {td : Nat → Bool} {n : Nat} (h : count td n = 0) : pickTo R td n = none := by
  cases hp : pickTo R td n with
  | none => rfl
  | some l =>
    have h1 := count_strike (R := R) td l n n (Nat.le_refl _)
    have h2 := cell_pos hp
    omega
theorem collectF_end {n f : Nat} {td : Nat → Bool} {out : List (List Nat)} (h : count td n = 0) : collectF R n f td out = out := by
  cases f with
  | zero => rfl
  | succ f => rw [collectF, pickTo_none_of h]
theorem collectF_step {n f : Nat} {td : Nat → Bool} {out : List (List Nat)} {l : Nat} (h : pickTo R td n = some l) :
    collectF R n (f + 1) td out = collectF R n f (strike R td l n) (out ++ [cellTo R td l n]) := by rw [collectF, h]
end
/-- The rows' partition. -/
def collect (R : List (List Int)) : List (List Int) := (collectF (fun k => R[k]?.getD []) R.length R.length (fun _ => true) []).map (·.map Int.ofNat)
end Go.Proofs.YtjjjohmppehejaaGreat.Plain

namespace Go.Proofs.YtjjjohmppehejaaGreat.Plain

theorem cmpL_antisymm : ∀ xs ys : List Int, cmpL xs ys = - cmpL ys xs
  | [], ys => by rw [cmpL_end (.inl rfl), cmpL_end (.inr rfl)]; omega
  | x :: xs, [] => by rw [cmpL_end (.inr rfl), cmpL_end (.inl rfl)]; omega
  | x :: xs, y :: ys => by
    by_cases h1 : x < y
    · rw [cmpL_lt h1, cmpL_gt h1]
    · by_cases h2 : y < x
      · rw [cmpL_gt h2, cmpL_lt h2]; rfl
      · rw [cmpL_eq (by omega), cmpL_eq (by omega), cmpL_antisymm xs ys]
theorem cmpL_zero : ∀ {xs ys : List Int}, cmpL xs ys = 0 → xs = ys
  | [], ys, h => by
    rw [cmpL_end (.inl rfl)] at h
    have : ys.length = 0 := by simp at h; simp [h]
    rw [List.eq_nil_of_length_eq_zero this]
  | x :: xs, [], h => by rw [cmpL_end (.inr rfl)] at h; simp at h; omega
  | x :: xs, y :: ys, h => by
    by_cases h1 : x < y
    · rw [cmpL_lt h1] at h; omega
    · by_cases h2 : y < x
      · rw [cmpL_gt h2] at h; omega
      · have e : x = y := by omega
        rw [cmpL_eq e] at h
        rw [e, cmpL_zero h]
theorem cmpL_trans : ∀ {xs ys zs : List Int}, cmpL xs ys < 0 → cmpL ys zs < 0 → cmpL xs zs < 0
  | [], ys, zs, h1, h2 => by
    cases zs with
    | nil =>
      rw [cmpL_end (.inl rfl)] at h1
      rw [cmpL_end (.inr rfl)] at h2
      simp at h1 h2; omega
    | cons z zs =>
      rw [cmpL_end (.inl rfl)]
      simp only [List.length_nil, List.length_cons]; omega
  | x :: xs, [], zs, h1, h2 => by rw [cmpL_end (.inr rfl)] at h1; simp at h1; omega
  | x :: xs, y :: ys, [], h1, h2 => by rw [cmpL_end (.inr rfl)] at h2; simp at h2; omega
  | x :: xs, y :: ys, z :: zs, h1, h2 => by
    by_cases a1 : x < y
    · by_cases b1 : y < z
      · rw [cmpL_lt (by omega)]; omega
      · by_cases b2 : z < y
        · rw [cmpL_gt b2] at h2; omega
        · rw [cmpL_lt (by omega)]; omega
    · by_cases a2 : y < x
      · rw [cmpL_gt a2] at h1; omega
      · rw [cmpL_eq (by omega)] at h1
        by_cases b1 : y < z
        · rw [cmpL_lt (by omega)]; omega
        · by_cases b2 : z < y
          · rw [cmpL_gt b2] at h2; omega
          · rw [cmpL_eq (by omega)] at h2
            rw [cmpL_eq (by omega)]
            exact cmpL_trans h1 h2

structure IsPart (R : Nat → List Int) (S : Nat → Prop) (P : List (List Nat)) : Prop where
  asc : ∀ c ∈ P, c.Pairwise (· < ·) ∧ c ≠ []
  cover : ∀ i, (∃ c ∈ P, i ∈ c) ↔ S i
  same : ∀ c ∈ P, ∀ i ∈ c, ∀ j ∈ c, R i = R j
  ord : P.Pairwise fun c d => ∀ i ∈ c, ∀ j ∈ d, cmpL (R i) (R j) < 0

theorem asc_ext : ∀ {c d : List Nat}, c.Pairwise (· < ·) → d.Pairwise (· < ·) → (∀ i, i ∈ c ↔ i ∈ d) → c = d
  | [], [], _, _, _ => rfl
  | [], y :: d, _, _, h => by have := (h y).2 (by simp); simp at this
  | x :: c, [], _, _, h => by have := (h x).1 (by simp); simp at this
  | x :: c, y :: d, h1, h2, h => by
    rw [List.pairwise_cons] at h1 h2
    have hxy : x = y := by
      have a := (h x).1 (by simp)
      have b := (h y).2 (by simp)
      rcases List.mem_cons.1 a with a | a
      · exact a
      · rcases List.mem_cons.1 b with b | b
        · exact b.symm
        · have := h2.1 x a; have := h1.1 y b; omega
    subst hxy
    rw [asc_ext h1.2 h2.2 (fun i => ?_)]
    have hi := h i
    simp only [List.mem_cons] at hi
    constructor
    · intro hc
      rcases hi.1 (.inr hc) with e | e
      · have := h1.1 i hc; omega
      · exact e
    · intro hd
      rcases hi.2 (.inr hd) with e | e
      · have := h2.1 i hd; omega
      · exact e

theorem IsPart.tail {R : Nat → List Int} {S : Nat → Prop} {c : List Nat} {P : List (List Nat)} (h : IsPart R S (c :: P)) : IsPart R (fun i => S i ∧ i ∉ c) P where
  asc d hd := h.asc d (List.mem_cons_of_mem _ hd)
  cover i := by
    have hc := h.cover i
    have ho := List.pairwise_cons.1 h.ord
    constructor
    · rintro ⟨d, hd, hi⟩
      refine ⟨hc.1 ⟨d, List.mem_cons_of_mem _ hd, hi⟩, fun hic => ?_⟩
      have := ho.1 d hd i hic i hi
      rw [cmpL_self] at this; omega
    · rintro ⟨hS, hn⟩
      obtain ⟨d, hd, hi⟩ := hc.2 hS
      rcases List.mem_cons.1 hd with rfl | hd
      · exact absurd hi hn
      · exact ⟨d, hd, hi⟩
  same d hd := h.same d (List.mem_cons_of_mem _ hd)
  ord := (List.pairwise_cons.1 h.ord).2

/-- In the first cell lie just those whose row is least. -/
theorem IsPart.first {R : Nat → List Int} {S : Nat → Prop} {c : List Nat} {P : List (List Nat)} (h : IsPart R S (c :: P)) (i : Nat) :
    i ∈ c ↔ S i ∧ ∀ j, S j → ¬ cmpL (R j) (R i) < 0 := by
  have ho := List.pairwise_cons.1 h.ord
  have split : ∀ j, S j → j ∈ c ∨ ∃ d ∈ P, j ∈ d := fun j hj => by
    obtain ⟨d, hd, hi⟩ := (h.cover j).2 hj
    rcases List.mem_cons.1 hd with rfl | hd
    · exact .inl hi
    · exact .inr ⟨d, hd, hi⟩
  constructor
  · intro hi
    refine ⟨(h.cover i).1 ⟨c, by simp, hi⟩, fun j hj hlt => ?_⟩
    rcases split j hj with hj | ⟨d, hd, hj⟩
    · rw [h.same c (by simp) j hj i hi, cmpL_self] at hlt; omega
    · have := ho.1 d hd i hi j hj
      rw [cmpL_antisymm] at this; omega
  · rintro ⟨hS, hl⟩
    rcases split i hS with hi | ⟨d, hd, hi⟩
    · exact hi
    · obtain ⟨_, hne⟩ := h.asc c (by simp)
      obtain ⟨j, c', rfl⟩ := List.exists_cons_of_ne_nil hne
      exact absurd (ho.1 d hd j (by simp) i hi) (hl j ((h.cover j).1 ⟨j :: c', by simp, by simp⟩))

theorem IsPart.unique {R : Nat → List Int} : ∀ {P Q : List (List Nat)} {S : Nat → Prop}, IsPart R S P → IsPart R S Q → P = Q
  | [], [], _, _, _ => rfl
  | [], d :: Q, S, h, k => by
    obtain ⟨j, c', e⟩ := List.exists_cons_of_ne_nil (k.asc d (by simp)).2
    obtain ⟨c, hc, _⟩ := (h.cover j).2 ((k.cover j).1 ⟨d, by simp, by rw [e]; simp⟩)
    simp at hc
  | c :: P, [], S, h, k => by
    obtain ⟨j, c', e⟩ := List.exists_cons_of_ne_nil (h.asc c (by simp)).2
    obtain ⟨d, hd, _⟩ := (k.cover j).2 ((h.cover j).1 ⟨c, by simp, by rw [e]; simp⟩)
    simp at hd
  | c :: P, d :: Q, S, h, k => by
    have e : c = d := asc_ext (h.asc c (by simp)).1 (k.asc d (by simp)).1 (fun i => by rw [h.first i, k.first i])
    subst e
    rw [IsPart.unique h.tail k.tail]

section
variable {R : Nat → List Int}
theorem pick_least {td : Nat → Bool} : ∀ {i l : Nat}, pickTo R td i = some l → ∀ k, k < i → td k = true → ¬ cmpL (R k) (R l) < 0
  | 0, l, h, k, hk, _ => by omega
  | i + 1, l, h, k, hk, ht => by
    rw [pickTo] at h
    split at h
    · rename_i hti
      cases hp : pickTo R td i with
      | none =>
        rw [hp] at h; simp [better] at h; subst h
        by_cases e : k = i
        · subst e; rw [cmpL_self]; omega
        · exfalso
          have hc := pickTo_none hp
          have : ∀ m, k < m → td k = true → count td m ≠ 0 := by
            intro m
            induction m with
            | zero => intro h; omega
            | succ m ih =>
              intro h h2
              rw [count]
              by_cases e : k = m
              · subst e; simp [h2]
              · have := ih (by omega) h2; omega
          exact this i (by omega) ht hc
      | some q =>
        have ih := @pick_least td i q hp
        rw [hp] at h; simp only [better] at h
        split at h
        · rename_i hlt
          injection h with h; subst h
          by_cases e : k = i
          · subst e; rw [cmpL_self]; omega
          · intro h2
            exact ih k (by omega) ht (cmpL_trans h2 hlt)
        · rename_i hge
          injection h with h; subst h
          by_cases e : k = i
          · subst e; exact hge
          · exact ih k (by omega) ht
    · rename_i hti
      have hk2 : k ≠ i := by rintro rfl; exact hti ht
      exact pick_least h k (by omega) ht

theorem cellTo_asc (td : Nat → Bool) (l : Nat) : ∀ i, (cellTo R td l i).Pairwise (· < ·)
  | 0 => by simp [cellTo]
  | i + 1 => by
    rw [cellTo]; split
    · rw [List.pairwise_append]
      refine ⟨cellTo_asc td l i, by simp, fun x hx y hy => ?_⟩
      rw [List.mem_singleton.1 hy]
      exact (mem_cellTo.1 hx).1
    · exact cellTo_asc td l i

theorem collectF_part {n : Nat} : ∀ (f : Nat) (td : Nat → Bool) (out : List (List Nat)), count td n ≤ f →
    ∃ P, collectF R n f td out = out ++ P ∧ IsPart R (fun i => i < n ∧ td i = true) P := by
  have empty : ∀ td, count td n = 0 → IsPart R (fun i => i < n ∧ td i = true) [] := fun td h0 => by
    refine ⟨by simp, fun i => ⟨by simp, fun ⟨hi, ht⟩ => ?_⟩, by simp, by simp⟩
    exfalso
    have : ∀ m, i < m → count td m ≠ 0 := by
      intro m
      induction m with
      | zero => intro h; omega
      | succ m ih =>
        intro h
        rw [count]
        by_cases e : i = m
        · subst e; simp [ht]
        · have := ih (by omega); omega
    exact this n hi h0
  intro f
  induction f with
  | zero =>
    intro td out h
    exact ⟨[], by rw [collectF_end (by omega)]; simp, empty td (by omega)⟩
  | succ f ih =>
    intro td out h
    cases hp : pickTo R td n with
    | none =>
      have h0 := pickTo_none hp
      exact ⟨[], by rw [collectF_end h0]; simp, empty td h0⟩
    | some l =>
      have hl := pickTo_some hp
      have hcp := cell_pos hp
      have hcnt := count_strike (R := R) td l n n (Nat.le_refl _)
      obtain ⟨P, he, hP⟩ := ih (strike R td l n) (out ++ [cellTo R td l n]) (by omega)
      refine ⟨cellTo R td l n :: P, by rw [collectF_step hp, he]; simp, ?_⟩
      have hst : ∀ i, i < n → (strike R td l n i = true ↔ td i = true ∧ ¬ cmpL (R i) (R l) = 0) := fun i hi => by
        simp [strike, hi]
      refine ⟨fun c hc => ?_, fun i => ?_, fun c hc i hi j hj => ?_, ?_⟩
      · rcases List.mem_cons.1 hc with rfl | hc
        · exact ⟨cellTo_asc _ _ _, fun e => by rw [e] at hcp; simp at hcp⟩
        · exact hP.asc c hc
      · constructor
        · rintro ⟨c, hc, hi⟩
          rcases List.mem_cons.1 hc with rfl | hc
          · have := mem_cellTo.1 hi; exact ⟨this.1, this.2.1⟩
          · have h1 := (hP.cover i).1 ⟨c, hc, hi⟩
            exact ⟨h1.1, ((hst i h1.1).1 h1.2).1⟩
        · rintro ⟨hi, ht⟩
          by_cases e : cmpL (R i) (R l) = 0
          · exact ⟨_, by simp, mem_cellTo.2 ⟨hi, ht, e⟩⟩
          · obtain ⟨c, hc, h2⟩ := (hP.cover i).2 ⟨hi, (hst i hi).2 ⟨ht, e⟩⟩
            exact ⟨c, List.mem_cons_of_mem _ hc, h2⟩
      · rcases List.mem_cons.1 hc with rfl | hc
        · rw [cmpL_zero (mem_cellTo.1 hi).2.2, cmpL_zero (mem_cellTo.1 hj).2.2]
        · exact hP.same c hc i hi j hj
      · rw [List.pairwise_cons]
        refine ⟨fun d hd i hi j hj => ?_, hP.ord⟩
        have h1 := mem_cellTo.1 hi
        have h2 := (hP.cover j).1 ⟨d, hd, hj⟩
        have h3 := (hst j h2.1).1 h2.2
        rw [cmpL_zero h1.2.2, cmpL_antisymm]
        have h4 := pick_least hp j h2.1 h3.1
        have h5 := h3.2
        omega
end
/-- A partition of 0 .. n-1 by rows, as lists of ints. -/
theorem collect_part (R : List (List Int)) : ∃ P : List (List Nat), collect R = P.map (·.map Int.ofNat) ∧ IsPart (fun k => R[k]?.getD []) (· < R.length) P := by
  obtain ⟨P, he, hP⟩ := collectF_part (R := fun k => R[k]?.getD []) (n := R.length) R.length (fun _ => true) [] (by rw [count_true]; omega)
  refine ⟨P, by rw [collect, he]; simp, ?_⟩
  have : (fun i => i < R.length ∧ true = true) = (· < R.length) := by funext i; simp
  simpa [this] using hP
end Go.Proofs.YtjjjohmppehejaaGreat.Plain

namespace Go.Proofs.YtjjjohmppehejaaGreat.Plain

section
variable (R : Nat → List Int)
/-- p lies ahead of q: its row is less, or the rows are equal and p is less. -/
def Ahead (p q : Nat) : Prop := cmpL (R p) (R q) < 0 ∨ R p = R q ∧ p < q
/-- The last cell, one point longer. -/
def longer (out : List (List Nat)) (p : Nat) : List (List Nat) := out.dropLast ++ [(out.getLast?.getD []) ++ [p]]
open Classical in
noncomputable def grpTo (s : List Nat) : Nat → List (List Nat)
  | 0 => []
  | k + 1 => if k = 0 ∨ R (s[k - 1]?.getD 0) ≠ R (s[k]?.getD 0) then longer (grpTo s k ++ [[]]) (s[k]?.getD 0) else longer (grpTo s k) (s[k]?.getD 0)
variable {R}
theorem longer_snoc (out : List (List Nat)) (c : List Nat) (p : Nat) : longer (out ++ [c]) p = out ++ [c ++ [p]] := by
  simp [longer]
theorem grpTo_inv {s : List Nat} (hd : s.Nodup) (hs : s.Pairwise fun p q => Ahead R p q) : ∀ k, k ≤ s.length →
    IsPart R (· ∈ s.take k) (grpTo R s k) ∧ (0 < k → ∃ P c, grpTo R s k = P ++ [c] ∧ (s[k - 1]?.getD 0) ∈ c)
  | 0, _ => ⟨⟨by simp [grpTo], by simp [grpTo], by simp [grpTo], by simp [grpTo]⟩, fun h => by omega⟩
  | k + 1, hk => by
    obtain ⟨ih, ihl⟩ := grpTo_inv hd hs k (by omega)
    have hkl : k < s.length := by omega
    obtain ⟨p, hp⟩ : ∃ p, p = s[k] := ⟨_, rfl⟩
    have hpd : s[k]?.getD 0 = p := by rw [List.getElem?_eq_getElem hkl, hp]; rfl
    have htk : s.take (k + 1) = s.take k ++ [p] := by rw [List.take_succ_eq_append_getElem hkl, hp]
    -- all before p lie ahead of it
    have hah : ∀ x ∈ s.take k, Ahead R x p := by
      have h1 : (s.take (k + 1)).Pairwise fun p q => Ahead R p q := hs.sublist (List.take_sublist _ _)
      rw [htk, List.pairwise_append] at h1
      exact fun x hx => h1.2.2 x hx p (by simp)
    have hpn : p ∉ s.take k := by
      have h1 : (s.take (k + 1)).Nodup := hd.sublist (List.take_sublist _ _)
      rw [htk, List.nodup_append] at h1
      exact fun h => h1.2.2 p h p (by simp) rfl
    rw [grpTo, hpd]
    by_cases hk0 : k = 0
    · subst hk0
      rw [if_pos (.inl rfl)]
      have e0 : grpTo R s 0 = [] := rfl
      rw [e0, longer_snoc]
      refine ⟨⟨by simp, fun i => ?_, ?_, by simp⟩, fun _ => ⟨[], [p], by simp, ?_⟩⟩
      · rw [htk]; simp
      · intro c hc i hi j hj
        simp at hc; subst hc
        simp at hi hj; rw [hi, hj]
      · rw [show 0 + 1 - 1 = 0 from rfl, hpd]; simp
    · obtain ⟨P, c, hPc, hl⟩ := ihl (by omega)
      obtain ⟨q, hq⟩ : ∃ q, s[k - 1]?.getD 0 = q := ⟨_, rfl⟩
      rw [hq] at hl ⊢
      have hqm : q ∈ s.take k := by
        have := (ih.cover q).1 ⟨c, by rw [hPc]; simp, hl⟩
        exact this
      by_cases hR : R q = R p
      · rw [if_neg (fun h => h.elim hk0 (fun h => h hR)), hPc, longer_snoc]
        rw [hPc] at ih
        have hcr : ∀ x ∈ c, R x = R p := fun x hx => by rw [ih.same c (by simp) x hx q hl, hR]
        have hxp : ∀ x ∈ c, x < p := fun x hx => by
          have hxm : x ∈ s.take k := (ih.cover x).1 ⟨c, by simp, hx⟩
          rcases hah x hxm with h | h
          · rw [hcr x hx, cmpL_self] at h; omega
          · exact h.2
        refine ⟨⟨fun d hdm => ?_, fun i => ?_, fun d hdm i hi j hj => ?_, ?_⟩, fun _ => ⟨P, c ++ [p], rfl, ?_⟩⟩
        · rcases List.mem_append.1 hdm with h | h
          · exact ih.asc d (List.mem_append.2 (.inl h))
          · rw [List.mem_singleton.1 h]
            refine ⟨?_, by simp⟩
            rw [List.pairwise_append]
            exact ⟨(ih.asc c (by simp)).1, by simp, fun x hx y hy => by rw [List.mem_singleton.1 hy]; exact hxp x hx⟩
        · have hcov := ih.cover i
          simp only [List.mem_append, List.mem_singleton, htk] at hcov ⊢
          constructor
          · rintro ⟨d, hdm | rfl, hi⟩
            · exact .inl (hcov.1 ⟨d, .inl hdm, hi⟩)
            · rcases List.mem_append.1 hi with h | h
              · exact .inl (hcov.1 ⟨c, .inr rfl, h⟩)
              · exact .inr (List.mem_singleton.1 h)
          · rintro (h | rfl)
            · obtain ⟨d, hdm | rfl, hi⟩ := hcov.2 h
              · exact ⟨d, .inl hdm, hi⟩
              · exact ⟨_, .inr rfl, List.mem_append.2 (.inl hi)⟩
            · exact ⟨_, .inr rfl, by simp⟩
        · have hr : ∀ x ∈ c ++ [p], R x = R p := fun x hx => by
            rcases List.mem_append.1 hx with h | h
            · exact hcr x h
            · rw [List.mem_singleton.1 h]
          rcases List.mem_append.1 hdm with h | h
          · exact ih.same d (List.mem_append.2 (.inl h)) i hi j hj
          · rw [List.mem_singleton.1 h] at hi hj
            rw [hr i hi, hr j hj]
        · have ho := ih.ord
          rw [List.pairwise_append] at ho ⊢
          refine ⟨ho.1, by simp, fun d hdm e he i hi j hj => ?_⟩
          rw [List.mem_singleton.1 he] at hj
          rcases List.mem_append.1 hj with h | h
          · exact ho.2.2 d hdm c (by simp) i hi j h
          · rw [List.mem_singleton.1 h, ← hR]
            exact ho.2.2 d hdm c (by simp) i hi q hl
        · rw [show k + 1 - 1 = k from rfl, hpd]; simp
      · rw [if_pos (.inr hR), longer_snoc, List.nil_append]
        have hlt : ∀ x ∈ s.take k, cmpL (R x) (R p) < 0 := fun x hx => by
          rcases hah x hx with h | ⟨h, _⟩
          · exact h
          · exfalso
            -- x and q: q is the last one of those before p
            have hqp : cmpL (R q) (R p) < 0 := by
              rcases hah q hqm with h2 | ⟨h2, _⟩
              · exact h2
              · exact absurd h2 hR
            have hlast : s.take k = s.take (k - 1) ++ [q] := by
              have hk1 : k - 1 < s.length := by omega
              have := List.take_succ_eq_append_getElem (l := s) (i := k - 1) hk1
              rw [show k - 1 + 1 = k by omega] at this
              rw [this]
              congr 2
              rw [List.getElem?_eq_getElem hk1] at hq
              exact hq
            have h1 : (s.take k).Pairwise fun p q => Ahead R p q := hs.sublist (List.take_sublist _ _)
            rw [hlast, List.pairwise_append] at h1
            rw [hlast] at hx
            rcases List.mem_append.1 hx with h3 | h3
            · rcases h1.2.2 x h3 q (by simp) with h4 | ⟨h4, _⟩
              · rw [h] at h4
                have := cmpL_trans h4 hqp
                rw [cmpL_self] at this; omega
              · exact hR (h4.symm.trans h)
            · rw [List.mem_singleton.1 h3] at h; exact hR h
        refine ⟨⟨fun d hdm => ?_, fun i => ?_, fun d hdm i hi j hj => ?_, ?_⟩, fun _ => ⟨_, [p], rfl, ?_⟩⟩
        · rcases List.mem_append.1 hdm with h | h
          · exact ih.asc d h
          · rw [List.mem_singleton.1 h]; simp
        · have hcov := ih.cover i
          simp only [List.mem_append, List.mem_singleton, htk] at hcov ⊢
          constructor
          · rintro ⟨d, hdm, hi⟩
            rcases hdm with hdm | hdm
            · exact .inl (hcov.1 ⟨d, hdm, hi⟩)
            · rw [hdm] at hi
              exact .inr (List.mem_singleton.1 hi)
          · intro h
            rcases h with h | h
            · obtain ⟨d, hdm, hi⟩ := hcov.2 h
              exact ⟨d, .inl hdm, hi⟩
            · exact ⟨[p], .inr rfl, by rw [h]; simp⟩
        · rcases List.mem_append.1 hdm with h | h
          · exact ih.same d h i hi j hj
          · rw [List.mem_singleton.1 h] at hi hj
            rw [List.mem_singleton.1 hi, List.mem_singleton.1 hj]
        · rw [List.pairwise_append]
          refine ⟨ih.ord, by simp, fun d hdm e he i hi j hj => ?_⟩
          rw [List.mem_singleton.1 he] at hj
          rw [List.mem_singleton.1 hj]
          exact hlt i ((ih.cover i).1 ⟨d, hdm, hi⟩)
        · rw [show k + 1 - 1 = k from rfl, hpd]; simp
theorem grpTo_part {s : List Nat} {n : Nat} (hp : s.Perm (List.range n)) (hs : s.Pairwise fun p q => Ahead R p q) : IsPart R (· < n) (grpTo R s s.length) := by
  have h := (grpTo_inv (R := R) (hp.nodup_iff.2 List.nodup_range) hs s.length (Nat.le_refl _)).1
  rw [List.take_length] at h
  have e : (· ∈ s) = (· < n) := by
    funext i
    rw [hp.mem_iff, List.mem_range]
  rw [e] at h
  exact h
theorem grpTo_len (s : List Nat) : ∀ k, (grpTo R s k).length ≤ k
  | 0 => by simp [grpTo]
  | k + 1 => by
    have := grpTo_len s k
    rw [grpTo]
    split
    · simp [longer]; omega
    · simp [longer]
      by_cases h0 : k = 0
      · rename_i h; exact absurd (.inl h0) h
      · omega
end
end Go.Proofs.YtjjjohmppehejaaGreat.Plain
namespace Go.Proofs.YtjjjohmppehejaaGreat.Plain
section
variable {R : Nat → List Int}
theorem Ahead.irrefl (x : Nat) : ¬ Ahead R x x := by
  rintro (h | h)
  · rw [cmpL_self] at h; omega
  · omega
theorem Ahead.trans {x y z : Nat} (h : Ahead R x y) (k : Ahead R y z) : Ahead R x z := by
  rcases h with h | ⟨h1, h2⟩ <;> rcases k with k | ⟨k1, k2⟩
  · exact .inl (cmpL_trans h k)
  · left; rw [← k1]; exact h
  · left; rw [h1]; exact k
  · exact .inr ⟨h1.trans k1, by omega⟩
theorem Ahead.total (x y : Nat) : Ahead R x y ∨ x = y ∨ Ahead R y x := by
  by_cases h1 : cmpL (R x) (R y) < 0
  · exact .inl (.inl h1)
  · by_cases h2 : cmpL (R y) (R x) < 0
    · exact .inr (.inr (.inl h2))
    · have h3 : cmpL (R x) (R y) = 0 := by have := cmpL_antisymm (R x) (R y); omega
      have h4 := cmpL_zero h3
      rcases Nat.lt_trichotomy x y with h | h | h
      · exact .inl (.inr ⟨h4, h⟩)
      · exact .inr (.inl h)
      · exact .inr (.inr (.inr ⟨h4.symm, h⟩))
theorem pairwise_of_sorted {s : List Nat} (hd : s.Nodup) (h : ∀ i j, i < j → (hj : j < s.length) → ¬ Ahead R (s[j]?.getD 0) (s[i]?.getD 0)) : s.Pairwise fun p q => Ahead R p q := by
  rw [List.pairwise_iff_getElem]
  intro i j hi hj hij
  have h1 := h i j hij hj
  rw [List.getElem?_eq_getElem hi, List.getElem?_eq_getElem hj] at h1
  simp only [Option.getD_some] at h1
  rcases Ahead.total (R := R) s[i] s[j] with h2 | h2 | h2
  · exact h2
  · exfalso
    have := (List.pairwise_iff_getElem.1 hd) i j hi hj hij
    exact this h2
  · exact absurd h2 h1
end
end Go.Proofs.YtjjjohmppehejaaGreat.Plain
namespace Go.Proofs.YtjjjohmppehejaaGreat.Plain
theorem grpTo_new {R : Nat → List Int} {s : List Nat} {k : Nat} (h : k = 0 ∨ R (s[k - 1]?.getD 0) ≠ R (s[k]?.getD 0)) : grpTo R s (k + 1) = grpTo R s k ++ [[s[k]?.getD 0]] := by
  rw [grpTo, if_pos h, longer_snoc]; simp
theorem grpTo_same {R : Nat → List Int} {s : List Nat} {k : Nat} (h : ¬ (k = 0 ∨ R (s[k - 1]?.getD 0) ≠ R (s[k]?.getD 0))) {P : List (List Nat)} {c : List Nat} (e : grpTo R s k = P ++ [c]) : grpTo R s (k + 1) = P ++ [c ++ [s[k]?.getD 0]] := by
  rw [grpTo, if_neg h, e, longer_snoc]
theorem grpTo_cell_len (R : Nat → List Int) (s : List Nat) : ∀ k, ∀ c ∈ grpTo R s k, c.length ≤ k
  | 0 => by simp [grpTo]
  | k + 1 => by
    have ih := grpTo_cell_len R s k
    intro c hc
    by_cases h : k = 0 ∨ R (s[k - 1]?.getD 0) ≠ R (s[k]?.getD 0)
    · rw [grpTo_new h] at hc
      rcases List.mem_append.1 hc with h1 | h1
      · have := ih c h1; omega
      · rw [List.mem_singleton.1 h1]; simp
    · by_cases he : grpTo R s k = []
      · rw [grpTo, if_neg h, he] at hc
        simp [longer] at hc
        subst hc; simp
      · obtain ⟨P, d, e⟩ : ∃ P d, grpTo R s k = P ++ [d] := ⟨_, _, (List.dropLast_concat_getLast he).symm⟩
        rw [grpTo_same h e] at hc
        rw [e] at ih
        rcases List.mem_append.1 hc with h1 | h1
        · have := ih c (by simp [h1]); omega
        · rw [List.mem_singleton.1 h1]
          have := ih d (by simp); simp; omega
theorem grpTo_ne {R : Nat → List Int} {s : List Nat} {k : Nat} (h : 0 < k) : grpTo R s k ≠ [] := by
  obtain ⟨m, rfl⟩ : ∃ m, k = m + 1 := ⟨k - 1, by omega⟩
  rw [grpTo]
  split <;> simp [longer]
end Go.Proofs.YtjjjohmppehejaaGreat.Plain

namespace Go.Proofs.YtjjjohmppehejaaGreat.Plain
/-- The place at which t is inserted, looked for from place k down. -/
def atTo (t : List Int) (l : List (List Int)) : Nat → Nat
  | 0 => 0
  | k + 1 => if cmpL t (l[k]?.getD []) < 0 then atTo t l k else k + 1
def insT (t : List Int) (l : List (List Int)) : List (List Int) := l.take (atTo t l l.length) ++ t :: l.drop (atTo t l l.length)
theorem atTo_le (t : List Int) (l : List (List Int)) : ∀ k, atTo t l k ≤ k
  | 0 => Nat.le_refl _
  | k + 1 => by
    rw [atTo]; split
    · have := atTo_le t l k; omega
    · omega
theorem insT_len (t : List Int) (l : List (List Int)) : (insT t l).length = l.length + 1 := by
  have := atTo_le t l l.length
  simp [insT]; omega
def sortTo (tri : Nat → List Int) : Nat → List (List Int)
  | 0 => []
  | u + 1 => insT (tri u) (sortTo tri u)
theorem sortTo_len (tri : Nat → List Int) : ∀ u, (sortTo tri u).length = u
  | 0 => rfl
  | u + 1 => by rw [sortTo, insT_len, sortTo_len tri u]
theorem mem_insT {t x : List Int} {l : List (List Int)} (h : x ∈ insT t l) : x = t ∨ x ∈ l := by
  rw [insT, List.mem_append, List.mem_cons] at h
  rcases h with h | h | h
  · exact .inr (List.mem_of_mem_take h)
  · exact .inl h
  · exact .inr (List.mem_of_mem_drop h)
theorem mem_sortTo {tri : Nat → List Int} {x : List Int} : ∀ {u : Nat}, x ∈ sortTo tri u → ∃ k, k < u ∧ x = tri k
  | 0, h => by simp [sortTo] at h
  | u + 1, h => by
    rcases mem_insT h with h | h
    · exact ⟨u, by omega, h⟩
    · obtain ⟨k, hk, he⟩ := mem_sortTo h
      exact ⟨k, by omega, he⟩
/-- An entry of a matrix. -/
def mat (m : List (List Int)) (i k : Nat) : Int := (m[i]?.getD [])[k]?.getD 0
def triple (x : List Int) (m : List (List Int)) (v u : Nat) : List Int := [x[u]?.getD 0, mat m v u, mat m u v]
/-- The key of a point, behind its label. -/
def keyL (n : Nat) (x : List Int) (m : List (List Int)) (v : Nat) : List Int := (x[v]?.getD 0) :: (sortTo (triple x m v) n).flatten
theorem flatten_len3 : ∀ {l : List (List Int)}, (∀ x ∈ l, x.length = 3) → l.flatten.length = 3 * l.length
  | [], _ => rfl
  | x :: r, h => by
    rw [List.flatten_cons, List.length_append, flatten_len3 (fun y hy => h y (List.mem_cons_of_mem _ hy)), h x (by simp)]
    simp; omega
theorem keyL_len (n : Nat) (x : List Int) (m : List (List Int)) (v : Nat) : (keyL n x m v).length = 3 * n + 1 := by
  rw [keyL, List.length_cons, flatten_len3, sortTo_len]
  intro y hy
  obtain ⟨k, _, rfl⟩ := mem_sortTo hy
  rfl
theorem take_flatten {l : List (List Int)} {k : Nat} (h : k < l.length) : (l.take (k + 1)).flatten = (l.take k).flatten ++ l[k]?.getD [] := by
  rw [List.take_succ_eq_append_getElem h, List.flatten_append, List.getElem?_eq_getElem h]; simp
/-- A list is a matrix for n points. -/
def IsMat (n : Nat) (m : List (List Int)) : Prop := m.length = n ∧ ∀ r ∈ m, r.length = n
theorem IsMat.row {n : Nat} {m : List (List Int)} (h : IsMat n m) {i : Nat} (hi : i < n) : (m[i]?.getD []).length = n := by
  have hl : i < m.length := by rw [h.1]; exact hi
  rw [List.getElem?_eq_getElem hl]
  exact h.2 _ (List.getElem_mem hl)
/-- One round. -/
def rowsL (n : Nat) (m : List (List Int)) (x : List Int) : List (List Int) := (List.range n).map fun v => keyL n x m v
end Go.Proofs.YtjjjohmppehejaaGreat.Plain
namespace Go.Proofs.YtjjjohmppehejaaGreat.Plain
theorem ins_copy {α : Type} (cs : List α) (z t : α) (u k : Nat) (hu : cs.length = u) (hk : k ≤ u) :
    (((cs ++ [z]).take (k + 1)) ++ ((((cs ++ [z]).drop k).take (u - k)) ++ (cs ++ [z]).drop (k + 1 + (((cs ++ [z]).drop k).take (u - k)).length))).set k t = cs.take k ++ t :: cs.drop k := by
  subst hu
  have h1 : (((cs ++ [z]).drop k).take (cs.length - k)) = cs.drop k := by
    rw [List.drop_append_of_le_length hk, List.take_append_of_le_length (by simp), List.take_of_length_le (by simp)]
  rw [h1]
  have h2 : (cs ++ [z]).drop (k + 1 + (cs.drop k).length) = [] := List.drop_eq_nil_of_le (by simp; omega)
  rw [h2, List.append_nil]
  apply List.ext_getElem?
  intro i
  by_cases h : i < k
  · rw [List.getElem?_set_ne (by omega), List.getElem?_append_left (by simp; omega), List.getElem?_append_left (by simp; omega), List.getElem?_take, if_pos (by omega), List.getElem?_append_left (by omega), List.getElem?_take, if_pos h]
  · by_cases e : i = k
    · subst e
      rw [List.getElem?_set_self (by simp; omega), List.getElem?_append_right (by simp; omega)]
      simp [Nat.min_eq_left hk]
    · rw [List.getElem?_set_ne (by omega), List.getElem?_append_right (by simp; omega), List.getElem?_append_right (by simp; omega)]
      have e1 : ((cs ++ [z]).take (k + 1)).length = k + 1 := by simp; omega
      have e2 : (cs.take k).length = k := by simp; omega
      rw [e1, e2]
      obtain ⟨j, hj⟩ : ∃ j, i - k = j + 1 := ⟨i - k - 1, by omega⟩
      rw [hj, List.getElem?_cons_succ]
      congr 1; omega
end Go.Proofs.YtjjjohmppehejaaGreat.Plain

namespace Go.Proofs.YtjjjohmppehejaaGreat.Plain
def putCell (out : List Int) (i : Int) : List Int → List Int
  | [] => out
  | p :: r => putCell (out.set p.toNat i) i r
def putCells (out : List Int) (i : Nat) : List (List Int) → List Int
  | [] => out
  | c :: r => putCells (putCell out i c) (i + 1) r
/-- The label of each point. -/
def labelsL (n : Nat) (l : List (List Int)) : List Int := putCells (List.replicate n 0) 0 l
theorem putCell_len (i : Int) : ∀ (c out : List Int), (putCell out i c).length = out.length
  | [], out => rfl
  | p :: r, out => by rw [putCell, putCell_len i r]; simp
theorem putCells_len : ∀ (l : List (List Int)) (i : Nat) (out : List Int), (putCells out i l).length = out.length
  | [], i, out => rfl
  | c :: r, i, out => by rw [putCells, putCells_len r, putCell_len]
theorem labelsL_len (n : Nat) (l : List (List Int)) : (labelsL n l).length = n := by rw [labelsL, putCells_len]; simp
theorem putCell_next {out c : List Int} {i : Int} {j : Nat} (h : j < c.length) : putCell out i (c.drop j) = putCell (out.set (c[j]?.getD 0).toNat i) i (c.drop (j + 1)) := by
  rw [drop_cons (d := 0) h, putCell]
theorem putCell_end {out c : List Int} {i : Int} {j : Nat} (h : c.length ≤ j) : putCell out i (c.drop j) = out := by rw [drop_all h, putCell]
theorem putCells_next {out : List Int} {l : List (List Int)} {k : Nat} (h : k < l.length) : putCells out k (l.drop k) = putCells (putCell out k (l[k]?.getD [])) (k + 1) (l.drop (k + 1)) := by
  rw [drop_cons (d := []) h, putCells]
theorem putCells_end {out : List Int} {l : List (List Int)} {k : Nat} (h : l.length ≤ k) : putCells out k (l.drop k) = out := by rw [drop_all h, putCells]

/-- All points are in range. -/
def InRange (n : Nat) (l : List (List Int)) : Prop := ∀ c ∈ l, ∀ p ∈ c, 0 ≤ p ∧ p < n
theorem InRange.at_ {n : Nat} {l : List (List Int)} (h : InRange n l) {k j : Nat} (hk : k < l.length) (hj : j < (l[k]?.getD []).length) : ∃ q : Nat, (l[k]?.getD [])[j]?.getD 0 = (q : Int) ∧ q < n := by
  rw [List.getElem?_eq_getElem hk] at hj ⊢
  simp only [Option.getD_some] at hj ⊢
  rw [List.getElem?_eq_getElem hj]
  simp only [Option.getD_some]
  have := h l[k] (List.getElem_mem hk) _ (List.getElem_mem hj)
  exact ⟨(l[k][j]).toNat, by omega, by omega⟩

theorem chkCell_in {n : Int} : ∀ {c s s' : List Int} {p : Option Int}, chkCell n s p c = .inr s' → ∀ q ∈ c, 0 ≤ q ∧ q < n
  | [], _, _, _, _, q, hq => by simp at hq
  | x :: r, s, s', p, h, q, hq => by
    rw [chkCell] at h
    split at h
    · cases h
    · split at h
      · cases h
      · split at h
        · cases h
        · rcases List.mem_cons.1 hq with rfl | hq
          · omega
          · exact chkCell_in h q hq
theorem chkCells_in {n : Int} : ∀ {l : List (List Int)} {s s' : List Int}, chkCells n s l = .inr s' → ∀ c ∈ l, ∀ q ∈ c, 0 ≤ q ∧ q < n
  | [], _, _, _, c, hc => by simp at hc
  | x :: r, s, s', h, c, hc => by
    rw [chkCells] at h
    split at h
    · cases h
    · split at h
      · cases h
      · rename_i s2 hs
        rcases List.mem_cons.1 hc with rfl | hc
        · exact chkCell_in hs
        · exact chkCells_in h c hc
theorem chk_zero {n : Int} {l : List (List Int)} (h : chk n l = 0) : 0 ≤ n ∧ n ≤ 64 ∧ ∃ s, chkCells n [] l = .inr s ∧ n ≤ s.length := by
  rw [chk] at h
  split at h
  · cases h
  · rename_i hn
    split at h
    · rename_i e he
      subst h
      exfalso
      have key : ∀ (l : List (List Int)) (s : List Int), chkCells n s l ≠ .inl 0 := by
        intro l
        induction l with
        | nil => intro s; simp [chkCells]
        | cons c r ih =>
          intro s
          rw [chkCells]
          split
          · simp
          · split
            · rename_i e he
              have k2 : ∀ (c s : List Int) (p : Option Int), chkCell n s p c ≠ .inl 0 := by
                intro c
                induction c with
                | nil => intro s p; simp [chkCell]
                | cons q r ih =>
                  intro s p
                  rw [chkCell]
                  split
                  · simp
                  · split
                    · simp
                    · split
                      · simp
                      · exact ih _ _
              intro hc
              injection hc with hc
              subst hc
              exact k2 _ _ _ he
            · exact ih _
      exact key _ _ he
    · rename_i s hs
      refine ⟨by omega, by omega, s, hs, ?_⟩
      split at h
      · cases h
      · omega
theorem chk_in {n : Nat} {l : List (List Int)} (h : chk n l = 0) : InRange n l := by
  obtain ⟨_, _, s, hs, _⟩ := chk_zero h
  exact chkCells_in hs
end Go.Proofs.YtjjjohmppehejaaGreat.Plain

namespace Go.Proofs.YtjjjohmppehejaaGreat.Plain

/-- A partition of n points, as lists of ints. -/
structure Good (n : Nat) (l : List (List Int)) : Prop where
  ne : ∀ c ∈ l, c ≠ []
  inr : InRange n l
  nodup : l.flatten.Nodup
  all : ∀ p : Nat, p < n → (p : Int) ∈ l.flatten

theorem putCell_not {q : Nat} {i : Int} : ∀ {c out : List Int}, (∀ p ∈ c, 0 ≤ p) → (q : Int) ∉ c → (putCell out i c)[q]? = out[q]?
  | [], _, _, _ => rfl
  | p :: r, out, h, hq => by
    rw [putCell, putCell_not (fun x hx => h x (List.mem_cons_of_mem _ hx)) (fun hx => hq (List.mem_cons_of_mem _ hx))]
    have hp := h p (by simp)
    have : p.toNat ≠ q := fun e => hq (by have : p = (q : Int) := by omega
                                          rw [this]; simp)
    rw [List.getElem?_set_ne this]
theorem putCell_mem {q : Nat} {i : Int} : ∀ {c out : List Int}, (∀ p ∈ c, 0 ≤ p) → (q : Int) ∈ c → q < out.length → (putCell out i c)[q]? = some i
  | [], _, _, hq, _ => by simp at hq
  | p :: r, out, h, hq, hl => by
    rw [putCell]
    by_cases hr : (q : Int) ∈ r
    · exact putCell_mem (fun x hx => h x (List.mem_cons_of_mem _ hx)) hr (by simpa using hl)
    · have e : p = (q : Int) := by
        rcases List.mem_cons.1 hq with e | e
        · exact e.symm
        · exact absurd e hr
      rw [putCell_not (fun x hx => h x (List.mem_cons_of_mem _ hx)) hr, e, Int.toNat_natCast, List.getElem?_set_self hl]
theorem putCells_not {q : Nat} : ∀ {l : List (List Int)} {i : Nat} {out : List Int}, (∀ c ∈ l, ∀ p ∈ c, 0 ≤ p) → (q : Int) ∉ l.flatten → (putCells out i l)[q]? = out[q]?
  | [], _, _, _, _ => rfl
  | c :: r, i, out, h, hq => by
    rw [List.flatten_cons, List.mem_append] at hq
    rw [putCells, putCells_not (fun x hx => h x (List.mem_cons_of_mem _ hx)) (fun hx => hq (.inr hx)), putCell_not (h c (by simp)) (fun hx => hq (.inl hx))]
theorem putCells_at {q : Nat} : ∀ {l : List (List Int)} {i k : Nat} {out c : List Int}, (∀ c ∈ l, ∀ p ∈ c, 0 ≤ p) → l.flatten.Nodup → q < out.length → l[k]? = some c → (q : Int) ∈ c →
    (putCells out i l)[q]? = some ((i + k : Nat) : Int)
  | [], _, _, _, _, _, _, _, h, _ => by simp at h
  | c0 :: r, i, 0, out, c, h, hd, hl, hc, hq => by
    simp at hc; subst hc
    rw [List.flatten_cons, List.nodup_append] at hd
    rw [putCells, putCells_not (fun x hx => h x (List.mem_cons_of_mem _ hx)) (fun hx => hd.2.2 _ hq _ hx rfl), putCell_mem (h c0 (by simp)) hq hl]
    rfl
  | c0 :: r, i, k + 1, out, c, h, hd, hl, hc, hq => by
    rw [List.flatten_cons, List.nodup_append] at hd
    rw [putCells, putCells_at (i := i + 1) (k := k) (fun x hx => h x (List.mem_cons_of_mem _ hx)) hd.2.1 (by rw [putCell_len]; exact hl) (by simpa using hc) hq]
    congr 2; omega
theorem Good.pos {n : Nat} {l : List (List Int)} (h : Good n l) : ∀ c ∈ l, ∀ p ∈ c, 0 ≤ p := fun c hc p hp => (h.inr c hc p hp).1
theorem Good.label {n : Nat} {l : List (List Int)} (h : Good n l) {k q : Nat} {c : List Int} (hc : l[k]? = some c) (hq : (q : Int) ∈ c) : (labelsL n l)[q]? = some (k : Int) := by
  have hqn : q < n := by have := h.inr c (List.mem_of_getElem? hc) _ hq; omega
  have := putCells_at (i := 0) (out := List.replicate n 0) h.pos h.nodup (by simpa using hqn) hc hq
  rw [labelsL, this]; simp
theorem Good.cell {n : Nat} {l : List (List Int)} (h : Good n l) {q : Nat} (hq : q < n) : ∃ (k : Nat) (c : List Int), k < l.length ∧ l[k]? = some c ∧ (q : Int) ∈ c ∧ (labelsL n l)[q]? = some (k : Int) := by
  obtain ⟨c, hc, hqc⟩ := List.mem_flatten.1 (h.all q hq)
  obtain ⟨k, hk⟩ := List.mem_iff_getElem?.1 hc
  exact ⟨k, c, (List.getElem?_eq_some_iff.1 hk).1, hk, hqc, h.label hk hqc⟩

theorem range_le : ∀ (L : Nat) (xs : List Nat), (∀ k, k < L → k ∈ xs) → L ≤ xs.length
  | 0, _, _ => Nat.zero_le _
  | L + 1, xs, h => by
    have hm := h L (by omega)
    have := range_le L (xs.erase L) (fun k hk => (List.mem_erase_of_ne (by omega)).2 (h k (by omega)))
    rw [List.length_erase_of_mem hm] at this
    have := List.length_pos_of_mem hm
    omega

theorem nodup_map_on {α β : Type} {f : α → β} {xs : List α} (h : xs.Nodup) (hf : ∀ x ∈ xs, ∀ y ∈ xs, f x = f y → x = y) : (xs.map f).Nodup := by
  unfold List.Nodup at *
  rw [List.pairwise_map]
  exact h.imp_of_mem (fun hx hy hne he => hne (hf _ hx _ hy he))
/-- The partition by rows is one. -/
theorem part_good {R : Nat → List Int} {n : Nat} {P : List (List Nat)} (h : IsPart R (· < n) P) : Good n (P.map (·.map Int.ofNat)) where
  ne c hc := by
    obtain ⟨d, hd, rfl⟩ := List.mem_map.1 hc
    have := (h.asc d hd).2
    simpa using this
  inr c hc p hp := by
    obtain ⟨d, hd, rfl⟩ := List.mem_map.1 hc
    obtain ⟨q, hq, rfl⟩ := List.mem_map.1 hp
    have := (h.cover q).1 ⟨d, hd, hq⟩
    exact ⟨Int.natCast_nonneg _, by simpa using this⟩
  nodup := by
    rw [← List.map_flatten]
    refine nodup_map_on ?_ (fun a _ b _ e => Int.ofNat.inj e)
    have key : ∀ (Q : List (List Nat)), (∀ c ∈ Q, c.Pairwise (· < ·)) → Q.Pairwise (fun c d => ∀ i ∈ c, ∀ j ∈ d, cmpL (R i) (R j) < 0) → Q.flatten.Nodup := by
      intro Q
      induction Q with
      | nil => intro _ _; simp
      | cons c Q ih =>
        intro h1 h2
        rw [List.pairwise_cons] at h2
        rw [List.flatten_cons, List.nodup_append]
        refine ⟨(h1 c (by simp)).imp (fun h => by omega), ih (fun c hc => h1 c (List.mem_cons_of_mem _ hc)) h2.2, fun a ha b hb e => ?_⟩
        subst e
        obtain ⟨d, hd, had⟩ := List.mem_flatten.1 hb
        have := h2.1 d hd a ha a had
        rw [cmpL_self] at this; omega
    exact key P (fun c hc => (h.asc c hc).1) h.ord
  all p hp := by
    obtain ⟨c, hc, hpc⟩ := (h.cover p).2 hp
    rw [List.mem_flatten]
    exact ⟨c.map Int.ofNat, List.mem_map.2 ⟨c, hc, rfl⟩, List.mem_map.2 ⟨p, hpc, rfl⟩⟩

theorem Good.len_le {n : Nat} {l : List (List Int)} (h : Good n l) : l.length ≤ n := by
  have h1 : l.flatten.length ≤ n := nodup_len n _ h.nodup (fun p hp => by
    obtain ⟨c, hc, hpc⟩ := List.mem_flatten.1 hp
    exact h.inr c hc p hpc)
  have key : ∀ (l : List (List Int)), (∀ c ∈ l, c ≠ []) → l.length ≤ l.flatten.length := by
    intro l
    induction l with
    | nil => intro _; simp
    | cons c l ih =>
      intro h
      have := ih (fun c hc => h c (List.mem_cons_of_mem _ hc))
      have hc := h c (by simp)
      have : 0 < c.length := List.length_pos_iff.2 hc
      simp only [List.flatten_cons, List.length_append, List.length_cons]; omega
  have := key l h.ne
  omega

/-- One round. -/
def roundL (n : Nat) (l m : List (List Int)) : List (List Int) := collect (rowsL n m (labelsL n l))
theorem rowsL_len (n : Nat) (m : List (List Int)) (x : List Int) : (rowsL n m x).length = n := by simp [rowsL]
theorem rowsL_at {n : Nat} {m : List (List Int)} {x : List Int} {k : Nat} (h : k < n) : (rowsL n m x)[k]?.getD [] = keyL n x m k := by
  simp [rowsL, List.getElem?_map, List.getElem?_range, h]
theorem round_part (n : Nat) (l m : List (List Int)) : ∃ P : List (List Nat), roundL n l m = P.map (·.map Int.ofNat) ∧ IsPart (fun k => (rowsL n m (labelsL n l))[k]?.getD []) (· < n) P := by
  obtain ⟨P, h1, h2⟩ := collect_part (rowsL n m (labelsL n l))
  rw [rowsL_len] at h2
  exact ⟨P, h1, h2⟩
theorem round_good (n : Nat) (l m : List (List Int)) : Good n (roundL n l m) := by
  obtain ⟨P, h1, h2⟩ := round_part n l m
  rw [h1]; exact part_good h2
theorem round_grows {n : Nat} {l m : List (List Int)} (h : Good n l) : l.length ≤ (roundL n l m).length := by
  obtain ⟨P, h1, h2⟩ := round_part n l m
  rw [h1, List.length_map]
  have := range_le l.length (P.map fun c => ((labelsL n l)[c.headD 0]?.getD 0).toNat) (fun k hk => by
    obtain ⟨p, hp⟩ : ∃ p, p ∈ l[k] := by
      have := h.ne l[k] (List.getElem_mem hk)
      obtain ⟨a, t, e⟩ := List.exists_cons_of_ne_nil this
      exact ⟨a, by rw [e]; simp⟩
    have hr := h.inr l[k] (List.getElem_mem hk) p hp
    obtain ⟨q, rfl⟩ := Int.eq_ofNat_of_zero_le hr.1
    have hlab := h.label (List.getElem?_eq_getElem hk) hp
    have hqn : q < n := by omega
    obtain ⟨c, hc, hqc⟩ := (h2.cover q).2 hqn
    refine List.mem_map.2 ⟨c, hc, ?_⟩
    obtain ⟨a, t, rfl⟩ := List.exists_cons_of_ne_nil (h2.asc c hc).2
    have han : a < n := (h2.cover a).1 ⟨_, hc, by simp⟩
    have hs := h2.same _ hc q hqc a (by simp)
    simp only [rowsL_at hqn, rowsL_at han, keyL] at hs
    injection hs with hs _
    rw [hlab] at hs
    simp only [List.headD_cons, ← hs, Option.getD_some, Int.toNat_natCast])
  simpa using this
/-- The rounds, as long as the number of cells changes. -/
def refL (n : Nat) (m : List (List Int)) : Nat → List (List Int) → List (List Int)
  | 0, l => l
  | f + 1, l => if (roundL n l m).length = l.length then roundL n l m else refL n m f (roundL n l m)
def refineL (n : Nat) (l m : List (List Int)) : List (List Int) := refL n m (n + 1) l

theorem chkCell_fine {n : Int} : ∀ {c s s' : List Int} {p : Option Int}, Fine n s → chkCell n s p c = .inr s' → Fine n s' ∧ ∃ t, s' = t ++ s ∧ t.Perm c
  | [], s, s', p, h, e => by
    simp [chkCell] at e; subst e; exact ⟨h, [], rfl, .refl _⟩
  | x :: r, s, s', p, h, e => by
    rw [chkCell] at e
    split at e
    · cases e
    · rename_i h1
      split at e
      · cases e
      · rename_i h2
        split at e
        · cases e
        · obtain ⟨h3, t, h4, h5⟩ := chkCell_fine (h.cons h1 h2) e
          refine ⟨h3, t ++ [x], by rw [h4]; simp, ?_⟩
          exact (List.perm_append_singleton x t).trans (h5.cons x)
theorem chkCells_fine {n : Int} : ∀ {l : List (List Int)} {s s' : List Int}, Fine n s → chkCells n s l = .inr s' → Fine n s' ∧ (∀ c ∈ l, c ≠ []) ∧ ∃ t, s' = t ++ s ∧ t.Perm l.flatten
  | [], s, s', h, e => by
    simp [chkCells] at e; subst e; exact ⟨h, by simp, [], rfl, .refl _⟩
  | x :: r, s, s', h, e => by
    rw [chkCells] at e
    split at e
    · cases e
    · rename_i hx
      split at e
      · cases e
      · rename_i s2 hs
        obtain ⟨h3, t, h4, h5⟩ := chkCell_fine h hs
        obtain ⟨h6, h7, t2, h8, h9⟩ := chkCells_fine h3 e
        refine ⟨h6, fun c hc => ?_, t2 ++ t, by rw [h8, h4]; simp, ?_⟩
        · rcases List.mem_cons.1 hc with rfl | hc
          · exact hx
          · exact h7 c hc
        · rw [List.flatten_cons]
          exact (List.perm_append_comm).trans (h5.append h9)
theorem mem_of_full : ∀ (n : Nat) (s : List Int), s.Nodup → (∀ p ∈ s, 0 ≤ p ∧ p < n) → n ≤ s.length → ∀ p : Nat, p < n → (p : Int) ∈ s
  | 0, _, _, _, _, p, hp => by omega
  | n + 1, s, hd, hr, hl, p, hp => by
    by_cases hm : (p : Int) ∈ s
    · exact hm
    · exfalso
      -- put n in p's place
      have h1 : (s.map fun x => if x = (n : Int) then (p : Int) else x).Nodup := by
        refine nodup_map_on hd (fun x hx y hy e => ?_)
        have hxp : x ≠ p := fun e => hm (e ▸ hx)
        have hyp : y ≠ p := fun e => hm (e ▸ hy)
        by_cases e1 : x = (n : Int) <;> by_cases e2 : y = (n : Int)
        · omega
        · rw [if_pos e1, if_neg e2] at e; exact absurd e.symm hyp
        · rw [if_neg e1, if_pos e2] at e; exact absurd e hxp
        · rw [if_neg e1, if_neg e2] at e; exact e
      have h2 := nodup_len n _ h1 (fun x hx => by
        obtain ⟨y, hy, rfl⟩ := List.mem_map.1 hx
        have := hr y hy
        by_cases e : y = (n : Int)
        · subst e
          have : (p : Int) ≠ n := fun e => hm (by rw [e]; exact hy)
          simp; omega
        · simp only [e, if_false]; omega)
      rw [List.length_map] at h2
      omega
theorem chk_good {n : Nat} {l : List (List Int)} (h : chk n l = 0) : Good n l := by
  obtain ⟨_, _, s, hs, hl⟩ := chk_zero h
  obtain ⟨hf, hne, t, ht, hp⟩ := chkCells_fine (Fine.nil _) hs
  rw [List.append_nil] at ht
  subst ht
  exact ⟨hne, chk_in h, hp.nodup_iff.1 hf.1, fun p hpn => hp.mem_iff.1 (mem_of_full n s hf.1 hf.2 (by omega) p hpn)⟩
end Go.Proofs.YtjjjohmppehejaaGreat.Plain
namespace Go.Proofs.YtjjjohmppehejaaGreat.Plain
instance (n : Nat) (m : List (List Int)) : Decidable (IsMat n m) := by unfold IsMat; exact inferInstance
/-- What refining answers: a partition and an error's number. -/
def refineA (n : Int) (l m : List (List Int)) : List (List Int) × Int :=
  if chk n l ≠ 0 then ([], chk n l) else if IsMat n.toNat m then (refineL n.toNat l m, 0) else ([], 3)
theorem refineA_bad {n : Int} {l m : List (List Int)} (h : chk n l ≠ 0) : refineA n l m = ([], chk n l) := by rw [refineA, if_pos h]
theorem refineA_mat {n : Nat} {l m : List (List Int)} (h : chk n l = 0) (hm : ¬ IsMat n m) : refineA n l m = ([], 3) := by rw [refineA, if_neg (by simp [h]), if_neg (by simpa using hm)]
theorem refineA_ok {n : Nat} {l m : List (List Int)} (h : chk n l = 0) (hm : IsMat n m) : refineA n l m = (refineL n l m, 0) := by rw [refineA, if_neg (by simp [h]), if_pos (by simpa using hm)]; simp
theorem refL_end {n f : Nat} {l m : List (List Int)} (h : (roundL n l m).length = l.length) : refL n m (f + 1) l = roundL n l m := by rw [refL, if_pos h]
theorem refL_next {n f : Nat} {l m : List (List Int)} (h : (roundL n l m).length ≠ l.length) : refL n m (f + 1) l = refL n m f (roundL n l m) := by rw [refL, if_neg h]
end Go.Proofs.YtjjjohmppehejaaGreat.Plain

namespace Go.Proofs.YtjjjohmppehejaaGreat.Plain
def leL (x y : List Int) : Prop := ¬ cmpL y x < 0
theorem leL_antisymm {x y : List Int} (h : leL x y) (k : leL y x) : x = y := by
  unfold leL at h k
  have := cmpL_antisymm x y
  exact cmpL_zero (by omega)
theorem leL_trans {x y z : List Int} (h : leL x y) (k : leL y z) : leL x z := by
  unfold leL at *
  intro hzx
  have h1 := cmpL_antisymm x y
  by_cases e : cmpL x y = 0
  · rw [cmpL_zero e] at hzx; exact k hzx
  · exact k (cmpL_trans hzx (by omega))
theorem leL_of_lt {x y : List Int} (h : cmpL x y < 0) : leL x y := by
  unfold leL
  have := cmpL_antisymm x y
  omega
theorem atTo_spec (t : List Int) (l : List (List Int)) : ∀ k, (atTo t l k < k → cmpL t (l[atTo t l k]?.getD []) < 0) ∧ (0 < atTo t l k → leL (l[atTo t l k - 1]?.getD []) t)
  | 0 => ⟨fun h => by simp [atTo] at h, fun h => by simp [atTo] at h⟩
  | k + 1 => by
    obtain ⟨h1, h2⟩ := atTo_spec t l k
    rw [atTo]
    split
    · rename_i h
      refine ⟨fun hlt => ?_, h2⟩
      have := atTo_le t l k
      by_cases e : atTo t l k = k
      · rw [e]; exact h
      · exact h1 (by omega)
    · rename_i h
      refine ⟨fun hlt => by omega, fun _ => ?_⟩
      rw [Nat.add_sub_cancel]
      exact h
theorem insT_perm (t : List Int) (l : List (List Int)) : (insT t l).Perm (t :: l) := by
  unfold insT
  refine List.perm_middle.trans ?_
  rw [List.take_append_drop]
theorem insT_sorted {t : List Int} {l : List (List Int)} (h : l.Pairwise leL) : (insT t l).Pairwise leL := by
  obtain ⟨h1, h2⟩ := atTo_spec t l l.length
  have hk := atTo_le t l l.length
  unfold insT
  obtain ⟨k, e⟩ : ∃ k, atTo t l l.length = k := ⟨_, rfl⟩
  rw [e] at h1 h2 hk ⊢
  have hl := List.take_append_drop k l
  have hp := h
  rw [← hl, List.pairwise_append] at hp
  have htake : ∀ x ∈ l.take k, leL x t := by
    intro x hx
    obtain ⟨i, hi⟩ := List.mem_iff_getElem?.1 hx
    rw [List.getElem?_take] at hi
    split at hi
    · rename_i hik
      have h0 := h2 (by omega)
      have hil : i < l.length := (List.getElem?_eq_some_iff.1 hi).1
      by_cases e2 : i = k - 1
      · rw [← e2, hi] at h0; exact h0
      · have hkl : k - 1 < l.length := by omega
        have h3 := (List.pairwise_iff_getElem.1 h) i (k - 1) hil hkl (by omega)
        rw [List.getElem?_eq_getElem hkl] at h0
        rw [List.getElem?_eq_getElem hil] at hi
        cases hi
        exact leL_trans h3 h0
    · cases hi
  have hdrop : ∀ x ∈ l.drop k, leL t x := by
    intro x hx
    obtain ⟨i, hi⟩ := List.mem_iff_getElem?.1 hx
    rw [List.getElem?_drop] at hi
    have hil : k + i < l.length := (List.getElem?_eq_some_iff.1 hi).1
    have h0 := leL_of_lt (h1 (by omega))
    have hkl : k < l.length := by omega
    rw [List.getElem?_eq_getElem hkl] at h0
    rw [List.getElem?_eq_getElem hil] at hi
    cases hi
    by_cases e2 : i = 0
    · subst e2; exact h0
    · exact leL_trans h0 ((List.pairwise_iff_getElem.1 h) k (k + i) hkl hil (by omega))
  rw [List.pairwise_append]
  refine ⟨hp.1, List.pairwise_cons.2 ⟨hdrop, hp.2.1⟩, fun x hx y hy => ?_⟩
  rcases List.mem_cons.1 hy with e3 | hy
  · rw [e3]; exact htake x hx
  · exact hp.2.2 x hx y hy
theorem sortTo_perm (tri : Nat → List Int) : ∀ u, (sortTo tri u).Perm ((List.range u).map tri)
  | 0 => by simp [sortTo]
  | u + 1 => by
    rw [sortTo, List.range_succ, List.map_append]
    refine (insT_perm _ _).trans ?_
    refine ((sortTo_perm tri u).cons _).trans ?_
    exact (List.perm_append_comm (l₁ := [tri u])).trans (by simp)
theorem sortTo_sorted (tri : Nat → List Int) : ∀ u, (sortTo tri u).Pairwise leL
  | 0 => by simp [sortTo]
  | u + 1 => insT_sorted (sortTo_sorted tri u)
theorem sortTo_unique {tri : Nat → List Int} {u : Nat} {l : List (List Int)} (hp : l.Perm ((List.range u).map tri)) (hs : l.Pairwise leL) : l = sortTo tri u :=
  List.Perm.eq_of_pairwise (le := leL) (fun _ _ _ _ => leL_antisymm) hs (sortTo_sorted tri u) (hp.trans (sortTo_perm tri u).symm)
end Go.Proofs.YtjjjohmppehejaaGreat.Plain

namespace Go.Proofs.YtjjjohmppehejaaGreat
open Plain
/-- What Labels answers. -/
def labA (n : Int) (l : List (List Int)) : List Int := if chk n l ≠ 0 then [] else labelsL n.toNat l
/-- The first one of the smallest cells with more than one point, so far. -/
def tgtTo (l : List (List Int)) : Nat → Option Nat
  | 0 => none
  | k + 1 => if 1 < (l[k]?.getD []).length ∧ (∀ b, tgtTo l k = some b → (l[k]?.getD []).length < (l[b]?.getD []).length) then some k else tgtTo l k
theorem tgtTo_lt {l : List (List Int)} : ∀ {k b : Nat}, tgtTo l k = some b → b < k
  | 0, b, h => by simp [tgtTo] at h
  | k + 1, b, h => by
    rw [tgtTo] at h
    split at h
    · cases h; omega
    · have := tgtTo_lt h; omega
def encOpt : Option Nat → Int
  | none => -1
  | some l => l
def tgtA (n : Int) (l : List (List Int)) : Int := if chk n l ≠ 0 then 0 else encOpt (tgtTo l l.length)

def badPt (n : Int) : List Int → Bool
  | [] => false
  | p :: r => (decide (p < 0) || decide (n ≤ p)) || badPt n r
theorem badPt_false {n : Int} : ∀ {s : List Int}, badPt n s = false → ∀ p ∈ s, 0 ≤ p ∧ p < n
  | [], _, p, hp => by simp at hp
  | q :: r, h, p, hp => by
    rw [badPt, Bool.or_eq_false_iff, Bool.or_eq_false_iff] at h
    rcases List.mem_cons.1 hp with rfl | hp
    · have h1 := of_decide_eq_false h.1.1
      have h2 := of_decide_eq_false h.1.2
      omega
    · exact badPt_false h.2 p hp
def inS (s c : List Int) : List Int := c.filter fun p => decide (p ∈ s)
def outS (s c : List Int) : List Int := c.filter fun p => !decide (p ∈ s)
def part1 (c : List Int) : List (List Int) := if c.length = 0 then [] else [c]
def splitL (s : List Int) (l : List (List Int)) : List (List Int) := l.flatMap fun c => part1 (inS s c) ++ part1 (outS s c)
def splitA (n : Int) (l : List (List Int)) (s : List Int) : List (List Int) × Int :=
  if chk n l ≠ 0 then ([], chk n l) else if badPt n s = true then ([], 2) else (splitL s l, 0)
theorem inS_yes {s c : List Int} {j : Nat} (h : j < c.length) (hm : c[j]?.getD 0 ∈ s) : inS s (c.take (j + 1)) = inS s (c.take j) ++ [c[j]?.getD 0] := by
  rw [List.getElem?_eq_getElem h, Option.getD_some] at hm ⊢
  have e : c.take (j + 1) = c.take j ++ [c[j]] := by rw [List.take_add_one, List.getElem?_eq_getElem h]; rfl
  rw [inS, e, List.filter_append, List.filter_cons, List.filter_nil, decide_eq_true hm]
  rfl
theorem inS_no {s c : List Int} {j : Nat} (h : j < c.length) (hm : c[j]?.getD 0 ∉ s) : inS s (c.take (j + 1)) = inS s (c.take j) := by
  rw [List.getElem?_eq_getElem h, Option.getD_some] at hm
  have e : c.take (j + 1) = c.take j ++ [c[j]] := by rw [List.take_add_one, List.getElem?_eq_getElem h]; rfl
  rw [inS, e, List.filter_append, List.filter_cons, List.filter_nil, decide_eq_false hm]
  exact List.append_nil _
theorem outS_no {s c : List Int} {j : Nat} (h : j < c.length) (hm : c[j]?.getD 0 ∉ s) : outS s (c.take (j + 1)) = outS s (c.take j) ++ [c[j]?.getD 0] := by
  rw [List.getElem?_eq_getElem h, Option.getD_some] at hm ⊢
  have e : c.take (j + 1) = c.take j ++ [c[j]] := by rw [List.take_add_one, List.getElem?_eq_getElem h]; rfl
  rw [outS, e, List.filter_append, List.filter_cons, List.filter_nil, decide_eq_false hm]
  rfl
theorem outS_yes {s c : List Int} {j : Nat} (h : j < c.length) (hm : c[j]?.getD 0 ∈ s) : outS s (c.take (j + 1)) = outS s (c.take j) := by
  rw [List.getElem?_eq_getElem h, Option.getD_some] at hm
  have e : c.take (j + 1) = c.take j ++ [c[j]] := by rw [List.take_add_one, List.getElem?_eq_getElem h]; rfl
  rw [outS, e, List.filter_append, List.filter_cons, List.filter_nil, decide_eq_true hm]
  exact List.append_nil _
theorem inS_len (s c : List Int) : (inS s c).length ≤ c.length := List.length_filter_le _ _
theorem outS_len (s c : List Int) : (outS s c).length ≤ c.length := List.length_filter_le _ _
theorem part1_len (c : List Int) : (part1 c).length ≤ 1 := by rw [part1]; split <;> simp
theorem splitL_take {s : List Int} {l : List (List Int)} {k : Nat} (h : k < l.length) : splitL s (l.take (k + 1)) = splitL s (l.take k) ++ (part1 (inS s (l[k]?.getD [])) ++ part1 (outS s (l[k]?.getD []))) := by
  rw [splitL, List.take_add_one, List.flatMap_append, List.getElem?_eq_getElem h]
  simp [splitL]
theorem splitL_len (s : List Int) : ∀ l : List (List Int), (splitL s l).length ≤ 2 * l.length
  | [] => by simp [splitL]
  | c :: l => by
    have := splitL_len s l
    have h1 := part1_len (inS s c)
    have h2 := part1_len (outS s c)
    simp only [splitL, List.flatMap_cons, List.length_append, List.length_cons] at this ⊢
    omega
theorem splitL_mem (s : List Int) (l : List (List Int)) : ∀ x ∈ splitL s l, ∃ c ∈ l, x.length ≤ c.length := by
  intro x hx
  obtain ⟨c, hc, hx⟩ := List.mem_flatMap.1 hx
  refine ⟨c, hc, ?_⟩
  rcases List.mem_append.1 hx with h | h
  · rw [part1] at h; split at h
    · simp at h
    · rw [List.mem_singleton.1 h]; exact inS_len _ _
  · rw [part1] at h; split at h
    · simp at h
    · rw [List.mem_singleton.1 h]; exact outS_len _ _
end Go.Proofs.YtjjjohmppehejaaGreat
