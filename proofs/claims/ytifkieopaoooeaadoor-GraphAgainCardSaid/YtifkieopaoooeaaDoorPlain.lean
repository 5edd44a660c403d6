/- Plain laws of ordered partitions: no program in sight. -/
set_option linter.unusedSimpArgs false
set_option linter.unusedVariables false
namespace Go.Proofs.YtifkieopaoooeaaDoor.Plain

/-- The scan of one cell: an error's number, or the points seen. -/
def chkCell (n : Int) : List Int → Option Int → List Int → Sum Int (List Int)
  | s, _, [] => .inr s
  | s, prev, p :: r =>
    if p < 0 ∨ n ≤ p then .inl 2
    else if p ∈ s then .inl 8
    else if ∃ q, prev = some q ∧ p < q then .inl 9
    else chkCell n (p :: s) (some p) r
def chkCells (n : Int) : List Int → List (List Int) → Sum Int (List Int)
  | s, [] => .inr s
  | s, c :: r =>
    if c = [] then .inl 3
    else match chkCell n s none c with
      | .inl e => .inl e
      | .inr s' => chkCells n s' r
/-- What the check of a partition answers. -/
def chk (n : Int) (l : List (List Int)) : Int :=
  if n < 0 ∨ 64 < n then 2
  else match chkCells n [] l with
    | .inl e => e
    | .inr s => if (s.length : Int) < n then 18 else 0

/-- What is seen is seen once, and in range. -/
def Fine (n : Int) (s : List Int) : Prop := s.Nodup ∧ ∀ p ∈ s, 0 ≤ p ∧ p < n

theorem nodup_len : ∀ (n : Nat) (s : List Int), s.Nodup → (∀ p ∈ s, 0 ≤ p ∧ p < n) → s.length ≤ n
  | 0, s, _, h => by
    cases s with
    | nil => simp
    | cons p r => have := h p (by simp); omega
  | n + 1, s, hd, h => by
    by_cases hm : (n : Int) ∈ s
    · have h1 := nodup_len n (s.erase n) (hd.erase _) (fun p hp => by
        have h2 := h p (List.mem_of_mem_erase hp)
        have h3 : p ≠ n := fun e => by subst e; exact (List.Nodup.not_mem_erase hd) hp
        omega)
      rw [List.length_erase_of_mem hm] at h1; omega
    · have := nodup_len n s hd (fun p hp => by
        have h2 := h p hp
        have h3 : p ≠ n := fun e => by subst e; exact hm hp
        omega)
      omega
theorem Fine.len {n : Int} {s : List Int} (h : Fine n s) (hn : 0 ≤ n) : (s.length : Int) ≤ n := by
  have := nodup_len n.toNat s h.1 (fun p hp => by have := h.2 p hp; omega)
  omega
theorem Fine.nil (n : Int) : Fine n [] := ⟨List.nodup_nil, fun p hp => by simp at hp⟩
theorem Fine.cons {n p : Int} {s : List Int} (h : Fine n s) (h1 : ¬ (p < 0 ∨ n ≤ p)) (h2 : p ∉ s) : Fine n (p :: s) :=
  ⟨List.nodup_cons.2 ⟨h2, h.1⟩, fun q hq => by
    rcases List.mem_cons.1 hq with rfl | hq
    · omega
    · exact h.2 q hq⟩

theorem drop_cons {α : Type} {l : List α} {k : Nat} {d : α} (h : k < l.length) : l.drop k = l[k]?.getD d :: l.drop (k + 1) := by
  rw [List.drop_eq_getElem_cons h, List.getElem?_eq_getElem h]; rfl
theorem drop_all {α : Type} {l : List α} {k : Nat} (h : l.length ≤ k) : l.drop k = [] := List.drop_eq_nil_of_le h

/-- The point before place j of a cell. -/
def prevAt (c : List Int) (j : Nat) : Option Int := if j = 0 then none else some (c[j - 1]?.getD 0)

section
variable {n : Int} {s c : List Int} {j : Nat}
theorem cell_range (h : j < c.length) (h1 : c[j]?.getD 0 < 0 ∨ n ≤ c[j]?.getD 0) : chkCell n s (prevAt c j) (c.drop j) = .inl 2 := by
  rw [drop_cons (d := 0) h, chkCell, if_pos h1]
theorem cell_twice (h : j < c.length) (h1 : ¬ (c[j]?.getD 0 < 0 ∨ n ≤ c[j]?.getD 0)) (h2 : c[j]?.getD 0 ∈ s) : chkCell n s (prevAt c j) (c.drop j) = .inl 8 := by
  rw [drop_cons (d := 0) h, chkCell, if_neg h1, if_pos h2]
theorem cell_order (h : j < c.length) (h1 : ¬ (c[j]?.getD 0 < 0 ∨ n ≤ c[j]?.getD 0)) (h2 : c[j]?.getD 0 ∉ s) (h3 : 0 < j) (h4 : c[j]?.getD 0 < c[j - 1]?.getD 0) : chkCell n s (prevAt c j) (c.drop j) = .inl 9 := by
  rw [drop_cons (d := 0) h, chkCell, if_neg h1, if_neg h2, if_pos]
  exact ⟨_, by rw [prevAt, if_neg (by omega)], h4⟩
theorem cell_next (h : j < c.length) (h1 : ¬ (c[j]?.getD 0 < 0 ∨ n ≤ c[j]?.getD 0)) (h2 : c[j]?.getD 0 ∉ s) (h3 : ¬ (0 < j ∧ c[j]?.getD 0 < c[j - 1]?.getD 0)) :
    chkCell n s (prevAt c j) (c.drop j) = chkCell n (c[j]?.getD 0 :: s) (prevAt c (j + 1)) (c.drop (j + 1)) := by
  rw [drop_cons (d := 0) h, chkCell, if_neg h1, if_neg h2, if_neg]
  · rw [prevAt, if_neg (by omega)]; rfl
  · rintro ⟨q, hq, hlt⟩
    by_cases hj : j = 0
    · simp [prevAt, hj] at hq
    · rw [prevAt, if_neg hj] at hq
      injection hq with hq
      exact h3 ⟨by omega, by rw [hq]; exact hlt⟩
theorem cell_end (h : c.length ≤ j) (p : Option Int) : chkCell n s p (c.drop j) = .inr s := by
  rw [drop_all h, chkCell]
end
section
variable {n : Int} {s : List Int} {l : List (List Int)} {k : Nat}
theorem cells_empty (h : k < l.length) (h1 : (l[k]?.getD []).length = 0) : chkCells n s (l.drop k) = .inl 3 := by
  rw [drop_cons (d := []) h, chkCells, if_pos (List.eq_nil_of_length_eq_zero h1)]
theorem cells_err {e : Int} (h : k < l.length) (h1 : (l[k]?.getD []).length ≠ 0) (h2 : chkCell n s none (l[k]?.getD []) = .inl e) : chkCells n s (l.drop k) = .inl e := by
  rw [drop_cons (d := []) h, chkCells, if_neg (fun e => h1 (by rw [e]; rfl)), h2]
theorem cells_next {s' : List Int} (h : k < l.length) (h1 : (l[k]?.getD []).length ≠ 0) (h2 : chkCell n s none (l[k]?.getD []) = .inr s') : chkCells n s (l.drop k) = chkCells n s' (l.drop (k + 1)) := by
  rw [drop_cons (d := []) h, chkCells, if_neg (fun e => h1 (by rw [e]; rfl)), h2]
theorem cells_end (h : l.length ≤ k) : chkCells n s (l.drop k) = .inr s := by rw [drop_all h, chkCells]
end
theorem chk_range {n : Int} {l : List (List Int)} (h : n < 0 ∨ 64 < n) : chk n l = 2 := by rw [chk, if_pos h]
theorem chk_err {n e : Int} {l : List (List Int)} (h : ¬ (n < 0 ∨ 64 < n)) (h2 : chkCells n [] l = .inl e) : chk n l = e := by rw [chk, if_neg h, h2]
theorem chk_end {n : Int} {s : List Int} {l : List (List Int)} (h : ¬ (n < 0 ∨ 64 < n)) (h2 : chkCells n [] l = .inr s) : chk n l = if (s.length : Int) < n then 18 else 0 := by rw [chk, if_neg h, h2]
end Go.Proofs.YtifkieopaoooeaaDoor.Plain
namespace Go.Proofs.YtifkieopaoooeaaDoor.Plain
/-- Lists, element by element; then the difference of the lengths. -/
def cmpL : List Int → List Int → Int
  | x :: xs, y :: ys => if x < y then -1 else if y < x then 1 else cmpL xs ys
  | xs, ys => (xs.length : Int) - ys.length
theorem cmpL_lt {x y : Int} {xs ys : List Int} (h : x < y) : cmpL (x :: xs) (y :: ys) = -1 := by rw [cmpL, if_pos h]
theorem cmpL_gt {x y : Int} {xs ys : List Int} (h : y < x) : cmpL (x :: xs) (y :: ys) = 1 := by rw [cmpL, if_neg (by omega), if_pos h]
theorem cmpL_eq {x y : Int} {xs ys : List Int} (h : x = y) : cmpL (x :: xs) (y :: ys) = cmpL xs ys := by rw [cmpL, if_neg (by omega), if_neg (by omega)]
theorem cmpL_end {xs ys : List Int} (h : xs = [] ∨ ys = []) : cmpL xs ys = (xs.length : Int) - ys.length := by
  rcases h with rfl | rfl
  · cases ys <;> simp [cmpL]
  · cases xs <;> simp [cmpL]
end Go.Proofs.YtifkieopaoooeaaDoor.Plain
