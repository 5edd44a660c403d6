/- The reference's key of a point: triples, sorted by insertion. -/
import Derived.Test.YtifkieopaoooeaaDoorPlain
set_option linter.unusedSimpArgs false
set_option linter.unusedVariables false
namespace Go.Proofs.YtifkieopaoooeaaDoor.Plain
/-- The place at which t is inserted, looked for from place k down. -/
def atTo (t : List Int) (l : List (List Int)) : Nat → Nat
  | 0 => 0
  | k + 1 => if cmpL t (l[k]?.getD []) < 0 then atTo t l k else k + 1
def insT (t : List Int) (l : List (List Int)) : List (List Int) := l.take (atTo t l l.length) ++ t :: l.drop (atTo t l l.length)
theorem atTo_le (t : List Int) (l : List (List Int)) : ∀ k, atTo t l k ≤ k
  | 0 => Nat.le_refl _
  | k + 1 => by
    rw [atTo]; split
    · have := atTo_le t l k; omega
    · omega
theorem insT_len (t : List Int) (l : List (List Int)) : (insT t l).length = l.length + 1 := by
  have := atTo_le t l l.length
  simp [insT]; omega
def sortTo (tri : Nat → List Int) : Nat → List (List Int)
  | 0 => []
  | u + 1 => insT (tri u) (sortTo tri u)
theorem sortTo_len (tri : Nat → List Int) : ∀ u, (sortTo tri u).length = u
  | 0 => rfl
  | u + 1 => by rw [sortTo, insT_len, sortTo_len tri u]
theorem mem_insT {t x : List Int} {l : List (List Int)} (h : x ∈ insT t l) : x = t ∨ x ∈ l := by
  rw [insT, List.mem_append, List.mem_cons] at h
  rcases h with h | h | h
  · exact .inr (List.mem_of_mem_take h)
  · exact .inl h
  · exact .inr (List.mem_of_mem_drop h)
theorem mem_sortTo {tri : Nat → List Int} {x : List Int} : ∀ {u : Nat}, x ∈ sortTo tri u → ∃ k, k < u ∧ x = tri k
  | 0, h => by simp [sortTo] at h
  | u + 1, h => by
    rcases mem_insT h with h | h
    · exact ⟨u, by omega, h⟩
    · obtain ⟨k, hk, he⟩ := mem_sortTo h
      exact ⟨k, by omega, he⟩
/-- An entry of a matrix. -/
def mat (m : List (List Int)) (i k : Nat) : Int := (m[i]?.getD [])[k]?.getD 0
def triple (x : List Int) (m : List (List Int)) (v u : Nat) : List Int := [x[u]?.getD 0, mat m v u, mat m u v]
/-- The key of a point, behind its label. -/
def keyL (n : Nat) (x : List Int) (m : List (List Int)) (v : Nat) : List Int := (x[v]?.getD 0) :: (sortTo (triple x m v) n).flatten
theorem flatten_len3 : ∀ {l : List (List Int)}, (∀ x ∈ l, x.length = 3) → l.flatten.length = 3 * l.length
  | [], _ => rfl
  | x :: r, h => by
    rw [List.flatten_cons, List.length_append, flatten_len3 (fun y hy => h y (List.mem_cons_of_mem _ hy)), h x (by simp)]
    simp; omega
theorem keyL_len (n : Nat) (x : List Int) (m : List (List Int)) (v : Nat) : (keyL n x m v).length = 3 * n + 1 := by
  rw [keyL, List.length_cons, flatten_len3, sortTo_len]
  intro y hy
  obtain ⟨k, _, rfl⟩ := mem_sortTo hy
  rfl
theorem take_flatten {l : List (List Int)} {k : Nat} (h : k < l.length) : (l.take (k + 1)).flatten = (l.take k).flatten ++ l[k]?.getD [] := by
  rw [List.take_succ_eq_append_getElem h, List.flatten_append, List.getElem?_eq_getElem h]; simp
/-- A list is a matrix for n points. -/
def IsMat (n : Nat) (m : List (List Int)) : Prop := m.length = n ∧ ∀ r ∈ m, r.length = n
theorem IsMat.row {n : Nat} {m : List (List Int)} (h : IsMat n m) {i : Nat} (hi : i < n) : (m[i]?.getD []).length = n := by
  have hl : i < m.length := by rw [h.1]; exact hi
  rw [List.getElem?_eq_getElem hl]
  exact h.2 _ (List.getElem_mem hl)
/-- One round. -/
def rowsL (n : Nat) (m : List (List Int)) (x : List Int) : List (List Int) := (List.range n).map fun v => keyL n x m v
end Go.Proofs.YtifkieopaoooeaaDoor.Plain
namespace Go.Proofs.YtifkieopaoooeaaDoor.Plain
theorem ins_copy {α : Type} (cs : List α) (z t : α) (u k : Nat) (hu : cs.length = u) (hk : k ≤ u) :
    (((cs ++ [z]).take (k + 1)) ++ ((((cs ++ [z]).drop k).take (u - k)) ++ (cs ++ [z]).drop (k + 1 + (((cs ++ [z]).drop k).take (u - k)).length))).set k t = cs.take k ++ t :: cs.drop k := by
  subst hu
  have h1 : (((cs ++ [z]).drop k).take (cs.length - k)) = cs.drop k := by
    rw [List.drop_append_of_le_length hk, List.take_append_of_le_length (by simp), List.take_of_length_le (by simp)]
  rw [h1]
  have h2 : (cs ++ [z]).drop (k + 1 + (cs.drop k).length) = [] := List.drop_eq_nil_of_le (by simp; omega)
  rw [h2, List.append_nil]
  apply List.ext_getElem?
  intro i
  by_cases h : i < k
  · rw [List.getElem?_set_ne (by omega), List.getElem?_append_left (by simp; omega), List.getElem?_append_left (by simp; omega), List.getElem?_take, if_pos (by omega), List.getElem?_append_left (by omega), List.getElem?_take, if_pos h]
  · by_cases e : i = k
    · subst e
      rw [List.getElem?_set_self (by simp; omega), List.getElem?_append_right (by simp; omega)]
      simp [Nat.min_eq_left hk]
    · rw [List.getElem?_set_ne (by omega), List.getElem?_append_right (by simp; omega), List.getElem?_append_right (by simp; omega)]
      have e1 : ((cs ++ [z]).take (k + 1)).length = k + 1 := by simp; omega
      have e2 : (cs.take k).length = k := by simp; omega
      rw [e1, e2]
      obtain ⟨j, hj⟩ : ∃ j, i - k = j + 1 := ⟨i - k - 1, by omega⟩
      rw [hj, List.getElem?_cons_succ]
      congr 1; omega
end Go.Proofs.YtifkieopaoooeaaDoor.Plain
