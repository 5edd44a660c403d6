/- Bits in bytes: plain. -/
set_option linter.unusedSimpArgs false
set_option linter.unusedVariables false
namespace Go.Proofs.YtjjjnpolhbbepaaDoor.Plain
/-- The value of the first m bits of byte k; a missing bit counts 0. -/
def val (l : List Nat) (k : Nat) : Nat → Nat
  | 0 => 0
  | m + 1 => 2 * val l k m + l[8 * k + m]?.getD 0
def chunk (l : List Nat) : List Nat := (List.range ((l.length + 7) / 8)).map fun k => val l k 8
theorem val_congr {l l' : List Nat} {k : Nat} : ∀ m, (∀ j, j < m → l[8 * k + j]? = l'[8 * k + j]?) → val l k m = val l' k m
  | 0, _ => rfl
  | m + 1, h => by rw [val, val, val_congr m (fun j hj => h j (by omega)), h m (by omega)]
theorem val_pad {l : List Nat} {k r : Nat} (h : l.length ≤ 8 * k + r) : ∀ j, val l k (r + j) = val l k r * 2 ^ j
  | 0 => by simp
  | j + 1 => by
    rw [← Nat.add_assoc, val, val_pad h j, List.getElem?_eq_none (by omega)]
    simp only [Option.getD_none, Nat.add_zero, Nat.pow_succ]
    rw [Nat.mul_comm 2, Nat.mul_assoc]
theorem val_lt {l : List Nat} (hb : ∀ b ∈ l, b < 2) {k : Nat} : ∀ m, val l k m < 2 ^ m
  | 0 => by simp [val]
  | m + 1 => by
    have ih := val_lt hb (k := k) m
    have h1 : l[8 * k + m]?.getD 0 < 2 := by
      by_cases h : 8 * k + m < l.length
      · rw [List.getElem?_eq_getElem h]; exact hb _ (List.getElem_mem _)
      · rw [List.getElem?_eq_none (by omega)]; simp
    rw [val, Nat.pow_succ]; omega
theorem chunk_len (l : List Nat) : (chunk l).length = (l.length + 7) / 8 := by simp [chunk]
/-- One bit more, at the head of a byte. -/
theorem chunk_new {l : List Nat} {b : Nat} (h : l.length % 8 = 0) : chunk (l ++ [b]) = chunk l ++ [b * 2 ^ 7] := by
  obtain ⟨q, hq⟩ : ∃ q, l.length = 8 * q := ⟨l.length / 8, by omega⟩
  have e1 : ((l ++ [b]).length + 7) / 8 = q + 1 := by simp; omega
  have e2 : (l.length + 7) / 8 = q := by omega
  unfold chunk
  rw [e1, e2, List.range_succ, List.map_append]
  congr 1
  · refine List.map_congr_left fun k hk => val_congr 8 fun j hj => ?_
    have := List.mem_range.1 hk
    rw [List.getElem?_append_left (by omega)]
  · simp only [List.map_cons, List.map_nil]
    have h1 : val (l ++ [b]) q 1 = b := by
      show 2 * 0 + (l ++ [b])[8 * q + 0]?.getD 0 = b
      rw [Nat.add_zero, ← hq, List.getElem?_append_right (Nat.le_refl _)]; simp
    have h2 := val_pad (l := l ++ [b]) (k := q) (r := 1) (by simp; omega) 7
    rw [show 1 + 7 = 8 from rfl] at h2
    rw [h2, h1]
/-- .. within a byte: the last byte grows. -/
theorem chunk_add {l : List Nat} {b r q : Nat} (hr : l.length = 8 * q + r) (h0 : 0 < r) (h8 : r < 8) :
    chunk l = (List.range q).map (fun k => val l k 8) ++ [val l q r * 2 ^ (8 - r)] ∧
    chunk (l ++ [b]) = (List.range q).map (fun k => val l k 8) ++ [val l q r * 2 ^ (8 - r) + b * 2 ^ (7 - r)] := by
  have e1 : ((l ++ [b]).length + 7) / 8 = q + 1 := by simp; omega
  have e2 : (l.length + 7) / 8 = q + 1 := by omega
  have hl : val l q 8 = val l q r * 2 ^ (8 - r) := by
    have := val_pad (l := l) (k := q) (r := r) (by omega) (8 - r)
    rwa [show r + (8 - r) = 8 by omega] at this
  have hl2 : val (l ++ [b]) q 8 = val l q r * 2 ^ (8 - r) + b * 2 ^ (7 - r) := by
    have h1 := val_pad (l := l ++ [b]) (k := q) (r := r + 1) (by simp; omega) (7 - r)
    rw [show r + 1 + (7 - r) = 8 by omega] at h1
    rw [h1, val, val_congr (l := l ++ [b]) (l' := l) r (fun j hj => List.getElem?_append_left (by omega))]
    have h2 : (l ++ [b])[8 * q + r]?.getD 0 = b := by
      rw [← hr, List.getElem?_append_right (Nat.le_refl _)]; simp
    rw [h2, Nat.add_mul, show 8 - r = (7 - r) + 1 by omega, Nat.pow_succ]
    rw [Nat.mul_comm 2, Nat.mul_assoc, Nat.mul_comm 2]
  unfold chunk
  rw [e1, e2, List.range_succ, List.map_append, List.map_append]
  constructor
  · simp only [List.map_cons, List.map_nil, hl]
  · simp only [List.map_cons, List.map_nil, hl2]
    congr 1
    refine List.map_congr_left fun k hk => val_congr 8 fun j hj => ?_
    have := List.mem_range.1 hk
    rw [List.getElem?_append_left (by omega)]
theorem or_add {a b r : Nat} (hr : r < 8) (hb : b < 2) : (a * 2 ^ (8 - r)) ||| (b * 2 ^ (7 - r)) = a * 2 ^ (8 - r) + b * 2 ^ (7 - r) := by
  have h1 : b * 2 ^ (7 - r) < 2 ^ (8 - r) := by
    rw [show 8 - r = (7 - r) + 1 by omega, Nat.pow_succ, Nat.mul_comm (2 ^ (7 - r))]
    exact Nat.mul_lt_mul_of_pos_right hb (Nat.two_pow_pos _)
  have := Nat.shiftLeft_add_eq_or_of_lt h1 a
  rw [Nat.shiftLeft_eq] at this
  exact this.symm
end Go.Proofs.YtjjjnpolhbbepaaDoor.Plain
