/- A library and its packed form determine each other: plain. -/
import Derived.Test.YtjjjnpolhbbepaaDoorPlainLib
set_option linter.unusedSimpArgs false
set_option linter.unusedVariables false
namespace Go.Proofs.YtjjjnpolhbbepaaDoor.Plain
/- bits -/
theorem wid_bound : ∀ n, n ≤ 64 → n ≤ 2 ^ wid n := by decide
theorem bitsN_len (n : Nat) : ∀ w, (bitsN n w).length = w
  | 0 => rfl
  | w + 1 => by simp [bitsN, bitsN_len n w]
theorem bitsN_get (n : Nat) : ∀ w j, j < w → (bitsN n w)[j]? = some (n / 2 ^ (w - 1 - j) % 2)
  | w + 1, 0, _ => by simp [bitsN]
  | w + 1, j + 1, h => by
    have := bitsN_get n w j (by omega)
    rw [bitsN, List.getElem?_cons_succ, this, show w + 1 - 1 - (j + 1) = w - 1 - j by omega]
theorem bitsN_lt (n : Nat) : ∀ w, ∀ b ∈ bitsN n w, b < 2
  | 0, b, h => by simp [bitsN] at h
  | w + 1, b, h => by
    rw [bitsN] at h
    rcases List.mem_cons.1 h with h | h
    · omega
    · exact bitsN_lt n w b h
theorem bitsD_lt : ∀ ds, ∀ b ∈ bitsD ds, b < 2
  | [], b, h => by simp [bitsD] at h
  | d :: ds, b, h => by
    rw [bitsD] at h
    rcases List.mem_append.1 h with h | h
    · exact bitsN_lt _ _ _ h
    · exact bitsD_lt ds b h
theorem bitsD_len : ∀ ds, (bitsD ds).length = totW ds.length
  | [] => rfl
  | d :: ds => by simp [bitsD, bitsN_len, bitsD_len ds, totW]
theorem bitsG_lt (gs : List (List Int)) : ∀ b ∈ bitsG gs, b < 2 := by
  intro b h
  obtain ⟨p, _, h⟩ := List.mem_flatMap.1 h
  exact bitsD_lt _ _ h
theorem digs_len : ∀ p, (digs p).length = p.length
  | [] => rfl
  | v :: r => by simp [digs, digs_len r]
theorem bitsG_len {n : Nat} : ∀ gs : List (List Int), (∀ p ∈ gs, p.length = n) → (bitsG gs).length = gs.length * totW n
  | [], _ => by simp [bitsG]
  | p :: gs, h => by
    have ih := bitsG_len gs (fun q hq => h q (List.mem_cons_of_mem _ hq))
    unfold bitsG at ih ⊢
    rw [List.flatMap_cons, List.length_append, ih, bitsD_len, digs_len, h p (by simp), List.length_cons, Nat.add_mul, Nat.one_mul, Nat.add_comm]
theorem readF_congr {f g : Nat → Nat} {p : Nat} : ∀ w, (∀ j, j < w → f (p + j) = g (p + j)) → readF f p w = readF g p w
  | 0, _ => rfl
  | w + 1, h => by rw [readF, readF, readF_congr w (fun j hj => h j (by omega)), h w (by omega)]
theorem readF_bits {f : Nat → Nat} {p n w : Nat} (hn : n < 2 ^ w) (hf : ∀ j, j < w → f (p + j) = n / 2 ^ (w - 1 - j) % 2) : ∀ j, j ≤ w → readF f p j = n / 2 ^ (w - j)
  | 0, _ => by rw [readF, Nat.sub_zero, Nat.div_eq_of_lt hn]
  | j + 1, h => by
    rw [readF, readF_bits hn hf j (by omega), hf j (by omega)]
    have e : w - j = (w - 1 - j) + 1 := by omega
    rw [e, Nat.pow_succ, ← Nat.div_div_eq_div_mul, show w - (j + 1) = w - 1 - j by omega]
    omega
theorem readF_lt {f : Nat → Nat} (hf : ∀ p, f p < 2) (p : Nat) : ∀ w, readF f p w < 2 ^ w
  | 0 => by simp [readF]
  | w + 1 => by have := readF_lt hf p w; have := hf (p + w); rw [readF, Nat.pow_succ]; omega
/-- The digits of a list, read back. -/
theorem digF_bits {f : Nat → Nat} : ∀ (ds : List Nat) (p : Nat) , ds.length ≤ 64 → (∀ i, i < ds.length → ds[i]?.getD 0 < ds.length - i) → (∀ j, j < (bitsD ds).length → f (p + j) = (bitsD ds)[j]?.getD 0) → digF f p ds.length = ds
  | [], p, _, _, _ => rfl
  | d :: ds, p, hl, hd, hf => by
    rw [List.length_cons] at hl hd ⊢
    have hd0 : d < ds.length + 1 := by simpa using hd 0 (by omega)
    have hw := wid_bound (ds.length + 1) hl
    have e1 : readF f p (wid (ds.length + 1)) = d := by
      have := readF_bits (f := f) (p := p) (n := d) (w := wid (ds.length + 1)) (by omega) (fun j hj => by
        rw [hf j (by rw [bitsD, List.length_append, bitsN_len]; omega), bitsD, List.getElem?_append_left (by rw [bitsN_len]; exact hj), bitsN_get _ _ _ hj]; rfl) _ (Nat.le_refl _)
      rw [this]; simp
    rw [digF, e1, digF_bits ds _ (by omega) (fun i hi => by have := hd (i + 1) (by omega); simp at this; omega) (fun j hj => by
      have := hf (wid (ds.length + 1) + j) (by rw [bitsD, List.length_append, bitsN_len]; omega)
      rw [Nat.add_assoc, this, bitsD, List.getElem?_append_right (by rw [bitsN_len]; omega), bitsN_len]
      simp)]
theorem val_split (l : List Nat) (hb : ∀ b ∈ l, b < 2) (k m : Nat) : ∀ t, ∃ r, r < 2 ^ t ∧ val l k (m + t) = val l k m * 2 ^ t + r
  | 0 => ⟨0, by simp, by simp⟩
  | t + 1 => by
    obtain ⟨r, hr, e⟩ := val_split l hb k m t
    have h1 : l[8 * k + (m + t)]?.getD 0 < 2 := by
      by_cases h : 8 * k + (m + t) < l.length
      · rw [List.getElem?_eq_getElem h]; exact hb _ (List.getElem_mem _)
      · rw [List.getElem?_eq_none (by omega)]; simp
    refine ⟨2 * r + l[8 * k + (m + t)]?.getD 0, by rw [Nat.pow_succ]; omega, ?_⟩
    rw [← Nat.add_assoc, val, e, Nat.pow_succ, Nat.mul_add]
    rw [← Nat.mul_assoc, Nat.mul_comm 2 (val l k m), Nat.mul_assoc, Nat.mul_comm 2 (2 ^ t)]
    rw [Nat.add_assoc]
theorem val_bit {l : List Nat} (hb : ∀ b ∈ l, b < 2) (k j : Nat) (hj : j < 8) : val l k 8 / 2 ^ (7 - j) % 2 = l[8 * k + j]?.getD 0 := by
  obtain ⟨r, hr, e⟩ := val_split l hb k (j + 1) (7 - j)
  rw [show j + 1 + (7 - j) = 8 by omega] at e
  have h1 : l[8 * k + j]?.getD 0 < 2 := by
    by_cases h : 8 * k + j < l.length
    · rw [List.getElem?_eq_getElem h]; exact hb _ (List.getElem_mem _)
    · rw [List.getElem?_eq_none (by omega)]; simp
  rw [e, Nat.mul_comm, Nat.mul_add_div (Nat.two_pow_pos _), Nat.div_eq_of_lt hr, Nat.add_zero, val]
  omega
/-- The bits of a chunk. -/
theorem chunk_bit {l pre post : List Nat} (hb : ∀ b ∈ l, b < 2) {p : Nat} (hp : p < 8 * ((l.length + 7) / 8)) : bitAt (pre ++ (chunk l ++ post)) pre.length p = l[p]?.getD 0 := by
  have hk : p / 8 < (chunk l).length := by rw [chunk_len]; omega
  unfold bitAt
  rw [List.getElem?_append_right (by omega), Nat.add_sub_cancel_left, List.getElem?_append_left hk]
  have hg : (chunk l)[p / 8]? = some (val l (p / 8) 8) := by
    rw [chunk_len] at hk
    simp [chunk, hk]
  rw [hg, Option.getD_some, val_bit hb _ _ (by omega), show 8 * (p / 8) + p % 8 = p by omega]
/- Lehmer codes -/
theorem filter_lt_sorted {a c : List Int} {v : Int} (h : (a ++ v :: c).Pairwise (· < ·)) : ((a ++ v :: c).filter fun u => decide (u < v)) = a := by
  rw [List.pairwise_append] at h
  obtain ⟨h1, h2, h3⟩ := h
  have h4 := (List.pairwise_cons.1 h2).1
  rw [List.filter_append, List.filter_cons]
  simp only [Int.lt_irrefl, decide_false, if_false, Bool.false_eq_true]
  rw [List.filter_eq_self.2 (fun u hu => by simpa using h3 u hu v (by simp)), List.filter_eq_nil_iff.2 (fun u hu => by have := h4 u hu; simp; omega), List.append_nil]
theorem perm_digs : ∀ (p left : List Int), left.Pairwise (· < ·) → p.Perm left → permL left (digs p) = some p ∧ ∀ i, i < p.length → (digs p)[i]?.getD 0 < p.length - i
  | [], left, _, h => ⟨rfl, fun i hi => by simp at hi⟩
  | v :: r, left, hs, h => by
    obtain ⟨a, c, rfl⟩ := List.append_of_mem (h.mem_iff.1 (List.mem_cons_self))
    have hr : r.Perm (a ++ c) := (List.perm_cons v).1 (h.trans List.perm_middle)
    have hd : (r.filter fun u => decide (u < v)).length = a.length := by
      have h1 := (hr.filter (fun u => decide (u < v))).length_eq
      have h2 := filter_lt_sorted hs
      rw [List.filter_append, List.filter_cons] at h2
      simp only [Int.lt_irrefl, decide_false, if_false, Bool.false_eq_true] at h2
      rw [List.filter_append, h2] at h1
      exact h1
    have hs' : (a ++ c).Pairwise (· < ·) := hs.sublist (by simp)
    obtain ⟨ih, ih2⟩ := perm_digs r (a ++ c) hs' hr
    rw [digs, hd]
    refine ⟨?_, fun i hi => ?_⟩
    · rw [permL, List.getElem?_append_right (Nat.le_refl _)]
      simp only [Nat.sub_self, List.getElem?_cons_zero]
      rw [List.eraseIdx_append_of_length_le (Nat.le_refl _)]
      simp [ih]
    · cases i with
      | zero =>
        have := hr.length_eq
        simp at this ⊢
        omega
      | succ i => have := ih2 i (by simpa using hi); simp at this ⊢; omega
/-- .. and back. -/
theorem digs_perm : ∀ (ds : List Nat) (left q : List Int), left.Pairwise (· < ·) → ds.length = left.length → permL left ds = some q → q.Perm left ∧ digs q = ds
  | [], left, q, _, hl, h => by
    simp [permL] at h
    subst h
    have : left = [] := List.eq_nil_of_length_eq_zero hl.symm
    subst this
    exact ⟨.refl _, rfl⟩
  | d :: ds, left, q, hs, hl, h => by
    rw [permL] at h
    by_cases hd : d < left.length
    · rw [List.getElem?_eq_getElem hd] at h
      simp only at h
      obtain ⟨q', hq', rfl⟩ := Option.map_eq_some_iff.1 h
      have hsplit : left = left.take d ++ left[d] :: left.drop (d + 1) := by rw [List.getElem_cons_drop, List.take_append_drop]
      have her : left.eraseIdx d = left.take d ++ left.drop (d + 1) := List.eraseIdx_eq_take_drop_succ ..
      obtain ⟨ih1, ih2⟩ := digs_perm ds (left.eraseIdx d) q' (hs.sublist (List.eraseIdx_sublist ..)) (by rw [List.length_eraseIdx_of_lt hd]; simp at hl; omega) hq'
      have hp : (left[d] :: q').Perm left := by
        have h1 := ih1.cons left[d]
        rw [her] at h1
        exact h1.trans (List.perm_middle.symm.trans (by rw [← hsplit]))
      refine ⟨hp, ?_⟩
      rw [digs, ih2]
      congr 1
      have h1 := (ih1.filter (fun u => decide (u < left[d]))).length_eq
      have h2 := filter_lt_sorted (a := left.take d) (v := left[d]) (c := left.drop (d + 1)) (by rw [← hsplit]; exact hs)
      rw [List.filter_append, List.filter_cons] at h2
      simp only [Int.lt_irrefl, decide_false, if_false, Bool.false_eq_true] at h2
      rw [h1, her, List.filter_append, h2, List.length_take]
      omega
    · rw [List.getElem?_eq_none (by omega)] at h
      cases h
theorem base_sorted (n : Nat) : (base n).Pairwise (· < ·) := by
  unfold base
  rw [List.pairwise_map]
  exact List.pairwise_lt_range.imp (fun h => by simpa using h)
theorem base_len (n : Nat) : (base n).length = n := by simp [base]
/- fine -/
theorem okFrom_iff (n : Nat) : ∀ (r seen : List Int), okFrom n seen r = true ↔ (∀ x ∈ r, 0 ≤ x ∧ x < n) ∧ r.Nodup ∧ ∀ x ∈ r, x ∉ seen
  | [], seen => by simp [okFrom]
  | x :: r, seen => by
    rw [okFrom]
    simp only [Bool.and_eq_true, decide_eq_true_eq, Bool.not_eq_true', List.contains_eq_mem, decide_eq_false_iff_not]
    rw [okFrom_iff n r (x :: seen)]
    simp only [List.mem_cons, List.nodup_cons, forall_eq_or_imp]
    constructor
    · rintro ⟨⟨⟨h1, h2⟩, h3⟩, h4, h5, h6⟩
      exact ⟨⟨⟨h1, h2⟩, h4⟩, ⟨fun hx => h6 x hx (.inl rfl), h5⟩, h3, fun y hy hs => h6 y hy (.inr hs)⟩
    · rintro ⟨⟨⟨h1, h2⟩, h4⟩, ⟨h5, h6⟩, h3, h7⟩
      exact ⟨⟨⟨h1, h2⟩, h3⟩, h4, h6, fun y hy => by rintro (rfl | hs); exact h5 hy; exact h7 y hy hs⟩
theorem perm_of_nodup : ∀ (p q : List Int), p.Nodup → (∀ x ∈ p, x ∈ q) → q.length ≤ p.length → p.Perm q
  | [], q, _, _, h => by
    have : q = [] := List.eq_nil_of_length_eq_zero (by simpa using h)
    subst this; exact .refl _
  | x :: p, q, hn, hs, hl => by
    obtain ⟨a, c, rfl⟩ := List.append_of_mem (hs x (by simp))
    have hn' := List.nodup_cons.1 hn
    refine ((perm_of_nodup p (a ++ c) hn'.2 (fun y hy => ?_) ?_).cons x).trans List.perm_middle.symm
    · have := hs y (List.mem_cons_of_mem _ hy)
      rcases List.mem_append.1 this with h | h
      · exact List.mem_append_left _ h
      · rcases List.mem_cons.1 h with rfl | h
        · exact absurd hy hn'.1
        · exact List.mem_append_right _ h
    · simp at hl ⊢; omega
theorem fine_iff (p : List Int) : fine p = true ↔ p.Perm (base p.length) := by
  unfold fine
  rw [okFrom_iff]
  constructor
  · rintro ⟨h1, h2, _⟩
    refine perm_of_nodup _ _ h2 (fun x hx => ?_) (by rw [base_len]; exact Nat.le_refl _)
    obtain ⟨h3, h4⟩ := h1 x hx
    exact List.mem_map.2 ⟨x.toNat, List.mem_range.2 (by omega), by simp; omega⟩
  · intro h
    refine ⟨fun x hx => ?_, h.nodup_iff.2 ?_, by simp⟩
    · obtain ⟨k, hk, rfl⟩ := List.mem_map.1 (h.mem_iff.1 hx)
      have := List.mem_range.1 hk
      simp; omega
    · exact ((base_sorted _).imp (fun hlt => by omega : ∀ {a b : Int}, a < b → a ≠ b))
end Go.Proofs.YtjjjnpolhbbepaaDoor.Plain
