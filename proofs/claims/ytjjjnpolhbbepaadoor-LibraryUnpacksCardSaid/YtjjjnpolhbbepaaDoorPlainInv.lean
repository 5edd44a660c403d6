/- What is unpacked is packed into the same bytes: plain. -/
import Derived.Test.YtjjjnpolhbbepaaDoorPlainTrip
set_option linter.unusedSimpArgs false
set_option linter.unusedVariables false
namespace Go.Proofs.YtjjjnpolhbbepaaDoor.Plain
theorem readF_bit {f : Nat → Nat} (hf : ∀ p, f p < 2) (p : Nat) : ∀ w j, j < w → readF f p w / 2 ^ (w - 1 - j) % 2 = f (p + j)
  | 0, j, h => by omega
  | w + 1, j, h => by
    have hb := hf (p + w)
    rw [readF]
    by_cases hj : j = w
    · subst hj
      rw [show j + 1 - 1 - j = 0 by omega, Nat.pow_zero, Nat.div_one]; omega
    · rw [show w + 1 - 1 - j = (w - 1 - j) + 1 by omega, Nat.pow_succ, Nat.mul_comm (2 ^ _) 2, ← Nat.div_div_eq_div_mul, show (2 * readF f p w + f (p + w)) / 2 = readF f p w by omega]
      exact readF_bit hf p w j (by omega)
theorem digF_len (f : Nat → Nat) : ∀ n p, (digF f p n).length = n
  | 0, p => rfl
  | n + 1, p => by rw [digF, List.length_cons, digF_len f n]
theorem bitsD_read {f : Nat → Nat} (hf : ∀ p, f p < 2) : ∀ n p j, j < totW n → (bitsD (digF f p n))[j]? = some (f (p + j))
  | 0, p, j, h => by simp [totW] at h
  | n + 1, p, j, h => by
    rw [digF, bitsD, digF_len]
    by_cases hj : j < wid (n + 1)
    · rw [List.getElem?_append_left (by rw [bitsN_len]; exact hj), bitsN_get _ _ _ hj, readF_bit hf p _ _ hj]
    · rw [List.getElem?_append_right (by rw [bitsN_len]; omega), bitsN_len, bitsD_read hf n _ _ (by rw [totW] at h; omega)]
      rw [show p + wid (n + 1) + (j - wid (n + 1)) = p + j by omega]
theorem gensF_inv {f : Nat → Nat} (hf : ∀ p, f p < 2) {n : Nat} : ∀ k p gs, gensF f n p k = some gs → gs.length = k ∧ (∀ q ∈ gs, q.length = n ∧ fine q = true) ∧ ∀ j, j < k * totW n → (bitsG gs)[j]? = some (f (p + j))
  | 0, p, gs, h => by
    simp [gensF] at h; subst h; simp
  | k + 1, p, gs, h => by
    rw [gensF] at h
    split at h
    · cases h
    · rename_i q hq
      obtain ⟨gs', hg, rfl⟩ := Option.map_eq_some_iff.1 h
      obtain ⟨h1, h2, h3⟩ := gensF_inv hf k _ gs' hg
      obtain ⟨hp, hd⟩ := digs_perm (digF f p n) (base n) q (base_sorted n) (by rw [digF_len, base_len]) hq
      have hql : q.length = n := by rw [hp.length_eq, base_len]
      refine ⟨by simp [h1], ?_, fun j hj => ?_⟩
      · intro r hr
        rcases List.mem_cons.1 hr with rfl | hr
        · exact ⟨hql, (fine_iff _).2 (by rw [hql]; exact hp)⟩
        · exact h2 r hr
      · have hs : bitsG (q :: gs') = bitsD (digs q) ++ bitsG gs' := by simp [bitsG]
        have hl : (bitsD (digs q)).length = totW n := by rw [bitsD_len, digs_len, hql]
        rw [hs]
        by_cases hlt : j < totW n
        · rw [List.getElem?_append_left (by omega), hd, bitsD_read hf n p j hlt]
        · rw [List.getElem?_append_right (by omega), hl, h3 _ (by rw [Nat.add_mul, Nat.one_mul] at hj; omega)]
          rw [show p + totW n + (j - totW n) = p + j by omega]
theorem val_byte {l : List Nat} {k x : Nat} (hx : x < 256) (h : ∀ j, j < 8 → l[8 * k + j]?.getD 0 = x / 2 ^ (7 - j) % 2) : val l k 8 = x := by
  have h0 := h 0 (by omega)
  have h1 := h 1 (by omega)
  have h2 := h 2 (by omega)
  have h3 := h 3 (by omega)
  have h4 := h 4 (by omega)
  have h5 := h 5 (by omega)
  have h6 := h 6 (by omega)
  have h7 := h 7 (by omega)
  simp only [val, h0, h1, h2, h3, h4, h5, h6, h7]
  omega
theorem chunk_inv {b l : List Nat} {A T : Nat} (hl : l.length = T) (hb : ∀ x ∈ b, x < 256) (hA : A + (T + 7) / 8 ≤ b.length)
    (h1 : ∀ p, p < T → l[p]? = some (bitAt b A p)) (h2 : ∀ p, T ≤ p → p < 8 * ((T + 7) / 8) → bitAt b A p = 0) :
    chunk l = (b.drop A).take ((T + 7) / 8) := by
  apply List.ext_getElem?
  intro k
  by_cases hk : k < (T + 7) / 8
  · have hg : (chunk l)[k]? = some (val l k 8) := by simp [chunk, hl, hk]
    rw [hg, List.getElem?_take, if_pos hk, List.getElem?_drop, List.getElem?_eq_getElem (by omega)]
    congr 1
    refine val_byte (hb _ (List.getElem_mem _)) fun j hj => ?_
    have hbit : bitAt b A (8 * k + j) = b[A + k] / 2 ^ (7 - j) % 2 := by
      unfold bitAt
      rw [show (8 * k + j) / 8 = k by omega, show (8 * k + j) % 8 = j by omega, List.getElem?_eq_getElem (by omega)]; rfl
    rw [← hbit]
    by_cases hp : 8 * k + j < T
    · rw [h1 _ hp]; rfl
    · rw [List.getElem?_eq_none (by omega), h2 _ (by omega) (by omega)]; rfl
  · rw [List.getElem?_eq_none (by rw [chunk_len, hl]; omega), List.getElem?_eq_none (by simp; omega)]
theorem readF_zero_inv {f : Nat → Nat} {p : Nat} : ∀ w, readF f p w = 0 → ∀ j, j < w → f (p + j) = 0
  | 0, _, j, h => by omega
  | w + 1, h, j, hj => by
    rw [readF] at h
    by_cases e : j = w
    · subst e; omega
    · exact readF_zero_inv w (by omega) j (by omega)
theorem bitAt_lt' (b : List Nat) (a p : Nat) : bitAt b a p < 2 := Nat.mod_lt _ (by omega)
theorem getD_lt {b : List Nat} (hb : ∀ x ∈ b, x < 256) (i : Nat) : b[i]?.getD 0 < 256 := by
  by_cases h : i < b.length
  · rw [List.getElem?_eq_getElem h]; exact hb _ (List.getElem_mem _)
  · rw [List.getElem?_eq_none (by omega)]; simp
theorem drop_getD {b : List Nat} {i : Nat} (h : i < b.length) : b.drop i = b[i]?.getD 0 :: b.drop (i + 1) := by
  rw [List.drop_eq_getElem_cons h, List.getElem?_eq_getElem h]; rfl
theorem entP_inv {b : List Nat} {at_ : Nat} {last : Option ByteArray} {e : Ent} {at2 : Nat} (hb : ∀ x ∈ b, x < 256) (h : entP b at_ last = .ok (e, at2)) :
    okName (bytesOf e.name) = true ∧ (last.any fun l => leS e.name l) = false ∧ chkGroup e.deg e.gens = 0 ∧ at2 ≤ b.length ∧ b.drop at_ = packEnt e ++ b.drop at2 := by
  unfold entP at h
  split at h
  · cases h
  rename_i c1
  split at h
  · cases h
  rename_i c2
  split at h
  · cases h
  rename_i c3
  split at h
  · cases h
  rename_i c4
  split at h
  · cases h
  rename_i c5
  split at h
  · cases h
  rename_i c6
  split at h
  · cases h
  rename_i c7
  split at h
  · cases h
  rename_i gs hgs
  split at h
  · cases h
  rename_i c8
  have hn := getD_lt hb at_
  generalize hnn : b[at_]?.getD 0 = n at *
  generalize hdd : b[at_ + 1 + n]?.getD 0 = d at *
  generalize hmm : b[at_ + 1 + n + 1]?.getD 0 = m at *
  injection h with h
  injection h with he ha
  subst he
  have hsl : ((b.drop (at_ + 1)).take n).length = n := by rw [List.length_take, List.length_drop]; omega
  have hsb : ∀ x ∈ (b.drop (at_ + 1)).take n, x < 256 := fun x hx => hb x (List.mem_of_mem_drop (List.mem_of_mem_take hx))
  have hbn := bytesOf_nameOf hsb
  obtain ⟨g1, g2, g3⟩ := gensF_inv (bitAt_lt' b _) m 0 gs hgs
  have hT := bitsG_len (n := d) gs (fun q hq => (g2 q hq).1)
  rw [g1] at hT
  have hch : chunk (bitsG gs) = (b.drop (at_ + 1 + n + 2)).take ((m * totW d + 7) / 8) := by
    refine chunk_inv hT hb (by omega) (fun p hp => by rw [g3 p hp, Nat.zero_add]) (fun p hp hp2 => ?_)
    have := readF_zero_inv _ (Decidable.not_not.1 c8) (p - m * totW d) (by omega)
    rwa [show m * totW d + (p - m * totW d) = p by omega] at this
  refine ⟨by rw [hbn]; simpa using c3, by simpa using c4, ?_, by omega, ?_⟩
  · rw [chkGroup_ok]
    exact ⟨by simp only; omega, by simp only; omega, by simp only; omega, fun q hq => ⟨by have := (g2 q hq).1; simp only; omega, (g2 q hq).2⟩⟩
  · unfold packEnt
    simp only [hbn, hsl, hch, g1, Int.toNat_natCast]
    rw [drop_getD (by omega), hnn]
    congr 1
    have e1 : b.drop (at_ + 1) = (b.drop (at_ + 1)).take n ++ b.drop (at_ + 1 + n) := by
      have := (List.take_append_drop n (b.drop (at_ + 1))).symm
      rwa [List.drop_drop] at this
    have e2 : b.drop (at_ + 1 + n + 2) = (b.drop (at_ + 1 + n + 2)).take ((m * totW d + 7) / 8) ++ b.drop at2 := by
      have := (List.take_append_drop ((m * totW d + 7) / 8) (b.drop (at_ + 1 + n + 2))).symm
      rwa [List.drop_drop, ha] at this
    have e3 : b.drop (at_ + 1 + n) = [d, m] ++ b.drop (at_ + 1 + n + 2) := by
      rw [drop_getD (by omega), hdd, drop_getD (by omega), hmm]; rfl
    generalize (b.drop (at_ + 1)).take n = s1 at *
    generalize (b.drop (at_ + 1 + n + 2)).take ((m * totW d + 7) / 8) = s2 at *
    rw [e1, e3, e2]
    show _ = s1 ++ ([d, m] ++ s2) ++ b.drop at2
    simp
theorem entsA_inv {b : List Nat} (hb : ∀ x ∈ b, x < 256) (hne : ∀ a last, entP b a last ≠ .error 0) : ∀ k at_ last acc l z, entsA b at_ last acc k = (l, 0, z) → ∃ es, l = acc ++ es ∧ es.length = k ∧ chkFrom last es = 0 ∧ b.drop at_ = es.flatMap packEnt
  | 0, at_, last, acc, l, z, h => by
    unfold entsA at h
    split at h
    · injection h with _ h; injection h with h _; omega
    · injection h with h1 _
      exact ⟨[], by simp [h1], rfl, rfl, by simp; omega⟩
  | k + 1, at_, last, acc, l, z, h => by
    unfold entsA at h
    split at h
    · rename_i e he
      injection h with _ h; injection h with h _
      subst h
      exact absurd he (hne _ _)
    · rename_i x hx
      obtain ⟨e, a2⟩ := x
      obtain ⟨h1, h2, h3, h4, h5⟩ := entP_inv hb hx
      obtain ⟨es, e1, e2, e3, e4⟩ := entsA_inv hb hne k _ _ _ _ _ h
      simp only at e3 e4
      refine ⟨e :: es, by rw [e1]; simp, by simp [e2], ?_, ?_⟩
      · rw [chkFrom, if_neg (by simp [h1]), if_neg (by simp [h2]), if_neg (by simp [h3])]; exact e3
      · rw [h5, e4]; simp
theorem entsA_at {b : List Nat} (hb : ∀ x ∈ b, x < 256) : ∀ k at_ last acc, at_ ≤ b.length → (entsA b at_ last acc k).2.2 ≤ b.length
  | 0, at_, last, acc, h => by unfold entsA; split <;> simp; omega
  | k + 1, at_, last, acc, h => by
    unfold entsA
    split
    · exact h
    · rename_i x hx
      obtain ⟨e, a2⟩ := x
      exact entsA_at hb k _ _ _ (entP_inv hb hx).2.2.2.1
theorem unpack_at {b : List Nat} (hb : ∀ x ∈ b, x < 256) : (unpack b).2.2 ≤ b.length := by
  unfold unpack
  split
  · simp
  · split
    · simp
    · split
      · simp
      · split
        · simp only; omega
        · have := entsA_at (b := b.take (b.length - 4)) (fun x hx => hb x (List.mem_of_mem_take hx)) (b[4]?.getD 0 * 256 + b[5]?.getD 0) 6 none [] (by rw [List.length_take]; omega)
          rw [List.length_take] at this
          omega
theorem unpack_none {b : List Nat} (h : (unpack b).2.1 ≠ 0) : (unpack b).1 = [] := by
  revert h
  unfold unpack
  split
  · intro _; rfl
  · split
    · intro _; rfl
    · split
      · intro _; rfl
      · split
        · intro _; rfl
        · exact unpack_empty
theorem unpack_inv {b : List Nat} (hb : ∀ x ∈ b, x < 256) (hne : ∀ c a last, entP c a last ≠ .error 0) {l : List Ent} {z : Nat} (h : unpack b = (l, 0, z)) : chk l = 0 ∧ packAll l = b := by
  unfold unpack at h
  split at h
  · injection h with _ h; injection h with h _; omega
  rename_i c1
  split at h
  · injection h with _ h; injection h with h _; omega
  rename_i c2
  split at h
  · injection h with _ h; injection h with h _; omega
  rename_i c3
  split at h
  · injection h with _ h; injection h with h _; omega
  rename_i c4
  obtain ⟨es, e1, e2, e3, e4⟩ := entsA_inv (fun x hx => hb x (List.mem_of_mem_take hx)) (hne _) _ _ _ _ _ _ h
  rw [List.nil_append] at e1
  subst e1
  have h4 := getD_lt hb 4
  have h5 := getD_lt hb 5
  have hbody : packBody l = b.take (b.length - 4) := by
    have h6 : b.take (b.length - 4) = (b.take (b.length - 4)).take 6 ++ (b.take (b.length - 4)).drop 6 := (List.take_append_drop _ _).symm
    rw [h6, e4]
    unfold packBody
    congr 1
    rw [List.take_take, Nat.min_eq_left (by omega)]
    have h7 : b.take 6 = b.take 4 ++ [b[4]?.getD 0, b[5]?.getD 0] := by
      have h8 : b.take 6 = b.take 4 ++ (b.drop 4).take 2 := List.take_add (i := 4) (j := 2)
      rw [h8, drop_getD (by omega), drop_getD (by omega)]; rfl
    rw [h7, Decidable.not_not.1 c2, e2]
    show [67, 71, 76, 49, _, _] = [67, 71, 76, 49, _, _]
    congr 5
    · omega
    · congr 1; omega
  refine ⟨?_, ?_⟩
  · unfold chk
    rw [if_neg (by omega)]; exact e3
  · unfold packAll
    rw [hbody, Decidable.not_not.1 c3, List.take_append_drop]
end Go.Proofs.YtjjjnpolhbbepaaDoor.Plain
