/- Parts of a sort that changes places: plain. · A sort by a comparison that may rewrite one block: the parts of it, over any range. · A sort by a comparison that may rewrite one block: the heap. · A sort by a comparison that may rewrite one block: the heap sort, the reversal, the choice of a pivot. · A sort by a comparison that may rewrite one block: the choice of a pivot. · A sort by a comparison that may rewrite one block: patterns are broken. -/
import Derived.Test.YtlnikgcanimggaaGreatPlainIns
import Derived.Test.YtlnikgcanimggaaGreatSortM
set_option linter.unusedSimpArgs false
set_option linter.unusedVariables false
namespace Go.Proofs.YtlnikgcanimggaaGreat.Plain
section
variable {R : Nat → List Int} {s s' s'' : List Nat} {a b a' b' i j : Nat}

/-- The values at two places change. -/
def swp (s : List Nat) (i j : Nat) : List Nat := (s.set i (at' s j)).set j (at' s i)
theorem swp_len : (swp s i j).length = s.length := by simp [swp]
theorem swp_at (hi : i < s.length) (hj : j < s.length) (p : Nat) : at' (swp s i j) p = if p = j then at' s i else if p = i then at' s j else at' s p := by
  unfold swp at'
  rw [List.getElem?_set, List.getElem?_set, List.length_set]
  by_cases h1 : p = j
  · subst h1; rw [if_pos rfl, if_pos hj, if_pos rfl]; rfl
  · rw [if_neg (fun e => h1 e.symm), if_neg h1]
    by_cases h2 : p = i
    · subst h2; rw [if_pos rfl, if_pos hi, if_pos rfl]; rfl
    · rw [if_neg (fun e => h2 e.symm), if_neg h2]
theorem at_get (h : i < s.length) : at' s i = s[i] := by rw [at', List.getElem?_eq_getElem h]; rfl
theorem swp_perm (hi : i < s.length) (hj : j < s.length) : (swp s i j).Perm s := by
  unfold swp
  rw [at_get hi, at_get hj]
  exact List.set_set_perm hi hj
theorem at_inj (hd : s.Nodup) (hi : i < s.length) (hj : j < s.length) (e : at' s i = at' s j) : i = j := by
  rw [at_get hi, at_get hj] at e
  have hpw := List.pairwise_iff_getElem.1 hd
  rcases Nat.lt_trichotomy i j with h | h | h
  · exact absurd e (hpw i j hi hj h)
  · exact h
  · exact absurd e.symm (hpw j i hj hi h)

/-- s' is s with the places of a range in another order. -/
structure Out (s s' : List Nat) (a b : Nat) : Prop where
  perm : s'.Perm s
  out : ∀ p, p < a ∨ b ≤ p → at' s' p = at' s p
theorem Out.refl (s : List Nat) (a b : Nat) : Out s s a b := ⟨.refl _, fun _ _ => rfl⟩
theorem Out.trans (h : Out s s' a b) (k : Out s' s'' a b) : Out s s'' a b := ⟨k.perm.trans h.perm, fun p hp => (k.out p hp).trans (h.out p hp)⟩
theorem Out.mono (h : Out s s' a' b') (ha : a ≤ a') (hb : b' ≤ b) : Out s s' a b := ⟨h.perm, fun p hp => h.out p (by omega)⟩
theorem Out.len (h : Out s s' a b) : s'.length = s.length := h.perm.length_eq
theorem Out.mem (h : Out s s' a b) (hd : s.Nodup) (hb : b ≤ s.length) {p : Nat} (h1 : a ≤ p) (h2 : p < b) : ∃ q, a ≤ q ∧ q < b ∧ at' s' p = at' s q := by
  have hl := h.len
  have hm : at' s' p ∈ s := h.perm.mem_iff.1 (by rw [at_get (by omega)]; exact List.getElem_mem _)
  obtain ⟨q, hq, e⟩ := List.mem_iff_getElem.1 hm
  rw [← at_get hq] at e
  by_cases hin : a ≤ q ∧ q < b
  · exact ⟨q, hin.1, hin.2, e.symm⟩
  · exfalso
    rw [← h.out q (by omega)] at e
    have := at_inj (h.perm.nodup_iff.2 hd) (by omega) (by omega) e
    omega
theorem Out.swp (hi1 : a ≤ i) (hi : i < b) (hj1 : a ≤ j) (hj : j < b) (hb : b ≤ s.length) : Out s (swp s i j) a b :=
  ⟨swp_perm (by omega) (by omega), fun p hp => by rw [swp_at (by omega) (by omega), if_neg (by omega), if_neg (by omega)]⟩

/-- The range lies in order. -/
def SrtIn (R : Nat → List Int) (s : List Nat) (a b : Nat) : Prop := ∀ p q, a ≤ p → p < q → q < b → Ahead R (at' s p) (at' s q)
/-- .. up to place i, but for place j, which goes down. -/
def SrtX (R : Nat → List Int) (s : List Nat) (a i j : Nat) : Prop := ∀ p q, a ≤ p → p < q → q ≤ i → q ≠ j → Ahead R (at' s p) (at' s q)
theorem SrtX.start (h : SrtIn R s a i) : SrtX R s a i i := fun p q h0 h1 h2 h3 => h p q h0 h1 (by omega)
theorem SrtX.zero (h : SrtX R s a i a) : SrtIn R s a (i + 1) := fun p q h0 h1 h2 => h p q h0 h1 (by omega) (by omega)
theorem not_ahead {x y : Nat} (hn : ¬ Ahead R x y) (hne : x ≠ y) : Ahead R y x := by
  rcases Ahead.total (R := R) x y with h | h | h
  · exact absurd h hn
  · exact absurd h hne
  · exact h
theorem SrtX.stop (h : SrtX R s a i j) (hj : a < j) (hji : j ≤ i) (hk : Ahead R (at' s (j - 1)) (at' s j)) : SrtIn R s a (i + 1) := by
  intro p q h0 h1 h2
  by_cases e : q = j
  · subst e
    by_cases e2 : p = q - 1
    · rw [e2]; exact hk
    · exact (h p (q - 1) h0 (by omega) (by omega) (by omega)).trans hk
  · exact h p q h0 h1 (by omega) e
theorem SrtX.swap (h : SrtX R s a i j) (hj : a < j) (hji : j ≤ i) (hl : j < s.length) (ha : Ahead R (at' s j) (at' s (j - 1))) : SrtX R (swp s j (j - 1)) a i (j - 1) := by
  intro p q h0 h1 h2 h3
  rw [swp_at hl (by omega), swp_at hl (by omega), if_neg h3]
  by_cases hq : q = j
  · subst hq
    rw [if_pos rfl]
    by_cases hp : p = q - 1
    · rw [if_pos hp]; exact ha
    · rw [if_neg hp, if_neg (by omega)]
      exact h p (q - 1) h0 (by omega) (by omega) (by omega)
  · rw [if_neg hq]
    by_cases hp : p = j - 1
    · rw [if_pos hp]
      exact h j q (by omega) (by omega) h2 hq
    · rw [if_neg hp]
      by_cases hp2 : p = j
      · rw [if_pos hp2]; exact h (j - 1) q (by omega) (by omega) h2 hq
      · rw [if_neg hp2]; exact h p q h0 h1 h2 hq

/-- What lies ahead of a range is less. -/
def Over (R : Nat → List Int) (s : List Nat) (a b : Nat) : Prop := ∀ p q, p < a → a ≤ q → q < b → Ahead R (at' s p) (at' s q)
theorem Over.out (h : Over R s a b) (ho : Out s s' a' b') (hd : s.Nodup) (hb : b ≤ s.length) (ha : a ≤ a') (hbb : b' ≤ b) : Over R s' a b := by
  intro p q h1 h2 h3
  rw [ho.out p (by omega)]
  by_cases hin : a' ≤ q ∧ q < b'
  · obtain ⟨q', h4, h5, e⟩ := ho.mem hd (by omega) hin.1 hin.2
    rw [e]; exact h p q' h1 (by omega) (by omega)
  · rw [ho.out q (by omega)]; exact h p q h1 h2 h3
/-- Of two places of [a, b), not both in [a', b'), the first one is less. -/
def Most (R : Nat → List Int) (s : List Nat) (a b a' b' : Nat) : Prop := ∀ p q, a ≤ p → p < q → q < b → ¬ (a' ≤ p ∧ q < b') → Ahead R (at' s p) (at' s q)
theorem Most.start : Most R s a b a b := fun p q h1 h2 h3 h4 => absurd ⟨h1, h3⟩ h4
theorem Most.out (h : Most R s a b a' b') (ho : Out s s' a' b') (hd : s.Nodup) (hb : b ≤ s.length) (ha : a ≤ a') (hbb : b' ≤ b) : Most R s' a b a' b' := by
  intro p q h1 h2 h3 h4
  by_cases hp : a' ≤ p ∧ p < b'
  · obtain ⟨p', h5, h6, e⟩ := ho.mem hd (by omega) hp.1 hp.2
    rw [e, ho.out q (by omega)]
    exact h p' q (by omega) (by omega) h3 (by omega)
  · rw [ho.out p (by omega)]
    by_cases hq : a' ≤ q ∧ q < b'
    · obtain ⟨q', h5, h6, e⟩ := ho.mem hd (by omega) hq.1 hq.2
      rw [e]
      exact h p q' h1 (by omega) (by omega) (by omega)
    · rw [ho.out q (by omega)]; exact h p q h1 h2 h3 h4
theorem Most.sorted (h : Most R s a b a' b') (hs : SrtIn R s a' b') : SrtIn R s a b := by
  intro p q h1 h2 h3
  by_cases hin : a' ≤ p ∧ q < b'
  · exact hs p q hin.1 h2 hin.2
  · exact h p q h1 h2 h3 hin

/-- A range, parted at a place. -/
structure PartAt (R : Nat → List Int) (s : List Nat) (a b m : Nat) : Prop where
  lo : a ≤ m
  hi : m < b
  left : ∀ p, a ≤ p → p < m → Ahead R (at' s p) (at' s m)
  right : ∀ q, m < q → q < b → Ahead R (at' s m) (at' s q)
/-- While it is parted by the value at a. -/
structure PInv (R : Nat → List Int) (s : List Nat) (a b i j : Nat) : Prop where
  ai : a < i
  jb : j < b
  ij : i ≤ j + 1
  left : ∀ p, a < p → p < i → Ahead R (at' s p) (at' s a)
  right : ∀ q, j < q → q < b → Ahead R (at' s a) (at' s q)
theorem PInv.start (h : a + 1 < b) : PInv R s a b (a + 1) (b - 1) := ⟨by omega, by omega, by omega, fun p h1 h2 => by omega, fun q h1 h2 => by omega⟩
theorem PInv.up (h : PInv R s a b i j) (hij : i ≤ j) (hl : Ahead R (at' s i) (at' s a)) : PInv R s a b (i + 1) j :=
  ⟨by have := h.ai; omega, h.jb, by omega, fun p h1 h2 => by
    by_cases e : p = i
    · rw [e]; exact hl
    · exact h.left p h1 (by omega), h.right⟩
theorem PInv.down (h : PInv R s a b i j) (hij : i ≤ j) (hl : Ahead R (at' s a) (at' s j)) : PInv R s a b i (j - 1) :=
  ⟨h.ai, by have := h.jb; omega, by omega, h.left, fun q h1 h2 => by
    by_cases e : q = j
    · rw [e]; exact hl
    · exact h.right q (by omega) h2⟩
theorem PInv.swap (h : PInv R s a b i j) (hij : i < j) (hb : b ≤ s.length) (h1 : Ahead R (at' s a) (at' s i)) (h2 : Ahead R (at' s j) (at' s a)) : PInv R (swp s i j) a b (i + 1) (j - 1) := by
  have hai := h.ai; have hjb := h.jb
  refine ⟨by omega, by omega, by omega, fun p h3 h4 => ?_, fun q h3 h4 => ?_⟩
  · rw [swp_at (by omega) (by omega), swp_at (by omega) (by omega), if_neg (by omega), if_neg (by omega : ¬ a = j), if_neg (by omega : ¬ a = i)]
    by_cases e : p = i
    · rw [if_pos e]; exact h2
    · rw [if_neg e]; exact h.left p h3 (by omega)
  · rw [swp_at (by omega) (by omega), swp_at (by omega) (by omega), if_neg (by omega : ¬ a = j), if_neg (by omega : ¬ a = i)]
    by_cases e : q = j
    · rw [if_pos e]; exact h1
    · rw [if_neg e, if_neg (by omega)]; exact h.right q (by omega) h4
theorem PInv.done (h : PInv R s a b i j) (hij : j < i) (hb : b ≤ s.length) : PartAt R (swp s j a) a b j := by
  have hai := h.ai; have hjb := h.jb; have hii := h.ij
  have haj : at' (swp s j a) j = at' s a := by
    rw [swp_at (by omega) (by omega)]
    by_cases e : j = a
    · rw [if_pos e, e]
    · rw [if_neg e, if_pos rfl]
  refine ⟨by omega, by omega, fun p h3 h4 => ?_, fun q h3 h4 => ?_⟩
  · rw [haj, swp_at (by omega) (by omega)]
    by_cases e : p = a
    · rw [if_pos e]; exact h.left j (by omega) (by omega)
    · rw [if_neg e, if_neg (by omega)]; exact h.left p (by omega) (by omega)
  · rw [haj, swp_at (by omega) (by omega), if_neg (by omega), if_neg (by omega)]
    exact h.right q h3 h4
/-- Behind a parting, when the left part lies in order. -/
theorem Most.left (h : Most R s a b a' b') (hd : s.Nodup) (hbl : b ≤ s.length) (ha : a ≤ a') (hbb : b' ≤ b) (ho : Out s s' a' b') {m : Nat} (hp : PartAt R s' a' b' m) (k : Out s' s'' a' m) (hs : SrtIn R s'' a' m) : Most R s'' a b (m + 1) b' := by
  have h' := h.out ho hd hbl ha hbb
  have hd' : s'.Nodup := ho.perm.nodup_iff.2 hd
  have hl := ho.len
  have h1 := hp.lo; have h2 := hp.hi
  have h'' := h'.out (k.mono (Nat.le_refl _) (by omega : m ≤ b')) hd' (by omega) ha hbb
  have hm : at' s'' m = at' s' m := k.out m (by omega)
  have left : ∀ p, a' ≤ p → p < m → Ahead R (at' s'' p) (at' s'' m) := fun p h3 h4 => by
    obtain ⟨p', h5, h6, e⟩ := k.mem hd' (by omega) h3 h4
    rw [e, hm]; exact hp.left p' h5 h6
  have right : ∀ q, m < q → q < b' → Ahead R (at' s'' m) (at' s'' q) := fun q h3 h4 => by
    rw [hm, k.out q (by omega)]; exact hp.right q h3 h4
  intro p q h3 h4 h5 h6
  by_cases hin : a' ≤ p ∧ q < b'
  · by_cases e : q < m
    · exact hs p q hin.1 h4 e
    · by_cases e2 : q = m
      · rw [e2]; exact left p hin.1 (by omega)
      · by_cases e3 : p = m
        · rw [e3]; exact right q (by omega) hin.2
        · exact (left p hin.1 (by omega)).trans (right q (by omega) hin.2)
  · exact h'' p q h3 h4 h5 hin
theorem Most.right (h : Most R s a b a' b') (hd : s.Nodup) (hbl : b ≤ s.length) (ha : a ≤ a') (hbb : b' ≤ b) (ho : Out s s' a' b') {m : Nat} (hp : PartAt R s' a' b' m) (k : Out s' s'' (m + 1) b') (hs : SrtIn R s'' (m + 1) b') : Most R s'' a b a' m := by
  have h' := h.out ho hd hbl ha hbb
  have hd' : s'.Nodup := ho.perm.nodup_iff.2 hd
  have hl := ho.len
  have h1 := hp.lo; have h2 := hp.hi
  have h'' := h'.out (k.mono (by omega : a' ≤ m + 1) (Nat.le_refl _)) hd' (by omega) ha hbb
  have hm : at' s'' m = at' s' m := k.out m (by omega)
  have left : ∀ p, a' ≤ p → p < m → Ahead R (at' s'' p) (at' s'' m) := fun p h3 h4 => by
    rw [hm, k.out p (by omega)]; exact hp.left p h3 h4
  have right : ∀ q, m < q → q < b' → Ahead R (at' s'' m) (at' s'' q) := fun q h3 h4 => by
    obtain ⟨q', h5, h6, e⟩ := k.mem hd' (by omega) (by omega : m + 1 ≤ q) h4
    rw [e, hm]; exact hp.right q' (by omega) h6
  intro p q h3 h4 h5 h6
  by_cases hin : a' ≤ p ∧ q < b'
  · by_cases e : m < p
    · exact hs p q (by omega) h4 hin.2
    · by_cases e2 : p = m
      · rw [e2]; exact right q (by omega) hin.2
      · by_cases e3 : q = m
        · rw [e3]; exact left p hin.1 (by omega)
        · exact (left p hin.1 (by omega)).trans (right q (by omega) hin.2)
  · exact h'' p q h3 h4 h5 hin
/-- What lies ahead of the right part, and of the left part, is less. -/
theorem Over.right (h : Over R s a b) (hd : s.Nodup) (hb : b ≤ s.length) {m : Nat} (hp : PartAt R s a b m) (k : Out s s' a m) : Over R s' (m + 1) b := by
  have h1 := hp.lo; have h2 := hp.hi
  intro p q h3 h4 h5
  rw [k.out q (by omega)]
  by_cases e : p < a
  · rw [k.out p (by omega)]; exact h p q e (by omega) h5
  · by_cases e2 : p = m
    · rw [k.out p (by omega), e2]; exact hp.right q (by omega) h5
    · obtain ⟨p', h6, h7, e3⟩ := k.mem hd (by omega) (by omega : a ≤ p) (by omega : p < m)
      rw [e3]; exact (hp.left p' h6 h7).trans (hp.right q (by omega) h5)
theorem Over.left (h : Over R s a b) {m : Nat} (hm : m ≤ b) : Over R s a m := fun p q h1 h2 h3 => h p q h1 h2 (by omega)
theorem Over.right0 (h : Over R s a b) (hd : s.Nodup) (hb : b ≤ s.length) {m : Nat} (hp : PartAt R s a b m) : Over R s (m + 1) b := h.right hd hb hp (Out.refl s a m)

/-- The heap: no value lies ahead .. of a greater one below it. lo: from which place on it holds. -/
def Heap (R : Nat → List Int) (s : List Nat) (f lo hi : Nat) : Prop := ∀ i c, lo ≤ i → (c = 2 * i + 1 ∨ c = 2 * i + 2) → c < hi → Ahead R (at' s (f + c)) (at' s (f + i))
/-- .. but for the place r, which goes down. -/
structure HeapX (R : Nat → List Int) (s : List Nat) (f lo hi r : Nat) : Prop where
  ge : lo ≤ r
  heap : ∀ i c, lo ≤ i → i ≠ r → (c = 2 * i + 1 ∨ c = 2 * i + 2) → c < hi → Ahead R (at' s (f + c)) (at' s (f + i))
  up : ∀ p c, lo ≤ p → (r = 2 * p + 1 ∨ r = 2 * p + 2) → (c = 2 * r + 1 ∨ c = 2 * r + 2) → c < hi → Ahead R (at' s (f + c)) (at' s (f + p))
theorem HeapX.start {f lo hi : Nat} (h : Heap R s f (lo + 1) hi) : HeapX R s f lo hi lo :=
  ⟨Nat.le_refl _, fun i c h1 h2 h3 h4 => h i c (by omega) h3 h4, fun p c h1 h2 => by omega⟩
theorem HeapX.stop {f lo hi r : Nat} (h : HeapX R s f lo hi r) (hr : ∀ c, (c = 2 * r + 1 ∨ c = 2 * r + 2) → c < hi → Ahead R (at' s (f + c)) (at' s (f + r))) : Heap R s f lo hi := by
  intro i c h1 h2 h3
  by_cases e : i = r
  · rw [e] at h2 ⊢; exact hr c h2 h3
  · exact h.heap i c h1 e h2 h3
theorem HeapX.step {f lo hi r d : Nat} (h : HeapX R s f lo hi r) (hd : d = 2 * r + 1 ∨ d = 2 * r + 2) (hdh : d < hi) (hl : f + hi ≤ s.length) (hgt : Ahead R (at' s (f + r)) (at' s (f + d)))
    (hmx : ∀ c, (c = 2 * r + 1 ∨ c = 2 * r + 2) → c < hi → c ≠ d → Ahead R (at' s (f + c)) (at' s (f + d))) : HeapX R (swp s (f + r) (f + d)) f lo hi d := by
  have hlo := h.ge
  have hat : ∀ p, at' (swp s (f + r) (f + d)) (f + p) = if p = d then at' s (f + r) else if p = r then at' s (f + d) else at' s (f + p) := fun p => by
    rw [swp_at (by omega) (by omega)]
    by_cases e : p = d
    · rw [if_pos (by omega), if_pos e]
    · rw [if_neg (by omega), if_neg e]
      by_cases e2 : p = r
      · rw [if_pos (by omega), if_pos e2]
      · rw [if_neg (by omega), if_neg e2]
  refine ⟨by omega, fun i c h1 h2 h3 h4 => ?_, fun p c h1 h2 h3 h4 => ?_⟩
  · rw [hat, hat, if_neg h2]
    by_cases e : i = r
    · rw [if_pos e]
      rw [e] at h3
      by_cases e2 : c = d
      · rw [if_pos e2]; exact hgt
      · rw [if_neg e2, if_neg (by omega)]; exact hmx c h3 h4 e2
    · rw [if_neg e, if_neg (by omega)]
      by_cases e3 : c = r
      · rw [if_pos e3]; rw [e3] at h3; exact h.up i d h1 h3 hd hdh
      · rw [if_neg e3]; exact h.heap i c h1 e h3 h4
  · have e : p = r := by omega
    rw [hat, hat, if_neg (by omega), if_neg (by omega), if_neg (by omega), if_pos e]
    exact h.heap d c (by omega) (by omega) h3 h4
theorem Heap.top {f hi : Nat} (h : Heap R s f 0 hi) : ∀ k, 0 < k → k < hi → Ahead R (at' s (f + k)) (at' s (f + 0)) := by
  intro k
  induction k using Nat.strongRecOn with
  | ind k ih =>
    intro h1 h2
    have h3 := h ((k - 1) / 2) k (Nat.zero_le _) (by omega) h2
    by_cases e : (k - 1) / 2 = 0
    · rw [e] at h3; exact h3
    · exact h3.trans (ih ((k - 1) / 2) (by omega) (by omega) (by omega))
theorem Heap.leaves {f hi lo : Nat} (h : hi ≤ 2 * lo + 1) : Heap R s f lo hi := fun i c h1 h2 h3 => by omega
/-- While the heap is taken down: the heap of i places, behind it the rest in order. -/
structure Pops (R : Nat → List Int) (s : List Nat) (f hi i : Nat) : Prop where
  heap : Heap R s f 0 i
  le : i ≤ hi
  rest : ∀ p q, p < q → i ≤ q → q < hi → Ahead R (at' s (f + p)) (at' s (f + q))
theorem Pops.start {f hi : Nat} (h : Heap R s f 0 hi) : Pops R s f hi hi := ⟨h, Nat.le_refl _, fun p q h1 h2 h3 => by omega⟩
theorem Pops.swap {f hi i : Nat} (h : Pops R s f hi (i + 1)) (hl : f + hi ≤ s.length) :
    Heap R (swp s f (f + i)) f 1 i ∧ (∀ p q, p < q → i ≤ q → q < hi → Ahead R (at' (swp s f (f + i)) (f + p)) (at' (swp s f (f + i)) (f + q))) := by
  have hle := h.le
  have hat : ∀ p, at' (swp s f (f + i)) (f + p) = if p = i then at' s (f + 0) else if p = 0 then at' s (f + i) else at' s (f + p) := fun p => by
    rw [swp_at (by omega) (by omega)]
    by_cases e : p = i
    · rw [if_pos (by omega), if_pos e]; rfl
    · rw [if_neg (by omega), if_neg e]
      by_cases e2 : p = 0
      · rw [if_pos (by omega), if_pos e2]
      · rw [if_neg (by omega), if_neg e2]
  refine ⟨fun k c h1 h2 h3 => ?_, fun p q h1 h2 h3 => ?_⟩
  · rw [hat, hat, if_neg (by omega), if_neg (by omega), if_neg (by omega), if_neg (by omega)]
    exact h.heap k c (Nat.zero_le _) h2 (by omega)
  · rw [hat, hat]
    by_cases e : q = i
    · rw [if_pos e, if_neg (by omega)]
      by_cases e2 : p = 0
      · rw [if_pos e2]; exact h.heap.top i (by omega) (by omega)
      · rw [if_neg e2]; exact h.heap.top p (by omega) (by omega)
    · have eq : (if q = i then at' s (f + 0) else if q = 0 then at' s (f + i) else at' s (f + q)) = at' s (f + q) := by rw [if_neg e, if_neg (by omega)]
      rw [eq]
      by_cases e1 : p = i
      · rw [if_pos e1]; exact h.rest 0 q (by omega) (by omega) h3
      · rw [if_neg e1]
        by_cases e2 : p = 0
        · rw [if_pos e2]; exact h.rest i q (by omega) (by omega) h3
        · rw [if_neg e2]; exact h.rest p q h1 (by omega) h3
theorem Pops.next {f hi i : Nat} (hd : s.Nodup) (hl : f + hi ≤ s.length) (hi1 : i ≤ hi) (hr : ∀ p q, p < q → i ≤ q → q < hi → Ahead R (at' s (f + p)) (at' s (f + q))) (ho : Out s s' f (f + i)) (hh : Heap R s' f 0 i) : Pops R s' f hi i := by
  refine ⟨hh, hi1, fun p q h1 h2 h3 => ?_⟩
  rw [ho.out (f + q) (by omega)]
  by_cases e : p < i
  · obtain ⟨p', h4, h5, e2⟩ := ho.mem hd (by omega) (by omega : f ≤ f + p) (by omega : f + p < f + i)
    obtain ⟨k, rfl⟩ : ∃ k, p' = f + k := ⟨p' - f, by omega⟩
    rw [e2]; exact hr k q (by omega) h2 h3
  · rw [ho.out (f + p) (by omega)]; exact hr p q h1 h2 h3
theorem Pops.done {f hi : Nat} (h : Pops R s f hi 0) : SrtIn R s f (f + hi) := by
  intro p q h1 h2 h3
  have := h.rest (p - f) (q - f) (by omega) (by omega) (by omega)
  rwa [show f + (p - f) = p by omega, show f + (q - f) = q by omega] at this

/-- Neighbours in order: all in order. -/
theorem SrtIn.snoc (h : SrtIn R s a i) (hi : a < i) (hl : Ahead R (at' s (i - 1)) (at' s i)) : SrtIn R s a (i + 1) := by
  intro p q h1 h2 h3
  by_cases e : q = i
  · rw [e] at h2 ⊢
    by_cases e2 : p = i - 1
    · rw [e2]; exact hl
    · exact (h p (i - 1) h1 (by omega) (by omega)).trans hl
  · exact h p q h1 h2 (by omega)
theorem SrtIn.one : SrtIn R s a (a + 1) := fun p q h1 h2 h3 => by omega
theorem SrtIn.less (h : SrtIn R s a b) {c : Nat} (hc : c ≤ b) : SrtIn R s a c := fun p q h1 h2 h3 => h p q h1 h2 (by omega)
theorem SrtIn.out (h : SrtIn R s a b) (ho : Out s s' b b') : SrtIn R s' a b := fun p q h1 h2 h3 => by
  rw [ho.out p (by omega), ho.out q (by omega)]; exact h p q h1 h2 h3
theorem SrtIn.pairwise {n : Nat} (hl : s.length = n) (h : SrtIn R s 0 n) : s.Pairwise fun p q => Ahead R p q :=
  Sorted'.pairwise hl fun p q h1 h2 => h p q (Nat.zero_le _) h1 h2
end
end Go.Proofs.YtlnikgcanimggaaGreat.Plain

namespace Go.Proofs.YtlnikgcanimggaaGreat
open Go.RowKit Go.Sort Go.Shelf Plain

/-- What a sort is handed: the comparison, and what it says of rows. -/
structure Cmp (n : Nat) (R : Nat → List Int) (g : Nat) (cb : Array Value) (cf : Nat → Nat → Int) (F : Nat) (Inv : World → Prop) (w : World) : Prop where
  ok : CmpMut w g cb n cf F Inv
  cf : ∀ x y, x < n → y < n → (cf x y < 0 ↔ cmpL (R x) (R y) < 0) ∧ (cf x y = 0 ↔ R x = R y)
  le : n ≤ 64

section
variable {w wr w' : World} {D F n blk c g : Nat} {cb : Array Value} {cf : Nat → Nat → Int} {Inv : World → Prop} {s : List Nat} {R : Nat → List Int}
theorem SortS.nodup (h : SortS w wr D F n blk c g cb Inv s) : s.Nodup := h.perm.nodup_iff.2 List.nodup_range
/-- .. behind a change of two places. -/
theorem SortS.swp (h : SortS w wr D F n blk c g cb Inv s) (hst : ∀ (W W' : World) row, W.grownBy W' row → row ≠ some F → Inv W → Inv W') {i j : Nat} (hi : i < n) (hj : j < n) :
    SortS w ((wr.setCell ⟨blk, i, none⟩ (.int .i64 (at' s j : Int))).setCell ⟨blk, j, none⟩ (.int .i64 (at' s i : Int))) D F n blk c g cb Inv (Plain.swp s i j) := by
  have hl := h.len
  have g1 := grown_put (w := wr) (g := blk) i (.int .i64 (at' s j : Int))
  have g2 := grown_put (w := wr.setCell ⟨blk, i, none⟩ (.int .i64 (at' s j : Int))) (g := blk) j (.int .i64 (at' s i : Int))
  have hne : some blk ≠ some F := by intro e; cases e; have := h.blkD; have := h.FD; omega
  have hbl : ∀ g, some blk = some g → w.heap.size ≤ g := fun g hg => by cases hg; have := h.blkD; have := h.Dw; omega
  refine ⟨?_, (h.box.kept g1 (h.box.ne_type h.own (by decide))).kept g2 ?_, grown_to (grown_to h.grown g1 hbl) g2 hbl, hst _ _ _ g2 hne (hst _ _ _ g1 hne h.inv), (swp_perm (by omega) (by omega)).trans h.perm, h.blkD, h.FD, h.Dw⟩
  · have h1 := (h.own.put i (.int .i64 (at' s j : Int))).put j (.int .i64 (at' s i : Int))
    have e : nums (Plain.swp s i j) = ((nums s).set i (.int .i64 (at' s j : Int))).set j (.int .i64 (at' s i : Int)) := by
      simp [nums, Plain.swp, List.map_set]
    rw [e]; exact h1
  · exact h.box.ne_type h.own (by decide)
/-- .. behind other memory of the call's own. -/
theorem SortS.other (h : SortS w wr D F n blk c g cb Inv s) (hst : ∀ (W W' : World) row, W.grownBy W' row → row ≠ some F → Inv W → Inv W') {row : Option Nat} (hg : wr.grownBy w' row) (hr : ∀ k, row = some k → w.heap.size ≤ k ∧ k ≠ blk ∧ k ≠ D) : SortS w w' D F n blk c g cb Inv s := by
  refine ⟨h.own.kept hg (.inr ?_), h.box.kept hg (.inr ?_), grown_to h.grown hg (fun k e => (hr k e).1), hst _ _ _ hg ?_ h.inv, h.perm, h.blkD, h.FD, h.Dw⟩
  · intro e; exact (hr blk e.symm).2.1 rfl
  · intro e; exact (hr D e.symm).2.2 rfl
  · intro e; have := (hr F e).1; have := h.FD; have := h.Dw; omega

theorem SortS.cell2 (h : SortS w wr D F n blk c g cb Inv s) {i j : Nat} (hi : i < n) (hj : j < n) (v : Value) : ∃ u, (wr.setCell ⟨blk, i, none⟩ v).cell? ⟨blk, j, none⟩ = some u := by
  have h1 := h.own.put i v
  have hl := h.len
  have hj2 : j < ((nums s).set i v).length := by simp [nums]; omega
  refine ⟨((nums s).set i v)[j], ?_⟩
  rw [h1.cell j hj2, List.getElem?_eq_getElem hj2]

/-- Two places are compared. -/
theorem less2_calls (K : Cmp n R g cb cf F Inv w) (hs : SortS w wr D F n blk c g cb Inv s) {i j : Nat} (hi : i < n) (hj : j < n) :
    Calls Tryz.prog 57 #[.int .i64 (at' s i : Int), .int .i64 (at' s j : Int), .pointer (some ⟨D, 0, none⟩)] wr fun e w' => ∃ r : Int, e = .returned (.int .i64 r) ∧ (r < 0 ↔ Ahead R (at' s i) (at' s j)) ∧ SortS w w' D F n blk c g cb Inv s ∧ wr.grownBy w' (some F) := by
  have h1 := hs.at_lt hi
  have h2 := hs.at_lt hj
  have hn := K.le
  refine (grouped1M_calls g cb (cf (at' s i) (at' s j)) D F Inv (at' s i) (at' s j) (by omega) (by omega) wr K.ok.enters K.ok.stable hs.boxcell (K.ok.calls wr hs.grown hs.inv _ _ h1 h2)).mono ?_
  rintro e w' ⟨rfl, hg, hi⟩
  exact ⟨_, rfl, (lt_ahead K.cf h1 h2), hs.cmp hg hi, hg⟩
theorem less_calls (K : Cmp n R g cb cf F Inv w) (hs : SortS w wr D F n blk c g cb Inv s) {i j : Nat} (hi : i < n) (hj : j < n) :
    Calls Tryz.prog 57 #[.int .i64 (at' s i : Int), .int .i64 (at' s j : Int), .pointer (some ⟨D, 0, none⟩)] wr fun e w' => ∃ r : Int, e = .returned (.int .i64 r) ∧ (r < 0 ↔ Ahead R (at' s i) (at' s j)) ∧ SortS w w' D F n blk c g cb Inv s :=
  (less2_calls K hs hi hj).mono fun _ _ ⟨r, h1, h2, h3, _⟩ => ⟨r, h1, h2, h3⟩
end
end Go.Proofs.YtlnikgcanimggaaGreat

namespace Go.Proofs.YtlnikgcanimggaaGreat
open Go.RowKit Go.Sort Go.Shelf Plain
section
variable {w wr w' : World} {D F n blk c g : Nat} {cb : Array Value} {cf : Nat → Nat → Int} {Inv : World → Prop} {s : List Nat} {R : Nat → List Int}
set_option maxRecDepth 100000 in
set_option maxHeartbeats 2000000 in
theorem insertR_calls (K : Cmp n R g cb cf F Inv w) (hs : SortS w wr D F n blk c g cb Inv s) (a b : Nat) (hab : a ≤ b) (hb : b ≤ n) :
    Calls Tryz.prog 88 #[.slice (some ⟨blk, 0, none⟩) n c, .int .i64 (a : Int), .int .i64 (b : Int), .func (.func 57) #[] #[.pointer (some ⟨D, 0, none⟩)]] wr fun e w' => e = .returned (.tuple #[]) ∧ ∃ s' : List Nat, Out s s' a b ∧ SrtIn R s' a b ∧ SortS w w' D F n blk c g cb Inv s' := by
  have hn := K.le
  have H0 := Lib.hid (And.intro K hs)
  have Hst := Lib.hid K.ok.stable
  clear K hs
  go_enter Tryz.func88, Tryz.ntmps88
  go_wp2
  go_loopw [8] (fun i wr => ∃ (i' : Nat) (s1 : List Nat), a + 1 ≤ i' ∧ (i' ≤ b ∨ i' = a + 1) ∧ i = .int .i64 i' ∧ SortS w wr D F n blk c g cb Inv s1 ∧ Out s s1 a b ∧ SrtIn R s1 a i') (fun i _ => b - (intOf i).toNat)
  case atStart => exact ⟨a + 1, s, by omega, by omega, by go_num, H0.out.2, Out.refl _ _ _, SrtIn.one⟩
  case round =>
    obtain ⟨i, s1, hi1, hin, rfl, hS, hO, hsrt⟩ := hrel
    have H := Lib.hid (And.intro hS (And.intro hO hsrt))
    clear hS hO hsrt
    by_cases hlt : i < b
    · go_wp2
      go_loopw [9] (fun j wr => ∃ (j' : Nat) (s2 : List Nat), a ≤ j' ∧ j' ≤ i ∧ j = .int .i64 j' ∧ SortS w wr D F n blk c g cb Inv s2 ∧ Out s s2 a b ∧ SrtX R s2 a i j') (fun j _ => (intOf j).toNat)
      case atStart => exact ⟨i, s1, by omega, by omega, rfl, H.out.1, H.out.2.1, SrtX.start H.out.2.2⟩
      case round =>
        clear H
        obtain ⟨j, s2, haj, hji, rfl, hS, hO, hsrt⟩ := hrel
        by_cases hja : a = j
        · subst hja
          have H := Lib.hid (And.intro hS (And.intro hO hsrt))
          clear hS hO hsrt
          go_wp2
          go_quiet (fail)
          go_wp2
          exact ⟨⟨i + 1, s2, by omega, by omega, by go_num, H.out.1.drewN Hst.out _, H.out.2.1, SrtX.zero H.out.2.2⟩, by simp [intOf]; omega⟩
        · have hjn : j < n := by omega
          have hc1 := hS.cell hjn
          have hc2 := hS.cell (p := j - 1) (by omega)
          have hne := hS.at_ne (p := j) (q := j - 1) hjn (by omega) (by omega)
          have hS1 := hS.drewN Hst.out 1
          have hcall := less_calls H0.out.1 hS1 (i := j) (j := j - 1) hjn (by omega)
          obtain ⟨x, hx⟩ : ∃ x, at' s2 j = x := ⟨_, rfl⟩
          obtain ⟨y, hy⟩ : ∃ x, at' s2 (j - 1) = x := ⟨_, rfl⟩
          rw [hx] at hc1 hcall hne
          rw [hy] at hc2 hcall hne
          have hw1 : IntKind.i64.wrap ((j : Int) - 1) = (j : Int) - 1 := IntWalk.i64_in _ (by omega)
          have hj00 : decide (a < j) = true := decide_eq_true (by omega)
          have hb1 : (1 : Int) ≤ (j : Int) := by omega
          have hb0 : (0 : Int) < (j : Int) := by omega
          have hb2 : (j : Int) - 1 < (n : Int) := by omega
          have hb3 : (j : Int) < (n : Int) := by omega
          have hn1 : ((j : Int) - 1).toNat = j - 1 := by omega
          have H := Lib.hid (And.intro hO (And.intro hsrt (And.intro hx (And.intro hy hne))))
          have Hc := Lib.hid hcall
          clear hS hS1 hO hsrt hx hy hne hcall
          go_wp2
          go_still_tail 14, (by kernel_rfl)
          change wpList _ _ _ _ _ (wr.drewN 1)
          go_wp2_with fail
          refine Hc.out.mono ?_
          rintro e w3 ⟨r, rfl, hr, hS3⟩
          by_cases hr0 : r < 0
          · have hr0' : decide (r < 0) = true := decide_eq_true hr0
            have hah := hr.1 hr0
            have hc1 := hS3.cell hjn
            have hc2 := hS3.cell (p := j - 1) (by omega)
            have hf1 := hS3.own.frozen j
            have hf2 := hS3.own.frozen (j - 1)
            rw [H.out.2.2.1] at hc1
            rw [H.out.2.2.2.1] at hc2
            have H3 := Lib.hid (And.intro hS3 hah)
            clear hS3 hah hr
            go_wp2
            go_region
            go_wp2
            have hsw := H3.out.1.swp Hst.out (i := j) (j := j - 1) hjn (by omega)
            rw [H.out.2.2.1, H.out.2.2.2.1] at hsw
            have hcast : (j : Int) - 1 = ((j - 1 : Nat) : Int) := by omega
            refine ⟨⟨j - 1, swp s2 j (j - 1), by omega, by omega, by rw [hcast], hsw.drewN Hst.out 1, H.out.1.trans (Out.swp (by omega) (by omega) (by omega) (by omega) (by rw [H3.out.1.len]; exact hb)), ?_⟩, by simp [intOf]; omega⟩
            refine SrtX.swap H.out.2.1 (by omega) hji (by rw [H3.out.1.len]; exact hjn) ?_
            rw [H.out.2.2.1, H.out.2.2.2.1]; exact H3.out.2
          · have hr0' : decide (r < 0) = false := decide_eq_false hr0
            have hnot := not_ahead (fun h => hr0 (hr.2 h)) H.out.2.2.2.2
            have H3 := Lib.hid (And.intro hS3 hnot)
            clear hS3 hnot hr
            go_wp2
            refine ⟨⟨i + 1, s2, by omega, by omega, by go_num, H3.out.1, H.out.1, ?_⟩, by simp [intOf]; omega⟩
            refine SrtX.stop H.out.2.1 (by omega) hji ?_
            rw [H.out.2.2.1, H.out.2.2.2.1]; exact H3.out.2
    · go_wp2
      go_end0
      exact ⟨rfl, s1, H.out.2.1, H.out.2.2.less (by omega), H.out.1⟩
end
end Go.Proofs.YtlnikgcanimggaaGreat

namespace Go.Proofs.YtlnikgcanimggaaGreat
open Go.RowKit Go.Sort Go.Shelf Plain
section
variable {w wr w' : World} {D F n blk c g : Nat} {cb : Array Value} {cf : Nat → Nat → Int} {Inv : World → Prop} {s : List Nat} {R : Nat → List Int}
set_option maxRecDepth 100000 in
set_option maxHeartbeats 4000000 in
theorem sift_calls (K : Cmp n R g cb cf F Inv w) (hs : SortS w wr D F n blk c g cb Inv s) (f lo hi : Nat) (hlo : lo ≤ n) (hfh : f + hi ≤ n) (hX : HeapX R s f lo hi lo) :
    Calls Tryz.prog 100 #[.slice (some ⟨blk, 0, none⟩) n c, .int .i64 (lo : Int), .int .i64 (hi : Int), .int .i64 (f : Int), .func (.func 57) #[] #[.pointer (some ⟨D, 0, none⟩)]] wr fun e w' => e = .returned (.tuple #[]) ∧ ∃ s' : List Nat, Out s s' (f + lo) (f + hi) ∧ Heap R s' f lo hi ∧ SortS w w' D F n blk c g cb Inv s' := by
  have hn := K.le
  have H0 := Lib.hid (And.intro K hs)
  have Hst := Lib.hid K.ok.stable
  have HX := Lib.hid hX
  clear K hs hX
  go_enter Tryz.func100, Tryz.ntmps100
  go_wp2
  go_loopw [10] (fun i wr => ∃ (r : Nat) (s1 : List Nat), (r = lo ∨ r < hi) ∧ i = .int .i64 r ∧ SortS w wr D F n blk c g cb Inv s1 ∧ Out s s1 (f + lo) (f + hi) ∧ HeapX R s1 f lo hi r) (fun i _ => hi - (intOf i).toNat)
  case atStart => exact ⟨lo, s, by omega, rfl, H0.out.2, Out.refl _ _ _, HX.out⟩
  case round =>
    clear HX
    obtain ⟨r, s1, hr, rfl, hS, hO, hX⟩ := hrel
    have hge := hX.ge
    obtain ⟨d, hd⟩ : ∃ d, d = 2 * r + 1 := ⟨_, rfl⟩
    have ed : 2 * (r : Int) + 1 = (d : Int) := by omega
    have Hd := Lib.hid hd
    have H := Lib.hid (And.intro hS (And.intro hO hX))
    by_cases hdh : d < hi
    · have hdd : 2 * (r : Int) + 1 < (hi : Int) := by omega
      by_cases hd2 : d + 1 < hi
      · obtain ⟨p, hp⟩ : ∃ p, p = f + d := ⟨_, rfl⟩
        obtain ⟨q, hq⟩ : ∃ q, q = f + d + 1 := ⟨_, rfl⟩
        have hpn : p < n := by omega
        have hqn : q < n := by omega
        have hc1 := hS.cell hpn
        have hc2 := hS.cell hqn
        have hS1 := hS.drewN Hst.out 1
        have hne := hS.at_ne hpn hqn (by omega)
        have hcall := less_calls H0.out.1 hS1 hpn hqn
        obtain ⟨x, hx⟩ : ∃ x, at' s1 p = x := ⟨_, rfl⟩
        obtain ⟨y, hy⟩ : ∃ x, at' s1 q = x := ⟨_, rfl⟩
        rw [hx] at hc1 hcall hne
        rw [hy] at hc2 hcall hne
        have hw1 : IntKind.i64.wrap ((f : Int) + (d : Int)) = (p : Int) := by rw [show (f : Int) + (d : Int) = (p : Int) by omega]; exact IntWalk.i64_in _ (by omega)
        have hw2 : IntKind.i64.wrap ((p : Int) + 1) = (q : Int) := by rw [show (p : Int) + 1 = (q : Int) by omega]; exact IntWalk.i64_in _ (by omega)
        have hw3 : IntKind.i64.wrap ((d : Int) + 1) = (d : Int) + 1 := IntWalk.i64_in _ (by omega)
        have hd2' : decide ((d : Int) + 1 < (hi : Int)) = true := decide_eq_true (by omega)
        have hp0 : (p : Int) < (n : Int) := by omega
        have hq0 : (q : Int) < (n : Int) := by omega
        have Hx := Lib.hid (And.intro hx (And.intro hy (And.intro hne (And.intro hp hq))))
        have Hc := Lib.hid hcall
        have Hed := Lib.hid ed
        clear hS hS1 hO hX hx hy hne hcall hp hq hd ed
        go_wp2
        rw [Hed.out]
        go_still_tail 19, (by kernel_rfl)
        change wpList _ _ _ _ _ (wr.drewN 1)
        go_wp2_with fail
        refine Hc.out.mono ?_
        rintro e3 w3 ⟨r1, rfl, hr1, hS3⟩
        clear hc1 hc2
        by_cases hr0 : r1 < 0
        · have hr0' : decide (r1 < 0) = true := decide_eq_true hr0
          have hah := hr1.1 hr0
          obtain ⟨e, he⟩ : ∃ e, e = d + 1 := ⟨_, rfl⟩
          have ee : (d : Int) + 1 = (e : Int) := by omega
          have hM : (e = 2 * r + 1 ∨ e = 2 * r + 2) ∧ e < hi ∧ ∀ k, (k = 2 * r + 1 ∨ k = 2 * r + 2) → k < hi → k ≠ e → Ahead R (at' s1 (f + k)) (at' s1 (f + e)) := by
            have hd0 := Hd.out
            have h5 := Hx.out
            refine ⟨by omega, by omega, fun k hk1 hk2 hk3 => ?_⟩
            obtain rfl : k = d := by omega
            rw [he, ← Nat.add_assoc, ← h5.2.2.2.2, ← h5.2.2.2.1, h5.1, h5.2.1]; exact hah
          have heh : e < hi := hM.2.1
          have HM := Lib.hid hM
          have H3 := Lib.hid hS3
          have Hee := Lib.hid ee
          clear hS3 hah hr1 hM he ee
          go_wp2
          rw [Hee.out]
          clear hw1 hw2 hw3 hp0 hq0 hpn hqn hd2' hr0'
          obtain ⟨p2, hp2⟩ : ∃ p, p = f + r := ⟨_, rfl⟩
          obtain ⟨q2, hq2⟩ : ∃ q, q = f + e := ⟨_, rfl⟩
          have hpn2 : p2 < n := by omega
          have hqn2 : q2 < n := by omega
          have hc3 := H3.out.cell hpn2
          have hc4 := H3.out.cell hqn2
          have hS4 := H3.out.drewN Hst.out 1
          have hne2 := H3.out.at_ne hpn2 hqn2 (by have := HM.out.1; omega)
          have hcall2 := less_calls H0.out.1 hS4 hpn2 hqn2
          obtain ⟨x2, hx2⟩ : ∃ x, at' s1 p2 = x := ⟨_, rfl⟩
          obtain ⟨y2, hy2⟩ : ∃ x, at' s1 q2 = x := ⟨_, rfl⟩
          rw [hx2] at hc3 hcall2 hne2
          rw [hy2] at hc4 hcall2 hne2
          have hv1 : IntKind.i64.wrap ((f : Int) + (r : Int)) = (p2 : Int) := by rw [show (f : Int) + (r : Int) = (p2 : Int) by omega]; exact IntWalk.i64_in _ (by omega)
          have hv2 : IntKind.i64.wrap ((f : Int) + (e : Int)) = (q2 : Int) := by rw [show (f : Int) + (e : Int) = (q2 : Int) by omega]; exact IntWalk.i64_in _ (by omega)
          have hp20 : (p2 : Int) < (n : Int) := by omega
          have hq20 : (q2 : Int) < (n : Int) := by omega
          have Hx2 := Lib.hid (And.intro hx2 (And.intro hy2 (And.intro hne2 (And.intro hp2 hq2))))
          have Hc2 := Lib.hid hcall2
          clear hS4 hx2 hy2 hne2 hcall2 hp2 hq2
          go_wp2
          go_still_tail 13, (by kernel_rfl)
          change wpList _ _ _ _ _ (World.drewN _ 1)
          go_wp2_with fail
          refine Hc2.out.mono ?_
          rintro e4 w4 ⟨r2, rfl, hr2, hS4⟩
          clear hc3 hc4
          by_cases hr20 : r2 < 0
          · have hr20' : decide (r2 < 0) = true := decide_eq_true hr20
            have hah := hr2.1 hr20
            have hc3 := hS4.cell hpn2
            have hc4 := hS4.cell hqn2
            have hf3 := hS4.own.frozen p2
            have hf4 := hS4.own.frozen q2
            obtain ⟨u5, hc5⟩ := hS4.cell2 hpn2 hqn2 (.int .i64 (y2 : Int))
            rw [Hx2.out.1] at hc3
            rw [Hx2.out.2.1] at hc4
            have H4 := Lib.hid (And.intro hS4 hah)
            clear hS4 hah hr2
            go_wp2
            go_region
            go_wp2
            have hsw := H4.out.1.swp Hst.out hpn2 hqn2
            rw [Hx2.out.1, Hx2.out.2.1] at hsw
            have ep := Hx2.out.2.2.2.1
            have eq := Hx2.out.2.2.2.2
            have eh := HM.out
            refine ⟨⟨e, swp s1 p2 q2, by omega, rfl, hsw.drewN Hst.out 1, H.out.2.1.trans (Out.swp (by omega) (by omega) (by omega) (by omega) (by rw [H4.out.1.len]; exact hfh)), ?_⟩, by simp [intOf]; omega⟩
            have hst := H.out.2.2.step eh.1 eh.2.1 (by rw [H4.out.1.len]; exact hfh) (by rw [← ep, ← eq, Hx2.out.1, Hx2.out.2.1]; exact H4.out.2) eh.2.2
            rw [← ep, ← eq] at hst
            exact hst
          · have hr20' : decide (r2 < 0) = false := decide_eq_false hr20
            have hnot := not_ahead (fun h => hr20 (hr2.2 h)) Hx2.out.2.2.1
            have H4 := Lib.hid (And.intro hS4 hnot)
            clear hS4 hnot hr2
            go_wp2
            refine bodyPost_ret (results_none rfl _ _ _) rfl ?_
            have ep := Hx2.out.2.2.2.1
            have eq := Hx2.out.2.2.2.2
            have eh := HM.out
            refine ⟨rfl, s1, H.out.2.1, H.out.2.2.stop fun k hk1 hk2 => ?_, H4.out.1⟩
            have hle : Ahead R (at' s1 (f + e)) (at' s1 (f + r)) := by rw [← ep, ← eq, Hx2.out.1, Hx2.out.2.1]; exact H4.out.2
            by_cases ek : k = e
            · rw [ek]; exact hle
            · exact (eh.2.2 k hk1 hk2 ek).trans hle
        · have hr0' : decide (r1 < 0) = false := decide_eq_false hr0
          have hnot := not_ahead (fun h => hr0 (hr1.2 h)) Hx.out.2.2.1
          obtain ⟨e, he⟩ : ∃ e, e = d := ⟨_, rfl⟩
          have hM : (e = 2 * r + 1 ∨ e = 2 * r + 2) ∧ e < hi ∧ ∀ k, (k = 2 * r + 1 ∨ k = 2 * r + 2) → k < hi → k ≠ e → Ahead R (at' s1 (f + k)) (at' s1 (f + e)) := by
            have hd0 := Hd.out
            have h5 := Hx.out
            refine ⟨by omega, by omega, fun k hk1 hk2 hk3 => ?_⟩
            obtain rfl : k = d + 1 := by omega
            rw [he, ← Nat.add_assoc, ← h5.2.2.2.2, ← h5.2.2.2.1, h5.1, h5.2.1]; exact hnot
          have heh : e < hi := hM.2.1
          have HM := Lib.hid hM
          have H3 := Lib.hid hS3
          subst he
          clear hS3 hnot hr1 hM
          clear hw1 hw2 hw3 hp0 hq0 hpn hqn hd2'
          obtain ⟨p2, hp2⟩ : ∃ p, p = f + r := ⟨_, rfl⟩
          obtain ⟨q2, hq2⟩ : ∃ q, q = f + e := ⟨_, rfl⟩
          have hpn2 : p2 < n := by omega
          have hqn2 : q2 < n := by omega
          have hc3 := H3.out.cell hpn2
          have hc4 := H3.out.cell hqn2
          have hS4 := H3.out.drewN Hst.out 1
          have hne2 := H3.out.at_ne hpn2 hqn2 (by have := HM.out.1; omega)
          have hcall2 := less_calls H0.out.1 hS4 hpn2 hqn2
          obtain ⟨x2, hx2⟩ : ∃ x, at' s1 p2 = x := ⟨_, rfl⟩
          obtain ⟨y2, hy2⟩ : ∃ x, at' s1 q2 = x := ⟨_, rfl⟩
          rw [hx2] at hc3 hcall2 hne2
          rw [hy2] at hc4 hcall2 hne2
          have hv1 : IntKind.i64.wrap ((f : Int) + (r : Int)) = (p2 : Int) := by rw [show (f : Int) + (r : Int) = (p2 : Int) by omega]; exact IntWalk.i64_in _ (by omega)
          have hv2 : IntKind.i64.wrap ((f : Int) + (e : Int)) = (q2 : Int) := by rw [show (f : Int) + (e : Int) = (q2 : Int) by omega]; exact IntWalk.i64_in _ (by omega)
          have hp20 : (p2 : Int) < (n : Int) := by omega
          have hq20 : (q2 : Int) < (n : Int) := by omega
          have Hx2 := Lib.hid (And.intro hx2 (And.intro hy2 (And.intro hne2 (And.intro hp2 hq2))))
          have Hc2 := Lib.hid hcall2
          clear hS4 hx2 hy2 hne2 hcall2 hp2 hq2
          go_wp2
          go_still_tail 13, (by kernel_rfl)
          change wpList _ _ _ _ _ (World.drewN _ 1)
          go_wp2_with fail
          refine Hc2.out.mono ?_
          rintro e4 w4 ⟨r2, rfl, hr2, hS4⟩
          clear hc3 hc4
          by_cases hr20 : r2 < 0
          · have hr20' : decide (r2 < 0) = true := decide_eq_true hr20
            have hah := hr2.1 hr20
            have hc3 := hS4.cell hpn2
            have hc4 := hS4.cell hqn2
            have hf3 := hS4.own.frozen p2
            have hf4 := hS4.own.frozen q2
            obtain ⟨u5, hc5⟩ := hS4.cell2 hpn2 hqn2 (.int .i64 (y2 : Int))
            rw [Hx2.out.1] at hc3
            rw [Hx2.out.2.1] at hc4
            have H4 := Lib.hid (And.intro hS4 hah)
            clear hS4 hah hr2
            go_wp2
            go_region
            go_wp2
            have hsw := H4.out.1.swp Hst.out hpn2 hqn2
            rw [Hx2.out.1, Hx2.out.2.1] at hsw
            have ep := Hx2.out.2.2.2.1
            have eq := Hx2.out.2.2.2.2
            have eh := HM.out
            refine ⟨⟨e, swp s1 p2 q2, by omega, rfl, hsw.drewN Hst.out 1, H.out.2.1.trans (Out.swp (by omega) (by omega) (by omega) (by omega) (by rw [H4.out.1.len]; exact hfh)), ?_⟩, by simp [intOf]; omega⟩
            have hst := H.out.2.2.step eh.1 eh.2.1 (by rw [H4.out.1.len]; exact hfh) (by rw [← ep, ← eq, Hx2.out.1, Hx2.out.2.1]; exact H4.out.2) eh.2.2
            rw [← ep, ← eq] at hst
            exact hst
          · have hr20' : decide (r2 < 0) = false := decide_eq_false hr20
            have hnot := not_ahead (fun h => hr20 (hr2.2 h)) Hx2.out.2.2.1
            have H4 := Lib.hid (And.intro hS4 hnot)
            clear hS4 hnot hr2
            go_wp2
            refine bodyPost_ret (results_none rfl _ _ _) rfl ?_
            have ep := Hx2.out.2.2.2.1
            have eq := Hx2.out.2.2.2.2
            have eh := HM.out
            refine ⟨rfl, s1, H.out.2.1, H.out.2.2.stop fun k hk1 hk2 => ?_, H4.out.1⟩
            have hle : Ahead R (at' s1 (f + e)) (at' s1 (f + r)) := by rw [← ep, ← eq, Hx2.out.1, Hx2.out.2.1]; exact H4.out.2
            by_cases ek : k = e
            · rw [ek]; exact hle
            · exact (eh.2.2 k hk1 hk2 ek).trans hle
      · have hd2' : decide ((d : Int) + 1 < (hi : Int)) = false := decide_eq_false (by omega)
        obtain ⟨e, he⟩ : ∃ e, e = d := ⟨_, rfl⟩
        have hM : (e = 2 * r + 1 ∨ e = 2 * r + 2) ∧ e < hi ∧ ∀ k, (k = 2 * r + 1 ∨ k = 2 * r + 2) → k < hi → k ≠ e → Ahead R (at' s1 (f + k)) (at' s1 (f + e)) :=
          ⟨by omega, by omega, fun k hk1 hk2 hk3 => by omega⟩
        have heh : e < hi := hM.2.1
        have hw3 : IntKind.i64.wrap ((d : Int) + 1) = (d : Int) + 1 := IntWalk.i64_in _ (by omega)
        have HM := Lib.hid hM
        have Hed := Lib.hid ed
        subst he
        clear hS hO hX hd ed hM
        go_wp2
        rw [Hed.out]
        go_quiet (fail)
        generalize hwq : wr.drewN _ = w3
        have H3 := Lib.hid (show SortS w w3 D F n blk c g cb Inv s1 by rw [← hwq]; exact H.out.1.drewN Hst.out _)
        clear hwq
        clear hw3 hd2'
        obtain ⟨p2, hp2⟩ : ∃ p, p = f + r := ⟨_, rfl⟩
        obtain ⟨q2, hq2⟩ : ∃ q, q = f + e := ⟨_, rfl⟩
        have hpn2 : p2 < n := by omega
        have hqn2 : q2 < n := by omega
        have hc3 := H3.out.cell hpn2
        have hc4 := H3.out.cell hqn2
        have hS4 := H3.out.drewN Hst.out 1
        have hne2 := H3.out.at_ne hpn2 hqn2 (by have := HM.out.1; omega)
        have hcall2 := less_calls H0.out.1 hS4 hpn2 hqn2
        obtain ⟨x2, hx2⟩ : ∃ x, at' s1 p2 = x := ⟨_, rfl⟩
        obtain ⟨y2, hy2⟩ : ∃ x, at' s1 q2 = x := ⟨_, rfl⟩
        rw [hx2] at hc3 hcall2 hne2
        rw [hy2] at hc4 hcall2 hne2
        have hv1 : IntKind.i64.wrap ((f : Int) + (r : Int)) = (p2 : Int) := by rw [show (f : Int) + (r : Int) = (p2 : Int) by omega]; exact IntWalk.i64_in _ (by omega)
        have hv2 : IntKind.i64.wrap ((f : Int) + (e : Int)) = (q2 : Int) := by rw [show (f : Int) + (e : Int) = (q2 : Int) by omega]; exact IntWalk.i64_in _ (by omega)
        have hp20 : (p2 : Int) < (n : Int) := by omega
        have hq20 : (q2 : Int) < (n : Int) := by omega
        have Hx2 := Lib.hid (And.intro hx2 (And.intro hy2 (And.intro hne2 (And.intro hp2 hq2))))
        have Hc2 := Lib.hid hcall2
        clear hS4 hx2 hy2 hne2 hcall2 hp2 hq2
        go_wp2
        go_still_tail 13, (by kernel_rfl)
        change wpList _ _ _ _ _ (World.drewN _ 1)
        go_wp2_with fail
        refine Hc2.out.mono ?_
        rintro e4 w4 ⟨r2, rfl, hr2, hS4⟩
        clear hc3 hc4
        by_cases hr20 : r2 < 0
        · have hr20' : decide (r2 < 0) = true := decide_eq_true hr20
          have hah := hr2.1 hr20
          have hc3 := hS4.cell hpn2
          have hc4 := hS4.cell hqn2
          have hf3 := hS4.own.frozen p2
          have hf4 := hS4.own.frozen q2
          obtain ⟨u5, hc5⟩ := hS4.cell2 hpn2 hqn2 (.int .i64 (y2 : Int))
          rw [Hx2.out.1] at hc3
          rw [Hx2.out.2.1] at hc4
          have H4 := Lib.hid (And.intro hS4 hah)
          clear hS4 hah hr2
          go_wp2
          go_region
          go_wp2
          have hsw := H4.out.1.swp Hst.out hpn2 hqn2
          rw [Hx2.out.1, Hx2.out.2.1] at hsw
          have ep := Hx2.out.2.2.2.1
          have eq := Hx2.out.2.2.2.2
          have eh := HM.out
          refine ⟨⟨e, swp s1 p2 q2, by omega, rfl, hsw.drewN Hst.out 1, H.out.2.1.trans (Out.swp (by omega) (by omega) (by omega) (by omega) (by rw [H4.out.1.len]; exact hfh)), ?_⟩, by simp [intOf]; omega⟩
          have hst := H.out.2.2.step eh.1 eh.2.1 (by rw [H4.out.1.len]; exact hfh) (by rw [← ep, ← eq, Hx2.out.1, Hx2.out.2.1]; exact H4.out.2) eh.2.2
          rw [← ep, ← eq] at hst
          exact hst
        · have hr20' : decide (r2 < 0) = false := decide_eq_false hr20
          have hnot := not_ahead (fun h => hr20 (hr2.2 h)) Hx2.out.2.2.1
          have H4 := Lib.hid (And.intro hS4 hnot)
          clear hS4 hnot hr2
          go_wp2
          refine bodyPost_ret (results_none rfl _ _ _) rfl ?_
          have ep := Hx2.out.2.2.2.1
          have eq := Hx2.out.2.2.2.2
          have eh := HM.out
          refine ⟨rfl, s1, H.out.2.1, H.out.2.2.stop fun k hk1 hk2 => ?_, H4.out.1⟩
          have hle : Ahead R (at' s1 (f + e)) (at' s1 (f + r)) := by rw [← ep, ← eq, Hx2.out.1, Hx2.out.2.1]; exact H4.out.2
          by_cases ek : k = e
          · rw [ek]; exact hle
          · exact (eh.2.2 k hk1 hk2 ek).trans hle
    · have hdd : ¬ 2 * (r : Int) + 1 < (hi : Int) := by omega
      clear hS hO hX hd ed
      go_wp2
      go_end0
      have hd0 := Hd.out
      exact ⟨rfl, s1, H.out.2.1, H.out.2.2.stop (fun k hk1 hk2 => by omega), H.out.1⟩
end
end Go.Proofs.YtlnikgcanimggaaGreat

namespace Go.Proofs.YtlnikgcanimggaaGreat
open Go.RowKit Go.Sort Go.Shelf Plain
section
variable {w wr w' : World} {D F n blk c g : Nat} {cb : Array Value} {cf : Nat → Nat → Int} {Inv : World → Prop} {s : List Nat} {R : Nat → List Int}
set_option maxRecDepth 100000 in
set_option maxHeartbeats 4000000 in
theorem heap_calls (K : Cmp n R g cb cf F Inv w) (hs : SortS w wr D F n blk c g cb Inv s) (a b : Nat) (hab : a < b) (hb : b ≤ n) :
    Calls Tryz.prog 89 #[.slice (some ⟨blk, 0, none⟩) n c, .int .i64 (a : Int), .int .i64 (b : Int), .func (.func 57) #[] #[.pointer (some ⟨D, 0, none⟩)]] wr fun e w' => e = .returned (.tuple #[]) ∧ ∃ s' : List Nat, Out s s' a b ∧ SrtIn R s' a b ∧ SortS w w' D F n blk c g cb Inv s' := by
  have hn := K.le
  have H0 := Lib.hid (And.intro K hs)
  have Hst := Lib.hid K.ok.stable
  clear K hs
  obtain ⟨hi, hhi⟩ : ∃ hi, hi = b - a := ⟨_, rfl⟩
  have ehi : (b : Int) - (a : Int) = (hi : Int) := by omega
  obtain ⟨k0, hk0⟩ : ∃ k, k = (hi - 1) / 2 := ⟨_, rfl⟩
  have ek0 : ((hi : Int) - 1) / 2 = (k0 : Int) := by omega
  have hh1 : (1 : Int) ≤ hi := by omega
  have hh64 : hi ≤ 64 := by omega
  have hkk : k0 ≤ 64 := by omega
  have hafh : a + hi ≤ n := by omega
  have hbu : a + hi ≤ b := by omega
  have hbl : b ≤ a + hi := by omega
  have hk0n : k0 ≤ n := by omega
  have hbb : a + hi = b := by omega
  have Hhi := Lib.hid (And.intro ehi (And.intro ek0 (And.intro hhi (And.intro hk0 hbb))))
  clear hhi hk0 ehi ek0 hbb
  go_enter Tryz.func89, Tryz.ntmps89
  go_wp2
  rw [Hhi.out.1]
  rw [Hhi.out.2.1]
  go_loopw [11] (fun i wr => ∃ (k : Nat) (s1 : List Nat), k ≤ k0 + 1 ∧ i = .int .i64 ((k : Int) - 1) ∧ SortS w wr D F n blk c g cb Inv s1 ∧ Out s s1 a b ∧ Heap R s1 a k hi) (fun i _ => (intOf i + 1).toNat)
  case atStart => exact ⟨k0 + 1, s, Nat.le_refl _, by go_num, H0.out.2, Out.refl _ _ _, Heap.leaves (by have := Hhi.out; omega)⟩
  case round =>
    obtain ⟨k, s1, hk, hu, hS, hO, hH⟩ := hrel
    by_cases hk1 : k = 0
    · subst hk1
      rw [show ((0 : Nat) : Int) - 1 = -1 from rfl] at hu
      subst hu
      have H := Lib.hid (And.intro hS (And.intro hO hH))
      clear hS hO hH
      go_wp2
      go_loopw [12] (fun i wr => ∃ (k : Nat) (s1 : List Nat), k ≤ hi ∧ i = .int .i64 ((k : Int) - 1) ∧ SortS w wr D F n blk c g cb Inv s1 ∧ Out s s1 a b ∧ Pops R s1 a hi k) (fun i _ => (intOf i + 1).toNat)
      case atStart => exact ⟨hi, s1, Nat.le_refl _, rfl, H.out.1, H.out.2.1, Pops.start H.out.2.2⟩
      case round =>
        clear H
        obtain ⟨k, s1, hk, hu, hS, hO, hH⟩ := hrel
        by_cases hk1 : k = 0
        · subst hk1
          rw [show ((0 : Nat) : Int) - 1 = -1 from rfl] at hu
          subst hu
          have H := Lib.hid (And.intro hS (And.intro hO hH))
          clear hS hO hH
          go_wp2
          go_end0
          refine ⟨rfl, s1, H.out.2.1, ?_, H.out.1⟩
          have h := H.out.2.2.done
          rwa [Hhi.out.2.2.2.2] at h
        · obtain ⟨m, rfl⟩ : ∃ m, k = m + 1 := ⟨k - 1, by omega⟩
          rw [show ((m + 1 : Nat) : Int) - 1 = (m : Int) by omega] at hu
          subst hu
          obtain ⟨q, hq⟩ : ∃ q, q = a + m := ⟨_, rfl⟩
          have han : a < n := by omega
          have hqn : q < n := by omega
          have hc1 := hS.cell han
          have hc2 := hS.cell hqn
          have hf1 := hS.own.frozen a
          have hf2 := hS.own.frozen q
          have hsw := hS.swp Hst.out han hqn
          have hsz := hS.len
          have hsz2 : a + hi ≤ s1.length := by omega
          have hpp := hH.swap hsz2
          have hO2 := hO.trans (Out.swp (Nat.le_refl a) (by omega : a < b) (by omega : a ≤ q) (by omega : q < b) (by omega))
          obtain ⟨x, hx⟩ : ∃ x, at' s1 a = x := ⟨_, rfl⟩
          obtain ⟨y, hy⟩ : ∃ x, at' s1 q = x := ⟨_, rfl⟩
          rw [hx] at hc1 hsw
          rw [hy] at hc2 hsw
          rw [← hq] at hpp
          obtain ⟨u5, hc5⟩ := hS.cell2 han hqn (.int .i64 (y : Int))
          have hw1 : IntKind.i64.wrap ((a : Int) + (m : Int)) = (q : Int) := by rw [show (a : Int) + (m : Int) = (q : Int) by omega]; exact IntWalk.i64_in _ (by omega)
          have hq0 : (q : Int) < (n : Int) := by omega
          have ha0 : (a : Int) < (n : Int) := by omega
          have hsl := hsw.len
          have hcall := sift_calls H0.out.1 (hsw.drewN Hst.out 1) a 0 m (Nat.zero_le _) (by omega) (HeapX.start hpp.1)
          rw [show ((0 : Nat) : Int) = 0 from rfl] at hcall
          have H := Lib.hid (And.intro hO2 (And.intro hpp.2 (And.intro hq (And.intro hsw.nodup hsl))))
          have Hc := Lib.hid hcall
          clear hS hO hH hsw hpp hO2 hx hy hcall hq hsz hsl hsz2
          go_wp2
          go_region
          go_wp2_with fail
          refine Hc.out.mono ?_
          rintro e3 w3 ⟨rfl, s3, hO3, hH3, hS3⟩
          have H3 := Lib.hid (And.intro hO3 (And.intro hH3 hS3))
          clear hO3 hH3 hS3 hc1 hc2 hc5 hf1 hf2 hw1
          go_wp2
          have hO3 := H3.out.1
          have hqq := H.out.2.2.1
          exact ⟨⟨m, s3, by omega, rfl, H3.out.2.2, H.out.1.trans (hO3.mono (by omega) (by omega)), Pops.next H.out.2.2.2.1 (by rw [H.out.2.2.2.2]; omega) (by omega) H.out.2.1 hO3 H3.out.2.1⟩, by simp [intOf]⟩
    · obtain ⟨m, rfl⟩ : ∃ m, k = m + 1 := ⟨k - 1, by omega⟩
      rw [show ((m + 1 : Nat) : Int) - 1 = (m : Int) by omega] at hu
      subst hu
      have hcall := sift_calls H0.out.1 hS a m hi (by omega) hafh (HeapX.start hH)
      have H := Lib.hid (And.intro hO hcall)
      clear hS hO hH hcall
      go_wp2_with fail
      refine H.out.2.mono ?_
      rintro e3 w3 ⟨rfl, s3, hO3, hH3, hS3⟩
      have H3 := Lib.hid (And.intro hO3 (And.intro hH3 hS3))
      clear hO3 hH3 hS3
      go_wp2
      have hbb := Hhi.out.2.2.2.2
      exact ⟨⟨m, s3, by omega, rfl, H3.out.2.2, H.out.1.trans (H3.out.1.mono (by omega) (by omega)), H3.out.2.1⟩, by simp [intOf]⟩

set_option maxRecDepth 100000 in
set_option maxHeartbeats 4000000 in
theorem rev_calls (K : Cmp n R g cb cf F Inv w) (hs : SortS w wr D F n blk c g cb Inv s) (a b : Nat) (hab : a < b) (hb : b ≤ n) :
    Calls Tryz.prog 92 #[.slice (some ⟨blk, 0, none⟩) n c, .int .i64 (a : Int), .int .i64 (b : Int), .func (.func 57) #[] #[.pointer (some ⟨D, 0, none⟩)]] wr fun e w' => e = .returned (.tuple #[]) ∧ ∃ s' : List Nat, Out s s' a b ∧ SortS w w' D F n blk c g cb Inv s' := by
  have hn := K.le
  have H0 := Lib.hid hs
  have Hst := Lib.hid K.ok.stable
  clear K hs
  have hb1 : (1 : Int) ≤ b := by omega
  go_enter Tryz.func92, Tryz.ntmps92
  go_wp2
  go_loopw [8, 9] (fun i j wr => ∃ (i' j' : Nat) (s1 : List Nat), a ≤ i' ∧ j' < b ∧ i' ≤ j' + 1 ∧ i = .int .i64 i' ∧ j = .int .i64 j' ∧ SortS w wr D F n blk c g cb Inv s1 ∧ Out s s1 a b) (fun i j _ => (intOf j - intOf i + 1).toNat)
  case atStart => exact ⟨a, b - 1, s, by omega, by omega, by omega, rfl, by rw [show (b : Int) - 1 = ((b - 1 : Nat) : Int) by omega], H0.out, Out.refl _ _ _⟩
  case round =>
    obtain ⟨i, j, s1, hai, hjb, hij, rfl, rfl, hS, hO⟩ := hrel
    by_cases hlt : i < j
    · have hlt' : decide (i < j) = true := decide_eq_true hlt
      have hin : i < n := by omega
      have hjn : j < n := by omega
      have hc1 := hS.cell hin
      have hc2 := hS.cell hjn
      have hf1 := hS.own.frozen i
      have hf2 := hS.own.frozen j
      have hsw := hS.swp Hst.out hin hjn
      have hsz := hS.len
      have hO2 := hO.trans (Out.swp hai (by omega) (by omega : a ≤ j) hjb (by omega))
      obtain ⟨x, hx⟩ : ∃ x, at' s1 i = x := ⟨_, rfl⟩
      obtain ⟨y, hy⟩ : ∃ x, at' s1 j = x := ⟨_, rfl⟩
      rw [hx] at hc1 hsw
      rw [hy] at hc2 hsw
      obtain ⟨u5, hc5⟩ := hS.cell2 hin hjn (.int .i64 (y : Int))
      have hi0 : (i : Int) < (n : Int) := by omega
      have hj0 : (j : Int) < (n : Int) := by omega
      have hj1 : (1 : Int) ≤ (j : Int) := by omega
      have H := Lib.hid (And.intro hO2 hsw)
      clear hS hO hsw hO2 hx hy hsz
      go_wp2
      go_region
      go_wp2
      exact ⟨⟨i + 1, j - 1, swp s1 i j, by omega, by omega, by omega, by go_num, by rw [show (j : Int) - 1 = ((j - 1 : Nat) : Int) by omega], H.out.2.drewN Hst.out 1, H.out.1⟩, by simp [intOf]; omega⟩
    · have hlt' : decide (i < j) = false := decide_eq_false hlt
      have H := Lib.hid (And.intro hO hS)
      clear hS hO
      go_wp2
      go_end0
      exact ⟨rfl, s1, H.out⟩
end
end Go.Proofs.YtlnikgcanimggaaGreat

namespace Go.Proofs.YtlnikgcanimggaaGreat
open Go.RowKit Go.Sort Go.Shelf Plain
section
variable {w wr w' : World} {D F n blk c g S : Nat} {cb : Array Value} {cf : Nat → Nat → Int} {Inv : World → Prop} {s : List Nat} {R : Nat → List Int}
/-- The count of changes, in memory of its own. -/
def SwB (w wr : World) (D blk S : Nat) : Prop := ∃ k : Int, Own wr w.heap.size (.slice (some ⟨S, 0, none⟩) 1 1) 3 [.int .i64 k] ∧ S ≠ blk ∧ S ≠ D
theorem SwB.kept (h : SwB w wr D blk S) {row : Option Nat} (hg : wr.grownBy w' row) (hne : row ≠ some S) : SwB w w' D blk S := by
  obtain ⟨k, ho, h1, h2⟩ := h
  exact ⟨k, ho.kept hg (.inr (fun e => hne e.symm)), h1, h2⟩
theorem SwB.lt (h : SwB w wr D blk S) : w.heap.size ≤ S := by
  obtain ⟨k, ho, h1, h2⟩ := h
  obtain ⟨g, e, h3, _⟩ := ho.at_form (by omega)
  cases e; exact h3
theorem SwB.cell (h : SwB w wr D blk S) : ∃ k : Int, wr.cell? ⟨S, 0, none⟩ = some (.int .i64 k) := by
  obtain ⟨k, ho, h1, h2⟩ := h
  exact ⟨k, by rw [ho.cell 0 (by simp)]; rfl⟩
theorem SwB.frozen (h : SwB w wr D blk S) : wr.frozen? ⟨S, 0, none⟩ = false := by
  obtain ⟨k, ho, h1, h2⟩ := h
  exact ho.frozen 0
theorem SwB.put (h : SwB w wr D blk S) (k : Int) : SwB w (wr.setCell ⟨S, 0, none⟩ (.int .i64 k)) D blk S := by
  obtain ⟨k0, ho, h1, h2⟩ := h
  exact ⟨k, ho.put 0 (.int .i64 k), h1, h2⟩
set_option maxRecDepth 100000 in
set_option maxHeartbeats 4000000 in
theorem order2_calls (K : Cmp n R g cb cf F Inv w) (hs : SortS w wr D F n blk c g cb Inv s) (hS : SwB w wr D blk S) (a b : Nat) (ha : a < n) (hb : b < n) :
    Calls Tryz.prog 104 #[.slice (some ⟨blk, 0, none⟩) n c, .int .i64 (a : Int), .int .i64 (b : Int), .pointer (some ⟨S, 0, none⟩), .func (.func 57) #[] #[.pointer (some ⟨D, 0, none⟩)]] wr fun e w' => ∃ p q : Nat, e = .returned (.tuple #[.int .i64 p, .int .i64 q]) ∧ (p = a ∧ q = b ∨ p = b ∧ q = a) ∧ SortS w w' D F n blk c g cb Inv s ∧ SwB w w' D blk S := by
  have hn := K.le
  have Hst := Lib.hid K.ok.stable
  have hFw := K.ok.lt
  have hSl := hS.lt
  have hc1 := hs.cell ha
  have hc2 := hs.cell hb
  have hcall := less2_calls K (hs.drewN K.ok.stable 1) hb ha
  have H0 := Lib.hid (And.intro K (And.intro hs hS))
  clear K hs hS
  obtain ⟨x, hx⟩ : ∃ x, at' s a = x := ⟨_, rfl⟩
  obtain ⟨y, hy⟩ : ∃ x, at' s b = x := ⟨_, rfl⟩
  rw [hx] at hc1 hcall
  rw [hy] at hc2 hcall
  have ha0 : (a : Int) < (n : Int) := by omega
  have hb0 : (b : Int) < (n : Int) := by omega
  have Hc := Lib.hid hcall
  clear hx hy hcall
  go_enter Tryz.func104, Tryz.ntmps104
  go_wp2
  go_still_tail 9, (by kernel_rfl)
  change wpList _ _ _ _ _ (World.drewN _ 1)
  go_wp2_with fail
  refine Hc.out.mono ?_
  rintro e3 w3 ⟨r, rfl, hr, hS3, hg3⟩
  have hB3 := H0.out.2.2.kept ((grown_drewN wr 1 (some F)).trans hg3) (by intro e; cases e; omega)
  clear hc1 hc2
  by_cases hr0 : r < 0
  · have hr0' : decide (r < 0) = true := decide_eq_true hr0
    obtain ⟨k, hk⟩ := hB3.cell
    have hf := hB3.frozen
    have H3 := Lib.hid (And.intro hS3 hB3)
    clear hS3 hB3 hg3 hr
    go_wp2
    go_ret2
    refine ⟨b, a, rfl, .inr ⟨rfl, rfl⟩, H3.out.1.other Hst.out (grown_put 0 _) (fun k e => ?_), H3.out.2.put _⟩
    cases e
    obtain ⟨_, _, h1, h2⟩ := H3.out.2
    exact ⟨hSl, h1, h2⟩
  · have hr0' : decide (r < 0) = false := decide_eq_false hr0
    have H3 := Lib.hid (And.intro hS3 hB3)
    clear hS3 hB3 hg3 hr
    go_wp2
    go_ret2
    exact ⟨a, b, rfl, .inl ⟨rfl, rfl⟩, H3.out⟩

set_option maxRecDepth 100000 in
set_option maxHeartbeats 4000000 in
theorem median_calls (K : Cmp n R g cb cf F Inv w) (hs : SortS w wr D F n blk c g cb Inv s) (hS : SwB w wr D blk S) (x y z : Nat) (hx : x < n) (hy : y < n) (hz : z < n) :
    Calls Tryz.prog 102 #[.slice (some ⟨blk, 0, none⟩) n c, .int .i64 (x : Int), .int .i64 (y : Int), .int .i64 (z : Int), .pointer (some ⟨S, 0, none⟩), .func (.func 57) #[] #[.pointer (some ⟨D, 0, none⟩)]] wr fun e w' => ∃ p : Nat, e = .returned (.int .i64 p) ∧ (p = x ∨ p = y ∨ p = z) ∧ SortS w w' D F n blk c g cb Inv s ∧ SwB w w' D blk S := by
  have H0 := Lib.hid (And.intro K (And.intro hs hS))
  clear K hs hS
  go_enter Tryz.func102, Tryz.ntmps102
  go_wp2_with fail
  refine (order2_calls H0.out.1 H0.out.2.1 H0.out.2.2 x y hx hy).mono ?_
  rintro e1 w1 ⟨p1, q1, rfl, h1, hS1, hB1⟩
  have H1 := Lib.hid (And.intro hS1 hB1)
  have hp1 : p1 < n := by omega
  have hq1 : q1 < n := by omega
  have M1 := Lib.hid h1
  clear hS1 hB1 h1
  go_wp2_with fail
  refine (order2_calls H0.out.1 H1.out.1 H1.out.2 q1 z hq1 hz).mono ?_
  rintro e2 w2 ⟨p2, q2, rfl, h2, hS2, hB2⟩
  have H2 := Lib.hid (And.intro hS2 hB2)
  have hp2 : p2 < n := by omega
  have M2 := Lib.hid h2
  clear hS2 hB2 h2 H1
  go_wp2_with fail
  refine (order2_calls H0.out.1 H2.out.1 H2.out.2 p1 p2 hp1 hp2).mono ?_
  rintro e3 w3 ⟨p3, q3, rfl, h3, hS3, hB3⟩
  have H3 := Lib.hid (And.intro hS3 hB3)
  have M3 := Lib.hid h3
  clear hS3 hB3 h3 H2
  go_wp2
  go_ret
  have m1 := M1.out; have m2 := M2.out; have m3 := M3.out
  exact ⟨q3, rfl, by omega, H3.out⟩

set_option maxRecDepth 100000 in
set_option maxHeartbeats 4000000 in
theorem adj_calls (K : Cmp n R g cb cf F Inv w) (hs : SortS w wr D F n blk c g cb Inv s) (hS : SwB w wr D blk S) (y : Nat) (hy : 1 ≤ y) (hy1 : y + 1 < n) :
    Calls Tryz.prog 101 #[.slice (some ⟨blk, 0, none⟩) n c, .int .i64 (y : Int), .pointer (some ⟨S, 0, none⟩), .func (.func 57) #[] #[.pointer (some ⟨D, 0, none⟩)]] wr fun e w' => ∃ p : Nat, e = .returned (.int .i64 p) ∧ (p = y - 1 ∨ p = y ∨ p = y + 1) ∧ SortS w w' D F n blk c g cb Inv s ∧ SwB w w' D blk S := by
  have hn := K.le
  have hm := median_calls K hs hS (y - 1) y (y + 1) (by omega) (by omega) hy1
  rw [show ((y - 1 : Nat) : Int) = (y : Int) - 1 by omega, show ((y + 1 : Nat) : Int) = (y : Int) + 1 by omega] at hm
  have Hm := Lib.hid hm
  have hy2 : (1 : Int) ≤ (y : Int) := by omega
  clear hm K hs hS
  go_enter Tryz.func101, Tryz.ntmps101
  go_wp2_with fail
  refine Hm.out.mono ?_
  rintro e1 w1 ⟨p, rfl, h1, h2⟩
  have H1 := Lib.hid h2
  have M1 := Lib.hid h1
  clear h1 h2
  go_wp2
  go_ret
  exact ⟨p, rfl, M1.out, H1.out⟩

set_option maxRecDepth 100000 in
set_option maxHeartbeats 4000000 in
theorem pivot_calls (K : Cmp n R g cb cf F Inv w) (hs : SortS w wr D F n blk c g cb Inv s) (a b : Nat) (hab : a + 12 < b) (hb : b ≤ n) :
    Calls Tryz.prog 91 #[.slice (some ⟨blk, 0, none⟩) n c, .int .i64 (a : Int), .int .i64 (b : Int), .func (.func 57) #[] #[.pointer (some ⟨D, 0, none⟩)]] wr fun e w' => ∃ p h : Nat, e = .returned (.tuple #[.int .i64 p, .int .i64 h]) ∧ a ≤ p ∧ p < b ∧ h ≤ 2 ∧ SortS w w' D F n blk c g cb Inv s := by
  have hn := K.le
  have H0 := Lib.hid K
  have Hst := Lib.hid K.ok.stable
  have hown := Own.new (w := wr) (B := w.heap.size) 3 [.int .i64 0] hs.grown.size (by unfold maxLen; simp)
  obtain ⟨S, hSe⟩ : ∃ S, S = wr.heap.size := ⟨_, rfl⟩
  have hSl : w.heap.size ≤ S := by rw [hSe]; exact hs.grown.size
  have hblk : blk < wr.heap.size := by
    obtain ⟨g9, e, _, h, _⟩ := hs.own.at_form (by omega)
    cases e; exact h
  have hDl : D < wr.heap.size := by
    obtain ⟨g9, e, _, h, _⟩ := hs.box.at_form (by omega)
    cases e; exact h
  have hB : SwB w (wr.alloc (.cells #[.int .i64 0] 3)) D blk S := ⟨0, by rw [hSe]; exact hown, by omega, by omega⟩
  have hS1 := hs.other Hst.out (grown_alloc wr (.cells #[.int .i64 0] 3) none) (fun k e => by cases e)
  have H1 := Lib.hid (And.intro hS1 hB)
  have HS := Lib.hid hSe
  clear hs K hown hB hS1 hSe
  obtain ⟨l, hl⟩ : ∃ l, l = b - a := ⟨_, rfl⟩
  obtain ⟨m, hm⟩ : ∃ m, m = l / 4 := ⟨_, rfl⟩
  have e1 : (b : Int) - (a : Int) = (l : Int) := by omega
  have e2 : (l : Int) / 4 = (m : Int) := by omega
  obtain ⟨i, hi⟩ : ∃ i, i = a + m := ⟨_, rfl⟩
  obtain ⟨j, hj⟩ : ∃ i, i = a + m * 2 := ⟨_, rfl⟩
  obtain ⟨k, hk⟩ : ∃ i, i = a + m * 3 := ⟨_, rfl⟩
  have e3 : (a : Int) + (m : Int) = (i : Int) := by omega
  have e4 : (a : Int) + (m : Int) * 2 = (j : Int) := by omega
  have e5 : (a : Int) + (m : Int) * 3 = (k : Int) := by omega
  have hlm : l ≤ 64 := by omega
  have hl12 : 12 < l := by omega
  have hi1 : a ≤ i := by omega
  have hk1 : k < b := by omega
  have hm16 : m ≤ 16 := by omega
  have HE := Lib.hid (And.intro e1 (And.intro e2 (And.intro e3 (And.intro e4 (And.intro e5 (And.intro hl (And.intro hm (And.intro hi (And.intro hj hk)))))))))
  clear e1 e2 e3 e4 e5 hl hm hi hj hk
  have hin : i + 1 < b := by have := HE.out; omega
  have hjn : j + 1 < b := by have := HE.out; omega
  have hj1 : a + 1 ≤ j := by have := HE.out; omega
  have hi2 : a + 1 ≤ i := by have := HE.out; omega
  have hk2 : a + 1 ≤ k := by have := HE.out; omega
  by_cases h50 : 50 ≤ (b : Int) - (a : Int)
  · have hk3 : k + 1 < b := by have := HE.out; omega
    go_enter Tryz.func91, Tryz.ntmps91
    go_wp2_with fail
    rw [HE.out.1, HE.out.2.1, HE.out.2.2.1, HE.out.2.2.2.1, HE.out.2.2.2.2.1, ← HS.out]
    refine (adj_calls H0.out H1.out.1 H1.out.2 i (by omega) (by omega)).mono ?_
    rintro e1 w1 ⟨p1, rfl, h1, h2⟩
    have HA := Lib.hid h2
    have hp1 : a ≤ p1 ∧ p1 < b := by omega
    clear h1 h2 H1
    go_wp2_with fail
    refine (adj_calls H0.out HA.out.1 HA.out.2 j (by omega) (by omega)).mono ?_
    rintro e2 w2 ⟨p2, rfl, h1, h2⟩
    have HC := Lib.hid h2
    have hp2 : a ≤ p2 ∧ p2 < b := by omega
    clear h1 h2 HA
    go_wp2_with fail
    refine (adj_calls H0.out HC.out.1 HC.out.2 k (by omega) (by omega)).mono ?_
    rintro e3 w3 ⟨p3, rfl, h1, h2⟩
    have HG := Lib.hid h2
    have hp3 : a ≤ p3 ∧ p3 < b := by omega
    clear h1 h2 HC
    go_wp2_with fail
    refine (median_calls H0.out HG.out.1 HG.out.2 p1 p2 p3 (by omega) (by omega) (by omega)).mono ?_
    rintro e4 w4 ⟨q, rfl, h1, h2⟩
    have HZ := Lib.hid h2
    have hq : a ≤ q ∧ q < b := by omega
    clear h1 h2 HG
    obtain ⟨kk, hkk⟩ := HZ.out.2.cell
    by_cases hk0 : kk = 0
    · subst hk0
      go_wp2
      go_ret2
      exact ⟨q, 1, rfl, by omega, by omega, by omega, HZ.out.1⟩
    · by_cases hk12 : kk = 12
      · subst hk12
        go_wp2
        go_ret2
        exact ⟨q, 2, rfl, by omega, by omega, by omega, HZ.out.1⟩
      · have hk0' : (kk == 0) = false := by simpa using hk0
        have hk12' : (kk == 12) = false := by simpa using hk12
        go_wp2
        go_ret2
        exact ⟨q, 0, rfl, by omega, by omega, by omega, HZ.out.1⟩
  · go_enter Tryz.func91, Tryz.ntmps91
    go_wp2_with fail
    rw [HE.out.1, HE.out.2.1, HE.out.2.2.1, HE.out.2.2.2.1, HE.out.2.2.2.2.1, ← HS.out]
    refine (median_calls H0.out H1.out.1 H1.out.2 i j k (by omega) (by omega) (by omega)).mono ?_
    rintro e4 w4 ⟨q, rfl, h1, h2⟩
    have HZ := Lib.hid h2
    have hq : a ≤ q ∧ q < b := by omega
    clear h1 h2 H1
    obtain ⟨kk, hkk⟩ := HZ.out.2.cell
    by_cases hk0 : kk = 0
    · subst hk0
      go_wp2
      go_ret2
      exact ⟨q, 1, rfl, by omega, by omega, by omega, HZ.out.1⟩
    · by_cases hk12 : kk = 12
      · subst hk12
        go_wp2
        go_ret2
        exact ⟨q, 2, rfl, by omega, by omega, by omega, HZ.out.1⟩
      · have hk0' : (kk == 0) = false := by simpa using hk0
        have hk12' : (kk == 12) = false := by simpa using hk12
        go_wp2
        go_ret2
        exact ⟨q, 0, rfl, by omega, by omega, by omega, HZ.out.1⟩
end
end Go.Proofs.YtlnikgcanimggaaGreat

namespace Go.Proofs.YtlnikgcanimggaaGreat
open Go.RowKit Go.Sort Go.Shelf Plain
section
variable {w wr w' : World} {D F n blk c g X : Nat} {cb : Array Value} {cf : Nat → Nat → Int} {Inv : World → Prop} {s : List Nat} {R : Nat → List Int}
/-- The number of bits of 13 to 64. -/
def blen (x : Nat) : Nat := if x < 16 then 4 else if x < 32 then 5 else if x < 64 then 6 else 7
theorem lenB64_calls (x : Nat) (h1 : 13 ≤ x) (h2 : x ≤ 64) (w : World) : Calls Tryz.prog 72 #[.int .u64 x] w fun e w' => e = .returned (.int .i64 (blen x : Int)) ∧ w' = w := by
  rcases (by omega : x = 13 ∨ x = 14 ∨ x = 15 ∨ x = 16 ∨ x = 17 ∨ x = 18 ∨ x = 19 ∨ x = 20 ∨ x = 21 ∨ x = 22 ∨ x = 23 ∨ x = 24 ∨ x = 25 ∨ x = 26 ∨ x = 27 ∨ x = 28 ∨ x = 29 ∨ x = 30 ∨ x = 31 ∨ x = 32 ∨ x = 33 ∨ x = 34 ∨ x = 35 ∨ x = 36 ∨ x = 37 ∨ x = 38 ∨ x = 39 ∨ x = 40 ∨ x = 41 ∨ x = 42 ∨ x = 43 ∨ x = 44 ∨ x = 45 ∨ x = 46 ∨ x = 47 ∨ x = 48 ∨ x = 49 ∨ x = 50 ∨ x = 51 ∨ x = 52 ∨ x = 53 ∨ x = 54 ∨ x = 55 ∨ x = 56 ∨ x = 57 ∨ x = 58 ∨ x = 59 ∨ x = 60 ∨ x = 61 ∨ x = 62 ∨ x = 63 ∨ x = 64) with rfl | rfl | rfl | rfl | rfl | rfl | rfl | rfl | rfl | rfl | rfl | rfl | rfl | rfl | rfl | rfl | rfl | rfl | rfl | rfl | rfl | rfl | rfl | rfl | rfl | rfl | rfl | rfl | rfl | rfl | rfl | rfl | rfl | rfl | rfl | rfl | rfl | rfl | rfl | rfl | rfl | rfl | rfl | rfl | rfl | rfl | rfl | rfl | rfl | rfl | rfl | rfl <;>
  · go_enter Tryz.func72, Tryz.ntmps72
    go_wp2
    go_ret
    exact ⟨ret_int (by decide +kernel), rfl⟩
theorem lenB_calls (x : Nat) (h1 : 13 ≤ x) (h2 : x ≤ 64) (w : World) : Calls Tryz.prog 55 #[.int .u64 x] w fun e w' => e = .returned (.int .i64 (blen x : Int)) ∧ w' = w := by
  have H := Lib.hid (lenB64_calls x h1 h2 w)
  go_enter Tryz.func55, Tryz.ntmps55
  go_wp2_with fail
  refine H.out.mono ?_
  rintro e w1 ⟨rfl, hw⟩
  replace hw := hw.symm
  subst hw
  go_wp2
  go_ret
  exact ⟨rfl, rfl⟩
def pw (x : Nat) : Nat := 2 ^ blen x
theorem blen_cases (x : Nat) : x < 16 ∧ blen x = 4 ∨ (16 ≤ x ∧ x < 32) ∧ blen x = 5 ∨ (32 ≤ x ∧ x < 64) ∧ blen x = 6 ∨ 64 ≤ x ∧ blen x = 7 := by
  unfold blen
  by_cases h1 : x < 16
  · rw [if_pos h1]; omega
  · rw [if_neg h1]
    by_cases h2 : x < 32
    · rw [if_pos h2]; omega
    · rw [if_neg h2]
      by_cases h3 : x < 64
      · rw [if_pos h3]; omega
      · rw [if_neg h3]; omega
theorem pw_bd {x : Nat} (h1 : 13 ≤ x) (h2 : x ≤ 64) : 1 ≤ pw x ∧ pw x ≤ 2 * x ∧ pw x ≤ 128 := by
  unfold pw
  rcases blen_cases x with ⟨h, e⟩ | ⟨h, e⟩ | ⟨h, e⟩ | ⟨h, e⟩ <;> rw [e] <;> omega
theorem pow2_calls (x : Nat) (h1 : 13 ≤ x) (h2 : x ≤ 64) (w : World) : Calls Tryz.prog 84 #[.int .i64 x] w fun e w' => e = .returned (.int .u64 (pw x : Int)) ∧ w' = w := by
  have H := Lib.hid (lenB_calls x h1 h2 w)
  have hp := Lib.hid (show pw x = 2 ^ blen x from rfl)
  rcases (by have := blen_cases x; omega : blen x = 4 ∨ blen x = 5 ∨ blen x = 6 ∨ blen x = 7) with h | h | h | h <;>
  · rw [h] at H hp
    clear h
    go_enter Tryz.func84, Tryz.ntmps84
    go_wp2_with fail
    refine H.out.mono ?_
    rintro e w1 ⟨rfl, hw⟩
    replace hw := hw.symm
    subst hw
    go_wp2
    go_ret
    exact ⟨by rw [hp.out]; rfl, rfl⟩
/-- The state of the numbers. -/
def RndB (w wr : World) (blk D X : Nat) : Prop := ∃ x : Int, Own wr w.heap.size (.slice (some ⟨X, 0, none⟩) 1 1) 113 [.int .u64 x] ∧ X ≠ blk ∧ X ≠ D
set_option maxRecDepth 100000 in
set_option maxHeartbeats 4000000 in
theorem next_calls (X B : Nat) (x : Int) (wr : World) (ho : Own wr B (.slice (some ⟨X, 0, none⟩) 1 1) 113 [.int .u64 x]) :
    Calls Tryz.prog 85 #[.pointer (some ⟨X, 0, none⟩)] wr fun e w' => ∃ y : Int, e = .returned (.int .u64 y) ∧ wr.grownBy w' (some X) ∧ ∃ z : Int, Own w' B (.slice (some ⟨X, 0, none⟩) 1 1) 113 [.int .u64 z] := by
  have key : ∀ (W : World) (y : Int), wr.grownBy W (some X) → Own W B (.slice (some ⟨X, 0, none⟩) 1 1) 113 [.int .u64 y] →
      W.cell? ⟨X, 0, none⟩ = some (.int .u64 y) ∧ W.frozen? ⟨X, 0, none⟩ = false ∧ ∀ z : Int, wr.grownBy ((W.setCell ⟨X, 0, none⟩ (.int .u64 z)).drewN 1) (some X) ∧ Own ((W.setCell ⟨X, 0, none⟩ (.int .u64 z)).drewN 1) B (.slice (some ⟨X, 0, none⟩) 1 1) 113 [.int .u64 z] := fun W y hg ho =>
    ⟨by rw [ho.cell 0 (by simp)]; rfl, ho.frozen 0, fun z => ⟨hg.trans ((grown_put 0 _).trans (grown_drewN _ 1 _)), (ho.put 0 (.int .u64 z)).drewN 1⟩⟩
  have HK := Lib.hid key
  obtain ⟨hc, hf, hn⟩ := key wr x (World.grownBy.refl _ _) ho
  have Hn := Lib.hid hn
  clear ho hn key
  go_enter Tryz.func85, Tryz.ntmps85
  go_wp2
  go_region
  generalize bits BinOp.xor IntKind.u64 x _ = x1
  obtain ⟨w1, hw1⟩ : ∃ wx : World, wx = (wr.setCell ⟨X, 0, none⟩ (.int .u64 x1)).drewN 1 := ⟨_, rfl⟩
  change Exit.then _ _ Exit.normal _ ((wr.setCell ⟨X, 0, none⟩ (.int .u64 x1)).drewN 1)
  rw [← hw1]
  have hg1 := Hn.out x1
  rw [← hw1] at hg1
  have Hg1 := Lib.hid hg1
  clear Hn hc hf hw1 hg1
  obtain ⟨hc, hf, hn⟩ := HK.out w1 x1 Hg1.out.1 Hg1.out.2
  have Hn := Lib.hid hn
  clear hn
  go_wp2
  go_region
  generalize bits BinOp.xor IntKind.u64 x1 _ = x2
  obtain ⟨w2, hw2⟩ : ∃ wx : World, wx = (w1.setCell ⟨X, 0, none⟩ (.int .u64 x2)).drewN 1 := ⟨_, rfl⟩
  change Exit.then _ _ Exit.normal _ ((w1.setCell ⟨X, 0, none⟩ (.int .u64 x2)).drewN 1)
  rw [← hw2]
  have hg2 := Hn.out x2
  rw [← hw2] at hg2
  have Hg2 := Lib.hid hg2
  clear Hn hc hf hw2 hg2
  obtain ⟨hc, hf, hn⟩ := HK.out w2 x2 Hg2.out.1 Hg2.out.2
  have Hn := Lib.hid hn
  clear hn
  go_wp2
  go_region
  generalize bits BinOp.xor IntKind.u64 x2 _ = x3
  obtain ⟨w3, hw3⟩ : ∃ wx : World, wx = (w2.setCell ⟨X, 0, none⟩ (.int .u64 x3)).drewN 1 := ⟨_, rfl⟩
  change Exit.then _ _ Exit.normal _ ((w2.setCell ⟨X, 0, none⟩ (.int .u64 x3)).drewN 1)
  rw [← hw3]
  have hg3 := Hn.out x3
  rw [← hw3] at hg3
  have Hg3 := Lib.hid hg3
  clear Hn hc hf hw3 hg3
  obtain ⟨hc, hf, hn⟩ := HK.out w3 x3 Hg3.out.1 Hg3.out.2
  have Hn := Lib.hid hn
  clear hn
  go_wp2
  go_ret
  exact ⟨x3, rfl, Hg3.out.1, x3, Hg3.out.2⟩
theorem and_bd (x : Int) (p : Nat) (h1 : 1 ≤ p) (h2 : p ≤ 128) : ∃ z : Nat, bits BinOp.and IntKind.u64 x ((p : Int) - 1) = (z : Int) ∧ z < p := by
  have hb : (BitVec.ofInt 64 ((p : Int) - 1)).toNat = p - 1 := by
    rw [BitVec.toNat_ofInt]
    have : ((p : Int) - 1) = ((p - 1 : Nat) : Int) := by omega
    rw [this]
    omega
  have hle : (BitVec.ofInt 64 x &&& BitVec.ofInt 64 ((p : Int) - 1)).toNat ≤ p - 1 := by
    rw [BitVec.toNat_and, hb]; exact Nat.and_le_right
  refine ⟨(BitVec.ofInt 64 x &&& BitVec.ofInt 64 ((p : Int) - 1)).toNat, ?_, by omega⟩
  have h := IntWalk.u64_in ((BitVec.ofInt 64 x &&& BitVec.ofInt 64 ((p : Int) - 1)).toNat : Int) (by omega)
  exact h
set_option maxRecDepth 100000 in
set_option maxHeartbeats 4000000 in
theorem brk_calls (K : Cmp n R g cb cf F Inv w) (hs : SortS w wr D F n blk c g cb Inv s) (a b : Nat) (hab : a + 12 < b) (hb : b ≤ n) :
    Calls Tryz.prog 90 #[.slice (some ⟨blk, 0, none⟩) n c, .int .i64 (a : Int), .int .i64 (b : Int), .func (.func 57) #[] #[.pointer (some ⟨D, 0, none⟩)]] wr fun e w' => e = .returned (.tuple #[]) ∧ ∃ s' : List Nat, Out s s' a b ∧ SortS w w' D F n blk c g cb Inv s' := by
  have hn := K.le
  have Hst := Lib.hid K.ok.stable
  obtain ⟨l, hl⟩ : ∃ l, l = b - a := ⟨_, rfl⟩
  have el : (b : Int) - (a : Int) = (l : Int) := by omega
  have hl13 : 13 ≤ l := by omega
  have hl64 : l ≤ 64 := by omega
  have hlb : a + l ≤ b := by omega
  have hlb2 : b ≤ a + l := by omega
  have hown := Own.new (w := wr) (B := w.heap.size) 113 [.int .u64 (l : Int)] hs.grown.size (by unfold maxLen; simp)
  obtain ⟨X, hXe⟩ : ∃ X, X = wr.heap.size := ⟨_, rfl⟩
  have hXl : w.heap.size ≤ X := by rw [hXe]; exact hs.grown.size
  have hblk : blk < X := by
    obtain ⟨g9, e, _, h, _⟩ := hs.own.at_form (by omega)
    cases e; rw [hXe]; exact h
  have hDl : D < X := by
    obtain ⟨g9, e, _, h, _⟩ := hs.box.at_form (by omega)
    cases e; rw [hXe]; exact h
  have hS1 := hs.other Hst.out (grown_alloc wr (.cells #[.int .u64 (l : Int)] 113) none) (fun k e => by cases e)
  obtain ⟨wa, hwa⟩ : ∃ wa, wa = wr.alloc (.cells #[.int .u64 (l : Int)] 113) := ⟨_, rfl⟩
  rw [← hwa] at hS1
  have hown : Own wa w.heap.size (.slice (some ⟨X, 0, none⟩) 1 1) 113 [.int .u64 (l : Int)] := by rw [hwa, hXe]; exact hown
  have H1 := Lib.hid (And.intro hS1 hown)
  have HX := Lib.hid (And.intro hXe hwa)
  have Hp := Lib.hid (pow2_calls l hl13 hl64 wa)
  have hpw := pw_bd hl13 hl64
  obtain ⟨P, hP⟩ : ∃ P, P = pw l := ⟨_, rfl⟩
  rw [← hP] at Hp hpw
  obtain ⟨hp1, hp2, hp3⟩ := hpw
  obtain ⟨q, hq⟩ : ∃ q, q = l / 4 := ⟨_, rfl⟩
  have eq : (l : Int) / 4 = (q : Int) := by omega
  have hq1 : 3 ≤ q := by omega
  have hq2 : 4 * q ≤ l := by omega
  obtain ⟨z, hz⟩ : ∃ z, z = a + q * 2 := ⟨_, rfl⟩
  have ez : (a : Int) + (q : Int) * 2 = (z : Int) := by omega
  have hz1 : a + 6 ≤ z := by omega
  have hz2 : z + 4 ≤ b := by omega
  have HE := Lib.hid (And.intro el (And.intro eq ez))
  clear hs K hown hS1 hXe hwa hP hq eq hz ez el hl
  have hpI : (1 : Int) ≤ (P : Int) := by omega
  go_enter Tryz.func90, Tryz.ntmps90
  go_wp2_with fail
  rw [HE.out.1, ← HX.out.1, ← HX.out.2]
  refine Hp.out.mono ?_
  rintro e w1 ⟨rfl, hw⟩
  replace hw := hw.symm
  subst hw
  clear Hp
  go_wp2
  rw [HE.out.2.1, HE.out.2.2]
  go_loopw [11] (fun i wr => ∃ (i' : Nat) (s1 : List Nat), z ≤ i' + 1 ∧ i' ≤ z + 2 ∧ i = .int .i64 i' ∧ SortS w wr D F n blk c g cb Inv s1 ∧ Out s s1 a b ∧ ∃ x : Int, Own wr w.heap.size (.slice (some ⟨X, 0, none⟩) 1 1) 113 [.int .u64 x]) (fun i _ => z + 2 - (intOf i).toNat)
  case atStart => exact ⟨z - 1, s, by omega, by omega, by rw [show (z : Int) - 1 = ((z - 1 : Nat) : Int) by omega], H1.out.1, Out.refl _ _ _, _, H1.out.2⟩
  case round =>
    clear H1
    obtain ⟨i, s1, hzi, hiz, rfl, hS, hO, x, ho⟩ := hrel
    have HS := Lib.hid (And.intro hS (And.intro hO ho))
    clear hS hO ho
    by_cases hle : i ≤ z + 1
    · have hleI : (i : Int) ≤ (a : Int) + (l : Int) / 4 * 2 + 1 := by have h1 := HE.out.2.1; have h2 := HE.out.2.2; rw [h1]; omega
      go_wp2_with fail
      refine (next_calls X w.heap.size x wr HS.out.2.2).mono ?_
      rintro e2 w2 ⟨y, rfl, hg2, u, ho2⟩
      have hS2 := HS.out.1.other Hst.out hg2 (fun k e => by cases e; exact ⟨hXl, by omega, by omega⟩)
      obtain ⟨v, hbit, hv⟩ := and_bd y P hp1 hp3
      have H2 := Lib.hid (And.intro hS2 ho2)
      clear hS2 ho2 hg2
      have hin : i < n := by omega
      have hi0 : (i : Int) < (n : Int) := by omega
      have hwi : IntKind.i64.wrap (v : Int) = (v : Int) := IntWalk.i64_in _ (by omega)
      by_cases hlv : l ≤ v
      · have hd : decide (l ≤ v) = true := decide_eq_true hlv
        have hdI : decide ((l : Int) ≤ (v : Int)) = true := decide_eq_true (by omega)
        obtain ⟨o, ho⟩ : ∃ o, o = v - l := ⟨_, rfl⟩
        have eo : (v : Int) - (l : Int) = (o : Int) := by omega
        have hol : o < l := by omega
        have Heo := Lib.hid eo
        clear ho eo
        go_wp2
        rw [Heo.out]

        clear hbit hwi hd hdI
        obtain ⟨p, hp⟩ : ∃ p, p = a + o := ⟨_, rfl⟩
        have hpn : p < n := by omega
        have hp0 : (p : Int) < (n : Int) := by omega
        have hpa : a ≤ p := by omega
        have hpb : p < b := by omega
        have hw1 : IntKind.i64.wrap ((a : Int) + (o : Int)) = (p : Int) := by rw [show (a : Int) + (o : Int) = (p : Int) by omega]; exact IntWalk.i64_in _ (by omega)
        have hsz : b ≤ s1.length := by rw [HS.out.1.len]; exact hb
        have HN := Lib.hid (HS.out.2.1.trans (Out.swp (by omega : a ≤ i) (by omega : i < b) hpa hpb hsz))
        clear hp
        have hc1V := H2.out.1.cell hin
        have hc2V := H2.out.1.cell hpn
        have hf1V := H2.out.1.own.frozen i
        have hf2V := H2.out.1.own.frozen p
        have hswV := H2.out.1.swp Hst.out hin hpn
        obtain ⟨xV, hxV⟩ : ∃ x, at' s1 i = x := ⟨_, rfl⟩
        obtain ⟨yV, hyV⟩ : ∃ x, at' s1 p = x := ⟨_, rfl⟩
        rw [hxV] at hc1V hswV
        rw [hyV] at hc2V hswV
        obtain ⟨uV, hc5V⟩ := H2.out.1.cell2 hin hpn (.int .i64 (yV : Int))
        have HWV := Lib.hid (hswV.drewN Hst.out 1)
        clear hswV hxV hyV 
        go_wp2
        go_region

        have hOX : Own ((w2.setCell ⟨blk, i, none⟩ (.int .i64 (yV : Int))).setCell ⟨blk, p, none⟩ (.int .i64 (xV : Int)) |>.drewN 1) w.heap.size (.slice (some ⟨X, 0, none⟩) 1 1) 113 [.int .u64 u] :=
          ((H2.out.2.kept (grown_put i _) (.inr (by intro e; have e2 : X = blk := Option.some.inj e; omega))).kept (grown_put p _) (.inr (by intro e; have e2 : X = blk := Option.some.inj e; omega))).drewN 1
        have HOX := Lib.hid hOX
        clear hw1 hOX
        go_wp2
        exact ⟨⟨i + 1, swp s1 i p, by omega, by omega, by go_num, HWV.out, HN.out, u, HOX.out⟩, by simp [intOf]; omega⟩

      · have hd : decide (l ≤ v) = false := decide_eq_false hlv
        have hdI : decide ((l : Int) ≤ (v : Int)) = false := decide_eq_false (by omega)
        obtain ⟨o, rfl⟩ : ∃ o, v = o := ⟨_, rfl⟩
        have hol : v < l := by omega
        obtain ⟨o, ho⟩ : ∃ o, o = v := ⟨_, rfl⟩
        subst ho
        go_wp2

        clear hbit hwi hd hdI
        obtain ⟨p, hp⟩ : ∃ p, p = a + o := ⟨_, rfl⟩
        have hpn : p < n := by omega
        have hp0 : (p : Int) < (n : Int) := by omega
        have hpa : a ≤ p := by omega
        have hpb : p < b := by omega
        have hw1 : IntKind.i64.wrap ((a : Int) + (o : Int)) = (p : Int) := by rw [show (a : Int) + (o : Int) = (p : Int) by omega]; exact IntWalk.i64_in _ (by omega)
        have hsz : b ≤ s1.length := by rw [HS.out.1.len]; exact hb
        have HN := Lib.hid (HS.out.2.1.trans (Out.swp (by omega : a ≤ i) (by omega : i < b) hpa hpb hsz))
        clear hp
        have hc1V := H2.out.1.cell hin
        have hc2V := H2.out.1.cell hpn
        have hf1V := H2.out.1.own.frozen i
        have hf2V := H2.out.1.own.frozen p
        have hswV := H2.out.1.swp Hst.out hin hpn
        obtain ⟨xV, hxV⟩ : ∃ x, at' s1 i = x := ⟨_, rfl⟩
        obtain ⟨yV, hyV⟩ : ∃ x, at' s1 p = x := ⟨_, rfl⟩
        rw [hxV] at hc1V hswV
        rw [hyV] at hc2V hswV
        obtain ⟨uV, hc5V⟩ := H2.out.1.cell2 hin hpn (.int .i64 (yV : Int))
        have HWV := Lib.hid (hswV.drewN Hst.out 1)
        clear hswV hxV hyV 
        go_wp2
        go_region

        have hOX : Own ((w2.setCell ⟨blk, i, none⟩ (.int .i64 (yV : Int))).setCell ⟨blk, p, none⟩ (.int .i64 (xV : Int)) |>.drewN 1) w.heap.size (.slice (some ⟨X, 0, none⟩) 1 1) 113 [.int .u64 u] :=
          ((H2.out.2.kept (grown_put i _) (.inr (by intro e; have e2 : X = blk := Option.some.inj e; omega))).kept (grown_put p _) (.inr (by intro e; have e2 : X = blk := Option.some.inj e; omega))).drewN 1
        have HOX := Lib.hid hOX
        clear hw1 hOX
        go_wp2
        exact ⟨⟨i + 1, swp s1 i p, by omega, by omega, by go_num, HWV.out, HN.out, u, HOX.out⟩, by simp [intOf]; omega⟩

    · have hleI : (a : Int) + (l : Int) / 4 * 2 + 1 < (i : Int) := by have h1 := HE.out.2.1; have h2 := HE.out.2.2; rw [h1]; omega
      go_wp2
      go_end0
      exact ⟨rfl, s1, HS.out.2.1, HS.out.1⟩
end
end Go.Proofs.YtlnikgcanimggaaGreat
