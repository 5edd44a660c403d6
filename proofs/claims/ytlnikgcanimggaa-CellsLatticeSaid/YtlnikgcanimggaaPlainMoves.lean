/- Refining does not depend on the names of points: plain. -/
import Derived.Test.YtlnikgcanimggaaPlainRound
import Derived.Test.YtlnikgcanimggaaPlainSort
set_option linter.unusedSimpArgs false
set_option linter.unusedVariables false
namespace Go.Proofs.Ytlnikgcanimggaa.Plain

/-- A partition whose cells ascend. -/
structure GoodA (n : Nat) (l : List (List Int)) : Prop where
  good : Good n l
  asc : ∀ c ∈ l, c.Pairwise (· < ·)

theorem chkCell_ok {n : Int} : ∀ {c s : List Int} {prev : Option Int}, (∀ p ∈ c, 0 ≤ p ∧ p < n) → c.Pairwise (· < ·) → (∀ p ∈ c, p ∉ s) → (∀ q, prev = some q → ∀ p ∈ c, q ≤ p) → chkCell n s prev c = .inr (c.reverse ++ s)
  | [], s, prev, _, _, _, _ => by simp [chkCell]
  | p :: r, s, prev, h1, h2, h3, h4 => by
    have hp := h1 p (by simp)
    rw [List.pairwise_cons] at h2
    rw [chkCell, if_neg (by omega), if_neg (h3 p (by simp)), if_neg]
    · rw [chkCell_ok (fun q hq => h1 q (by simp [hq])) h2.2]
      · simp
      · intro q hq hm
        rcases List.mem_cons.1 hm with rfl | hm
        · have := h2.1 q hq; omega
        · exact h3 q (by simp [hq]) hm
      · rintro q ⟨⟩ x hx
        have := h2.1 x hx; omega
    · rintro ⟨q, hq, hlt⟩
      have := h4 q hq p (by simp); omega
theorem chkCells_ok {n : Int} : ∀ {l : List (List Int)} {s : List Int}, (∀ c ∈ l, c ≠ []) → (∀ c ∈ l, ∀ p ∈ c, 0 ≤ p ∧ p < n) → (∀ c ∈ l, c.Pairwise (· < ·)) → l.flatten.Nodup → (∀ p ∈ l.flatten, p ∉ s) → chkCells n s l = .inr (l.flatten.reverse ++ s)
  | [], s, _, _, _, _, _ => by simp [chkCells]
  | c :: r, s, h1, h2, h3, h4, h5 => by
    rw [List.flatten_cons, List.nodup_append] at h4
    rw [chkCells, if_neg (h1 c (by simp)), chkCell_ok (h2 c (by simp)) (h3 c (by simp)) (fun p hp => h5 p (by simp [hp])) (by simp)]
    simp only
    rw [chkCells_ok (fun c hc => h1 c (by simp [hc])) (fun c hc => h2 c (by simp [hc])) (fun c hc => h3 c (by simp [hc])) h4.2.1]
    · simp
    · intro p hp hm
      rcases List.mem_append.1 hm with hm | hm
      · exact h4.2.2 p (List.mem_reverse.1 hm) p hp rfl
      · exact h5 p (by rw [List.flatten_cons]; exact List.mem_append_right _ hp) hm
theorem GoodA.chk {n : Nat} {l : List (List Int)} (h : GoodA n l) (hn : n ≤ 64) : chk n l = 0 := by
  have h1 := chkCells_ok (n := n) (s := []) h.good.ne h.good.inr h.asc h.good.nodup (by simp)
  rw [chk_end (by omega) h1, if_neg]
  have hl : n ≤ l.flatten.length := by
    have := range_le n (l.flatten.map Int.toNat) (fun k hk => List.mem_map.2 ⟨(k : Int), h.good.all k hk, by simp⟩)
    rwa [List.length_map] at this
  simp only [List.append_nil, List.length_reverse]; omega

theorem part_goodA {R : Nat → List Int} {n : Nat} {P : List (List Nat)} (h : IsPart R (· < n) P) : GoodA n (P.map (·.map Int.ofNat)) := by
  refine ⟨part_good h, fun c hc => ?_⟩
  obtain ⟨d, hd, rfl⟩ := List.mem_map.1 hc
  rw [List.pairwise_map]
  exact (h.asc d hd).1.imp (fun h => by simp; omega)
theorem round_goodA (n : Nat) (l m : List (List Int)) : GoodA n (roundL n l m) := by
  obtain ⟨P, h1, h2⟩ := round_part n l m
  rw [h1]; exact part_goodA h2
theorem refL_goodA {n : Nat} {m : List (List Int)} : ∀ {f : Nat} {l : List (List Int)}, GoodA n l → GoodA n (refL n m f l)
  | 0, l, h => h
  | f + 1, l, h => by
    rw [refL]; split
    · exact round_goodA n l m
    · exact refL_goodA (round_goodA n l m)

/-- A permutation and its inverse. -/
structure PermOf (n : Nat) (s t : Nat → Nat) : Prop where
  lt : ∀ i, i < n → s i < n
  lt' : ∀ i, i < n → t i < n
  left : ∀ i, i < n → t (s i) = i
  right : ∀ i, i < n → s (t i) = i
theorem PermOf.inv {n : Nat} {s t : Nat → Nat} (h : PermOf n s t) : PermOf n t s := ⟨h.lt', h.lt, h.right, h.left⟩
def permL (n : Nat) (s : Nat → Nat) : List Int := (List.range n).map fun i => ((s i : Nat) : Int)
theorem permL_at {n : Nat} {s : Nat → Nat} {i : Nat} (h : i < n) : (permL n s)[i]?.getD 0 = (s i : Int) := by simp [permL, h]
theorem permL_len (n : Nat) (s : Nat → Nat) : (permL n s).length = n := by simp [permL]

/-- What one name q adds to a cell's new names. -/
def renK (p c : List Int) (q : Nat) (acc : List Nat) : Nat → List Nat
  | 0 => acc
  | k + 1 => if p[(c[k]?.getD 0).toNat]?.getD 0 = q then renK p c q acc k ++ [q] else renK p c q acc k
def renTo (p c : List Int) : Nat → List Nat
  | 0 => []
  | q + 1 => renK p c q (renTo p c q) c.length
/-- The partition with new names. -/
def renL (n : Nat) (p : List Int) (l : List (List Int)) : List (List Int) := l.map fun c => (renTo p c n).map Int.ofNat
theorem renK_len (p c : List Int) (q : Nat) (acc : List Nat) : ∀ k, (renK p c q acc k).length ≤ acc.length + k
  | 0 => Nat.le_refl _
  | k + 1 => by
    have := renK_len p c q acc k
    rw [renK]; split
    · simp; omega
    · omega
theorem renTo_len (p c : List Int) : ∀ q, (renTo p c q).length ≤ q * c.length
  | 0 => by simp [renTo]
  | q + 1 => by
    have h1 := renTo_len p c q
    have h2 := renK_len p c q (renTo p c q) c.length
    rw [renTo, Nat.add_mul]; omega

section
variable {n : Nat} {s t : Nat → Nat} (hp : PermOf n s t)
include hp
theorem renK_eq {c : List Int} (hc : ∀ x ∈ c, 0 ≤ x ∧ x < n) (hd : c.Nodup) {q : Nat} (hq : q < n) (acc : List Nat) : ∀ k, k ≤ c.length →
    renK (permL n s) c q acc k = acc ++ (if (t q : Int) ∈ c.take k then [q] else [])
  | 0, _ => by simp [renK]
  | k + 1, hk => by
    have ih := renK_eq hc hd hq acc k (by omega)
    have hkl : k < c.length := by omega
    have hx := hc c[k] (List.getElem_mem hkl)
    have hck : c[k]?.getD 0 = c[k] := by simp [List.getElem?_eq_getElem hkl]
    have hxn : c[k].toNat < n := by omega
    have htk : c.take (k + 1) = c.take k ++ [c[k]] := by rw [List.take_add_one, List.getElem?_eq_getElem hkl]; rfl
    have hnot : c[k] ∉ c.take k := by
      intro hm
      have h9 : (c.take (k + 1)).Nodup := hd.sublist (List.take_sublist _ _)
      rw [htk, List.nodup_append] at h9
      exact h9.2.2 _ hm _ (by simp) rfl
    rw [renK, hck, permL_at hxn, ih, htk]
    by_cases e : s c[k].toNat = q
    · have e2 : (t q : Int) = c[k] := by rw [← e, hp.left _ hxn]; omega
      rw [if_pos (by rw [e]), e2, if_neg hnot, if_pos (List.mem_append_right _ (by simp))]
      simp
    · have e2 : (t q : Int) ≠ c[k] := by
        intro h; apply e; rw [show c[k].toNat = t q by omega, hp.right q hq]
      rw [if_neg (by intro h; exact e (by exact_mod_cast h))]
      have h8 : ((t q : Int) ∈ c.take k ++ [c[k]]) ↔ (t q : Int) ∈ c.take k := by
        rw [List.mem_append, List.mem_singleton]; exact ⟨fun h => h.resolve_right e2, .inl⟩
      by_cases h9 : (t q : Int) ∈ c.take k
      · rw [if_pos h9, if_pos (h8.2 h9)]
      · rw [if_neg h9, if_neg (fun h => h9 (h8.1 h))]
theorem renTo_eq {c : List Int} (hc : ∀ x ∈ c, 0 ≤ x ∧ x < n) (hd : c.Nodup) : ∀ q, q ≤ n → renTo (permL n s) c q = (List.range q).filter fun q => decide ((t q : Int) ∈ c)
  | 0, _ => by simp [renTo]
  | q + 1, hq => by
    rw [renTo, renK_eq hp hc hd (by omega) _ _ (Nat.le_refl _), List.take_length, renTo_eq hc hd q (by omega), List.range_succ, List.filter_append]
    by_cases h : (t q : Int) ∈ c <;> simp [h]
end
def imgC (n : Nat) (t : Nat → Nat) (c : List Int) : List Nat := (List.range n).filter fun q => decide ((t q : Int) ∈ c)
theorem mem_imgC {n : Nat} {t : Nat → Nat} {c : List Int} {q : Nat} : q ∈ imgC n t c ↔ q < n ∧ (t q : Int) ∈ c := by simp [imgC]
theorem imgC_asc (n : Nat) (t : Nat → Nat) (c : List Int) : (imgC n t c).Pairwise (· < ·) := List.Pairwise.filter _ List.pairwise_lt_range
theorem renL_eq {n : Nat} {s t : Nat → Nat} (hp : PermOf n s t) {l : List (List Int)} (h : Good n l) : renL n (permL n s) l = l.map fun c => (imgC n t c).map Int.ofNat := by
  unfold renL
  apply List.map_congr_left
  intro c hc
  rw [renTo_eq hp (h.inr c hc) (h.nodup.sublist (List.sublist_flatten_of_mem hc)) n (Nat.le_refl _)]
  rfl
theorem renL_mem {n : Nat} {s t : Nat → Nat} (hp : PermOf n s t) {l : List (List Int)} (h : Good n l) {k : Nat} {c : List Int} (hc : l[k]? = some c) {q : Nat} (hq : q < n) (hm : (t q : Int) ∈ c) :
    ∃ c', (renL n (permL n s) l)[k]? = some c' ∧ (q : Int) ∈ c' := by
  rw [renL_eq hp h, List.getElem?_map, hc]
  exact ⟨_, rfl, List.mem_map.2 ⟨q, mem_imgC.2 ⟨hq, hm⟩, rfl⟩⟩
theorem renL_goodA {n : Nat} {s t : Nat → Nat} (hp : PermOf n s t) {l : List (List Int)} (h : Good n l) : GoodA n (renL n (permL n s) l) := by
  have hl := renL_eq hp h
  refine ⟨⟨?_, ?_, ?_, ?_⟩, ?_⟩
  · intro c hc
    rw [hl] at hc
    obtain ⟨d, hd, rfl⟩ := List.mem_map.1 hc
    obtain ⟨x, y, e⟩ := List.exists_cons_of_ne_nil (h.ne d hd)
    have hx := h.inr d hd x (by rw [e]; simp)
    have : s x.toNat ∈ imgC n t d := mem_imgC.2 ⟨hp.lt _ (by omega), by rw [hp.left _ (by omega), e]; simp; left; omega⟩
    intro he
    rw [List.map_eq_nil_iff] at he
    rw [he] at this; simp at this
  · intro c hc p hpp
    rw [hl] at hc
    obtain ⟨d, hd, rfl⟩ := List.mem_map.1 hc
    obtain ⟨q, hq, rfl⟩ := List.mem_map.1 hpp
    have := (mem_imgC.1 hq).1
    simp; omega
  · rw [hl]
    have key : ∀ (l : List (List Int)), (∀ c ∈ l, ∀ p ∈ c, 0 ≤ p ∧ p < n) → l.flatten.Nodup → (l.map fun c => (imgC n t c).map Int.ofNat).flatten.Nodup := by
      intro l
      induction l with
      | nil => intro _ _; simp
      | cons c l ih =>
        intro h1 h2
        rw [List.flatten_cons, List.nodup_append] at h2
        rw [List.map_cons, List.flatten_cons, List.nodup_append]
        refine ⟨?_, ih (fun c hc => h1 c (by simp [hc])) h2.2.1, ?_⟩
        · exact nodup_map_on ((imgC_asc n t c).imp (fun h => by omega)) (fun a _ b _ e => Int.ofNat.inj e)
        · rintro a ha b hb rfl
          obtain ⟨q, hq, rfl⟩ := List.mem_map.1 ha
          obtain ⟨d', hd', hqd⟩ := List.mem_flatten.1 hb
          obtain ⟨d, hd, rfl⟩ := List.mem_map.1 hd'
          obtain ⟨q', hq', e⟩ := List.mem_map.1 hqd
          have e : q' = q := Int.ofNat.inj e
          subst e
          exact h2.2.2 _ (mem_imgC.1 hq).2 _ (List.mem_flatten.2 ⟨d, hd, (mem_imgC.1 hq').2⟩) rfl
    exact key l h.inr h.nodup
  · intro p hpn
    obtain ⟨k, c, _, hc, hm, _⟩ := h.cell (hp.lt' p hpn)
    obtain ⟨c', h1, h2⟩ := renL_mem hp h hc hpn hm
    exact List.mem_flatten.2 ⟨c', List.mem_of_getElem? h1, h2⟩
  · intro c hc
    rw [hl] at hc
    obtain ⟨d, hd, rfl⟩ := List.mem_map.1 hc
    rw [List.pairwise_map]
    exact (imgC_asc n t d).imp (fun h => by simp; omega)

section
variable {n : Nat} {s t : Nat → Nat} (hp : PermOf n s t) {l m m' : List (List Int)} (hm : ∀ i k, i < n → k < n → mat m' (s i) (s k) = mat m i k)
include hp
theorem ren_label (h : Good n l) {q : Nat} (hq : q < n) : (labelsL n (renL n (permL n s) l))[s q]?.getD 0 = (labelsL n l)[q]?.getD 0 := by
  obtain ⟨k, c, _, hc, hqc, he⟩ := h.cell hq
  obtain ⟨c', h1, h2⟩ := renL_mem hp h hc (hp.lt q hq) (by rw [hp.left q hq]; exact hqc)
  rw [(renL_goodA hp h).good.label h1 h2, he]
include hm
theorem ren_key (h : Good n l) {v : Nat} (hv : v < n) : keyL n (labelsL n (renL n (permL n s) l)) m' (s v) = keyL n (labelsL n l) m v := by
  unfold keyL
  rw [ren_label hp h hv]
  congr 2
  refine (sortTo_unique ?_ (sortTo_sorted _ n))
  refine (sortTo_perm _ n).trans ?_
  have hperm : ((List.range n).map s).Perm (List.range n) := by
    rw [List.perm_ext_iff_of_nodup (nodup_map_on List.nodup_range (fun x hx y hy e => by rw [← hp.left x (List.mem_range.1 hx), e, hp.left y (List.mem_range.1 hy)])) List.nodup_range]
    intro a
    rw [List.mem_map, List.mem_range]
    constructor
    · rintro ⟨x, hx, rfl⟩; exact hp.lt x (List.mem_range.1 hx)
    · intro ha; exact ⟨t a, List.mem_range.2 (hp.lt' a ha), hp.right a ha⟩
  have h2 := hperm.symm.map (triple (labelsL n (renL n (permL n s) l)) m' (s v))
  refine h2.trans ?_
  rw [List.map_map]
  refine List.Perm.of_eq ?_
  apply List.map_congr_left
  intro u hu
  have hu := List.mem_range.1 hu
  simp only [Function.comp, triple]
  rw [ren_label hp h hu, hm v u hv hu, hm u v hu hv]
theorem ren_round (h : Good n l) : renL n (permL n s) (roundL n l m) = roundL n (renL n (permL n s) l) m' := by
  obtain ⟨P, h1, h2⟩ := round_part n l m
  obtain ⟨P', h1', h2'⟩ := round_part n (renL n (permL n s) l) m'
  have hg := round_good n l m
  rw [renL_eq hp hg, h1', h1, List.map_map]
  have hQ : IsPart (fun k => (rowsL n m' (labelsL n (renL n (permL n s) l)))[k]?.getD []) (· < n) (P.map fun c => imgC n t (c.map Int.ofNat)) := by
    have hR : ∀ q, q < n → (rowsL n m' (labelsL n (renL n (permL n s) l)))[q]?.getD [] = (rowsL n m (labelsL n l))[t q]?.getD [] := by
      intro q hq
      rw [rowsL_at hq, rowsL_at (hp.lt' q hq), ← ren_key hp hm h (hp.lt' q hq), hp.right q hq]
    have hin : ∀ {c : List Nat} {q : Nat}, q ∈ imgC n t (c.map Int.ofNat) → q < n ∧ t q ∈ c := by
      intro c q hq
      obtain ⟨h1, h2⟩ := mem_imgC.1 hq
      obtain ⟨x, hx, e⟩ := List.mem_map.1 h2
      have : x = t q := Int.ofNat.inj e
      exact ⟨h1, this ▸ hx⟩
    refine ⟨?_, ?_, ?_, ?_⟩
    · intro c hc
      obtain ⟨d, hd, rfl⟩ := List.mem_map.1 hc
      refine ⟨imgC_asc _ _ _, ?_⟩
      obtain ⟨x, y, e⟩ := List.exists_cons_of_ne_nil (h2.asc d hd).2
      have hx : x < n := (h2.cover x).1 ⟨d, hd, by rw [e]; simp⟩
      intro he
      have : s x ∈ imgC n t (d.map Int.ofNat) := mem_imgC.2 ⟨hp.lt x hx, by rw [hp.left x hx, e]; simp⟩
      rw [he] at this; simp at this
    · intro i
      constructor
      · rintro ⟨c, hc, hi⟩
        obtain ⟨d, hd, rfl⟩ := List.mem_map.1 hc
        exact (hin hi).1
      · intro hi
        obtain ⟨d, hd, hx⟩ := (h2.cover (t i)).2 (hp.lt' i hi)
        exact ⟨_, List.mem_map.2 ⟨d, hd, rfl⟩, mem_imgC.2 ⟨hi, List.mem_map.2 ⟨_, hx, rfl⟩⟩⟩
    · intro c hc i hi j hj
      obtain ⟨d, hd, rfl⟩ := List.mem_map.1 hc
      rw [hR i (hin hi).1, hR j (hin hj).1]
      exact h2.same d hd _ (hin hi).2 _ (hin hj).2
    · rw [List.pairwise_map]
      refine h2.ord.imp ?_
      intro c d hcd i hi j hj
      rw [hR i (hin hi).1, hR j (hin hj).1]
      exact hcd _ (hin hi).2 _ (hin hj).2
  have := hQ.unique h2'
  rw [← this, List.map_map]
  rfl
theorem ren_refL : ∀ (f : Nat) {l : List (List Int)}, Good n l → renL n (permL n s) (refL n m f l) = refL n m' f (renL n (permL n s) l)
  | 0, l, _ => rfl
  | f + 1, l, h => by
    have hr := ren_round hp hm h
    have hlen : (roundL n (renL n (permL n s) l) m').length = (roundL n l m).length := by rw [← hr]; simp [renL]
    have hlen2 : (renL n (permL n s) l).length = l.length := by simp [renL]
    rw [refL, refL, hlen, hlen2]
    split
    · exact hr
    · rw [ren_refL f (round_good n l m), hr]
theorem ren_refine (h : Good n l) : renL n (permL n s) (refineL n l m) = refineL n (renL n (permL n s) l) m' := ren_refL hp hm (n + 1) h
end
end Go.Proofs.Ytlnikgcanimggaa.Plain
