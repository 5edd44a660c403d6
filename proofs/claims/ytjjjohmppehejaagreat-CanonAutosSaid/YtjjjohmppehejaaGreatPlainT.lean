/- Refining does not depend on the names of points: plain. · What is computed of a moved graph is what was computed, moved: plain. · The tree of a graph's partitions: its leaves; a moved graph's leaves are the leaves, moved: plain. · The best labelling and the canonical form: two graphs have the same form exactly if one is the other one moved: plain. · Extending images to a least isomorphism: the program's way (a prefix, then backtracking) and the reference's (forced images): plain. · An isomorphism keeps the number of edges; what extending answers is one: plain. -/
import Derived.Test.YtjjjohmppehejaaGreatPlainC
import Derived.Test.YtjjjohmppehejaaGreatPlainH
set_option linter.unusedSimpArgs false
set_option linter.unusedVariables false
namespace Go.Proofs.YtjjjohmppehejaaGreat.Plain

/-- A partition whose cells ascend. -/
structure GoodA (n : Nat) (l : List (List Int)) : Prop where
  good : Good n l
  asc : ∀ c ∈ l, c.Pairwise (· < ·)

theorem chkCell_ok {n : Int} : ∀ {c s : List Int} {prev : Option Int}, (∀ p ∈ c, 0 ≤ p ∧ p < n) → c.Pairwise (· < ·) → (∀ p ∈ c, p ∉ s) → (∀ q, prev = some q → ∀ p ∈ c, q ≤ p) → chkCell n s prev c = .inr (c.reverse ++ s)
  | [], s, prev, _, _, _, _ => by simp [chkCell]
  | p :: r, s, prev, h1, h2, h3, h4 => by
    have hp := h1 p (by simp)
    rw [List.pairwise_cons] at h2
    rw [chkCell, if_neg (by omega), if_neg (h3 p (by simp)), if_neg]
    · rw [chkCell_ok (fun q hq => h1 q (by simp [hq])) h2.2]
      · simp
      · intro q hq hm
        rcases List.mem_cons.1 hm with rfl | hm
        · have := h2.1 q hq; omega
        · exact h3 q (by simp [hq]) hm
      · rintro q ⟨⟩ x hx
        have := h2.1 x hx; omega
    · rintro ⟨q, hq, hlt⟩
      have := h4 q hq p (by simp); omega
theorem chkCells_ok {n : Int} : ∀ {l : List (List Int)} {s : List Int}, (∀ c ∈ l, c ≠ []) → (∀ c ∈ l, ∀ p ∈ c, 0 ≤ p ∧ p < n) → (∀ c ∈ l, c.Pairwise (· < ·)) → l.flatten.Nodup → (∀ p ∈ l.flatten, p ∉ s) → chkCells n s l = .inr (l.flatten.reverse ++ s)
  | [], s, _, _, _, _, _ => by simp [chkCells]
  | c :: r, s, h1, h2, h3, h4, h5 => by
    rw [List.flatten_cons, List.nodup_append] at h4
    rw [chkCells, if_neg (h1 c (by simp)), chkCell_ok (h2 c (by simp)) (h3 c (by simp)) (fun p hp => h5 p (by simp [hp])) (by simp)]
    simp only
    rw [chkCells_ok (fun c hc => h1 c (by simp [hc])) (fun c hc => h2 c (by simp [hc])) (fun c hc => h3 c (by simp [hc])) h4.2.1]
    · simp
    · intro p hp hm
      rcases List.mem_append.1 hm with hm | hm
      · exact h4.2.2 p (List.mem_reverse.1 hm) p hp rfl
      · exact h5 p (by rw [List.flatten_cons]; exact List.mem_append_right _ hp) hm
theorem GoodA.chk {n : Nat} {l : List (List Int)} (h : GoodA n l) (hn : n ≤ 64) : chk n l = 0 := by
  have h1 := chkCells_ok (n := n) (s := []) h.good.ne h.good.inr h.asc h.good.nodup (by simp)
  rw [chk_end (by omega) h1, if_neg]
  have hl : n ≤ l.flatten.length := by
    have := range_le n (l.flatten.map Int.toNat) (fun k hk => List.mem_map.2 ⟨(k : Int), h.good.all k hk, by simp⟩)
    rwa [List.length_map] at this
  simp only [List.append_nil, List.length_reverse]; omega

theorem part_goodA {R : Nat → List Int} {n : Nat} {P : List (List Nat)} (h : IsPart R (· < n) P) : GoodA n (P.map (·.map Int.ofNat)) := by
  refine ⟨part_good h, fun c hc => ?_⟩
  obtain ⟨d, hd, rfl⟩ := List.mem_map.1 hc
  rw [List.pairwise_map]
  exact (h.asc d hd).1.imp (fun h => by simp; omega)
theorem round_goodA (n : Nat) (l m : List (List Int)) : GoodA n (roundL n l m) := by
  obtain ⟨P, h1, h2⟩ := round_part n l m
  rw [h1]; exact part_goodA h2
theorem refL_goodA {n : Nat} {m : List (List Int)} : ∀ {f : Nat} {l : List (List Int)}, GoodA n l → GoodA n (refL n m f l)
  | 0, l, h => h
  | f + 1, l, h => by
    rw [refL]; split
    · exact round_goodA n l m
    · exact refL_goodA (round_goodA n l m)

/-- A permutation and its inverse. -/
structure PermOf (n : Nat) (s t : Nat → Nat) : Prop where
  lt : ∀ i, i < n → s i < n
  lt' : ∀ i, i < n → t i < n
  left : ∀ i, i < n → t (s i) = i
  right : ∀ i, i < n → s (t i) = i
theorem PermOf.inv {n : Nat} {s t : Nat → Nat} (h : PermOf n s t) : PermOf n t s := ⟨h.lt', h.lt, h.right, h.left⟩
def permL (n : Nat) (s : Nat → Nat) : List Int := (List.range n).map fun i => ((s i : Nat) : Int)
theorem permL_at {n : Nat} {s : Nat → Nat} {i : Nat} (h : i < n) : (permL n s)[i]?.getD 0 = (s i : Int) := by simp [permL, h]
theorem permL_len (n : Nat) (s : Nat → Nat) : (permL n s).length = n := by simp [permL]

/-- What one name q adds to a cell's new names. -/
def renK (p c : List Int) (q : Nat) (acc : List Nat) : Nat → List Nat
  | 0 => acc
  | k + 1 => if p[(c[k]?.getD 0).toNat]?.getD 0 = q then renK p c q acc k ++ [q] else renK p c q acc k
def renTo (p c : List Int) : Nat → List Nat
  | 0 => []
  | q + 1 => renK p c q (renTo p c q) c.length
/-- The partition with new names. -/
def renL (n : Nat) (p : List Int) (l : List (List Int)) : List (List Int) := l.map fun c => (renTo p c n).map Int.ofNat
theorem renK_len (p c : List Int) (q : Nat) (acc : List Nat) : ∀ k, (renK p c q acc k).length ≤ acc.length + k
  | 0 => Nat.le_refl _
  | k + 1 => by
    have := renK_len p c q acc k
    rw [renK]; split
    · simp; omega
    · omega
theorem renTo_len (p c : List Int) : ∀ q, (renTo p c q).length ≤ q * c.length
  | 0 => by simp [renTo]
  | q + 1 => by
    have h1 := renTo_len p c q
    have h2 := renK_len p c q (renTo p c q) c.length
    rw [renTo, Nat.add_mul]; omega

section
variable {n : Nat} {s t : Nat → Nat} (hp : PermOf n s t)
include hp
theorem renK_eq {c : List Int} (hc : ∀ x ∈ c, 0 ≤ x ∧ x < n) (hd : c.Nodup) {q : Nat} (hq : q < n) (acc : List Nat) : ∀ k, k ≤ c.length →
    renK (permL n s) c q acc k = acc ++ (if (t q : Int) ∈ c.take k then [q] else [])
  | 0, _ => by simp [renK]
  | k + 1, hk => by
    have ih := renK_eq hc hd hq acc k (by omega)
    have hkl : k < c.length := by omega
    have hx := hc c[k] (List.getElem_mem hkl)
    have hck : c[k]?.getD 0 = c[k] := by simp [List.getElem?_eq_getElem hkl]
    have hxn : c[k].toNat < n := by omega
    have htk : c.take (k + 1) = c.take k ++ [c[k]] := by rw [List.take_add_one, List.getElem?_eq_getElem hkl]; rfl
    have hnot : c[k] ∉ c.take k := by
      intro hm
      have h9 : (c.take (k + 1)).Nodup := hd.sublist (List.take_sublist _ _)
      rw [htk, List.nodup_append] at h9
      exact h9.2.2 _ hm _ (by simp) rfl
    rw [renK, hck, permL_at hxn, ih, htk]
    by_cases e : s c[k].toNat = q
    · have e2 : (t q : Int) = c[k] := by rw [← e, hp.left _ hxn]; omega
      rw [if_pos (by rw [e]), e2, if_neg hnot, if_pos (List.mem_append_right _ (by simp))]
      simp
    · have e2 : (t q : Int) ≠ c[k] := by
        intro h; apply e; rw [show c[k].toNat = t q by omega, hp.right q hq]
      rw [if_neg (by intro h; exact e (by exact_mod_cast h))]
      have h8 : ((t q : Int) ∈ c.take k ++ [c[k]]) ↔ (t q : Int) ∈ c.take k := by
        rw [List.mem_append, List.mem_singleton]; exact ⟨fun h => h.resolve_right e2, .inl⟩
      by_cases h9 : (t q : Int) ∈ c.take k
      · rw [if_pos h9, if_pos (h8.2 h9)]
      · rw [if_neg h9, if_neg (fun h => h9 (h8.1 h))]
theorem renTo_eq {c : List Int} (hc : ∀ x ∈ c, 0 ≤ x ∧ x < n) (hd : c.Nodup) : ∀ q, q ≤ n → renTo (permL n s) c q = (List.range q).filter fun q => decide ((t q : Int) ∈ c)
  | 0, _ => by simp [renTo]
  | q + 1, hq => by
    rw [renTo, renK_eq hp hc hd (by omega) _ _ (Nat.le_refl _), List.take_length, renTo_eq hc hd q (by omega), List.range_succ, List.filter_append]
    by_cases h : (t q : Int) ∈ c <;> simp [h]
end
def imgC (n : Nat) (t : Nat → Nat) (c : List Int) : List Nat := (List.range n).filter fun q => decide ((t q : Int) ∈ c)
theorem mem_imgC {n : Nat} {t : Nat → Nat} {c : List Int} {q : Nat} : q ∈ imgC n t c ↔ q < n ∧ (t q : Int) ∈ c := by simp [imgC]
theorem imgC_asc (n : Nat) (t : Nat → Nat) (c : List Int) : (imgC n t c).Pairwise (· < ·) := List.Pairwise.filter _ List.pairwise_lt_range
theorem renL_eq {n : Nat} {s t : Nat → Nat} (hp : PermOf n s t) {l : List (List Int)} (h : Good n l) : renL n (permL n s) l = l.map fun c => (imgC n t c).map Int.ofNat := by
  unfold renL
  apply List.map_congr_left
  intro c hc
  rw [renTo_eq hp (h.inr c hc) (h.nodup.sublist (List.sublist_flatten_of_mem hc)) n (Nat.le_refl _)]
  rfl
theorem renL_mem {n : Nat} {s t : Nat → Nat} (hp : PermOf n s t) {l : List (List Int)} (h : Good n l) {k : Nat} {c : List Int} (hc : l[k]? = some c) {q : Nat} (hq : q < n) (hm : (t q : Int) ∈ c) :
    ∃ c', (renL n (permL n s) l)[k]? = some c' ∧ (q : Int) ∈ c' := by
  rw [renL_eq hp h, List.getElem?_map, hc]
  exact ⟨_, rfl, List.mem_map.2 ⟨q, mem_imgC.2 ⟨hq, hm⟩, rfl⟩⟩
theorem renL_goodA {n : Nat} {s t : Nat → Nat} (hp : PermOf n s t) {l : List (List Int)} (h : Good n l) : GoodA n (renL n (permL n s) l) := by
  have hl := renL_eq hp h
  refine ⟨⟨?_, ?_, ?_, ?_⟩, ?_⟩
  · intro c hc
    rw [hl] at hc
    obtain ⟨d, hd, rfl⟩ := List.mem_map.1 hc
    obtain ⟨x, y, e⟩ := List.exists_cons_of_ne_nil (h.ne d hd)
    have hx := h.inr d hd x (by rw [e]; simp)
    have : s x.toNat ∈ imgC n t d := mem_imgC.2 ⟨hp.lt _ (by omega), by rw [hp.left _ (by omega), e]; simp; left; omega⟩
    intro he
    rw [List.map_eq_nil_iff] at he
    rw [he] at this; simp at this
  · intro c hc p hpp
    rw [hl] at hc
    obtain ⟨d, hd, rfl⟩ := List.mem_map.1 hc
    obtain ⟨q, hq, rfl⟩ := List.mem_map.1 hpp
    have := (mem_imgC.1 hq).1
    simp; omega
  · rw [hl]
    have key : ∀ (l : List (List Int)), (∀ c ∈ l, ∀ p ∈ c, 0 ≤ p ∧ p < n) → l.flatten.Nodup → (l.map fun c => (imgC n t c).map Int.ofNat).flatten.Nodup := by
      intro l
      induction l with
      | nil => intro _ _; simp
      | cons c l ih =>
        intro h1 h2
        rw [List.flatten_cons, List.nodup_append] at h2
        rw [List.map_cons, List.flatten_cons, List.nodup_append]
        refine ⟨?_, ih (fun c hc => h1 c (by simp [hc])) h2.2.1, ?_⟩
        · exact nodup_map_on ((imgC_asc n t c).imp (fun h => by omega)) (fun a _ b _ e => Int.ofNat.inj e)
        · rintro a ha b hb rfl
          obtain ⟨q, hq, rfl⟩ := List.mem_map.1 ha
          obtain ⟨d', hd', hqd⟩ := List.mem_flatten.1 hb
          obtain ⟨d, hd, rfl⟩ := List.mem_map.1 hd'
          obtain ⟨q', hq', e⟩ := List.mem_map.1 hqd
          have e : q' = q := Int.ofNat.inj e
          subst e
          exact h2.2.2 _ (mem_imgC.1 hq).2 _ (List.mem_flatten.2 ⟨d, hd, (mem_imgC.1 hq').2⟩) rfl
    exact key l h.inr h.nodup
  · intro p hpn
    obtain ⟨k, c, _, hc, hm, _⟩ := h.cell (hp.lt' p hpn)
    obtain ⟨c', h1, h2⟩ := renL_mem hp h hc hpn hm
    exact List.mem_flatten.2 ⟨c', List.mem_of_getElem? h1, h2⟩
  · intro c hc
    rw [hl] at hc
    obtain ⟨d, hd, rfl⟩ := List.mem_map.1 hc
    rw [List.pairwise_map]
    exact (imgC_asc n t d).imp (fun h => by simp; omega)

section
variable {n : Nat} {s t : Nat → Nat} (hp : PermOf n s t) {l m m' : List (List Int)} (hm : ∀ i k, i < n → k < n → mat m' (s i) (s k) = mat m i k)
include hp
theorem ren_label (h : Good n l) {q : Nat} (hq : q < n) : (labelsL n (renL n (permL n s) l))[s q]?.getD 0 = (labelsL n l)[q]?.getD 0 := by
  obtain ⟨k, c, _, hc, hqc, he⟩ := h.cell hq
  obtain ⟨c', h1, h2⟩ := renL_mem hp h hc (hp.lt q hq) (by rw [hp.left q hq]; exact hqc)
  rw [(renL_goodA hp h).good.label h1 h2, he]
include hm
theorem ren_key (h : Good n l) {v : Nat} (hv : v < n) : keyL n (labelsL n (renL n (permL n s) l)) m' (s v) = keyL n (labelsL n l) m v := by
  unfold keyL
  rw [ren_label hp h hv]
  congr 2
  refine (sortTo_unique ?_ (sortTo_sorted _ n))
  refine (sortTo_perm _ n).trans ?_
  have hperm : ((List.range n).map s).Perm (List.range n) := by
    rw [List.perm_ext_iff_of_nodup (nodup_map_on List.nodup_range (fun x hx y hy e => by rw [← hp.left x (List.mem_range.1 hx), e, hp.left y (List.mem_range.1 hy)])) List.nodup_range]
    intro a
    rw [List.mem_map, List.mem_range]
    constructor
    · rintro ⟨x, hx, rfl⟩; exact hp.lt x (List.mem_range.1 hx)
    · intro ha; exact ⟨t a, List.mem_range.2 (hp.lt' a ha), hp.right a ha⟩
  have h2 := hperm.symm.map (triple (labelsL n (renL n (permL n s) l)) m' (s v))
  refine h2.trans ?_
  rw [List.map_map]
  refine List.Perm.of_eq ?_
  apply List.map_congr_left
  intro u hu
  have hu := List.mem_range.1 hu
  simp only [Function.comp, triple]
  rw [ren_label hp h hu, hm v u hv hu, hm u v hu hv]
theorem ren_round (h : Good n l) : renL n (permL n s) (roundL n l m) = roundL n (renL n (permL n s) l) m' := by
  obtain ⟨P, h1, h2⟩ := round_part n l m
  obtain ⟨P', h1', h2'⟩ := round_part n (renL n (permL n s) l) m'
  have hg := round_good n l m
  rw [renL_eq hp hg, h1', h1, List.map_map]
  have hQ : IsPart (fun k => (rowsL n m' (labelsL n (renL n (permL n s) l)))[k]?.getD []) (· < n) (P.map fun c => imgC n t (c.map Int.ofNat)) := by
    have hR : ∀ q, q < n → (rowsL n m' (labelsL n (renL n (permL n s) l)))[q]?.getD [] = (rowsL n m (labelsL n l))[t q]?.getD [] := by
      intro q hq
      rw [rowsL_at hq, rowsL_at (hp.lt' q hq), ← ren_key hp hm h (hp.lt' q hq), hp.right q hq]
    have hin : ∀ {c : List Nat} {q : Nat}, q ∈ imgC n t (c.map Int.ofNat) → q < n ∧ t q ∈ c := by
      intro c q hq
      obtain ⟨h1, h2⟩ := mem_imgC.1 hq
      obtain ⟨x, hx, e⟩ := List.mem_map.1 h2
      have : x = t q := Int.ofNat.inj e
      exact ⟨h1, this ▸ hx⟩
    refine ⟨?_, ?_, ?_, ?_⟩
    · intro c hc
      obtain ⟨d, hd, rfl⟩ := List.mem_map.1 hc
      refine ⟨imgC_asc _ _ _, ?_⟩
      obtain ⟨x, y, e⟩ := List.exists_cons_of_ne_nil (h2.asc d hd).2
      have hx : x < n := (h2.cover x).1 ⟨d, hd, by rw [e]; simp⟩
      intro he
      have : s x ∈ imgC n t (d.map Int.ofNat) := mem_imgC.2 ⟨hp.lt x hx, by rw [hp.left x hx, e]; simp⟩
      rw [he] at this; simp at this
    · intro i
      constructor
      · rintro ⟨c, hc, hi⟩
        obtain ⟨d, hd, rfl⟩ := List.mem_map.1 hc
        exact (hin hi).1
      · intro hi
        obtain ⟨d, hd, hx⟩ := (h2.cover (t i)).2 (hp.lt' i hi)
        exact ⟨_, List.mem_map.2 ⟨d, hd, rfl⟩, mem_imgC.2 ⟨hi, List.mem_map.2 ⟨_, hx, rfl⟩⟩⟩
    · intro c hc i hi j hj
      obtain ⟨d, hd, rfl⟩ := List.mem_map.1 hc
      rw [hR i (hin hi).1, hR j (hin hj).1]
      exact h2.same d hd _ (hin hi).2 _ (hin hj).2
    · rw [List.pairwise_map]
      refine h2.ord.imp ?_
      intro c d hcd i hi j hj
      rw [hR i (hin hi).1, hR j (hin hj).1]
      exact hcd _ (hin hi).2 _ (hin hj).2
  have := hQ.unique h2'
  rw [← this, List.map_map]
  rfl
theorem ren_refL : ∀ (f : Nat) {l : List (List Int)}, Good n l → renL n (permL n s) (refL n m f l) = refL n m' f (renL n (permL n s) l)
  | 0, l, _ => rfl
  | f + 1, l, h => by
    have hr := ren_round hp hm h
    have hlen : (roundL n (renL n (permL n s) l) m').length = (roundL n l m).length := by rw [← hr]; simp [renL]
    have hlen2 : (renL n (permL n s) l).length = l.length := by simp [renL]
    rw [refL, refL, hlen, hlen2]
    split
    · exact hr
    · rw [ren_refL f (round_good n l m), hr]
theorem ren_refine (h : Good n l) : renL n (permL n s) (refineL n l m) = refineL n (renL n (permL n s) l) m' := ren_refL hp hm (n + 1) h
end
end Go.Proofs.YtjjjohmppehejaaGreat.Plain

namespace Go.Proofs.YtjjjohmppehejaaGreat.Plain
/-- Rows that are named otherwise are collected otherwise named. -/
theorem ren_collect {n : Nat} {s t : Nat → Nat} (hp : PermOf n s t) {rows rows' : List (List Int)} (hl : rows.length = n) (hl' : rows'.length = n) (hR : ∀ q, q < n → rows'[q]?.getD [] = rows[t q]?.getD []) :
    renL n (permL n s) (collect rows) = collect rows' := by
  obtain ⟨P, h1, h2⟩ := collect_part rows
  obtain ⟨P', h1', h2'⟩ := collect_part rows'
  rw [hl] at h2
  rw [hl'] at h2'
  have hg : Good n (collect rows) := by rw [h1]; exact part_good h2
  rw [renL_eq hp hg, h1', h1, List.map_map]
  have hQ : IsPart (fun k => rows'[k]?.getD []) (· < n) (P.map fun c => imgC n t (c.map Int.ofNat)) := by
    have hin : ∀ {c : List Nat} {q : Nat}, q ∈ imgC n t (c.map Int.ofNat) → q < n ∧ t q ∈ c := by
      intro c q hq
      obtain ⟨h1, h2⟩ := mem_imgC.1 hq
      obtain ⟨x, hx, e⟩ := List.mem_map.1 h2
      have : x = t q := Int.ofNat.inj e
      exact ⟨h1, this ▸ hx⟩
    refine ⟨?_, ?_, ?_, ?_⟩
    · intro c hc
      obtain ⟨d, hd, rfl⟩ := List.mem_map.1 hc
      refine ⟨imgC_asc _ _ _, ?_⟩
      obtain ⟨x, y, e⟩ := List.exists_cons_of_ne_nil (h2.asc d hd).2
      have hx : x < n := (h2.cover x).1 ⟨d, hd, by rw [e]; simp⟩
      intro he
      have : s x ∈ imgC n t (d.map Int.ofNat) := mem_imgC.2 ⟨hp.lt x hx, by rw [hp.left x hx, e]; simp⟩
      rw [he] at this; simp at this
    · intro i
      constructor
      · rintro ⟨c, hc, hi⟩
        obtain ⟨d, hd, rfl⟩ := List.mem_map.1 hc
        exact (hin hi).1
      · intro hi
        obtain ⟨d, hd, hx⟩ := (h2.cover (t i)).2 (hp.lt' i hi)
        exact ⟨_, List.mem_map.2 ⟨d, hd, rfl⟩, mem_imgC.2 ⟨hi, List.mem_map.2 ⟨_, hx, rfl⟩⟩⟩
    · intro c hc i hi j hj
      obtain ⟨d, hd, rfl⟩ := List.mem_map.1 hc
      rw [hR i (hin hi).1, hR j (hin hj).1]
      exact h2.same d hd _ (hin hi).2 _ (hin hj).2
    · rw [List.pairwise_map]
      refine h2.ord.imp ?_
      intro c d hcd i hi j hj
      rw [hR i (hin hi).1, hR j (hin hj).1]
      exact hcd _ (hin hi).2 _ (hin hj).2
  have := hQ.unique h2'
  rw [← this, List.map_map]
  rfl
theorem PermOf.comp {n : Nat} {s t s2 t2 : Nat → Nat} (h : PermOf n s t) (h2 : PermOf n s2 t2) : PermOf n (fun i => s2 (s i)) (fun i => t (t2 i)) :=
  ⟨fun i hi => h2.lt _ (h.lt i hi), fun i hi => h.lt' _ (h2.lt' i hi), fun i hi => by rw [h2.left _ (h.lt i hi), h.left i hi], fun i hi => by rw [h.right _ (h2.lt' i hi), h2.right i hi]⟩
theorem permL_get {n : Nat} {s : Nat → Nat} {i : Nat} (h : i < n) : (permL n s)[i]? = some (s i : Int) := by simp [permL, h]
theorem permL_in {n : Nat} {s t : Nat → Nat} (h : PermOf n s t) : ∀ v ∈ permL n s, 0 ≤ v ∧ v < (n : Int) := by
  intro v hv
  obtain ⟨i, hi, rfl⟩ := List.mem_map.1 hv
  have := h.lt i (List.mem_range.1 hi)
  omega
theorem permL_nodup {n : Nat} {s t : Nat → Nat} (h : PermOf n s t) : (permL n s).Nodup := by
  refine nodup_map_on List.nodup_range fun x hx y hy e => ?_
  have e : s x = s y := by have e : ((s x : Nat) : Int) = (s y : Nat) := e; omega
  rw [← h.left x (List.mem_range.1 hx), e, h.left y (List.mem_range.1 hy)]
end Go.Proofs.YtjjjohmppehejaaGreat.Plain
namespace Go.Proofs.YtjjjohmppehejaaGreat.PlainG
open Plain
theorem permB_permL {n : Nat} {s t : Nat → Nat} (h : PermOf n s t) : permB n (permL n s) = true := permB_iff.2 ⟨by rw [permL_len], permL_in h, permL_nodup h⟩
theorem adj_canonS {n : Nat} {f : Nat → Nat → Bool} (hs : ∀ i k, f i k = f k i) (hr : ∀ i, f i i = false) {i k : Nat} (hi : i < n) (hk : k < n) : adj (canon n f) i k = f i k := by
  rw [Bool.eq_iff_iff, adj_iff, mem_canon, mem_canon]
  constructor
  · rintro (⟨a, b, _, _, h3, h4⟩ | ⟨a, b, _, _, h3, h4⟩)
    · have e1 : i = a := by have := (Prod.mk.inj h4).1; omega
      have e2 : k = b := by have := (Prod.mk.inj h4).2; omega
      rw [e1, e2]; exact h3
    · have e1 : k = a := by have := (Prod.mk.inj h4).1; omega
      have e2 : i = b := by have := (Prod.mk.inj h4).2; omega
      rw [hs, e1, e2]; exact h3
  · intro h
    rcases Nat.lt_trichotomy i k with h1 | h1 | h1
    · exact .inl ⟨i, k, h1, hk, h, rfl⟩
    · subst h1; rw [hr] at h; cases h
    · exact .inr ⟨k, i, h1, hi, by rw [hs]; exact h, rfl⟩
theorem adj_self {n : Int} {es : List E2} (he : ∀ x ∈ es, 0 ≤ x.1 ∧ x.1 < x.2 ∧ x.2 < n) (i : Nat) : adj es i i = false := by
  rw [Bool.eq_false_iff]
  intro h
  rw [adj_iff] at h
  rcases h with h | h <;> (have := he _ h; simp at this)
theorem adj_canonC {n : Nat} {f : Nat → Nat → Bool} (hs : ∀ i k, f i k = f k i) {i k : Nat} (hi : i < n) (hk : k < n) : adj (canon n f) i k = (f i k && decide (i ≠ k)) := by
  by_cases e : i = k
  · subst e
    rw [adj_self (chkE_srt (chkE_canon n f)).2.1]; simp
  · rw [decide_eq_true e, Bool.and_true, Bool.eq_iff_iff, adj_iff, mem_canon, mem_canon]
    constructor
    · rintro (⟨a, b, _, _, h3, h4⟩ | ⟨a, b, _, _, h3, h4⟩)
      · have e1 : i = a := by have := (Prod.mk.inj h4).1; omega
        have e2 : k = b := by have := (Prod.mk.inj h4).2; omega
        rw [e1, e2]; exact h3
      · have e1 : k = a := by have := (Prod.mk.inj h4).1; omega
        have e2 : i = b := by have := (Prod.mk.inj h4).2; omega
        rw [hs, e1, e2]; exact h3
    · intro h
      rcases Nat.lt_trichotomy i k with h1 | h1 | h1
      · exact .inl ⟨i, k, h1, hk, h, rfl⟩
      · exact absurd h1 e
      · exact .inr ⟨k, i, h1, hi, by rw [hs]; exact h, rfl⟩
/-- The colours moved. -/
theorem movTo_eq {n : Nat} {s t : Nat → Nat} (h : PermOf n s t) {cs : List Int} {v : Nat} (hv : v < n) : (movTo n (permL n s) cs n)[v]? = some (cs[t v]?.getD 0) := by
  have := movTo_get (n := n) (cs := cs) (permL_len n s) (permL_in h) (permL_nodup h) n (Nat.le_refl _) (t v) (h.lt' v hv) (v : Int) (by rw [permL_get (h.lt' v hv), h.right v hv])
  simpa using this
section
variable {n : Nat} {s t : Nat → Nat} (hp : PermOf n s t) {es : List E2} {cs : List Int}
include hp
/-- Joined in the moved graph. -/
theorem adj_mv (he : ∀ x ∈ es, 0 ≤ x.1 ∧ x.1 < x.2 ∧ x.2 < (n : Int)) {u v : Nat} (hu : u < n) (hv : v < n) : adj (movedG n (permL n s) es cs).es u v = adj es (t u) (t v) := by
  have ha : ∀ u v, u < n → v < n → adj (es.map (mvE (permL n s))) u v = adj es (t u) (t v) := fun u v hu hv =>
    adj_moved (permL_len n s) (permL_nodup hp) he (hp.lt' u hu) (hp.lt' v hv) (by rw [permL_get (hp.lt' u hu), hp.right u hu]) (by rw [permL_get (hp.lt' v hv), hp.right v hv])
  unfold movedG
  dsimp only
  rw [adj_canonC (fun i k => adj_symm _ _ _) hu hv, ha u v hu hv]
  by_cases e : u = v
  · subst e; rw [adj_self he]; rfl
  · rw [decide_eq_true e, Bool.and_true]
theorem mv_cs {v : Nat} (hv : v < n) : (movedG n (permL n s) es cs).cs[v]? = some (cs[t v]?.getD 0) := movTo_eq hp hv
/-- The moved graph is a graph. -/
theorem mv_chk (hn : n ≤ 24) (hl : cs.length = n) (hc : cs.all okC = true) : chkGr (movedG n (permL n s) es cs) = 0 := by
  refine chkGr_ok.2 ⟨by simp [movedG], by simp [movedG]; omega, chkE_canon _ _, by simp only [movedG]; rw [movTo_len], ?_⟩
  rw [List.all_eq_true]
  intro x hx
  obtain ⟨v, hv⟩ := List.mem_iff_getElem?.1 hx
  have hvn : v < n := by have := (List.getElem?_eq_some_iff.1 hv).1; simp only [movedG] at this; rwa [movTo_len] at this
  rw [mv_cs hp hvn] at hv
  have ht := hp.lt' v hvn
  rw [List.getElem?_eq_getElem (by omega)] at hv
  have hv : cs[t v] = x := by simpa using hv
  exact List.all_eq_true.1 hc x (by rw [← hv]; exact List.getElem_mem _)
/-- Distances stay. -/
theorem rch_mv {A A' : Nat → Nat → Bool} (hA : ∀ u v, u < n → v < n → A' u v = A (t u) (t v)) : ∀ (d : Nat) {i u : Nat}, i < n → u < n → rch n A' i d u = rch n A (t i) d (t u)
  | 0, i, u, hi, hu => by
    unfold rch
    rw [Bool.eq_iff_iff, beq_iff_eq, beq_iff_eq]
    exact ⟨fun e => by rw [e], fun e => by rw [← hp.right u hu, e, hp.right i hi]⟩
  | d + 1, i, u, hi, hu => by
    rw [Bool.eq_iff_iff, rch_succ, rch_succ]
    constructor
    · rintro ⟨v, hv, h1, h2⟩
      rw [rch_mv hA d hi hv] at h1
      rw [hA v u hv hu] at h2
      exact ⟨t v, hp.lt' v hv, h1, h2⟩
    · rintro ⟨v, hv, h1, h2⟩
      refine ⟨s v, hp.lt v hv, ?_, ?_⟩
      · rw [rch_mv hA d hi (hp.lt v hv), hp.left v hv]; exact h1
      · rw [hA _ _ (hp.lt v hv) hu, hp.left v hv]; exact h2
theorem lev_mv {A A' : Nat → Nat → Bool} (hA : ∀ u v, u < n → v < n → A' u v = A (t u) (t v)) {i u : Nat} (hi : i < n) (hu : u < n) : lev n A' i n u = lev n A (t i) n (t u) := by
  unfold lev
  have : (fun e => rch n A' i e u) = fun e => rch n A (t i) e (t u) := by funext e; exact rch_mv hp hA e hi hu
  rw [this]
theorem lev_moved (he : ∀ x ∈ es, 0 ≤ x.1 ∧ x.1 < x.2 ∧ x.2 < (n : Int)) {i k : Nat} (hi : i < n) (hk : k < n) : lev n (adj (movedG n (permL n s) es cs).es) (s i) n (s k) = lev n (adj es) i n k := by
  rw [lev_mv hp (fun u v hu hv => adj_mv hp he hu hv) (hp.lt i hi) (hp.lt k hk), hp.left i hi, hp.left k hk]
end
theorem gr_ext {n : Nat} {g h : Gr} (h1 : chkGr g = 0) (h2 : chkGr h = 0) (hn : g.n = n) (hn2 : h.n = n) (ha : ∀ i k, i < k → k < n → adj g.es i k = adj h.es i k) (hc : ∀ v, v < n → g.cs[v]? = h.cs[v]?) : g = h := by
  obtain ⟨a1, a2, a3, a4, _⟩ := chkGr_ok.1 h1
  obtain ⟨b1, b2, b3, b4, _⟩ := chkGr_ok.1 h2
  obtain ⟨gn, ge, gc⟩ := g
  obtain ⟨hn', he, hc'⟩ := h
  simp only at hn hn2 a3 a4 b3 b4 ha hc
  subst hn; subst hn2
  rw [canon_adj a3, canon_adj b3, canon_cong ha]
  congr 1
  apply List.ext_getElem?
  intro v
  by_cases hv : v < n
  · exact hc v hv
  · rw [List.getElem?_eq_none (by omega), List.getElem?_eq_none (by omega)]
/-- The complement of the moved graph is the moved complement. -/
theorem compl_mv {n : Nat} {s t : Nat → Nat} (hp : PermOf n s t) {g : Gr} (hg : chkGr g = 0) (hn : g.n = n) :
    canon n (fun i k => !adj (movedG n (permL n s) g.es g.cs).es i k) = (movedG n (permL n s) (canon n (fun i k => !adj g.es i k)) g.cs).es := by
  obtain ⟨a1, a2, a3, a4, _⟩ := chkGr_ok.1 hg
  rw [hn] at a3 a4
  have he := (chkE_srt a3).2.1
  have h2 := (chkE_srt (chkE_canon n (fun i k => !adj g.es i k))).2.1
  refine Eq.trans ?_ (canon_adj (chkE_canon n (adj ((canon n (fun i k => !adj g.es i k)).map (mvE (permL n s)))))).symm
  refine canon_cong fun i k hik hk => ?_
  have h3 := adj_mv hp (cs := g.cs) h2 (u := i) (v := k) (by omega) hk
  unfold movedG at h3
  dsimp only at h3
  rw [h3, adj_mv hp he (by omega) hk, adj_canonC (fun i k => by rw [adj_symm]) (hp.lt' i (by omega)) (hp.lt' k hk)]
  have hne : t i ≠ t k := fun e => by
    have : i = k := by rw [← hp.right i (by omega), e, hp.right k hk]
    omega
  rw [decide_eq_true hne, Bool.and_true]
/-- Moving twice is moving by the product. -/
theorem mv_mv {n : Nat} {s t s2 t2 : Nat → Nat} (hp : PermOf n s t) (hp2 : PermOf n s2 t2) {g : Gr} (hg : chkGr g = 0) (hn : g.n = n) :
    movedG n (permL n s2) (movedG n (permL n s) g.es g.cs).es (movedG n (permL n s) g.es g.cs).cs = movedG n (permL n fun i => s2 (s i)) g.es g.cs := by
  obtain ⟨a1, a2, a3, a4, a5⟩ := chkGr_ok.1 hg
  rw [hn] at a1 a2 a3 a4
  have he := (chkE_srt a3).2.1
  have hc1 := mv_chk hp (es := g.es) (by omega) (by omega) a5
  obtain ⟨b1, b2, b3, b4, b5⟩ := chkGr_ok.1 hc1
  have he1 := (chkE_srt b3).2.1
  have hl1 : (movedG n (permL n s) g.es g.cs).cs.length = n := by simp only [movedG]; rw [movTo_len]
  refine gr_ext (n := n) (mv_chk hp2 (by omega) hl1 b5) (mv_chk (hp.comp hp2) (by omega) (by omega) a5) rfl rfl (fun i k hik hk => ?_) (fun v hv => ?_)
  · rw [adj_mv hp2 (by simpa [movedG] using he1) (by omega) hk, adj_mv hp he (hp2.lt' _ (by omega)) (hp2.lt' _ hk), adj_mv (hp.comp hp2) he (by omega) hk]
  · rw [mv_cs hp2 hv, mv_cs hp (hp2.lt' v hv), mv_cs (hp.comp hp2) hv]; rfl
theorem of_goodA {n : Nat} {cs : List Int} (h : cs.length = n) : GoodA n (collect (cs.map fun x => [x])) := by
  obtain ⟨P, h1, h2⟩ := collect_part (cs.map fun x => [x])
  rw [List.length_map, h] at h2
  rw [h1]; exact part_goodA h2
/-- The refined cells of the moved graph are the refined cells, renamed. -/
theorem ref_mv {n : Nat} {s t : Nat → Nat} (hp : PermOf n s t) {es : List E2} {cs : List Int} (hl : cs.length = n) {m m' : List (List Int)} (hm : ∀ i k, i < n → k < n → mat m' (s i) (s k) = mat m i k) :
    renL n (permL n s) (refineL n (collect (cs.map fun x => [x])) m) = refineL n (collect ((movedG n (permL n s) es cs).cs.map fun x => [x])) m' := by
  rw [ren_refine hp hm (of_goodA hl).good]
  congr 1
  refine ren_collect hp (by rw [List.length_map, hl]) (by rw [List.length_map]; simp only [movedG]; rw [movTo_len]) fun q hq => ?_
  have ht := hp.lt' q hq
  rw [List.getElem?_map, List.getElem?_map, mv_cs hp hq, List.getElem?_eq_getElem (by omega)]
  rfl
theorem refineL_goodA {n : Nat} {l m : List (List Int)} (h : GoodA n l) : GoodA n (refineL n l m) := refL_goodA h
end Go.Proofs.YtjjjohmppehejaaGreat.PlainG

namespace Go.Proofs.YtjjjohmppehejaaGreat.PlainT
open Go.Proofs.YtjjjohmppehejaaGreat Plain PlainG

/-- The node below: one point alone, refined. -/
def stepN (n : Nat) (m l : List (List Int)) (v : Int) : List (List Int) := refineL n (splitL [v] l) m
/-- The labellings of the leaves below a node. -/
def leavesT (n : Nat) (m : List (List Int)) : Nat → List (List Int) → List (List Int)
  | 0, l => [labelsL n l]
  | f + 1, l => match tgtTo l l.length with
    | none => [labelsL n l]
    | some b => (l[b]?.getD []).flatMap fun v => leavesT n m f (stepN n m l v)

theorem part1_flat (c : List Int) : (part1 c).flatten = c := by
  unfold part1
  split
  · rename_i h; rw [List.eq_nil_of_length_eq_zero h]; rfl
  · simp
theorem splitL_flat (s : List Int) : ∀ l : List (List Int), (splitL s l).flatten.Perm l.flatten
  | [] => by simp [splitL]
  | c :: l => by
    have ih := splitL_flat s l
    simp only [splitL, List.flatMap_cons, List.flatten_append, List.flatten_cons] at ih ⊢
    refine List.Perm.append ?_ ih
    rw [part1_flat, part1_flat]
    have := List.filter_append_perm (fun p => decide (p ∈ s)) c
    simpa [inS, outS] using this
theorem splitL_cell {s : List Int} {l : List (List Int)} {x : List Int} (h : x ∈ splitL s l) : x ≠ [] ∧ ∃ c ∈ l, x.Sublist c := by
  obtain ⟨c, hc, hx⟩ := List.mem_flatMap.1 h
  have key : ∀ y : List Int, y.Sublist c → x ∈ part1 y → x ≠ [] ∧ ∃ c ∈ l, x.Sublist c := fun y hy hx => by
    unfold part1 at hx
    split at hx
    · simp at hx
    · rename_i h0
      rw [List.mem_singleton.1 hx]
      exact ⟨fun e => h0 (by rw [e]; rfl), c, hc, hy⟩
  rcases List.mem_append.1 hx with h | h
  · exact key _ List.filter_sublist h
  · exact key _ List.filter_sublist h
theorem split_goodA {n : Nat} {s : List Int} {l : List (List Int)} (h : GoodA n l) : GoodA n (splitL s l) := by
  have hp := splitL_flat s l
  refine ⟨⟨fun c hc => (splitL_cell hc).1, fun c hc p hpc => ?_, hp.nodup_iff.2 h.good.nodup, fun p hpn => hp.mem_iff.2 (h.good.all p hpn)⟩, fun c hc => ?_⟩
  · obtain ⟨_, d, hd, hs⟩ := splitL_cell hc
    exact h.good.inr d hd p (hs.subset hpc)
  · obtain ⟨_, d, hd, hs⟩ := splitL_cell hc
    exact (h.asc d hd).sublist hs
theorem part2_len {s c : List Int} (h : c ≠ []) : 1 ≤ (part1 (inS s c) ++ part1 (outS s c)).length := by
  obtain ⟨x, r, rfl⟩ := List.exists_cons_of_ne_nil h
  by_cases hx : x ∈ s
  · have : inS s (x :: r) ≠ [] := by simp [inS, hx]
    simp [part1, this]
  · have : outS s (x :: r) ≠ [] := by simp [outS, hx]
    simp [part1, this]
theorem splitL_ge {s : List Int} : ∀ {l : List (List Int)}, (∀ c ∈ l, c ≠ []) → l.length ≤ (splitL s l).length
  | [], _ => by simp
  | c :: l, h => by
    have h1 := splitL_ge (s := s) (l := l) (fun d hd => h d (by simp [hd]))
    have h2 := part2_len (s := s) (h c (by simp))
    simp only [splitL, List.flatMap_cons, List.length_append, List.length_cons] at h1 h2 ⊢
    omega
theorem split_more {l : List (List Int)} {b : Nat} {c : List Int} {v : Int} (hne : ∀ c ∈ l, c ≠ []) (hb : l[b]? = some c) (hv : v ∈ c) (hd : c.Nodup) (h1 : 1 < c.length) : l.length + 1 ≤ (splitL [v] l).length := by
  have hlt := (List.getElem?_eq_some_iff.1 hb).1
  have e : l = l.take b ++ c :: l.drop (b + 1) := by
    have h2 := (List.getElem?_eq_some_iff.1 hb).2
    rw [← h2, List.getElem_cons_drop, List.take_append_drop]
  have h2 : (part1 (inS [v] c) ++ part1 (outS [v] c)).length = 2 := by
    have a1 : inS [v] c ≠ [] := by
      intro e
      have : v ∈ inS [v] c := List.mem_filter.2 ⟨hv, by simp⟩
      rw [e] at this; cases this
    have a2 : outS [v] c ≠ [] := by
      intro e
      obtain ⟨x, y, r, rfl⟩ : ∃ x y r, c = x :: y :: r := by
        match c, h1 with
        | x :: y :: r, _ => exact ⟨x, y, r, rfl⟩
      rw [List.nodup_cons] at hd
      have hxy : x ≠ y := fun e => hd.1 (by simp [e])
      have : ∃ z ∈ x :: y :: r, z ≠ v := by
        by_cases hx : x = v
        · exact ⟨y, by simp, fun e => hxy (by rw [hx, e])⟩
        · exact ⟨x, by simp, hx⟩
      obtain ⟨z, hz, hzv⟩ := this
      have : z ∈ outS [v] (x :: y :: r) := List.mem_filter.2 ⟨hz, by simp [hzv]⟩
      rw [e] at this; cases this
    simp [part1, a1, a2]
  have g1 := splitL_ge (s := [v]) (l := l.take b) (fun d hd => hne d (List.mem_of_mem_take hd))
  have g2 := splitL_ge (s := [v]) (l := l.drop (b + 1)) (fun d hd => hne d (List.mem_of_mem_drop hd))
  have e2 : (splitL [v] l).length = (splitL [v] (l.take b)).length + ((part1 (inS [v] c) ++ part1 (outS [v] c)).length + (splitL [v] (l.drop (b + 1))).length) := by
    conv => lhs; rw [e]
    simp only [splitL, List.flatMap_append, List.flatMap_cons, List.length_append]
  rw [List.length_take] at g1
  rw [List.length_drop] at g2
  omega
theorem refL_grows {n : Nat} {m : List (List Int)} : ∀ {f : Nat} {l : List (List Int)}, Good n l → l.length ≤ (refL n m f l).length
  | 0, l, _ => Nat.le_refl _
  | f + 1, l, h => by
    have h1 := round_grows (m := m) h
    rw [refL]
    split
    · exact h1
    · exact Nat.le_trans h1 (refL_grows (round_good n l m))
theorem tgtTo_spec {l : List (List Int)} : ∀ {k b : Nat}, tgtTo l k = some b → 1 < (l[b]?.getD []).length
  | 0, b, h => by simp [tgtTo] at h
  | k + 1, b, h => by
    rw [tgtTo] at h
    split at h
    · rename_i hc; cases h; exact hc.1
    · exact tgtTo_spec h
theorem tgtTo_none {l : List (List Int)} : ∀ {k : Nat}, tgtTo l k = none → ∀ b, b < k → (l[b]?.getD []).length ≤ 1
  | 0, _, b, hb => by omega
  | k + 1, h, b, hb => by
    rw [tgtTo] at h
    split at h
    · cases h
    · rename_i hc
      have ih := tgtTo_none h
      rcases Nat.lt_or_ge b k with h1 | h1
      · exact ih b h1
      · obtain rfl : b = k := by omega
        rw [h] at hc
        simp at hc
        omega
theorem step_goodA {n : Nat} {m l : List (List Int)} {v : Int} (h : GoodA n l) : GoodA n (stepN n m l v) := refineL_goodA (split_goodA h)
theorem cell_nodup {n : Nat} {l : List (List Int)} (h : GoodA n l) {b : Nat} {c : List Int} (hb : l[b]? = some c) : c.Nodup := (h.asc c (List.mem_of_getElem? hb)).imp (fun e => by omega)
theorem step_more {n : Nat} {m l : List (List Int)} {b : Nat} {v : Int} (h : GoodA n l) (hb : tgtTo l l.length = some b) (hv : v ∈ l[b]?.getD []) : l.length + 1 ≤ (stepN n m l v).length := by
  have hlt := tgtTo_lt hb
  have hg : l[b]? = some l[b] := List.getElem?_eq_getElem hlt
  have h1 := tgtTo_spec hb
  rw [hg, Option.getD_some] at hv h1
  exact Nat.le_trans (split_more h.good.ne hg hv (cell_nodup h hg) h1) (refL_grows (split_goodA h).good)
theorem tgt_full {n : Nat} {l : List (List Int)} (h : GoodA n l) (hn : n ≤ l.length) : tgtTo l l.length = none := by
  cases ht : tgtTo l l.length with
  | none => rfl
  | some b =>
    have hlt := tgtTo_lt ht
    have hg : l[b]? = some l[b] := List.getElem?_eq_getElem hlt
    have h1 := tgtTo_spec ht
    rw [hg, Option.getD_some] at h1
    obtain ⟨v, hv⟩ : ∃ v, v ∈ l[b] := by
      match hb : l[b], h1 with
      | x :: _, _ => exact ⟨x, by simp⟩
    have h2 := split_more h.good.ne hg hv (cell_nodup h hg) h1
    have h3 := (split_goodA (s := [v]) h).good.len_le
    omega
theorem leaves_next {n : Nat} {m l : List (List Int)} {f : Nat} (h : GoodA n l) (hf : n ≤ l.length + f) :
    leavesT n m f l = match tgtTo l l.length with
      | none => [labelsL n l]
      | some b => (l[b]?.getD []).flatMap fun v => leavesT n m (f - 1) (stepN n m l v) := by
  cases f with
  | zero => rw [tgt_full h (by omega)]; rfl
  | succ f => rfl

/-! ### Moving -/
theorem flatMap_perm {α β : Type} {f g : α → List β} : ∀ {l : List α}, (∀ a ∈ l, (f a).Perm (g a)) → (l.flatMap f).Perm (l.flatMap g)
  | [], _ => .refl _
  | a :: l, h => by
    rw [List.flatMap_cons, List.flatMap_cons]
    exact (h a (by simp)).append (flatMap_perm fun b hb => h b (by simp [hb]))
theorem tgtTo_congr {l l' : List (List Int)} (h : ∀ k : Nat, (l[k]?.getD []).length = (l'[k]?.getD []).length) : ∀ k, tgtTo l k = tgtTo l' k
  | 0 => rfl
  | k + 1 => by
    rw [tgtTo, tgtTo, tgtTo_congr h k, h k]
    simp only [h]
theorem imgC_perm {n : Nat} {s t : Nat → Nat} (hp : PermOf n s t) {c : List Int} (hr : ∀ x ∈ c, 0 ≤ x ∧ x < n) (hd : c.Nodup) : (imgC n t c).Perm (c.map fun x => s x.toNat) := by
  have hn1 : (imgC n t c).Nodup := (imgC_asc n t c).imp (fun e => by omega)
  have hn2 : (c.map fun x => s x.toNat).Nodup := by
    refine (List.pairwise_map.2 (List.Pairwise.imp_of_mem ?_ hd))
    intro x y hx hy hne e
    have h1 := hr x hx
    have h2 := hr y hy
    have e2 := congrArg t e
    rw [hp.left _ (by omega), hp.left _ (by omega)] at e2
    exact hne (by omega)
  refine (List.perm_ext_iff_of_nodup hn1 hn2).2 fun q => ?_
  rw [mem_imgC, List.mem_map]
  constructor
  · rintro ⟨hq, hm⟩
    exact ⟨(t q : Int), hm, by simp [hp.right q hq]⟩
  · rintro ⟨x, hx, rfl⟩
    have h1 := hr x hx
    refine ⟨hp.lt _ (by omega), ?_⟩
    rw [hp.left _ (by omega)]
    have : ((x.toNat : Nat) : Int) = x := by omega
    rw [this]; exact hx
/-- A labelling, moved. -/
def mvL (n : Nat) (t : Nat → Nat) (x : List Int) : List Int := (List.range n).map fun q => x[t q]?.getD 0
section
variable {n : Nat} {s t : Nat → Nat} (hp : PermOf n s t) {l m m' : List (List Int)}
include hp
theorem ren_at (h : Good n l) (k : Nat) : (renL n (permL n s) l)[k]?.getD [] = (imgC n t (l[k]?.getD [])).map Int.ofNat := by
  rw [renL_eq hp h, List.getElem?_map]
  cases hk : l[k]? with
  | some c => rfl
  | none =>
    simp only [Option.map_none, Option.getD_none]
    have : imgC n t [] = [] := by unfold imgC; simp
    rw [this]; rfl
theorem ren_cell (h : GoodA n l) (k : Nat) : ((renL n (permL n s) l)[k]?.getD []).Perm ((l[k]?.getD []).map fun x => (s x.toNat : Int)) := by
  rw [ren_at hp h.good]
  cases hk : l[k]? with
  | none =>
    have : imgC n t [] = [] := by unfold imgC; simp
    simp [this]
  | some c =>
    have := (imgC_perm hp (fun x hx => h.good.inr c (List.mem_of_getElem? hk) x hx) (cell_nodup h hk)).map Int.ofNat
    simpa [List.map_map, Function.comp_def] using this
theorem ren_len (h : Good n l) : (renL n (permL n s) l).length = l.length := by rw [renL_eq hp h, List.length_map]
theorem ren_tgt (h : GoodA n l) : tgtTo (renL n (permL n s) l) (renL n (permL n s) l).length = tgtTo l l.length := by
  rw [ren_len hp h.good]
  exact tgtTo_congr (fun k => by rw [(ren_cell hp h k).length_eq, List.length_map]) _
theorem img_in {c : List Int} {v : Nat} (hv : v < n) : inS [(s v : Int)] ((imgC n t c).map Int.ofNat) = (imgC n t (inS [(v : Int)] c)).map Int.ofNat := by
  unfold inS imgC
  rw [List.filter_map, List.filter_filter]
  congr 1
  apply List.filter_congr
  intro q hq
  have hq := List.mem_range.1 hq
  have e : (q = s v) ↔ (t q = v) := ⟨fun e => by rw [e, hp.left v hv], fun e => by rw [← e, hp.right q hq]⟩
  simp only [Function.comp, List.mem_singleton, List.mem_filter, decide_eq_true_eq]
  by_cases h1 : (t q : Int) ∈ c <;> by_cases h2 : t q = v
  · have h3 := e.2 h2; subst h3; simp [h1, h2]
  · have h3 : q ≠ s v := fun h => h2 (e.1 h)
    have a1 : ¬ (q : Int) = (s v : Int) := by omega
    have a2 : ¬ (t q : Int) = (v : Int) := by omega
    simp [a1, a2]
  · have h3 := e.2 h2; subst h3; simp [h1, h2]
  · have h3 : q ≠ s v := fun h => h2 (e.1 h)
    have a1 : ¬ (q : Int) = (s v : Int) := by omega
    simp [a1, h1, h2]
theorem img_out {c : List Int} {v : Nat} (hv : v < n) : outS [(s v : Int)] ((imgC n t c).map Int.ofNat) = (imgC n t (outS [(v : Int)] c)).map Int.ofNat := by
  unfold outS imgC
  rw [List.filter_map, List.filter_filter]
  congr 1
  apply List.filter_congr
  intro q hq
  have hq := List.mem_range.1 hq
  have e : (q = s v) ↔ (t q = v) := ⟨fun e => by rw [e, hp.left v hv], fun e => by rw [← e, hp.right q hq]⟩
  simp only [Function.comp, List.mem_singleton, List.mem_filter, decide_eq_true_eq]
  by_cases h1 : (t q : Int) ∈ c <;> by_cases h2 : t q = v
  · have h3 := e.2 h2; subst h3; simp [h2]
  · have h3 : q ≠ s v := fun h => h2 (e.1 h)
    have a1 : ¬ (q : Int) = (s v : Int) := by omega
    have a2 : ¬ (t q : Int) = (v : Int) := by omega
    simp [a1, a2, h1]
  · have h3 := e.2 h2; subst h3; simp [h1, h2]
  · have h3 : q ≠ s v := fun h => h2 (e.1 h)
    have a1 : ¬ (q : Int) = (s v : Int) := by omega
    simp [a1, h1, h2]
theorem part1_img (c : List Int) (hr : ∀ x ∈ c, 0 ≤ x ∧ x < n) (hd : c.Nodup) : part1 ((imgC n t c).map Int.ofNat) = (part1 c).map fun c => (imgC n t c).map Int.ofNat := by
  have hl : (imgC n t c).length = c.length := by rw [(imgC_perm hp hr hd).length_eq, List.length_map]
  unfold part1
  rw [List.length_map, hl]
  split <;> simp
theorem ren_split (h : GoodA n l) {v : Nat} (hv : v < n) : splitL [(s v : Int)] (renL n (permL n s) l) = renL n (permL n s) (splitL [(v : Int)] l) := by
  rw [renL_eq hp h.good, renL_eq hp (split_goodA h).good, splitL, splitL, List.flatMap_map, List.map_flatMap, List.flatMap_def, List.flatMap_def]
  congr 1
  apply List.map_congr_left
  intro c hc
  have hr := fun x hx => h.good.inr c hc x hx
  have hd : c.Nodup := (h.asc c hc).imp (fun e => by omega)
  rw [img_in hp hv, img_out hp hv, part1_img hp (inS [(v : Int)] c) (fun x hx => hr x (List.mem_filter.1 hx).1) (hd.sublist List.filter_sublist), part1_img hp (outS [(v : Int)] c) (fun x hx => hr x (List.mem_filter.1 hx).1) (hd.sublist List.filter_sublist), List.map_append]
theorem ren_labels (h : Good n l) : labelsL n (renL n (permL n s) l) = mvL n t (labelsL n l) := by
  apply List.ext_getElem?
  intro q
  by_cases hq : q < n
  · have := ren_label hp h (hp.lt' q hq)
    rw [hp.right q hq] at this
    have hl : (labelsL n (renL n (permL n s) l)).length = n := labelsL_len _ _
    rw [List.getElem?_eq_getElem (by omega), Option.getD_some] at this
    rw [List.getElem?_eq_getElem (by omega), this]
    simp [mvL, hq]
  · rw [List.getElem?_eq_none (by rw [labelsL_len]; omega), List.getElem?_eq_none (by simp [mvL]; omega)]
theorem leaves_mv (hm : ∀ i k, i < n → k < n → mat m' (s i) (s k) = mat m i k) : ∀ (f : Nat) {l : List (List Int)}, GoodA n l → (leavesT n m' f (renL n (permL n s) l)).Perm ((leavesT n m f l).map (mvL n t))
  | 0, l, h => by simp only [leavesT, List.map_cons, List.map_nil]; rw [ren_labels hp h.good]
  | f + 1, l, h => by
    simp only [leavesT]
    rw [ren_tgt hp h]
    cases ht : tgtTo l l.length with
    | none => simp only [List.map_cons, List.map_nil]; rw [ren_labels hp h.good]
    | some b =>
      simp only
      rw [List.map_flatMap]
      have hc := ren_cell hp h b
      refine (hc.flatMap_right _).trans ?_
      rw [List.flatMap_map]
      have hlt := tgtTo_lt ht
      have hg : l[b]? = some l[b] := List.getElem?_eq_getElem hlt
      rw [hg, Option.getD_some]
      refine flatMap_perm fun x hx => ?_
      have hr := h.good.inr _ (List.getElem_mem hlt) x hx
      have e : stepN n m' (renL n (permL n s) l) (s x.toNat : Int) = renL n (permL n s) (stepN n m l x) := by
        unfold stepN
        rw [ren_split hp h (by omega), ren_refine hp hm (split_goodA h).good]
        have : ((x.toNat : Nat) : Int) = x := by omega
        rw [this]
      rw [e]
      exact leaves_mv hm f (step_goodA h)
end
end Go.Proofs.YtjjjohmppehejaaGreat.PlainT

namespace Go.Proofs.YtjjjohmppehejaaGreat.PlainT
open Go.Proofs.YtjjjohmppehejaaGreat Plain PlainG

/-- A leaf's labelling is a permutation. -/
theorem leaf_perm {n : Nat} {l : List (List Int)} (h : GoodA n l) (ht : tgtTo l l.length = none) : ∃ s t, PermOf n s t ∧ labelsL n l = permL n s := by
  have h1 : ∀ {k : Nat} {c : List Int}, l[k]? = some c → ∃ x : Nat, c = [(x : Int)] ∧ x < n := fun {k c} hk => by
    have hlt := (List.getElem?_eq_some_iff.1 hk).1
    have a := tgtTo_none ht k hlt
    rw [hk, Option.getD_some] at a
    have b := h.good.ne c (List.mem_of_getElem? hk)
    match c, a, b with
    | [x], _, _ =>
      have hr := h.good.inr [x] (List.mem_of_getElem? hk) x (by simp)
      exact ⟨x.toNat, by rw [show ((x.toNat : Nat) : Int) = x by omega], by omega⟩
  have hlen : l.flatten.length = l.length := by
    rw [List.length_flatten]
    have : l.map List.length = l.map fun _ => 1 := List.map_congr_left fun c hc => by
      obtain ⟨k, hk⟩ := List.mem_iff_getElem?.1 hc
      obtain ⟨x, rfl, _⟩ := h1 hk
      rfl
    rw [this, List.map_const', List.sum_replicate_nat, Nat.mul_one]
  have hge : n ≤ l.length := by
    rw [← hlen]
    have := range_le n (l.flatten.map Int.toNat) (fun k hk => List.mem_map.2 ⟨(k : Int), h.good.all k hk, by simp⟩)
    rwa [List.length_map] at this
  have hle := h.good.len_le
  obtain ⟨s, hs⟩ : ∃ s : Nat → Nat, s = fun q => ((labelsL n l)[q]?.getD 0).toNat := ⟨_, rfl⟩
  obtain ⟨t, htt⟩ : ∃ t : Nat → Nat, t = fun k => ((l[k]?.getD []).headD 0).toNat := ⟨_, rfl⟩
  have hsq : ∀ {q : Nat}, q < n → ∃ k : Nat, k < l.length ∧ l[k]? = some [(q : Int)] ∧ (labelsL n l)[q]? = some (k : Int) ∧ s q = k := fun {q} hq => by
    obtain ⟨k, c, a, b, hm, e⟩ := h.good.cell hq
    obtain ⟨x, rfl, _⟩ := h1 b
    rw [List.mem_singleton] at hm
    exact ⟨k, a, by rw [b, hm], e, by rw [hs]; simp [e]⟩
  have htk : ∀ {k : Nat}, k < n → ∃ x : Nat, l[k]? = some [(x : Int)] ∧ x < n ∧ t k = x := fun {k} hk => by
    have hk' : l[k]? = some l[k] := List.getElem?_eq_getElem (by omega)
    obtain ⟨x, e, hx⟩ := h1 hk'
    exact ⟨x, by rw [hk', e], hx, by rw [htt]; simp [hk', e]⟩
  refine ⟨s, t, ⟨fun i hi => ?_, fun i hi => ?_, fun i hi => ?_, fun i hi => ?_⟩, ?_⟩
  · obtain ⟨k, a, _, _, e⟩ := hsq hi; omega
  · obtain ⟨x, _, a, e⟩ := htk hi; omega
  · obtain ⟨k, a, b, _, e⟩ := hsq hi
    obtain ⟨x, b2, _, e2⟩ := htk (k := s i) (by omega)
    rw [e, b] at b2
    have : (i : Int) = x := by simpa using b2
    omega
  · obtain ⟨x, b, hx, e⟩ := htk hi
    obtain ⟨k, a, b2, _, e2⟩ := hsq (q := t i) (by omega)
    rw [e2]
    have h3 := h.good.label b (q := x) (by simp)
    obtain ⟨k2, _, _, h4, e4⟩ := hsq hx
    rw [h3] at h4
    rw [e] at e2
    have : (i : Int) = k2 := by simpa using h4
    omega
  · apply List.ext_getElem?
    intro q
    by_cases hq : q < n
    · obtain ⟨k, _, _, e, e2⟩ := hsq hq
      rw [e, permL_get hq, e2]
    · rw [List.getElem?_eq_none (by rw [labelsL_len]; omega), List.getElem?_eq_none (by rw [permL_len]; omega)]
theorem leaves_perm {n : Nat} {m : List (List Int)} : ∀ (f : Nat) {l : List (List Int)}, GoodA n l → n ≤ l.length + f → ∀ x ∈ leavesT n m f l, ∃ s t, PermOf n s t ∧ x = permL n s := by
  intro f
  induction f with
  | zero =>
    intro l h hf x hx
    rw [leavesT, List.mem_singleton] at hx
    subst hx
    exact leaf_perm h (tgt_full h (by omega))
  | succ f ih =>
    intro l h hf x hx
    rw [leavesT] at hx
    cases ht : tgtTo l l.length with
    | none =>
      rw [ht] at hx
      simp only [List.mem_singleton] at hx
      subst hx
      exact leaf_perm h ht
    | some b =>
      rw [ht] at hx
      simp only at hx
      obtain ⟨v, hv, hx⟩ := List.mem_flatMap.1 hx
      exact ih (step_goodA h) (by have := step_more (m := m) h ht hv; omega) x hx
theorem leaves_ne {n : Nat} {m : List (List Int)} : ∀ (f : Nat) (l : List (List Int)), leavesT n m f l ≠ [] := by
  intro f
  induction f with
  | zero => intro l; simp [leavesT]
  | succ f ih =>
    intro l
    rw [leavesT]
    cases ht : tgtTo l l.length with
    | none => simp
    | some b =>
      simp only
      have h1 := tgtTo_spec ht
      obtain ⟨v, hv⟩ : ∃ v, v ∈ l[b]?.getD [] := by
        match hb : l[b]?.getD [], h1 with
        | x :: _, _ => exact ⟨x, by simp⟩
      obtain ⟨y, hy⟩ := List.exists_mem_of_ne_nil _ (ih (stepN n m l v))
      intro e
      have : y ∈ (l[b]?.getD []).flatMap fun v => leavesT n m f (stepN n m l v) := List.mem_flatMap.2 ⟨v, hv, hy⟩
      rw [e] at this; cases this

/-! ### The best one -/
/-- Is p better than b? (At no vertices each one takes the place of the one before.) -/
def betB (W : List Int → List Int) (b p : List Int) : Bool := decide (b.length = 0) || (decide (cmpL (W p) (W b) < 0) || (decide (cmpL (W p) (W b) = 0) && decide (cmpL p b < 0)))
def stepB (W : List Int → List Int) : Option (List Int) → List Int → Option (List Int)
  | none, p => some p
  | some b, p => if betB W b p = true then some p else some b
def bestL (W : List Int → List Int) (L : List (List Int)) : Option (List Int) := L.foldl (stepB W) none
theorem leL_refl (x : List Int) : leL x x := by unfold leL; rw [cmpL_self]; omega
theorem bestB {W : List Int → List Int} : ∀ {L : List (List Int)} {b0 : List Int}, (∀ x ∈ L, b0.length = 0 → W x = W b0) → (∀ x ∈ L, x.length = b0.length) →
    ∃ b, L.foldl (stepB W) (some b0) = some b ∧ (b = b0 ∨ b ∈ L) ∧ leL (W b) (W b0) ∧ ∀ x ∈ L, leL (W b) (W x)
  | [], b0, _, _ => ⟨b0, rfl, .inl rfl, leL_refl _, fun x hx => by simp at hx⟩
  | p :: L, b0, h0, hl => by
    rw [List.foldl_cons]
    by_cases hb : betB W b0 p = true
    · have e : stepB W (some b0) p = some p := by simp [stepB, hb]
      have hp := h0 p (by simp)
      have hpl := hl p (by simp)
      obtain ⟨b, e2, hm, h1, h2⟩ := bestB (L := L) (b0 := p) (fun x hx h => (h0 x (List.mem_cons_of_mem _ hx) (hpl ▸ h)).trans (hp (hpl ▸ h)).symm) (fun x hx => by rw [hl x (by simp [hx]), hpl])
      have hle : leL (W p) (W b0) := by
        simp only [betB, Bool.or_eq_true, Bool.and_eq_true, decide_eq_true_eq] at hb
        rcases hb with hb | hb | hb
        · rw [hp hb]; exact leL_refl _
        · exact leL_of_lt hb
        · rw [cmpL_zero hb.1]; exact leL_refl _
      refine ⟨b, by rw [e]; exact e2, ?_, leL_trans h1 hle, fun x hx => ?_⟩
      · rcases hm with rfl | hm
        · exact .inr (by simp)
        · exact .inr (by simp [hm])
      · rcases List.mem_cons.1 hx with rfl | hx
        · exact h1
        · exact h2 x hx
    · have e : stepB W (some b0) p = some b0 := by simp [stepB, hb]
      obtain ⟨b, e2, hm, h1, h2⟩ := bestB (L := L) (b0 := b0) (fun x hx h => h0 x (by simp [hx]) h) (fun x hx => hl x (by simp [hx]))
      have hle : leL (W b0) (W p) := by
        unfold leL
        intro hlt
        exact hb (by simp [betB, hlt])
      refine ⟨b, by rw [e]; exact e2, ?_, h1, fun x hx => ?_⟩
      · rcases hm with rfl | hm
        · exact .inl rfl
        · exact .inr (by simp [hm])
      · rcases List.mem_cons.1 hx with rfl | hx
        · exact leL_trans h1 hle
        · exact h2 x hx
theorem best_spec {W : List Int → List Int} {L : List (List Int)} {n : Nat} (hne : L ≠ []) (hl : ∀ x ∈ L, x.length = n) : ∃ b, bestL W L = some b ∧ b ∈ L ∧ ∀ x ∈ L, leL (W b) (W x) := by
  obtain ⟨p, r, rfl⟩ := List.exists_cons_of_ne_nil hne
  have hp := hl p (by simp)
  obtain ⟨b, e, hm, h1, h2⟩ := bestB (W := W) (L := r) (b0 := p) (fun x hx h0 => by
    have h9 := hl x (by simp [hx])
    have e1 : p = [] := List.eq_nil_of_length_eq_zero h0
    have e2 : x = [] := List.eq_nil_of_length_eq_zero (by omega)
    rw [e1, e2]) (fun x hx => by rw [hl x (by simp [hx]), hp])
  refine ⟨b, by rw [bestL, List.foldl_cons]; exact e, ?_, fun x hx => ?_⟩
  · rcases hm with rfl | hm
    · simp
    · simp [hm]
  · rcases List.mem_cons.1 hx with rfl | hx
    · exact h1
    · exact h2 x hx

/-! ### The form -/
/-- The matrix of a graph. -/
def matT (n : Nat) (es : List E2) : List (List Int) := (List.range n).map fun i => (List.range n).map fun k => if adj es i k = true then 1 else 0
theorem matT_at {n : Nat} {es : List E2} {i k : Nat} (hi : i < n) (hk : k < n) : mat (matT n es) i k = if adj es i k = true then 1 else 0 := by simp [mat, matT, hi, hk]
def rootT (n : Nat) (g : Gr) : List (List Int) := refineL n (collect (g.cs.map fun x => [x])) (matT n g.es)
def allT (n : Nat) (g : Gr) : List (List Int) := leavesT n (matT n g.es) n (rootT n g)
/-- The word of a graph at a labelling. -/
def wordT (n : Nat) (g : Gr) (x : List Int) : List Int := wordG (movedG n x g.es g.cs)
def bestT (n : Nat) (g : Gr) : List Int := (bestL (wordT n g) (allT n g)).getD []
def formT (n : Nat) (g : Gr) : Gr := movedG n (bestT n g) g.es g.cs
/-- A valid graph of n vertices. -/
structure Vg (n : Nat) (g : Gr) : Prop where
  chk : chkGr g = 0
  num : g.n = n
theorem Vg.le {n : Nat} {g : Gr} (h : Vg n g) : n ≤ 24 := by have := (chkGr_ok.1 h.chk).2.1; rw [h.num] at this; omega
theorem Vg.cl {n : Nat} {g : Gr} (h : Vg n g) : g.cs.length = n := by have := (chkGr_ok.1 h.chk).2.2.2.1; rw [h.num] at this; omega
theorem Vg.ed {n : Nat} {g : Gr} (h : Vg n g) : ∀ x ∈ g.es, 0 ≤ x.1 ∧ x.1 < x.2 ∧ x.2 < (n : Int) := by
  have := (chkE_srt (chkGr_ok.1 h.chk).2.2.1).2.1
  rw [h.num] at this; exact this
theorem Vg.ok {n : Nat} {g : Gr} (h : Vg n g) : g.cs.all okC = true := (chkGr_ok.1 h.chk).2.2.2.2
theorem Vg.mv {n : Nat} {g : Gr} (h : Vg n g) {s t : Nat → Nat} (hp : PermOf n s t) : Vg n (movedG n (permL n s) g.es g.cs) := ⟨mv_chk hp h.le h.cl h.ok, rfl⟩
theorem root_goodA {n : Nat} {g : Gr} (h : Vg n g) : GoodA n (rootT n g) := refineL_goodA (of_goodA h.cl)
theorem all_perm {n : Nat} {g : Gr} (h : Vg n g) : ∀ x ∈ allT n g, ∃ s t, PermOf n s t ∧ x = permL n s := leaves_perm n (root_goodA h) (by omega)
theorem all_len {n : Nat} {g : Gr} (h : Vg n g) : ∀ x ∈ allT n g, x.length = n := fun x hx => by
  obtain ⟨s, t, _, rfl⟩ := all_perm h x hx
  exact permL_len n s
theorem best_all {n : Nat} {g : Gr} (h : Vg n g) : bestT n g ∈ allT n g ∧ bestL (wordT n g) (allT n g) = some (bestT n g) ∧ ∀ x ∈ allT n g, leL (wordT n g (bestT n g)) (wordT n g x) := by
  obtain ⟨b, e, h1, h2⟩ := best_spec (W := wordT n g) (show allT n g ≠ [] from leaves_ne n _) (all_len h)
  have e2 : bestT n g = b := by unfold bestT; rw [e]; rfl
  rw [e2]; exact ⟨h1, e, h2⟩
theorem permL_congr {n : Nat} {s s' : Nat → Nat} (h : ∀ i, i < n → s i = s' i) : permL n s = permL n s' := List.map_congr_left fun i hi => by rw [h i (List.mem_range.1 hi)]
theorem mvL_permL {n : Nat} {u t : Nat → Nat} (ht : ∀ i, i < n → t i < n) : mvL n t (permL n u) = permL n fun i => u (t i) :=
  List.map_congr_left fun q hq => by rw [permL_at (ht q (List.mem_range.1 hq))]
/-- The moved graph at a moved labelling is the graph at the labelling. -/
theorem mv_back {n : Nat} {g : Gr} (h : Vg n g) {s t u v : Nat → Nat} (hp : PermOf n s t) (hu : PermOf n u v) :
    movedG n (mvL n t (permL n u)) (movedG n (permL n s) g.es g.cs).es (movedG n (permL n s) g.es g.cs).cs = movedG n (permL n u) g.es g.cs := by
  have hq : PermOf n (fun i => u (t i)) (fun i => s (v i)) := ⟨fun i hi => hu.lt _ (hp.lt' i hi), fun i hi => hp.lt _ (hu.lt' i hi), fun i hi => by rw [hu.left _ (hp.lt' i hi), hp.right i hi], fun i hi => by rw [hp.left _ (hu.lt' i hi), hu.right i hi]⟩
  rw [mvL_permL hp.lt', mv_mv hp hq h.chk h.num]
  congr 1
  exact permL_congr fun i hi => by rw [hp.left i hi]
theorem all_mv {n : Nat} {g : Gr} (h : Vg n g) {s t : Nat → Nat} (hp : PermOf n s t) : (allT n (movedG n (permL n s) g.es g.cs)).Perm ((allT n g).map (mvL n t)) := by
  have hm : ∀ i k, i < n → k < n → mat (matT n (movedG n (permL n s) g.es g.cs).es) (s i) (s k) = mat (matT n g.es) i k := fun i k hi hk => by
    rw [matT_at (hp.lt i hi) (hp.lt k hk), matT_at hi hk, adj_mv hp h.ed (hp.lt i hi) (hp.lt k hk), hp.left i hi, hp.left k hk]
  have hr : rootT n (movedG n (permL n s) g.es g.cs) = renL n (permL n s) (rootT n g) := (ref_mv hp h.cl hm).symm
  unfold allT
  rw [hr]
  exact leaves_mv hp hm n (root_goodA h)
theorem rowsW_inj {es fs : List E2} : ∀ {n : Nat}, rowsW es n = rowsW fs n → ∀ i k, i < k → k < n → adj es k i = adj fs k i
  | 0, _, i, k, _, hk => by omega
  | n + 1, h, i, k, hik, hk => by
    have hl : ∀ es : List E2, ∀ n, (rowsW es n).length = (rowsW fs n).length := fun es n => by
      simp [rowsW, List.length_flatMap]
    rw [rowsW_succ, rowsW_succ] at h
    obtain ⟨h1, h2⟩ := List.append_inj h (hl es n)
    rcases Nat.lt_or_ge k n with hkn | hkn
    · exact rowsW_inj h1 i k hik hkn
    · obtain rfl : k = n := by omega
      have := congrArg (fun l => l[i]?) h2
      simp only [List.getElem?_map, List.getElem?_range hik, Option.map_some] at this
      cases ha : adj es k i <;> cases hb : adj fs k i <;> simp [ha, hb] at this ⊢
theorem word_inj {n : Nat} {g h : Gr} (hg : Vg n g) (hh : Vg n h) (e : wordG g = wordG h) : g = h := by
  unfold wordG at e
  obtain ⟨e1, e2⟩ := List.append_inj e (by rw [hg.cl, hh.cl])
  rw [hg.num, hh.num] at e2
  simp only [Int.toNat_natCast] at e2
  exact gr_ext hg.chk hh.chk hg.num hh.num (fun i k hik hk => by rw [adj_symm, rowsW_inj e2 i k hik hk, adj_symm]) (fun v hv => by rw [e1])
theorem form_vg {n : Nat} {g : Gr} (h : Vg n g) : Vg n (formT n g) := by
  obtain ⟨s, t, hp, e⟩ := all_perm h _ (best_all h).1
  unfold formT
  rw [e]; exact h.mv hp
/-- A moved graph has the same form. -/
theorem form_mv {n : Nat} {g : Gr} (h : Vg n g) {s t : Nat → Nat} (hp : PermOf n s t) : formT n (movedG n (permL n s) g.es g.cs) = formT n g := by
  have hm := h.mv hp
  have ha := all_mv h hp
  obtain ⟨b1, _, b2⟩ := best_all h
  obtain ⟨c1, _, c2⟩ := best_all hm
  have back : ∀ x ∈ allT n g, movedG n (mvL n t x) (movedG n (permL n s) g.es g.cs).es (movedG n (permL n s) g.es g.cs).cs = movedG n x g.es g.cs := fun x hx => by
    obtain ⟨u, v, hu, rfl⟩ := all_perm h x hx
    exact mv_back h hp hu
  obtain ⟨x, hx, e⟩ := List.mem_map.1 (ha.mem_iff.1 c1)
  have h1 : wordT n (movedG n (permL n s) g.es g.cs) (bestT n (movedG n (permL n s) g.es g.cs)) = wordT n g x := by
    rw [← e]; unfold wordT; rw [back x hx]
  have h2 : wordT n (movedG n (permL n s) g.es g.cs) (mvL n t (bestT n g)) = wordT n g (bestT n g) := by
    unfold wordT; rw [back _ b1]
  have h3 := c2 (mvL n t (bestT n g)) (ha.mem_iff.2 (List.mem_map.2 ⟨_, b1, rfl⟩))
  rw [h1, h2] at h3
  have h4 := leL_antisymm h3 (b2 x hx)
  refine word_inj (form_vg hm) (form_vg h) ?_
  rw [h4] at h1
  exact h1
theorem mv_id {n : Nat} {g : Gr} (h : Vg n g) {s : Nat → Nat} (hs : ∀ i, i < n → s i = i) : movedG n (permL n s) g.es g.cs = g := by
  have hp : PermOf n s id := ⟨fun i hi => by rw [hs i hi]; exact hi, fun i hi => hi, fun i hi => hs i hi, fun i hi => hs i hi⟩
  exact gr_ext (h.mv hp).chk h.chk rfl h.num (fun i k hik hk => by rw [adj_mv hp h.ed (by omega) hk]; rfl) (fun v hv => by
    rw [mv_cs hp hv, List.getElem?_eq_getElem (by rw [h.cl]; exact hv)]
    have hv2 : v < g.cs.length := by rw [h.cl]; exact hv
    simp [hv2])
/-- Graphs of the same form are moved to each other. -/
theorem form_iso {n : Nat} {g h : Gr} (hg : Vg n g) (hh : Vg n h) (e : formT n g = formT n h) : ∃ s t, PermOf n s t ∧ movedG n (permL n s) g.es g.cs = h := by
  obtain ⟨s, t, hp, e1⟩ := all_perm hg _ (best_all hg).1
  obtain ⟨u, v, hq, e2⟩ := all_perm hh _ (best_all hh).1
  unfold formT at e
  rw [e1, e2] at e
  refine ⟨fun i => v (s i), fun i => t (u i), hp.comp hq.inv, ?_⟩
  rw [← mv_mv hp hq.inv hg.chk hg.num, e, mv_mv hq hq.inv hh.chk hh.num]
  exact mv_id hh fun i hi => hq.left i hi
theorem form_iff {n : Nat} {g h : Gr} (hg : Vg n g) (hh : Vg n h) : formT n g = formT n h ↔ ∃ s t, PermOf n s t ∧ movedG n (permL n s) g.es g.cs = h :=
  ⟨form_iso hg hh, fun ⟨s, t, hp, e⟩ => by rw [← e, form_mv hg hp]⟩
end Go.Proofs.YtjjjohmppehejaaGreat.PlainT

namespace Go.Proofs.YtjjjohmppehejaaGreat.PlainX
abbrev Adj := Nat → Nat → Bool
def okS (A B : Adj) (cg ch : List Int) (p : List Nat) (v : Nat) : Bool :=
  (cg[p.length]?.getD 0 == ch[v]?.getD 0) && (!p.contains v && (List.range p.length).all fun k => A p.length k == B v (p[k]?.getD 0))
def tryF (A B : Adj) (cg ch : List Int) (n : Nat) : Nat → List Nat → Option (List Nat)
  | 0, p => some p
  | f + 1, p => (List.range n).findSome? fun v => if okS A B cg ch p v = true then tryF A B cg ch n f (p ++ [v]) else none
def preOK (A B : Adj) (cg ch : List Int) (p : List Nat) : Bool := (List.range p.length).all fun i => okS A B cg ch (p.take i) (p[i]?.getD 0)
def extA (A B : Adj) (cg ch : List Int) (n : Nat) (p : List Nat) : Option (List Nat) := if preOK A B cg ch p = true then tryF A B cg ch n (n - p.length) p else none
def mayF (fs : List Nat) (i v : Nat) : Bool := match fs[i]? with | none => true | some q => q == v
def refF (A B : Adj) (cg ch : List Int) (n : Nat) (fs : List Nat) : Nat → List Nat → Option (List Nat)
  | 0, p => some p
  | f + 1, p => (List.range n).findSome? fun v => if (mayF fs p.length v && okS A B cg ch p v) = true then refF A B cg ch n fs f (p ++ [v]) else none
section
variable {A B : Adj} {cg ch : List Int} {n : Nat}
theorem tryF_len : ∀ {f : Nat} {p q : List Nat}, tryF A B cg ch n f p = some q → q.length = p.length + f ∧ q.take p.length = p := by
  intro f
  induction f with
  | zero => intro p q h; simp [tryF] at h; subst h; simp
  | succ f ih =>
    intro p q h
    unfold tryF at h
    obtain ⟨l1, v, l2, h1, h2, h3⟩ := List.findSome?_eq_some_iff.1 h
    split at h2
    · obtain ⟨a, b⟩ := ih h2
      simp at a b
      refine ⟨by omega, ?_⟩
      have := congrArg (List.take p.length) b
      rw [List.take_take] at this
      simpa using this
    · cases h2
theorem refF_free {fs : List Nat} : ∀ {f : Nat} {p : List Nat}, fs.length ≤ p.length → refF A B cg ch n fs f p = tryF A B cg ch n f p := by
  intro f
  induction f with
  | zero => intro p h; rfl
  | succ f ih =>
    intro p h
    unfold refF tryF
    congr 1
    funext v
    have hm : mayF fs p.length v = true := by unfold mayF; rw [List.getElem?_eq_none h]
    rw [hm, Bool.true_and, ih (by simp; omega)]
theorem findSome?_one {α : Type} {n q : Nat} {g : Nat → Option α} (hq : q < n) (h : ∀ v, v ≠ q → g v = none) : (List.range n).findSome? g = g q := by
  cases hg : g q with
  | some x =>
    refine List.findSome?_eq_some_iff.2 ⟨List.range q, q, List.range' (q + 1) (n - q - 1), ?_, hg, fun v hv => h v (by simp at hv; omega)⟩
    rw [List.range_eq_range', List.range_eq_range', show n = q + (1 + (n - q - 1)) by omega, ← List.range'_append_1, Nat.add_comm 1, List.range'_succ]
    simp
  | none =>
    rw [List.findSome?_eq_none_iff]
    intro v _
    by_cases hv : v = q
    · rw [hv, hg]
    · exact h v hv
theorem refF_pre {fs : List Nat} (hr : ∀ v ∈ fs, v < n) : ∀ (d k : Nat), k + d = fs.length → k + d ≤ n →
    refF A B cg ch n fs (n - k) (fs.take k) = if ((List.range' k d).all fun i => okS A B cg ch (fs.take i) (fs[i]?.getD 0)) = true then tryF A B cg ch n (n - fs.length) fs else none := by
  intro d
  induction d with
  | zero =>
    intro k hk hn
    rw [refF_free (by simp; omega), List.take_of_length_le (by omega)]
    have : n - k = n - fs.length := by omega
    simp [this]
  | succ d ih =>
    intro k hk hn
    have hlt : k < fs.length := by omega
    have hq : fs[k]? = some fs[k] := List.getElem?_eq_getElem hlt
    have hqn : fs[k] < n := hr _ (List.getElem_mem hlt)
    have hl : (fs.take k).length = k := by simp; omega
    obtain ⟨f, hf⟩ : ∃ f, n - k = f + 1 := ⟨n - k - 1, by omega⟩
    rw [hf]
    unfold refF
    rw [hl, findSome?_one hqn (fun v hv => by
      have hm : mayF fs k v = false := by
        unfold mayF; rw [hq]; simp; exact fun e => hv e.symm
      rw [hm]; simp)]
    have hm : mayF fs k fs[k] = true := by unfold mayF; rw [hq]; simp
    rw [hm, Bool.true_and, List.range'_succ, List.all_cons, hq]
    simp only [Option.getD_some]
    have ht : fs.take k ++ [fs[k]] = fs.take (k + 1) := by rw [List.take_add_one, hq]; rfl
    rw [ht, show f = n - (k + 1) by omega, ih (k + 1) (by omega) (by omega)]
    by_cases ho : okS A B cg ch (fs.take k) fs[k] = true
    · rw [if_pos ho]; simp only [ho, Bool.true_and]
    · rw [if_neg ho, if_neg (fun e => ho (by simp only [Bool.and_eq_true] at e; exact e.1))]
theorem ref_ext {fs : List Nat} (hr : ∀ v ∈ fs, v < n) (hl : fs.length ≤ n) : refF A B cg ch n fs n [] = extA A B cg ch n fs := by
  have := refF_pre (A := A) (B := B) (cg := cg) (ch := ch) hr fs.length 0 (by omega) (by omega)
  simp at this
  rw [this]
  unfold extA preOK
  rw [List.range_eq_range']
  simp
end
/-- The chain of the automorphisms: for each level the points and the least automorphisms that lead there. -/
def levA (A : Adj) (c : List Int) (n i : Nat) : List (Nat × List Nat) := (List.range n).filterMap fun v => (extA A A c c n (List.range i ++ [v])).map fun q => (v, q)
def orbA (A : Adj) (c : List Int) (n i : Nat) : List Nat := (levA A c n i).map (·.1)
def repA (A : Adj) (c : List Int) (n i : Nat) : List (List Nat) := (levA A c n i).map (·.2)
end Go.Proofs.YtjjjohmppehejaaGreat.PlainX

namespace Go.Proofs.YtjjjohmppehejaaGreat.PlainX
open Go.Proofs.YtjjjohmppehejaaGreat Plain PlainG PlainT
theorem length_le_of_nodup {α : Type} [DecidableEq α] : ∀ {l m : List α}, l.Nodup → (∀ x ∈ l, x ∈ m) → l.length ≤ m.length
  | [], m, _, _ => Nat.zero_le _
  | a :: l, m, hd, h => by
    rw [List.nodup_cons] at hd
    have ham := h a (by simp)
    have := length_le_of_nodup (l := l) (m := m.erase a) hd.2 (fun x hx => (List.mem_erase_of_ne (fun e => hd.1 (by rw [← e]; exact hx))).2 (h x (by simp [hx])))
    rw [List.length_erase_of_mem ham] at this
    have : 0 < m.length := List.length_pos_of_mem ham
    simp only [List.length_cons]
    omega
theorem nodup_ne {q : List Nat} (h : q.Nodup) {i j : Nat} (hi : i < q.length) (hj : j < q.length) (hne : i ≠ j) : q[i] ≠ q[j] := by
  rcases Nat.lt_or_gt_of_ne hne with h1 | h1
  · exact List.pairwise_iff_getElem.1 h i j hi hj h1
  · exact fun e => List.pairwise_iff_getElem.1 h j i hj hi h1 e.symm
/-- q is an isomorphism from A to B. -/
structure Iso (A B : Adj) (cg ch : List Int) (n : Nat) (q : List Nat) : Prop where
  len : q.length = n
  lt : ∀ x ∈ q, x < n
  nd : q.Nodup
  adj : ∀ i k, k < i → i < n → A i k = B (q[i]?.getD 0) (q[k]?.getD 0)
  col : ∀ i, i < n → cg[i]?.getD 0 = ch[q[i]?.getD 0]?.getD 0
theorem okS_iff {A B : Adj} {cg ch : List Int} {p : List Nat} {v : Nat} : okS A B cg ch p v = true ↔ cg[p.length]?.getD 0 = ch[v]?.getD 0 ∧ v ∉ p ∧ ∀ k, k < p.length → A p.length k = B v (p[k]?.getD 0) := by
  unfold okS
  simp only [Bool.and_eq_true, beq_iff_eq, Bool.not_eq_true', List.all_eq_true, List.mem_range]
  constructor
  · rintro ⟨h1, h2, h3⟩
    exact ⟨h1, (fun hm => by rw [List.contains_iff_mem.2 hm] at h2; cases h2), h3⟩
  · rintro ⟨h1, h2, h3⟩
    refine ⟨h1, ?_, h3⟩
    rw [Bool.eq_false_iff]
    intro h; exact h2 (List.contains_iff_mem.1 h)
/-- The first entries of an isomorphism. -/
structure Pre (A B : Adj) (cg ch : List Int) (n : Nat) (p : List Nat) : Prop where
  lt : ∀ x ∈ p, x < n
  ok : ∀ i, i < p.length → okS A B cg ch (p.take i) (p[i]?.getD 0) = true
theorem pre_snoc {A B : Adj} {cg ch : List Int} {n : Nat} {p : List Nat} {v : Nat} (h : Pre A B cg ch n p) (hv : v < n) (ho : okS A B cg ch p v = true) : Pre A B cg ch n (p ++ [v]) := by
  refine ⟨fun x hx => ?_, fun i hi => ?_⟩
  · rcases List.mem_append.1 hx with h1 | h1
    · exact h.lt x h1
    · rw [List.mem_singleton.1 h1]; exact hv
  · rw [List.length_append, List.length_singleton] at hi
    by_cases hl : i < p.length
    · rw [List.take_append_of_le_length (by omega), List.getElem?_append_left hl]; exact h.ok i hl
    · obtain rfl : i = p.length := by omega
      rw [List.take_append_of_le_length (Nat.le_refl _), List.take_length, List.getElem?_append_right (Nat.le_refl _)]
      simpa using ho
theorem Pre.iso {A B : Adj} {cg ch : List Int} {n : Nat} {q : List Nat} (h : Pre A B cg ch n q) (hl : q.length = n) : Iso A B cg ch n q := by
  have tk : ∀ i, i < n → (q.take i).length = i := fun i hi => by rw [List.length_take]; omega
  have ok : ∀ i, i < n → cg[i]?.getD 0 = ch[q[i]?.getD 0]?.getD 0 ∧ q[i]?.getD 0 ∉ q.take i ∧ ∀ k, k < i → A i k = B (q[i]?.getD 0) (q[k]?.getD 0) := fun i hi => by
    obtain ⟨h1, h2, h3⟩ := okS_iff.1 (h.ok i (by omega))
    rw [tk i hi] at h1 h3
    refine ⟨h1, h2, fun k hk => ?_⟩
    have := h3 k hk
    rwa [List.getElem?_take, if_pos hk] at this
  refine ⟨hl, h.lt, ?_, fun i k hk hi => (ok i hi).2.2 k hk, fun i hi => (ok i hi).1⟩
  refine List.pairwise_iff_getElem.2 fun i j hi hj hij e => ?_
  have := (ok j (by omega)).2.1
  rw [List.getElem?_eq_getElem hj, Option.getD_some, ← e] at this
  exact this (List.mem_take_iff_getElem.2 ⟨i, by omega, rfl⟩)
theorem Iso.pre {A B : Adj} {cg ch : List Int} {n : Nat} {q : List Nat} (h : Iso A B cg ch n q) : Pre A B cg ch n q := by
  refine ⟨h.lt, fun i hi => ?_⟩
  have hl := h.len
  rw [okS_iff]
  rw [List.length_take, Nat.min_eq_left (by omega)]
  refine ⟨h.col i (by omega), fun hm => ?_, fun k hk => ?_⟩
  · obtain ⟨j, hj, e⟩ := List.mem_take_iff_getElem.1 hm
    rw [List.getElem?_eq_getElem hi, Option.getD_some] at e
    exact nodup_ne h.nd (by omega) hi (by omega) e
  · rw [List.getElem?_take, if_pos hk]; exact h.adj i k hk (by omega)
theorem tryF_iso {A B : Adj} {cg ch : List Int} {n : Nat} : ∀ {f : Nat} {p q : List Nat}, p.length + f = n → Pre A B cg ch n p → tryF A B cg ch n f p = some q → Iso A B cg ch n q := by
  intro f
  induction f with
  | zero =>
    intro p q hl hp h
    simp [tryF] at h
    subst h
    exact hp.iso (by omega)
  | succ f ih =>
    intro p q hl hp h
    unfold tryF at h
    obtain ⟨l1, v, l2, h1, h2, h3⟩ := List.findSome?_eq_some_iff.1 h
    split at h2
    · rename_i ho
      have hv : v < n := by
        have : v ∈ List.range n := by rw [h1]; simp
        exact List.mem_range.1 this
      exact ih (by simp; omega) (pre_snoc hp hv ho) h2
    · cases h2
theorem ext_iso {A B : Adj} {cg ch : List Int} {n : Nat} {p q : List Nat} (hp : ∀ x ∈ p, x < n) (hl : p.length ≤ n) (h : extA A B cg ch n p = some q) : Iso A B cg ch n q := by
  unfold extA at h
  split at h
  · rename_i ho
    refine tryF_iso (by omega) ⟨hp, fun i hi => ?_⟩ h
    exact List.all_eq_true.1 ho i (List.mem_range.2 hi)
  · cases h
/-- An isomorphism's edges. -/
theorem iso_edges_le {n : Nat} {g h : Gr} (hg : Vg n g) (hh : Vg n h) {q : List Nat} (hq : Iso (adj g.es) (adj h.es) g.cs h.cs n q) : g.es.length ≤ h.es.length := by
  have hqi : ∀ i, i < n → q[i]?.getD 0 < n := fun i hi => by
    rw [List.getElem?_eq_getElem (by rw [hq.len]; exact hi)]; exact hq.lt _ (List.getElem_mem _)
  have inj : ∀ i k, i < n → k < n → q[i]?.getD 0 = q[k]?.getD 0 → i = k := fun i k hi hk e => by
    rw [List.getElem?_eq_getElem (by rw [hq.len]; exact hi), List.getElem?_eq_getElem (by rw [hq.len]; exact hk)] at e
    rcases Nat.decEq i k with hne | he
    · exact absurd e (nodup_ne hq.nd (by rw [hq.len]; exact hi) (by rw [hq.len]; exact hk) hne)
    · exact he
  have adjq : ∀ i k, i < n → k < n → adj g.es i k = adj h.es (q[i]?.getD 0) (q[k]?.getD 0) := fun i k hi hk => by
    rcases Nat.lt_trichotomy i k with h1 | h1 | h1
    · rw [adj_symm g.es i k, hq.adj k i h1 hk, adj_symm h.es _ (q[i]?.getD 0)]
    · subst h1
      rw [adj_self hg.ed, adj_self hh.ed]
    · exact hq.adj i k h1 hi
  have hsg := (chkE_srt (chkGr_ok.1 hg.chk).2.2.1).1
  have hnd : g.es.Nodup := hsg.imp (fun {x y} hb e => by subst e; simp [bef] at hb)
  obtain ⟨φ, hφ⟩ : ∃ φ : E2 → E2, φ = fun e => if q[e.1.toNat]?.getD 0 < q[e.2.toNat]?.getD 0 then (((q[e.1.toNat]?.getD 0 : Nat) : Int), ((q[e.2.toNat]?.getD 0 : Nat) : Int)) else (((q[e.2.toNat]?.getD 0 : Nat) : Int), ((q[e.1.toNat]?.getD 0 : Nat) : Int)) := ⟨_, rfl⟩
  have hmem : ∀ e ∈ g.es, φ e ∈ h.es := fun e he => by
    obtain ⟨h0, h1, h2⟩ := hg.ed e he
    have ha : adj g.es e.1.toNat e.2.toNat = true := adj_iff.2 (.inl (by
      rw [show ((e.1.toNat : Nat) : Int) = e.1 by omega, show ((e.2.toNat : Nat) : Int) = e.2 by omega]; exact he))
    rw [adjq _ _ (by omega) (by omega)] at ha
    rw [hφ]
    simp only
    rcases adj_iff.1 ha with h3 | h3
    · have := (hh.ed _ h3).2.1
      rw [if_pos (by simpa using this)]; exact h3
    · have := (hh.ed _ h3).2.1
      simp only at this
      rw [if_neg (by omega)]; exact h3
  have hinj : ∀ e ∈ g.es, ∀ e' ∈ g.es, φ e = φ e' → e = e' := fun e he e' he' heq => by
    obtain ⟨h0, h1, h2⟩ := hg.ed e he
    obtain ⟨k0, k1, k2⟩ := hg.ed e' he'
    have key : ∀ {a b c d : Nat}, a < n → b < n → c < n → d < n → q[a]?.getD 0 = q[c]?.getD 0 → q[b]?.getD 0 = q[d]?.getD 0 → a = c ∧ b = d := fun ha hb hc hd e1 e2 => ⟨inj _ _ ha hc e1, inj _ _ hb hd e2⟩
    rw [hφ] at heq
    simp only at heq
    have fin : ∀ {a b : E2}, a.1.toNat = b.1.toNat → a.2.toNat = b.2.toNat → 0 ≤ a.1 → 0 ≤ a.2 → 0 ≤ b.1 → 0 ≤ b.2 → a = b := fun e1 e2 p1 p2 p3 p4 => Prod.ext (by omega) (by omega)
    split at heq <;> split at heq
    · have e1 := congrArg Prod.fst heq
      have e2 := congrArg Prod.snd heq
      simp only at e1 e2
      obtain ⟨a1, a2⟩ := key (by omega) (by omega) (by omega) (by omega) (Int.ofNat.inj e1) (Int.ofNat.inj e2)
      exact fin a1 a2 h0 (by omega) k0 (by omega)
    · have e1 := congrArg Prod.fst heq
      have e2 := congrArg Prod.snd heq
      simp only at e1 e2
      obtain ⟨a1, a2⟩ := key (by omega) (by omega) (by omega) (by omega) (Int.ofNat.inj e1) (Int.ofNat.inj e2)
      omega
    · have e1 := congrArg Prod.fst heq
      have e2 := congrArg Prod.snd heq
      simp only at e1 e2
      obtain ⟨a1, a2⟩ := key (by omega) (by omega) (by omega) (by omega) (Int.ofNat.inj e1) (Int.ofNat.inj e2)
      omega
    · have e1 := congrArg Prod.fst heq
      have e2 := congrArg Prod.snd heq
      simp only at e1 e2
      obtain ⟨a1, a2⟩ := key (by omega) (by omega) (by omega) (by omega) (Int.ofNat.inj e1) (Int.ofNat.inj e2)
      exact fin a2 a1 h0 (by omega) k0 (by omega)
  have hndm : (g.es.map φ).Nodup := List.pairwise_map.2 (List.Pairwise.imp_of_mem (fun {a b} ha hb hne e => hne (hinj a ha b hb e)) hnd)
  have := length_le_of_nodup hndm (fun x hx => by
    obtain ⟨e, he, rfl⟩ := List.mem_map.1 hx
    exact hmem e he)
  simpa using this
theorem iso_of_perm {A B : Adj} {cg ch : List Int} {n : Nat} {s t : Nat → Nat} (hp : PermOf n s t) (ha : ∀ i k, k < i → i < n → A i k = B (s i) (s k)) (hc : ∀ i, i < n → cg[i]?.getD 0 = ch[s i]?.getD 0) : Iso A B cg ch n ((List.range n).map s) := by
  have at_ : ∀ i, i < n → ((List.range n).map s)[i]?.getD 0 = s i := fun i hi => by simp [hi]
  refine ⟨by simp, fun x hx => ?_, ?_, fun i k hk hi => by rw [at_ i hi, at_ k (by omega)]; exact ha i k hk hi, fun i hi => by rw [at_ i hi]; exact hc i hi⟩
  · obtain ⟨i, hi, rfl⟩ := List.mem_map.1 hx
    exact hp.lt i (List.mem_range.1 hi)
  · refine List.pairwise_map.2 (List.Pairwise.imp_of_mem ?_ (List.pairwise_lt_range (n := n)))
    intro a b ha hb hab e
    have := congrArg t e
    rw [hp.left a (List.mem_range.1 ha), hp.left b (List.mem_range.1 hb)] at this
    omega
/-- The map of an isomorphism is a permutation. -/
theorem Iso.perm {A B : Adj} {cg ch : List Int} {n : Nat} {q : List Nat} (h : Iso A B cg ch n q) : ∃ t, PermOf n (fun i => q[i]?.getD 0) t := by
  have hl := h.len
  have hsurj : ∀ k, k < n → k ∈ q := fun k hk => by
    have := mem_of_full n (q.map Int.ofNat) (List.pairwise_map.2 (h.nd.imp (fun {a b} hne e => hne (Int.ofNat.inj e)))) (fun p hp => by
      obtain ⟨x, hx, rfl⟩ := List.mem_map.1 hp
      have := h.lt x hx
      constructor
      · exact Int.natCast_nonneg x
      · exact Int.ofNat_lt.2 this) (by rw [List.length_map]; omega) k hk
    obtain ⟨x, hx, e⟩ := List.mem_map.1 this
    have : x = k := Int.ofNat.inj e
    rwa [← this]
  have hidx : ∀ k, k < n → q.idxOf k < n ∧ q[q.idxOf k]?.getD 0 = k := fun k hk => by
    have h1 := List.idxOf_lt_length_of_mem (hsurj k hk)
    refine ⟨by omega, ?_⟩
    rw [List.getElem?_eq_getElem h1, Option.getD_some]
    exact List.getElem_idxOf h1
  refine ⟨fun k => q.idxOf k, fun i hi => ?_, fun k hk => (hidx k hk).1, fun i hi => ?_, fun k hk => (hidx k hk).2⟩
  · rw [List.getElem?_eq_getElem (by omega)]; exact h.lt _ (List.getElem_mem _)
  · have h1 : q[i]?.getD 0 < n := by rw [List.getElem?_eq_getElem (by omega)]; exact h.lt _ (List.getElem_mem _)
    obtain ⟨h2, h3⟩ := hidx _ h1
    rcases Nat.decEq (q.idxOf (q[i]?.getD 0)) i with hne | he
    · exfalso
      have h4 := nodup_ne h.nd (i := q.idxOf (q[i]?.getD 0)) (j := i) (by omega) (by omega) hne
      obtain ⟨y, hy⟩ : ∃ y, q[i]?.getD 0 = y := ⟨_, rfl⟩
      have hy2 : q[i] = y := by rw [← hy, List.getElem?_eq_getElem (show i < q.length by omega)]; rfl
      rw [hy] at h2 h3
      simp only [hy] at h4
      rw [List.getElem?_eq_getElem (by omega), Option.getD_some] at h3
      exact h4 (h3.trans hy2.symm)
    · exact he
theorem iso_adj {n : Nat} {g h : Gr} (hg : Vg n g) (hh : Vg n h) {q : List Nat} (hq : Iso (adj g.es) (adj h.es) g.cs h.cs n q) {i k : Nat} (hi : i < n) (hk : k < n) : adj g.es i k = adj h.es (q[i]?.getD 0) (q[k]?.getD 0) := by
  rcases Nat.lt_trichotomy i k with h1 | h1 | h1
  · rw [adj_symm g.es i k, hq.adj k i h1 hk, adj_symm h.es _ (q[i]?.getD 0)]
  · subst h1
    rw [adj_self hg.ed, adj_self hh.ed]
  · exact hq.adj i k h1 hi
/-- Isomorphic graphs have the same number of edges. -/
theorem iso_edges {n : Nat} {g h : Gr} (hg : Vg n g) (hh : Vg n h) {q : List Nat} (hq : Iso (adj g.es) (adj h.es) g.cs h.cs n q) : g.es.length = h.es.length := by
  obtain ⟨t, hp⟩ := hq.perm
  refine Nat.le_antisymm (iso_edges_le hg hh hq) (iso_edges_le hh hg (iso_of_perm hp.inv (fun i k hk hi => ?_) (fun i hi => ?_)))
  · have := iso_adj hg hh hq (hp.lt' i hi) (hp.lt' k (by omega))
    rw [this]
    have e1 := hp.right i hi
    have e2 := hp.right k (by omega)
    rw [e1, e2]
  · rw [hq.col _ (hp.lt' i hi)]
    have e1 := hp.right i hi
    rw [e1]
end Go.Proofs.YtjjjohmppehejaaGreat.PlainX
