/- Refining does not depend on the names of points: plain. · What is computed of a moved graph is what was computed, moved: plain. -/
import Derived.Test.YtifkieopaoooeaaGreatDoorPlainC
import Derived.Test.YtifkieopaoooeaaGreatDoorPlainMove
import Derived.Test.YtifkieopaoooeaaGreatDoorPlainParts
set_option linter.unusedSimpArgs false
set_option linter.unusedVariables false
namespace Go.Proofs.YtifkieopaoooeaaGreatDoor.Plain

/-- A partition whose cells ascend. -/
structure GoodA (n : Nat) (l : List (List Int)) : Prop where
  good : Good n l
  asc : ∀ c ∈ l, c.Pairwise (· < ·)

theorem chkCell_ok {n : Int} : ∀ {c s : List Int} {prev : Option Int}, (∀ p ∈ c, 0 ≤ p ∧ p < n) → c.Pairwise (· < ·) → (∀ p ∈ c, p ∉ s) → (∀ q, prev = some q → ∀ p ∈ c, q ≤ p) → chkCell n s prev c = .inr (c.reverse ++ s)
  | [], s, prev, _, _, _, _ => by simp [chkCell]
  | p :: r, s, prev, h1, h2, h3, h4 => by
    have hp := h1 p (by simp)
    rw [List.pairwise_cons] at h2
    rw [chkCell, if_neg (by omega), if_neg (h3 p (by simp)), if_neg]
    · rw [chkCell_ok (fun q hq => h1 q (by simp [hq])) h2.2]
      · simp
      · intro q hq hm
        rcases List.mem_cons.1 hm with rfl | hm
        · have := h2.1 q hq; omega
        · exact h3 q (by simp [hq]) hm
      · rintro q ⟨⟩ x hx
        have := h2.1 x hx; omega
    · rintro ⟨q, hq, hlt⟩
      have := h4 q hq p (by simp); omega
theorem chkCells_ok {n : Int} : ∀ {l : List (List Int)} {s : List Int}, (∀ c ∈ l, c ≠ []) → (∀ c ∈ l, ∀ p ∈ c, 0 ≤ p ∧ p < n) → (∀ c ∈ l, c.Pairwise (· < ·)) → l.flatten.Nodup → (∀ p ∈ l.flatten, p ∉ s) → chkCells n s l = .inr (l.flatten.reverse ++ s)
  | [], s, _, _, _, _, _ => by simp [chkCells]
  | c :: r, s, h1, h2, h3, h4, h5 => by
    rw [List.flatten_cons, List.nodup_append] at h4
    rw [chkCells, if_neg (h1 c (by simp)), chkCell_ok (h2 c (by simp)) (h3 c (by simp)) (fun p hp => h5 p (by simp [hp])) (by simp)]
    simp only
    rw [chkCells_ok (fun c hc => h1 c (by simp [hc])) (fun c hc => h2 c (by simp [hc])) (fun c hc => h3 c (by simp [hc])) h4.2.1]
    · simp
    · intro p hp hm
      rcases List.mem_append.1 hm with hm | hm
      · exact h4.2.2 p (List.mem_reverse.1 hm) p hp rfl
      · exact h5 p (by rw [List.flatten_cons]; exact List.mem_append_right _ hp) hm
theorem GoodA.chk {n : Nat} {l : List (List Int)} (h : GoodA n l) (hn : n ≤ 64) : chk n l = 0 := by
  have h1 := chkCells_ok (n := n) (s := []) h.good.ne h.good.inr h.asc h.good.nodup (by simp)
  rw [chk_end (by omega) h1, if_neg]
  have hl : n ≤ l.flatten.length := by
    have := range_le n (l.flatten.map Int.toNat) (fun k hk => List.mem_map.2 ⟨(k : Int), h.good.all k hk, by simp⟩)
    rwa [List.length_map] at this
  simp only [List.append_nil, List.length_reverse]; omega

theorem part_goodA {R : Nat → List Int} {n : Nat} {P : List (List Nat)} (h : IsPart R (· < n) P) : GoodA n (P.map (·.map Int.ofNat)) := by
  refine ⟨part_good h, fun c hc => ?_⟩
  obtain ⟨d, hd, rfl⟩ := List.mem_map.1 hc
  rw [List.pairwise_map]
  exact (h.asc d hd).1.imp (fun h => by simp; omega)
theorem round_goodA (n : Nat) (l m : List (List Int)) : GoodA n (roundL n l m) := by
  obtain ⟨P, h1, h2⟩ := round_part n l m
  rw [h1]; exact part_goodA h2
theorem refL_goodA {n : Nat} {m : List (List Int)} : ∀ {f : Nat} {l : List (List Int)}, GoodA n l → GoodA n (refL n m f l)
  | 0, l, h => h
  | f + 1, l, h => by
    rw [refL]; split
    · exact round_goodA n l m
    · exact refL_goodA (round_goodA n l m)

/-- A permutation and its inverse. -/
structure PermOf (n : Nat) (s t : Nat → Nat) : Prop where
  lt : ∀ i, i < n → s i < n
  lt' : ∀ i, i < n → t i < n
  left : ∀ i, i < n → t (s i) = i
  right : ∀ i, i < n → s (t i) = i
theorem PermOf.inv {n : Nat} {s t : Nat → Nat} (h : PermOf n s t) : PermOf n t s := ⟨h.lt', h.lt, h.right, h.left⟩
def permL (n : Nat) (s : Nat → Nat) : List Int := (List.range n).map fun i => ((s i : Nat) : Int)
theorem permL_at {n : Nat} {s : Nat → Nat} {i : Nat} (h : i < n) : (permL n s)[i]?.getD 0 = (s i : Int) := by simp [permL, h]
theorem permL_len (n : Nat) (s : Nat → Nat) : (permL n s).length = n := by simp [permL]

/-- What one name q adds to a cell's new names. -/
def renK (p c : List Int) (q : Nat) (acc : List Nat) : Nat → List Nat
  | 0 => acc
  | k + 1 => if p[(c[k]?.getD 0).toNat]?.getD 0 = q then renK p c q acc k ++ [q] else renK p c q acc k
def renTo (p c : List Int) : Nat → List Nat
  | 0 => []
  | q + 1 => renK p c q (renTo p c q) c.length
/-- The partition with new names. -/
def renL (n : Nat) (p : List Int) (l : List (List Int)) : List (List Int) := l.map fun c => (renTo p c n).map Int.ofNat
theorem renK_len (p c : List Int) (q : Nat) (acc : List Nat) : ∀ k, (renK p c q acc k).length ≤ acc.length + k
  | 0 => Nat.le_refl _
  | k + 1 => by
    have := renK_len p c q acc k
    rw [renK]; split
    · simp; omega
    · omega
theorem renTo_len (p c : List Int) : ∀ q, (renTo p c q).length ≤ q * c.length
  | 0 => by simp [renTo]
  | q + 1 => by
    have h1 := renTo_len p c q
    have h2 := renK_len p c q (renTo p c q) c.length
    rw [renTo, Nat.add_mul]; omega

section
variable {n : Nat} {s t : Nat → Nat} (hp : PermOf n s t)
include hp
theorem renK_eq {c : List Int} (hc : ∀ x ∈ c, 0 ≤ x ∧ x < n) (hd : c.Nodup) {q : Nat} (hq : q < n) (acc : List Nat) : ∀ k, k ≤ c.length →
    renK (permL n s) c q acc k = acc ++ (if (t q : Int) ∈ c.take k then [q] else [])
  | 0, _ => by simp [renK]
  | k + 1, hk => by
    have ih := renK_eq hc hd hq acc k (by omega)
    have hkl : k < c.length := by omega
    have hx := hc c[k] (List.getElem_mem hkl)
    have hck : c[k]?.getD 0 = c[k] := by simp [List.getElem?_eq_getElem hkl]
    have hxn : c[k].toNat < n := by omega
    have htk : c.take (k + 1) = c.take k ++ [c[k]] := by rw [List.take_add_one, List.getElem?_eq_getElem hkl]; rfl
    have hnot : c[k] ∉ c.take k := by
      intro hm
      have h9 : (c.take (k + 1)).Nodup := hd.sublist (List.take_sublist _ _)
      rw [htk, List.nodup_append] at h9
      exact h9.2.2 _ hm _ (by simp) rfl
    rw [renK, hck, permL_at hxn, ih, htk]
    by_cases e : s c[k].toNat = q
    · have e2 : (t q : Int) = c[k] := by rw [← e, hp.left _ hxn]; omega
      rw [if_pos (by rw [e]), e2, if_neg hnot, if_pos (List.mem_append_right _ (by simp))]
      simp
    · have e2 : (t q : Int) ≠ c[k] := by
        intro h; apply e; rw [show c[k].toNat = t q by omega, hp.right q hq]
      rw [if_neg (by intro h; exact e (by exact_mod_cast h))]
      have h8 : ((t q : Int) ∈ c.take k ++ [c[k]]) ↔ (t q : Int) ∈ c.take k := by
        rw [List.mem_append, List.mem_singleton]; exact ⟨fun h => h.resolve_right e2, .inl⟩
      by_cases h9 : (t q : Int) ∈ c.take k
      · rw [if_pos h9, if_pos (h8.2 h9)]
      · rw [if_neg h9, if_neg (fun h => h9 (h8.1 h))]
theorem renTo_eq {c : List Int} (hc : ∀ x ∈ c, 0 ≤ x ∧ x < n) (hd : c.Nodup) : ∀ q, q ≤ n → renTo (permL n s) c q = (List.range q).filter fun q => decide ((t q : Int) ∈ c)
  | 0, _ => by simp [renTo]
  | q + 1, hq => by
    rw [renTo, renK_eq hp hc hd (by omega) _ _ (Nat.le_refl _), List.take_length, renTo_eq hc hd q (by omega), List.range_succ, List.filter_append]
    by_cases h : (t q : Int) ∈ c <;> simp [h]
end
def imgC (n : Nat) (t : Nat → Nat) (c : List Int) : List Nat := (List.range n).filter fun q => decide ((t q : Int) ∈ c)
theorem mem_imgC {n : Nat} {t : Nat → Nat} {c : List Int} {q : Nat} : q ∈ imgC n t c ↔ q < n ∧ (t q : Int) ∈ c := by simp [imgC]
theorem imgC_asc (n : Nat) (t : Nat → Nat) (c : List Int) : (imgC n t c).Pairwise (· < ·) := List.Pairwise.filter _ List.pairwise_lt_range
theorem renL_eq {n : Nat} {s t : Nat → Nat} (hp : PermOf n s t) {l : List (List Int)} (h : Good n l) : renL n (permL n s) l = l.map fun c => (imgC n t c).map Int.ofNat := by
  unfold renL
  apply List.map_congr_left
  intro c hc
  rw [renTo_eq hp (h.inr c hc) (h.nodup.sublist (List.sublist_flatten_of_mem hc)) n (Nat.le_refl _)]
  rfl
theorem renL_mem {n : Nat} {s t : Nat → Nat} (hp : PermOf n s t) {l : List (List Int)} (h : Good n l) {k : Nat} {c : List Int} (hc : l[k]? = some c) {q : Nat} (hq : q < n) (hm : (t q : Int) ∈ c) :
    ∃ c', (renL n (permL n s) l)[k]? = some c' ∧ (q : Int) ∈ c' := by
  rw [renL_eq hp h, List.getElem?_map, hc]
  exact ⟨_, rfl, List.mem_map.2 ⟨q, mem_imgC.2 ⟨hq, hm⟩, rfl⟩⟩
theorem renL_goodA {n : Nat} {s t : Nat → Nat} (hp : PermOf n s t) {l : List (List Int)} (h : Good n l) : GoodA n (renL n (permL n s) l) := by
  have hl := renL_eq hp h
  refine ⟨⟨?_, ?_, ?_, ?_⟩, ?_⟩
  · intro c hc
    rw [hl] at hc
    obtain ⟨d, hd, rfl⟩ := List.mem_map.1 hc
    obtain ⟨x, y, e⟩ := List.exists_cons_of_ne_nil (h.ne d hd)
    have hx := h.inr d hd x (by rw [e]; simp)
    have : s x.toNat ∈ imgC n t d := mem_imgC.2 ⟨hp.lt _ (by omega), by rw [hp.left _ (by omega), e]; simp; left; omega⟩
    intro he
    rw [List.map_eq_nil_iff] at he
    rw [he] at this; simp at this
  · intro c hc p hpp
    rw [hl] at hc
    obtain ⟨d, hd, rfl⟩ := List.mem_map.1 hc
    obtain ⟨q, hq, rfl⟩ := List.mem_map.1 hpp
    have := (mem_imgC.1 hq).1
    simp; omega
  · rw [hl]
    have key : ∀ (l : List (List Int)), (∀ c ∈ l, ∀ p ∈ c, 0 ≤ p ∧ p < n) → l.flatten.Nodup → (l.map fun c => (imgC n t c).map Int.ofNat).flatten.Nodup := by
      intro l
      induction l with
      | nil => intro _ _; simp
      | cons c l ih =>
        intro h1 h2
        rw [List.flatten_cons, List.nodup_append] at h2
        rw [List.map_cons, List.flatten_cons, List.nodup_append]
        refine ⟨?_, ih (fun c hc => h1 c (by simp [hc])) h2.2.1, ?_⟩
        · exact nodup_map_on ((imgC_asc n t c).imp (fun h => by omega)) (fun a _ b _ e => Int.ofNat.inj e)
        · rintro a ha b hb rfl
          obtain ⟨q, hq, rfl⟩ := List.mem_map.1 ha
          obtain ⟨d', hd', hqd⟩ := List.mem_flatten.1 hb
          obtain ⟨d, hd, rfl⟩ := List.mem_map.1 hd'
          obtain ⟨q', hq', e⟩ := List.mem_map.1 hqd
          have e : q' = q := Int.ofNat.inj e
          subst e
          exact h2.2.2 _ (mem_imgC.1 hq).2 _ (List.mem_flatten.2 ⟨d, hd, (mem_imgC.1 hq').2⟩) rfl
    exact key l h.inr h.nodup
  · intro p hpn
    obtain ⟨k, c, _, hc, hm, _⟩ := h.cell (hp.lt' p hpn)
    obtain ⟨c', h1, h2⟩ := renL_mem hp h hc hpn hm
    exact List.mem_flatten.2 ⟨c', List.mem_of_getElem? h1, h2⟩
  · intro c hc
    rw [hl] at hc
    obtain ⟨d, hd, rfl⟩ := List.mem_map.1 hc
    rw [List.pairwise_map]
    exact (imgC_asc n t d).imp (fun h => by simp; omega)

section
variable {n : Nat} {s t : Nat → Nat} (hp : PermOf n s t) {l m m' : List (List Int)} (hm : ∀ i k, i < n → k < n → mat m' (s i) (s k) = mat m i k)
include hp
theorem ren_label (h : Good n l) {q : Nat} (hq : q < n) : (labelsL n (renL n (permL n s) l))[s q]?.getD 0 = (labelsL n l)[q]?.getD 0 := by
  obtain ⟨k, c, _, hc, hqc, he⟩ := h.cell hq
  obtain ⟨c', h1, h2⟩ := renL_mem hp h hc (hp.lt q hq) (by rw [hp.left q hq]; exact hqc)
  rw [(renL_goodA hp h).good.label h1 h2, he]
include hm
theorem ren_key (h : Good n l) {v : Nat} (hv : v < n) : keyL n (labelsL n (renL n (permL n s) l)) m' (s v) = keyL n (labelsL n l) m v := by
  unfold keyL
  rw [ren_label hp h hv]
  congr 2
  refine (sortTo_unique ?_ (sortTo_sorted _ n))
  refine (sortTo_perm _ n).trans ?_
  have hperm : ((List.range n).map s).Perm (List.range n) := by
    rw [List.perm_ext_iff_of_nodup (nodup_map_on List.nodup_range (fun x hx y hy e => by rw [← hp.left x (List.mem_range.1 hx), e, hp.left y (List.mem_range.1 hy)])) List.nodup_range]
    intro a
    rw [List.mem_map, List.mem_range]
    constructor
    · rintro ⟨x, hx, rfl⟩; exact hp.lt x (List.mem_range.1 hx)
    · intro ha; exact ⟨t a, List.mem_range.2 (hp.lt' a ha), hp.right a ha⟩
  have h2 := hperm.symm.map (triple (labelsL n (renL n (permL n s) l)) m' (s v))
  refine h2.trans ?_
  rw [List.map_map]
  refine List.Perm.of_eq ?_
  apply List.map_congr_left
  intro u hu
  have hu := List.mem_range.1 hu
  simp only [Function.comp, triple]
  rw [ren_label hp h hu, hm v u hv hu, hm u v hu hv]
theorem ren_round (h : Good n l) : renL n (permL n s) (roundL n l m) = roundL n (renL n (permL n s) l) m' := by
  obtain ⟨P, h1, h2⟩ := round_part n l m
  obtain ⟨P', h1', h2'⟩ := round_part n (renL n (permL n s) l) m'
  have hg := round_good n l m
  rw [renL_eq hp hg, h1', h1, List.map_map]
  have hQ : IsPart (fun k => (rowsL n m' (labelsL n (renL n (permL n s) l)))[k]?.getD []) (· < n) (P.map fun c => imgC n t (c.map Int.ofNat)) := by
    have hR : ∀ q, q < n → (rowsL n m' (labelsL n (renL n (permL n s) l)))[q]?.getD [] = (rowsL n m (labelsL n l))[t q]?.getD [] := by
      intro q hq
      rw [rowsL_at hq, rowsL_at (hp.lt' q hq), ← ren_key hp hm h (hp.lt' q hq), hp.right q hq]
    have hin : ∀ {c : List Nat} {q : Nat}, q ∈ imgC n t (c.map Int.ofNat) → q < n ∧ t q ∈ c := by
      intro c q hq
      obtain ⟨h1, h2⟩ := mem_imgC.1 hq
      obtain ⟨x, hx, e⟩ := List.mem_map.1 h2
      have : x = t q := Int.ofNat.inj e
      exact ⟨h1, this ▸ hx⟩
    refine ⟨?_, ?_, ?_, ?_⟩
    · intro c hc
      obtain ⟨d, hd, rfl⟩ := List.mem_map.1 hc
      refine ⟨imgC_asc _ _ _, ?_⟩
      obtain ⟨x, y, e⟩ := List.exists_cons_of_ne_nil (h2.asc d hd).2
      have hx : x < n := (h2.cover x).1 ⟨d, hd, by rw [e]; simp⟩
      intro he
      have : s x ∈ imgC n t (d.map Int.ofNat) := mem_imgC.2 ⟨hp.lt x hx, by rw [hp.left x hx, e]; simp⟩
      rw [he] at this; simp at this
    · intro i
      constructor
      · rintro ⟨c, hc, hi⟩
        obtain ⟨d, hd, rfl⟩ := List.mem_map.1 hc
        exact (hin hi).1
      · intro hi
        obtain ⟨d, hd, hx⟩ := (h2.cover (t i)).2 (hp.lt' i hi)
        exact ⟨_, List.mem_map.2 ⟨d, hd, rfl⟩, mem_imgC.2 ⟨hi, List.mem_map.2 ⟨_, hx, rfl⟩⟩⟩
    · intro c hc i hi j hj
      obtain ⟨d, hd, rfl⟩ := List.mem_map.1 hc
      rw [hR i (hin hi).1, hR j (hin hj).1]
      exact h2.same d hd _ (hin hi).2 _ (hin hj).2
    · rw [List.pairwise_map]
      refine h2.ord.imp ?_
      intro c d hcd i hi j hj
      rw [hR i (hin hi).1, hR j (hin hj).1]
      exact hcd _ (hin hi).2 _ (hin hj).2
  have := hQ.unique h2'
  rw [← this, List.map_map]
  rfl
theorem ren_refL : ∀ (f : Nat) {l : List (List Int)}, Good n l → renL n (permL n s) (refL n m f l) = refL n m' f (renL n (permL n s) l)
  | 0, l, _ => rfl
  | f + 1, l, h => by
    have hr := ren_round hp hm h
    have hlen : (roundL n (renL n (permL n s) l) m').length = (roundL n l m).length := by rw [← hr]; simp [renL]
    have hlen2 : (renL n (permL n s) l).length = l.length := by simp [renL]
    rw [refL, refL, hlen, hlen2]
    split
    · exact hr
    · rw [ren_refL f (round_good n l m), hr]
theorem ren_refine (h : Good n l) : renL n (permL n s) (refineL n l m) = refineL n (renL n (permL n s) l) m' := ren_refL hp hm (n + 1) h
end
end Go.Proofs.YtifkieopaoooeaaGreatDoor.Plain

namespace Go.Proofs.YtifkieopaoooeaaGreatDoor.Plain
/-- Rows that are named otherwise are collected otherwise named. -/
theorem ren_collect {n : Nat} {s t : Nat → Nat} (hp : PermOf n s t) {rows rows' : List (List Int)} (hl : rows.length = n) (hl' : rows'.length = n) (hR : ∀ q, q < n → rows'[q]?.getD [] = rows[t q]?.getD []) :
    renL n (permL n s) (collect rows) = collect rows' := by
  obtain ⟨P, h1, h2⟩ := collect_part rows
  obtain ⟨P', h1', h2'⟩ := collect_part rows'
  rw [hl] at h2
  rw [hl'] at h2'
  have hg : Good n (collect rows) := by rw [h1]; exact part_good h2
  rw [renL_eq hp hg, h1', h1, List.map_map]
  have hQ : IsPart (fun k => rows'[k]?.getD []) (· < n) (P.map fun c => imgC n t (c.map Int.ofNat)) := by
    have hin : ∀ {c : List Nat} {q : Nat}, q ∈ imgC n t (c.map Int.ofNat) → q < n ∧ t q ∈ c := by
      intro c q hq
      obtain ⟨h1, h2⟩ := mem_imgC.1 hq
      obtain ⟨x, hx, e⟩ := List.mem_map.1 h2
      have : x = t q := Int.ofNat.inj e
      exact ⟨h1, this ▸ hx⟩
    refine ⟨?_, ?_, ?_, ?_⟩
    · intro c hc
      obtain ⟨d, hd, rfl⟩ := List.mem_map.1 hc
      refine ⟨imgC_asc _ _ _, ?_⟩
      obtain ⟨x, y, e⟩ := List.exists_cons_of_ne_nil (h2.asc d hd).2
      have hx : x < n := (h2.cover x).1 ⟨d, hd, by rw [e]; simp⟩
      intro he
      have : s x ∈ imgC n t (d.map Int.ofNat) := mem_imgC.2 ⟨hp.lt x hx, by rw [hp.left x hx, e]; simp⟩
      rw [he] at this; simp at this
    · intro i
      constructor
      · rintro ⟨c, hc, hi⟩
        obtain ⟨d, hd, rfl⟩ := List.mem_map.1 hc
        exact (hin hi).1
      · intro hi
        obtain ⟨d, hd, hx⟩ := (h2.cover (t i)).2 (hp.lt' i hi)
        exact ⟨_, List.mem_map.2 ⟨d, hd, rfl⟩, mem_imgC.2 ⟨hi, List.mem_map.2 ⟨_, hx, rfl⟩⟩⟩
    · intro c hc i hi j hj
      obtain ⟨d, hd, rfl⟩ := List.mem_map.1 hc
      rw [hR i (hin hi).1, hR j (hin hj).1]
      exact h2.same d hd _ (hin hi).2 _ (hin hj).2
    · rw [List.pairwise_map]
      refine h2.ord.imp ?_
      intro c d hcd i hi j hj
      rw [hR i (hin hi).1, hR j (hin hj).1]
      exact hcd _ (hin hi).2 _ (hin hj).2
  have := hQ.unique h2'
  rw [← this, List.map_map]
  rfl
theorem PermOf.comp {n : Nat} {s t s2 t2 : Nat → Nat} (h : PermOf n s t) (h2 : PermOf n s2 t2) : PermOf n (fun i => s2 (s i)) (fun i => t (t2 i)) :=
  ⟨fun i hi => h2.lt _ (h.lt i hi), fun i hi => h.lt' _ (h2.lt' i hi), fun i hi => by rw [h2.left _ (h.lt i hi), h.left i hi], fun i hi => by rw [h.right _ (h2.lt' i hi), h2.right i hi]⟩
theorem permL_get {n : Nat} {s : Nat → Nat} {i : Nat} (h : i < n) : (permL n s)[i]? = some (s i : Int) := by simp [permL, h]
theorem permL_in {n : Nat} {s t : Nat → Nat} (h : PermOf n s t) : ∀ v ∈ permL n s, 0 ≤ v ∧ v < (n : Int) := by
  intro v hv
  obtain ⟨i, hi, rfl⟩ := List.mem_map.1 hv
  have := h.lt i (List.mem_range.1 hi)
  omega
theorem permL_nodup {n : Nat} {s t : Nat → Nat} (h : PermOf n s t) : (permL n s).Nodup := by
  refine nodup_map_on List.nodup_range fun x hx y hy e => ?_
  have e : s x = s y := by have e : ((s x : Nat) : Int) = (s y : Nat) := e; omega
  rw [← h.left x (List.mem_range.1 hx), e, h.left y (List.mem_range.1 hy)]
end Go.Proofs.YtifkieopaoooeaaGreatDoor.Plain
namespace Go.Proofs.YtifkieopaoooeaaGreatDoor.PlainG
open Plain
theorem permB_permL {n : Nat} {s t : Nat → Nat} (h : PermOf n s t) : permB n (permL n s) = true := permB_iff.2 ⟨by rw [permL_len], permL_in h, permL_nodup h⟩
theorem adj_canonS {n : Nat} {f : Nat → Nat → Bool} (hs : ∀ i k, f i k = f k i) (hr : ∀ i, f i i = false) {i k : Nat} (hi : i < n) (hk : k < n) : adj (canon n f) i k = f i k := by
  rw [Bool.eq_iff_iff, adj_iff, mem_canon, mem_canon]
  constructor
  · rintro (⟨a, b, _, _, h3, h4⟩ | ⟨a, b, _, _, h3, h4⟩)
    · have e1 : i = a := by have := (Prod.mk.inj h4).1; omega
      have e2 : k = b := by have := (Prod.mk.inj h4).2; omega
      rw [e1, e2]; exact h3
    · have e1 : k = a := by have := (Prod.mk.inj h4).1; omega
      have e2 : i = b := by have := (Prod.mk.inj h4).2; omega
      rw [hs, e1, e2]; exact h3
  · intro h
    rcases Nat.lt_trichotomy i k with h1 | h1 | h1
    · exact .inl ⟨i, k, h1, hk, h, rfl⟩
    · subst h1; rw [hr] at h; cases h
    · exact .inr ⟨k, i, h1, hi, by rw [hs]; exact h, rfl⟩
theorem adj_self {n : Int} {es : List E2} (he : ∀ x ∈ es, 0 ≤ x.1 ∧ x.1 < x.2 ∧ x.2 < n) (i : Nat) : adj es i i = false := by
  rw [Bool.eq_false_iff]
  intro h
  rw [adj_iff] at h
  rcases h with h | h <;> (have := he _ h; simp at this)
theorem adj_canonC {n : Nat} {f : Nat → Nat → Bool} (hs : ∀ i k, f i k = f k i) {i k : Nat} (hi : i < n) (hk : k < n) : adj (canon n f) i k = (f i k && decide (i ≠ k)) := by
  by_cases e : i = k
  · subst e
    rw [adj_self (chkE_srt (chkE_canon n f)).2.1]; simp
  · rw [decide_eq_true e, Bool.and_true, Bool.eq_iff_iff, adj_iff, mem_canon, mem_canon]
    constructor
    · rintro (⟨a, b, _, _, h3, h4⟩ | ⟨a, b, _, _, h3, h4⟩)
      · have e1 : i = a := by have := (Prod.mk.inj h4).1; omega
        have e2 : k = b := by have := (Prod.mk.inj h4).2; omega
        rw [e1, e2]; exact h3
      · have e1 : k = a := by have := (Prod.mk.inj h4).1; omega
        have e2 : i = b := by have := (Prod.mk.inj h4).2; omega
        rw [hs, e1, e2]; exact h3
    · intro h
      rcases Nat.lt_trichotomy i k with h1 | h1 | h1
      · exact .inl ⟨i, k, h1, hk, h, rfl⟩
      · exact absurd h1 e
      · exact .inr ⟨k, i, h1, hi, by rw [hs]; exact h, rfl⟩
/-- The colours moved. -/
theorem movTo_eq {n : Nat} {s t : Nat → Nat} (h : PermOf n s t) {cs : List Int} {v : Nat} (hv : v < n) : (movTo n (permL n s) cs n)[v]? = some (cs[t v]?.getD 0) := by
  have := movTo_get (n := n) (cs := cs) (permL_len n s) (permL_in h) (permL_nodup h) n (Nat.le_refl _) (t v) (h.lt' v hv) (v : Int) (by rw [permL_get (h.lt' v hv), h.right v hv])
  simpa using this
section
variable {n : Nat} {s t : Nat → Nat} (hp : PermOf n s t) {es : List E2} {cs : List Int}
include hp
/-- Joined in the moved graph. -/
theorem adj_mv (he : ∀ x ∈ es, 0 ≤ x.1 ∧ x.1 < x.2 ∧ x.2 < (n : Int)) {u v : Nat} (hu : u < n) (hv : v < n) : adj (movedG n (permL n s) es cs).es u v = adj es (t u) (t v) := by
  have ha : ∀ u v, u < n → v < n → adj (es.map (mvE (permL n s))) u v = adj es (t u) (t v) := fun u v hu hv =>
    adj_moved (permL_len n s) (permL_nodup hp) he (hp.lt' u hu) (hp.lt' v hv) (by rw [permL_get (hp.lt' u hu), hp.right u hu]) (by rw [permL_get (hp.lt' v hv), hp.right v hv])
  unfold movedG
  dsimp only
  rw [adj_canonC (fun i k => adj_symm _ _ _) hu hv, ha u v hu hv]
  by_cases e : u = v
  · subst e; rw [adj_self he]; rfl
  · rw [decide_eq_true e, Bool.and_true]
theorem mv_cs {v : Nat} (hv : v < n) : (movedG n (permL n s) es cs).cs[v]? = some (cs[t v]?.getD 0) := movTo_eq hp hv
/-- The moved graph is a graph. -/
theorem mv_chk (hn : n ≤ 24) (hl : cs.length = n) (hc : cs.all okC = true) : chkGr (movedG n (permL n s) es cs) = 0 := by
  refine chkGr_ok.2 ⟨by simp [movedG], by simp [movedG]; omega, chkE_canon _ _, by simp only [movedG]; rw [movTo_len], ?_⟩
  rw [List.all_eq_true]
  intro x hx
  obtain ⟨v, hv⟩ := List.mem_iff_getElem?.1 hx
  have hvn : v < n := by have := (List.getElem?_eq_some_iff.1 hv).1; simp only [movedG] at this; rwa [movTo_len] at this
  rw [mv_cs hp hvn] at hv
  have ht := hp.lt' v hvn
  rw [List.getElem?_eq_getElem (by omega)] at hv
  have hv : cs[t v] = x := by simpa using hv
  exact List.all_eq_true.1 hc x (by rw [← hv]; exact List.getElem_mem _)
/-- Distances stay. -/
theorem rch_mv {A A' : Nat → Nat → Bool} (hA : ∀ u v, u < n → v < n → A' u v = A (t u) (t v)) : ∀ (d : Nat) {i u : Nat}, i < n → u < n → rch n A' i d u = rch n A (t i) d (t u)
  | 0, i, u, hi, hu => by
    unfold rch
    rw [Bool.eq_iff_iff, beq_iff_eq, beq_iff_eq]
    exact ⟨fun e => by rw [e], fun e => by rw [← hp.right u hu, e, hp.right i hi]⟩
  | d + 1, i, u, hi, hu => by
    rw [Bool.eq_iff_iff, rch_succ, rch_succ]
    constructor
    · rintro ⟨v, hv, h1, h2⟩
      rw [rch_mv hA d hi hv] at h1
      rw [hA v u hv hu] at h2
      exact ⟨t v, hp.lt' v hv, h1, h2⟩
    · rintro ⟨v, hv, h1, h2⟩
      refine ⟨s v, hp.lt v hv, ?_, ?_⟩
      · rw [rch_mv hA d hi (hp.lt v hv), hp.left v hv]; exact h1
      · rw [hA _ _ (hp.lt v hv) hu, hp.left v hv]; exact h2
theorem lev_mv {A A' : Nat → Nat → Bool} (hA : ∀ u v, u < n → v < n → A' u v = A (t u) (t v)) {i u : Nat} (hi : i < n) (hu : u < n) : lev n A' i n u = lev n A (t i) n (t u) := by
  unfold lev
  have : (fun e => rch n A' i e u) = fun e => rch n A (t i) e (t u) := by funext e; exact rch_mv hp hA e hi hu
  rw [this]
theorem lev_moved (he : ∀ x ∈ es, 0 ≤ x.1 ∧ x.1 < x.2 ∧ x.2 < (n : Int)) {i k : Nat} (hi : i < n) (hk : k < n) : lev n (adj (movedG n (permL n s) es cs).es) (s i) n (s k) = lev n (adj es) i n k := by
  rw [lev_mv hp (fun u v hu hv => adj_mv hp he hu hv) (hp.lt i hi) (hp.lt k hk), hp.left i hi, hp.left k hk]
end
theorem gr_ext {n : Nat} {g h : Gr} (h1 : chkGr g = 0) (h2 : chkGr h = 0) (hn : g.n = n) (hn2 : h.n = n) (ha : ∀ i k, i < k → k < n → adj g.es i k = adj h.es i k) (hc : ∀ v, v < n → g.cs[v]? = h.cs[v]?) : g = h := by
  obtain ⟨a1, a2, a3, a4, _⟩ := chkGr_ok.1 h1
  obtain ⟨b1, b2, b3, b4, _⟩ := chkGr_ok.1 h2
  obtain ⟨gn, ge, gc⟩ := g
  obtain ⟨hn', he, hc'⟩ := h
  simp only at hn hn2 a3 a4 b3 b4 ha hc
  subst hn; subst hn2
  rw [canon_adj a3, canon_adj b3, canon_cong ha]
  congr 1
  apply List.ext_getElem?
  intro v
  by_cases hv : v < n
  · exact hc v hv
  · rw [List.getElem?_eq_none (by omega), List.getElem?_eq_none (by omega)]
/-- The complement of the moved graph is the moved complement. -/
theorem compl_mv {n : Nat} {s t : Nat → Nat} (hp : PermOf n s t) {g : Gr} (hg : chkGr g = 0) (hn : g.n = n) :
    canon n (fun i k => !adj (movedG n (permL n s) g.es g.cs).es i k) = (movedG n (permL n s) (canon n (fun i k => !adj g.es i k)) g.cs).es := by
  obtain ⟨a1, a2, a3, a4, _⟩ := chkGr_ok.1 hg
  rw [hn] at a3 a4
  have he := (chkE_srt a3).2.1
  have h2 := (chkE_srt (chkE_canon n (fun i k => !adj g.es i k))).2.1
  refine Eq.trans ?_ (canon_adj (chkE_canon n (adj ((canon n (fun i k => !adj g.es i k)).map (mvE (permL n s)))))).symm
  refine canon_cong fun i k hik hk => ?_
  have h3 := adj_mv hp (cs := g.cs) h2 (u := i) (v := k) (by omega) hk
  unfold movedG at h3
  dsimp only at h3
  rw [h3, adj_mv hp he (by omega) hk, adj_canonC (fun i k => by rw [adj_symm]) (hp.lt' i (by omega)) (hp.lt' k hk)]
  have hne : t i ≠ t k := fun e => by
    have : i = k := by rw [← hp.right i (by omega), e, hp.right k hk]
    omega
  rw [decide_eq_true hne, Bool.and_true]
/-- Moving twice is moving by the product. -/
theorem mv_mv {n : Nat} {s t s2 t2 : Nat → Nat} (hp : PermOf n s t) (hp2 : PermOf n s2 t2) {g : Gr} (hg : chkGr g = 0) (hn : g.n = n) :
    movedG n (permL n s2) (movedG n (permL n s) g.es g.cs).es (movedG n (permL n s) g.es g.cs).cs = movedG n (permL n fun i => s2 (s i)) g.es g.cs := by
  obtain ⟨a1, a2, a3, a4, a5⟩ := chkGr_ok.1 hg
  rw [hn] at a1 a2 a3 a4
  have he := (chkE_srt a3).2.1
  have hc1 := mv_chk hp (es := g.es) (by omega) (by omega) a5
  obtain ⟨b1, b2, b3, b4, b5⟩ := chkGr_ok.1 hc1
  have he1 := (chkE_srt b3).2.1
  have hl1 : (movedG n (permL n s) g.es g.cs).cs.length = n := by simp only [movedG]; rw [movTo_len]
  refine gr_ext (n := n) (mv_chk hp2 (by omega) hl1 b5) (mv_chk (hp.comp hp2) (by omega) (by omega) a5) rfl rfl (fun i k hik hk => ?_) (fun v hv => ?_)
  · rw [adj_mv hp2 (by simpa [movedG] using he1) (by omega) hk, adj_mv hp he (hp2.lt' _ (by omega)) (hp2.lt' _ hk), adj_mv (hp.comp hp2) he (by omega) hk]
  · rw [mv_cs hp2 hv, mv_cs hp (hp2.lt' v hv), mv_cs (hp.comp hp2) hv]; rfl
theorem of_goodA {n : Nat} {cs : List Int} (h : cs.length = n) : GoodA n (collect (cs.map fun x => [x])) := by
  obtain ⟨P, h1, h2⟩ := collect_part (cs.map fun x => [x])
  rw [List.length_map, h] at h2
  rw [h1]; exact part_goodA h2
/-- The refined cells of the moved graph are the refined cells, renamed. -/
theorem ref_mv {n : Nat} {s t : Nat → Nat} (hp : PermOf n s t) {es : List E2} {cs : List Int} (hl : cs.length = n) {m m' : List (List Int)} (hm : ∀ i k, i < n → k < n → mat m' (s i) (s k) = mat m i k) :
    renL n (permL n s) (refineL n (collect (cs.map fun x => [x])) m) = refineL n (collect ((movedG n (permL n s) es cs).cs.map fun x => [x])) m' := by
  rw [ren_refine hp hm (of_goodA hl).good]
  congr 1
  refine ren_collect hp (by rw [List.length_map, hl]) (by rw [List.length_map]; simp only [movedG]; rw [movTo_len]) fun q hq => ?_
  have ht := hp.lt' q hq
  rw [List.getElem?_map, List.getElem?_map, mv_cs hp hq, List.getElem?_eq_getElem (by omega)]
  rfl
theorem refineL_goodA {n : Nat} {l m : List (List Int)} (h : GoodA n l) : GoodA n (refineL n l m) := refL_goodA h
end Go.Proofs.YtifkieopaoooeaaGreatDoor.PlainG
