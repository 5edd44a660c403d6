/- Moving a graph, its complement, its word: plain. · Distances: plain. · The walk over a graph by a queue: plain. · Parts: least labels by sweeping over the edges: plain. -/
import Derived.Test.YtjjjohmppehejaaGreatPlainC
import Derived.Test.YtjjjohmppehejaaGreatPlainG
set_option linter.unusedSimpArgs false
set_option linter.unusedVariables false
namespace Go.Proofs.YtjjjohmppehejaaGreat.PlainG
open Plain
/-- Whether a list is a permutation of n points. -/
def permB (n : Int) (p : List Int) : Bool := decide ((p.length : Int) = n ∧ (∀ v ∈ p, 0 ≤ v ∧ v < n) ∧ p.Nodup)
theorem permB_iff {n : Int} {p : List Int} : permB n p = true ↔ (p.length : Int) = n ∧ (∀ v ∈ p, 0 ≤ v ∧ v < n) ∧ p.Nodup := by unfold permB; exact decide_eq_true_iff
def pts (n : Nat) : List Int := (List.range n).map fun (i : Nat) => (i : Int)
theorem pts_len (n : Nat) : (pts n).length = n := by simp [pts]
theorem pts_get {n i : Nat} (h : i < n) : (pts n)[i]? = some (i : Int) := by unfold pts; rw [List.getElem?_map, List.getElem?_range h]; rfl
theorem pts_nodup (n : Nat) : (pts n).Nodup := by
  unfold pts
  refine List.pairwise_map.2 (List.Pairwise.imp ?_ (List.pairwise_lt_range (n := n)))
  intro a b h e; omega
theorem pts_mem {n : Nat} {v : Int} : v ∈ pts n ↔ 0 ≤ v ∧ v < n := by
  unfold pts
  constructor
  · intro h; obtain ⟨i, hi, rfl⟩ := List.mem_map.1 h; have := List.mem_range.1 hi; omega
  · intro h; exact List.mem_map.2 ⟨v.toNat, List.mem_range.2 (by omega), Int.toNat_of_nonneg h.1⟩
theorem pts_sorted (n : Nat) : (pts n).Pairwise fun x y => x ≤ y := by
  unfold pts
  refine List.pairwise_map.2 (List.Pairwise.imp ?_ (List.pairwise_lt_range (n := n)))
  intro a b h; omega
theorem perm_pts {n : Nat} {p : List Int} (h1 : p.length = n) (h2 : ∀ v ∈ p, 0 ≤ v ∧ v < n) (h3 : p.Nodup) : p.Perm (pts n) := by
  refine (List.perm_ext_iff_of_nodup h3 (pts_nodup n)).2 fun v => ⟨fun h => pts_mem.2 (h2 v h), fun h => ?_⟩
  have hv := pts_mem.1 h
  have := mem_of_full n p h3 h2 (by omega) v.toNat (by omega)
  rwa [show ((v.toNat : Nat) : Int) = v by omega] at this
/-- A sorted list of a permutation's points is 0 .. n-1. -/
theorem lab_iff {p s : List Int} (hs : s.Perm p) (ho : s.Pairwise fun x y => x ≤ y) : s = pts p.length ↔ (∀ v ∈ p, 0 ≤ v ∧ v < p.length) ∧ p.Nodup := by
  constructor
  · intro h
    refine ⟨fun v hv => pts_mem.1 (h ▸ hs.mem_iff.2 hv), hs.nodup_iff.1 (h ▸ pts_nodup _)⟩
  · rintro ⟨h1, h2⟩
    exact (hs.trans (perm_pts rfl h1 h2)).eq_of_pairwise (fun a b _ _ h1 h2 => by omega) ho (pts_sorted _)
theorem lab_perm {n : Int} {p s : List Int} (hs : s.Perm p) (ho : s.Pairwise fun x y => x ≤ y) : permB n p = (decide (s = pts p.length) && decide ((p.length : Int) = n)) := by
  rw [Bool.eq_iff_iff, permB_iff, Bool.and_eq_true, decide_eq_true_iff, decide_eq_true_iff, lab_iff hs ho]
  constructor
  · rintro ⟨h1, h2, h3⟩; exact ⟨⟨fun v hv => by have := h2 v hv; omega, h3⟩, h1⟩
  · rintro ⟨⟨h1, h2⟩, h3⟩; exact ⟨h3, fun v hv => by have := h1 v hv; omega, h2⟩
/-- .. and up to a place it is. -/
theorem pts_upto {s : List Int} {k : Nat} (h : ∀ i, i < s.length → s[i]? = some (i : Int)) : s = pts s.length := by
  apply List.ext_getElem?
  intro i
  by_cases hi : i < s.length
  · rw [h i hi, pts_get hi]
  · rw [List.getElem?_eq_none (by omega), List.getElem?_eq_none (by rw [pts_len]; omega)]
/-- The image of a point. -/
def pt (p : List Int) (i : Int) : Int := p[i.toNat]?.getD 0
theorem pt_get {p : List Int} {i : Int} (h0 : 0 ≤ i) (h : i < p.length) : p[i.toNat]? = some (pt p i) := by
  unfold pt; rw [List.getElem?_eq_getElem (by omega)]; rfl
def mvE (p : List Int) (x : E2) : E2 := (pt p x.1, pt p x.2)
/-- The colours moved, after k steps. -/
def movTo (n : Nat) (p cs : List Int) : Nat → List Int
  | 0 => List.replicate n 0
  | k + 1 => (movTo n p cs k).set (p[k]?.getD 0).toNat (cs[k]?.getD 0)
theorem movTo_len (n : Nat) (p cs : List Int) : ∀ k, (movTo n p cs k).length = n
  | 0 => by simp [movTo]
  | k + 1 => by rw [movTo, List.length_set, movTo_len n p cs k]
def movedG (n : Nat) (p : List Int) (es : List E2) (cs : List Int) : Gr := ⟨n, canon n (adj (es.map (mvE p))), movTo n p cs n⟩
def zeroG : Gr := ⟨0, [], []⟩
def moveA (g : Gr) (p : List Int) : Gr × Int := if chkGr g ≠ 0 then (zeroG, chkGr g) else if permB g.n p = true then (movedG g.n.toNat p g.es g.cs, 0) else (zeroG, 3)
theorem movTo_get {n : Nat} {p cs : List Int} (hl : p.length = n) (hr : ∀ v ∈ p, 0 ≤ v ∧ v < n) (hd : p.Nodup) : ∀ k, k ≤ n → ∀ i, i < k → ∀ v, p[i]? = some v → (movTo n p cs k)[v.toNat]? = some (cs[i]?.getD 0)
  | 0, _, i, hi, _, _ => by omega
  | k + 1, hk, i, hi, v, hv => by
    obtain ⟨u, hu⟩ : ∃ u, p[k]? = some u := ⟨_, List.getElem?_eq_getElem (by omega)⟩
    have hur := hr u (List.mem_of_getElem? hu)
    have hvr := hr v (List.mem_of_getElem? hv)
    rw [movTo, hu, Option.getD_some]
    by_cases he : i = k
    · subst he
      rw [hv] at hu
      obtain rfl := Option.some.inj hu
      rw [List.getElem?_set_self (by rw [movTo_len]; omega)]
    · have hne : u.toNat ≠ v.toNat := by
        intro e
        have : u = v := by omega
        subst this
        rw [← hv] at hu
        exact he ((List.getElem?_inj (by omega) hd).1 hu.symm)
      rw [List.getElem?_set_ne hne]
      exact movTo_get hl hr hd k (by omega) i (by omega) v hv
/-- The moved edges are proper pairs. -/
theorem mv_ok {n : Nat} {p : List Int} {es : List E2} (hl : p.length = n) (hr : ∀ v ∈ p, 0 ≤ v ∧ v < n) (hd : p.Nodup) (he : ∀ x ∈ es, 0 ≤ x.1 ∧ x.1 < x.2 ∧ x.2 < n) : pF n (es.map (mvE p)) = 0 := by
  induction es with
  | nil => rfl
  | cons x es ih =>
    have hx := he x (by simp)
    have h1 := pt_get (p := p) (i := x.1) (by omega) (by omega)
    have h2 := pt_get (p := p) (i := x.2) (by omega) (by omega)
    have r1 := hr _ (List.mem_of_getElem? h1)
    have r2 := hr _ (List.mem_of_getElem? h2)
    rw [List.map_cons, pF]
    have v1 : vert n (pt p x.1) = true := by unfold vert; simp; omega
    have v2 : vert n (pt p x.2) = true := by unfold vert; simp; omega
    rw [if_neg (by simp only [mvE]; rw [v1, v2]; decide), if_neg (by
      intro e
      simp only [mvE] at e
      rw [e, ← h2] at h1
      have := (List.getElem?_inj (by omega) hd).1 h1
      omega)]
    exact ih fun y hy => he y (by simp [hy])
theorem mem_ord {es : List E2} {p : List Int} {es' : List E2} (h : ∀ x, x ∈ es' ↔ x ∈ es.map (fun x => (min (pt p x.1) (pt p x.2), max (pt p x.1) (pt p x.2)))) : ∀ x, x ∈ es' ↔ x ∈ (es.map (mvE p)).map (fun x => (min x.1 x.2, max x.1 x.2)) := by
  intro x; rw [h x, List.map_map]; rfl
/-- An edge between moved points. -/
theorem adj_moved {n : Nat} {p : List Int} {es : List E2} (hl : p.length = n) (hd : p.Nodup) (he : ∀ x ∈ es, 0 ≤ x.1 ∧ x.1 < x.2 ∧ x.2 < n) {i k : Nat} (hi : i < n) (hk : k < n) {u v : Nat} (hu : p[i]? = some (u : Int)) (hv : p[k]? = some (v : Int)) :
    adj (es.map (mvE p)) u v = adj es i k := by
  have key : ∀ (a : Int) (j w : Nat), 0 ≤ a → a < n → j < n → p[j]? = some (w : Int) → (pt p a = (w : Int) ↔ a = (j : Int)) := by
    intro a j w h0 h1 hj hw
    have hg := pt_get (p := p) h0 (by omega)
    constructor
    · intro e
      rw [e, ← hw] at hg
      have := (List.getElem?_inj (by omega) hd).1 hg
      omega
    · rintro rfl
      rw [Int.toNat_natCast] at hg
      rw [hw] at hg
      exact (Option.some.inj hg).symm
  rw [Bool.eq_iff_iff, adj_iff, adj_iff]
  simp only [List.mem_map, mvE, Prod.mk.injEq]
  constructor
  · rintro (⟨x, hx, h1, h2⟩ | ⟨x, hx, h1, h2⟩)
    · have hh := he x hx
      rw [key x.1 i u (by omega) (by omega) hi hu] at h1
      rw [key x.2 k v (by omega) (by omega) hk hv] at h2
      left; rw [← h1, ← h2]; exact hx
    · have hh := he x hx
      rw [key x.1 k v (by omega) (by omega) hk hv] at h1
      rw [key x.2 i u (by omega) (by omega) hi hu] at h2
      right; rw [← h1, ← h2]; exact hx
  · rintro (hx | hx)
    · left
      exact ⟨_, hx, (key _ i u (by omega) (by omega) hi hu).2 rfl, (key _ k v (by omega) (by omega) hk hv).2 rfl⟩
    · right
      exact ⟨_, hx, (key _ k v (by omega) (by omega) hk hv).2 rfl, (key _ i u (by omega) (by omega) hi hu).2 rfl⟩
/-- Only what lies in range, above the line, counts. -/
theorem canon_cong {n : Nat} {f g : Nat → Nat → Bool} (h : ∀ i k, i < k → k < n → f i k = g i k) : canon n f = canon n g := by
  refine srt_uniq (canon_srt _ _) (canon_srt _ _) fun x => ?_
  rw [mem_canon, mem_canon]
  constructor
  · rintro ⟨i, k, h1, h2, h3, h4⟩; exact ⟨i, k, h1, h2, by rw [← h i k h1 h2]; exact h3, h4⟩
  · rintro ⟨i, k, h1, h2, h3, h4⟩; exact ⟨i, k, h1, h2, by rw [h i k h1 h2]; exact h3, h4⟩
def complA (g : Gr) : Gr × Int := if chkGr g ≠ 0 then (zeroG, chkGr g) else (⟨g.n, canon g.n.toNat (fun i k => !adj g.es i k), g.cs⟩, 0)
/-- The rows of a matrix to the left of the line, one after another. -/
def rowsW (es : List E2) (n : Nat) : List Int := (List.range n).flatMap fun k => (List.range k).map fun i => if adj es k i = true then 1 else 0
theorem rowsW_succ (es : List E2) (n : Nat) : rowsW es (n + 1) = rowsW es n ++ (List.range n).map fun i => if adj es n i = true then 1 else 0 := by
  simp [rowsW, List.range_succ]
theorem rowsW_len (es : List E2) : ∀ n, (rowsW es n).length ≤ n * n
  | 0 => by simp [rowsW]
  | n + 1 => by
    rw [rowsW_succ, List.length_append, List.length_map, List.length_range]
    have := rowsW_len es n
    have e : (n + 1) * (n + 1) = n * n + 2 * n + 1 := by rw [Nat.add_mul, Nat.mul_add]; omega
    omega
def wordG (g : Gr) : List Int := g.cs ++ rowsW g.es g.n.toNat
def wordA (g : Gr) (p : List Int) : List Int × Int := if (moveA g p).2 ≠ 0 then ([], (moveA g p).2) else (wordG (moveA g p).1, 0)
end Go.Proofs.YtjjjohmppehejaaGreat.PlainG

namespace Go.Proofs.YtjjjohmppehejaaGreat.PlainG
/-- There is a way of d edges from i to u. -/
def rch (n : Nat) (A : Nat → Nat → Bool) (i : Nat) : Nat → Nat → Bool
  | 0, u => u == i
  | d + 1, u => (List.range n).any fun v => rch n A i d v && A v u
section
variable {n : Nat} {A : Nat → Nat → Bool} {i : Nat}
theorem rch_succ {d u : Nat} : rch n A i (d + 1) u = true ↔ ∃ v, v < n ∧ rch n A i d v = true ∧ A v u = true := by
  rw [rch, List.any_eq_true]
  constructor
  · rintro ⟨v, hv, h⟩; rw [Bool.and_eq_true] at h; exact ⟨v, List.mem_range.1 hv, h.1, h.2⟩
  · rintro ⟨v, hv, h1, h2⟩; exact ⟨v, List.mem_range.2 hv, by rw [h1, h2]; rfl⟩
def IsDist (n : Nat) (A : Nat → Nat → Bool) (i : Nat) (out : Nat → Int) : Prop :=
  ∀ u, u < n → (out u = -1 ∧ ∀ d, rch n A i d u = false) ∨ (∃ d : Nat, out u = (d : Int) ∧ rch n A i d u = true ∧ ∀ e, e < d → rch n A i e u = false)
theorem IsDist.uniq {f g : Nat → Int} (hf : IsDist n A i f) (hg : IsDist n A i g) {u : Nat} (hu : u < n) : f u = g u := by
  rcases hf u hu with ⟨f1, f2⟩ | ⟨d, f1, f2, f3⟩ <;> rcases hg u hu with ⟨g1, g2⟩ | ⟨e, g1, g2, g3⟩
  · rw [f1, g1]
  · rw [f2 e] at g2; cases g2
  · rw [g2 d] at f2; cases f2
  · have : d = e := by
      rcases Nat.lt_trichotomy d e with h | h | h
      · rw [g3 d h] at f2; cases f2
      · exact h
      · rw [f3 e h] at g2; cases g2
    rw [f1, g1, this]
/-- The distance, if it is at most D. -/
def lev (n : Nat) (A : Nat → Nat → Bool) (i D u : Nat) : Int := match (List.range (D + 1)).find? (fun e => rch n A i e u) with | some e => (e : Int) | none => -1
theorem find_range {p : Nat → Bool} {m e : Nat} (h : (List.range m).find? p = some e) : e < m ∧ p e = true ∧ ∀ k, k < e → p k = false := by
  induction m with
  | zero => simp at h
  | succ m ih =>
    rw [List.range_succ, List.find?_append] at h
    cases h1 : (List.range m).find? p with
    | some x =>
      rw [h1] at h
      simp at h; subst h
      obtain ⟨a, b, c⟩ := ih h1
      exact ⟨by omega, b, c⟩
    | none =>
      rw [h1] at h
      simp only [Option.none_or] at h
      rw [List.find?_cons] at h
      cases hp : p m with
      | true => rw [hp] at h; cases h; exact ⟨by omega, hp, fun k hk => by
          have := List.find?_eq_none.1 h1 k (List.mem_range.2 hk); simpa using this⟩
      | false => rw [hp] at h; simp at h
theorem lev_cases (D u : Nat) : (lev n A i D u = -1 ∧ ∀ d, d ≤ D → rch n A i d u = false) ∨ (∃ d : Nat, d ≤ D ∧ lev n A i D u = (d : Int) ∧ rch n A i d u = true ∧ ∀ e, e < d → rch n A i e u = false) := by
  unfold lev
  cases h : (List.range (D + 1)).find? (fun e => rch n A i e u) with
  | none =>
    left
    refine ⟨rfl, fun d hd => ?_⟩
    have := List.find?_eq_none.1 h d (List.mem_range.2 (by omega))
    simpa using this
  | some e =>
    obtain ⟨h1, h2, h3⟩ := find_range h
    exact .inr ⟨e, by omega, rfl, h2, h3⟩
theorem lev_unique {D u : Nat} {x : Int} (h : (x = -1 ∧ ∀ d, d ≤ D → rch n A i d u = false) ∨ (∃ d : Nat, d ≤ D ∧ x = (d : Int) ∧ rch n A i d u = true ∧ ∀ e, e < d → rch n A i e u = false)) : lev n A i D u = x := by
  rcases lev_cases (n := n) (A := A) (i := i) D u with ⟨f1, f2⟩ | ⟨d, f0, f1, f2, f3⟩ <;> rcases h with ⟨g1, g2⟩ | ⟨e, g0, g1, g2, g3⟩
  · rw [f1, g1]
  · rw [f2 e g0] at g2; cases g2
  · rw [g2 d f0] at f2; cases f2
  · have : d = e := by
      rcases Nat.lt_trichotomy d e with h | h | h
      · rw [g3 d h] at f2; cases f2
      · exact h
      · rw [f3 e h] at g2; cases g2
    rw [f1, g1, this]
theorem lev_zero (u : Nat) : lev n A i 0 u = if u = i then 0 else -1 := by
  apply lev_unique
  by_cases h : u = i
  · subst h
    right; exact ⟨0, Nat.le_refl _, by simp, by simp [rch], by intro e he; omega⟩
  · left
    refine ⟨by rw [if_neg h], fun d hd => ?_⟩
    have : d = 0 := by omega
    subst this
    simp [rch, h]
/-- The state in the middle of a round: the pairs ahead of (a, b) are done. -/
def mid (n : Nat) (A : Nat → Nat → Bool) (i D a b u : Nat) : Int :=
  if 0 ≤ lev n A i D u then lev n A i D u
  else if ((List.range n).any fun v => (decide (v < a) || (decide (v = a) && decide (u < b))) && (decide (lev n A i D v = (D : Int)) && A v u)) = true then (D : Int) + 1 else -1
theorem mid_start (D u : Nat) : mid n A i D 0 0 u = lev n A i D u := by
  unfold mid
  split
  · rfl
  · rename_i h
    rw [if_neg]
    · rcases lev_cases (n := n) (A := A) (i := i) D u with ⟨f1, f2⟩ | ⟨d, f0, f1, f2, f3⟩
      · rw [f1]
      · rw [f1] at h; omega
    · simp
theorem mid_end (D u : Nat) : mid n A i D n 0 u = lev n A i (D + 1) u := by
  symm
  apply lev_unique
  unfold mid
  rcases lev_cases (n := n) (A := A) (i := i) D u with ⟨f1, f2⟩ | ⟨d, f0, f1, f2, f3⟩
  · rw [f1, if_neg (by omega)]
    split
    · rename_i h
      rw [List.any_eq_true] at h
      obtain ⟨v, hv, h⟩ := h
      simp only [Bool.and_eq_true, Bool.or_eq_true, decide_eq_true_eq] at h
      obtain ⟨_, h1, h2⟩ := h
      rcases lev_cases (n := n) (A := A) (i := i) D v with ⟨g1, g2⟩ | ⟨d, g0, g1, g2, g3⟩
      · omega
      · have : d = D := by omega
        subst this
        right
        refine ⟨d + 1, Nat.le_refl _, by omega, rch_succ.2 ⟨v, List.mem_range.1 hv, g2, h2⟩, fun e he => f2 e (by omega)⟩
    · rename_i h
      left
      refine ⟨rfl, fun d hd => ?_⟩
      rcases Nat.lt_or_ge D d with h1 | h1
      · have : d = D + 1 := by omega
        subst this
        cases hr : rch n A i (D + 1) u with
        | false => rfl
        | true =>
          exfalso
          obtain ⟨v, hv, h2, h3⟩ := rch_succ.1 hr
          apply h
          rw [List.any_eq_true]
          refine ⟨v, List.mem_range.2 hv, ?_⟩
          simp only [Bool.and_eq_true, Bool.or_eq_true, decide_eq_true_eq]
          refine ⟨.inl hv, ?_, h3⟩
          apply lev_unique
          right
          refine ⟨D, Nat.le_refl _, rfl, h2, fun e he => ?_⟩
          cases hq : rch n A i e v with
          | false => rfl
          | true =>
            have := f2 (e + 1) (by omega)
            rw [rch_succ.2 ⟨v, hv, hq, h3⟩] at this; cases this
      · exact f2 d h1
  · rw [f1, if_pos (by omega)]
    right
    exact ⟨d, by omega, rfl, f2, f3⟩
theorem mid_row (D a u : Nat) (hu : u < n) : mid n A i D a n u = mid n A i D (a + 1) 0 u := by
  unfold mid
  have : (fun v => (decide (v < a) || (decide (v = a) && decide (u < n))) && (decide (lev n A i D v = (D : Int)) && A v u)) = (fun v => (decide (v < a + 1) || (decide (v = a + 1) && decide (u < 0))) && (decide (lev n A i D v = (D : Int)) && A v u)) := by
    funext v
    congr 1
    rw [Bool.eq_iff_iff]
    simp
    omega
  rw [this]
/-- What a pair does: only at u = b, if a stands at D, is joined with b, and b is still open. -/
theorem mid_step {D a b u : Nat} (ha : a < n) : mid n A i D a (b + 1) u = if u = b ∧ mid n A i D a b a = (D : Int) ∧ A a b = true ∧ mid n A i D a b b < 0 then (D : Int) + 1 else mid n A i D a b u := by
  have hmidA : (mid n A i D a b a = (D : Int)) ↔ lev n A i D a = (D : Int) := by
    unfold mid
    rcases lev_cases (n := n) (A := A) (i := i) D a with ⟨f1, f2⟩ | ⟨d, f0, f1, f2, f3⟩
    · rw [f1, if_neg (by omega)]
      split <;> constructor <;> intro h <;> omega
    · rw [f1, if_pos (by omega)]
  by_cases hub : u = b
  · subst hub
    by_cases hl : 0 ≤ lev n A i D u
    · have e1 : ∀ x y, mid n A i D x y u = lev n A i D u := fun x y => by unfold mid; rw [if_pos hl]
      rw [e1, e1, if_neg (by omega)]
    · have e1 : ∀ y, mid n A i D a y u = if ((List.range n).any fun v => (decide (v < a) || (decide (v = a) && decide (u < y))) && (decide (lev n A i D v = (D : Int)) && A v u)) = true then (D : Int) + 1 else -1 := fun y => by
        unfold mid; rw [if_neg hl]
      by_cases hx : ((List.range n).any fun v => (decide (v < a) || (decide (v = a) && decide (u < u))) && (decide (lev n A i D v = (D : Int)) && A v u)) = true
      · have R : mid n A i D a u u = (D : Int) + 1 := by rw [e1, if_pos hx]
        have L : mid n A i D a (u + 1) u = (D : Int) + 1 := by
          rw [e1, if_pos]
          rw [List.any_eq_true] at hx ⊢
          obtain ⟨v, hv, h⟩ := hx
          refine ⟨v, hv, ?_⟩
          simp only [Bool.and_eq_true, Bool.or_eq_true, decide_eq_true_eq] at h ⊢
          exact ⟨by omega, h.2⟩
        rw [L]
        split
        · rfl
        · exact R.symm
      · have R : mid n A i D a u u = -1 := by rw [e1, if_neg hx]
        by_cases hy : lev n A i D a = (D : Int) ∧ A a u = true
        · have L : mid n A i D a (u + 1) u = (D : Int) + 1 := by
            rw [e1, if_pos]
            rw [List.any_eq_true]
            refine ⟨a, List.mem_range.2 ha, ?_⟩
            simp only [Bool.and_eq_true, Bool.or_eq_true, decide_eq_true_eq]
            exact ⟨.inr ⟨by trivial, by omega⟩, hy⟩
          rw [L, if_pos ⟨rfl, hmidA.2 hy.1, hy.2, by rw [R]; omega⟩]
        · have L : mid n A i D a (u + 1) u = -1 := by
            rw [e1, if_neg]
            intro h
            apply hx
            rw [List.any_eq_true] at h ⊢
            obtain ⟨v, hv, h⟩ := h
            simp only [Bool.and_eq_true, Bool.or_eq_true, decide_eq_true_eq] at h
            refine ⟨v, hv, ?_⟩
            simp only [Bool.and_eq_true, Bool.or_eq_true, decide_eq_true_eq]
            refine ⟨?_, h.2⟩
            rcases h.1 with h1 | h1
            · exact .inl h1
            · exfalso; have := h1.1; subst this; exact hy h.2
          rw [L, if_neg (fun h => hy ⟨hmidA.1 h.2.1, h.2.2.1⟩), R]
  · rw [if_neg (fun h => hub h.1)]
    unfold mid
    have : (fun v => (decide (v < a) || (decide (v = a) && decide (u < b + 1))) && (decide (lev n A i D v = (D : Int)) && A v u)) = (fun v => (decide (v < a) || (decide (v = a) && decide (u < b))) && (decide (lev n A i D v = (D : Int)) && A v u)) := by
      funext v
      congr 1
      rw [Bool.eq_iff_iff]
      simp
      omega
    rw [this]
theorem countP_lt {p q : Nat → Bool} : ∀ {l : List Nat}, (∀ x, p x = true → q x = true) → (∃ x ∈ l, q x = true ∧ p x = false) → l.countP p < l.countP q
  | [], _, h => by obtain ⟨x, hx, _⟩ := h; simp at hx
  | y :: l, hpq, h => by
    rw [List.countP_cons, List.countP_cons]
    have hle : l.countP p ≤ l.countP q := List.countP_mono_left fun x _ => hpq x
    obtain ⟨x, hx, h1, h2⟩ := h
    rcases List.mem_cons.1 hx with e | e
    · subst e; rw [h1, h2]; simp; omega
    · have ih := countP_lt hpq ⟨x, e, h1, h2⟩
      cases hp : p y
      · simp only [Bool.false_eq_true, if_false]; split <;> omega
      · rw [hpq y hp]; simp; omega
/-- A vertex that is reached at all is reached within n edges. -/
theorem rch_bound (hi : i < n) : ∀ (d u : Nat), u < n → rch n A i d u = true → (∀ e, e < d → rch n A i e u = false) → d + 1 ≤ (List.range n).countP fun v => (List.range (d + 1)).any fun e => rch n A i e v
  | 0, u, hu, _, _ => by
    have : 0 < (List.range n).countP fun v => (List.range 1).any fun e => rch n A i e v := by
      rw [List.countP_pos_iff]
      exact ⟨i, List.mem_range.2 hi, by simp [rch, List.range_one]⟩
    exact this
  | d + 1, u, hu, h, hmin => by
    obtain ⟨v, hv, h1, h2⟩ := rch_succ.1 h
    have hv2 : ∀ e, e < d → rch n A i e v = false := fun e he => by
      cases hq : rch n A i e v with
      | false => rfl
      | true =>
        have := hmin (e + 1) (by omega)
        rw [rch_succ.2 ⟨v, hv, hq, h2⟩] at this; cases this
    have ih := rch_bound hi d v hv h1 hv2
    have := countP_lt (l := List.range n) (p := fun v => (List.range (d + 1)).any fun e => rch n A i e v) (q := fun v => (List.range (d + 2)).any fun e => rch n A i e v) (fun x hx => by
      rw [List.any_eq_true] at hx ⊢
      obtain ⟨e, he, h⟩ := hx
      exact ⟨e, List.mem_range.2 (by have := List.mem_range.1 he; omega), h⟩) ⟨u, List.mem_range.2 hu, by
        rw [List.any_eq_true]; exact ⟨d + 1, List.mem_range.2 (by omega), h⟩, by
        rw [List.any_eq_false]
        intro e he
        have := List.mem_range.1 he
        rw [hmin e this]; simp⟩
    exact Nat.succ_le_of_lt (Nat.lt_of_le_of_lt ih this)
theorem lev_all (hi : i < n) : IsDist n A i (lev n A i n) := by
  intro u hu
  rcases lev_cases (n := n) (A := A) (i := i) n u with ⟨f1, f2⟩ | ⟨d, f0, f1, f2, f3⟩
  · left
    refine ⟨f1, ?_⟩
    have key : ∀ m d, d ≤ m → rch n A i d u = false := by
      intro m
      induction m with
      | zero => intro d hd; exact f2 d (by omega)
      | succ m ih =>
        intro d hd
        rcases Nat.lt_or_ge m d with h | h
        · have : d = m + 1 := by omega
          subst this
          cases hr : rch n A i (m + 1) u with
          | false => rfl
          | true =>
            have := rch_bound hi (m + 1) u hu hr (fun e he => ih e (by omega))
            have h2 := List.countP_le_length (p := fun v => (List.range (m + 1 + 1)).any fun e => rch n A i e v) (l := List.range n)
            rw [List.length_range] at h2
            have := f2 (m + 1) (by omega)
            rw [this] at hr; cases hr
        · exact ih d h
    exact fun d => key d d (Nat.le_refl _)
  · exact .inr ⟨d, f1, f2, f3⟩
end
end Go.Proofs.YtjjjohmppehejaaGreat.PlainG

namespace Go.Proofs.YtjjjohmppehejaaGreat.PlainG
structure Bfs (n : Nat) (A : Nat → Nat → Bool) (i : Nat) (Q : List (Nat × Nat)) (pos : Nat) : Prop where
  head : Q[0]? = some (i, 0)
  way : ∀ x ∈ Q, x.1 < n ∧ rch n A i x.2 x.1 = true
  nodup : (Q.map Prod.fst).Nodup
  mono : Q.Pairwise fun x y => x.2 ≤ y.2
  last : ∀ x, Q[pos]? = some x → ∀ y ∈ Q, y.2 ≤ x.2 + 1
  done : ∀ j x, j < pos → Q[j]? = some x → ∀ u, u < n → A x.1 u = true → ∃ y ∈ Q, y.1 = u ∧ y.2 ≤ x.2 + 1
/-- In the middle of a vertex: the neighbours ahead of k are done. -/
structure BfsIn (n : Nat) (A : Nat → Nat → Bool) (i : Nat) (Q : List (Nat × Nat)) (pos : Nat) (x : Nat × Nat) (k : Nat) : Prop where
  all : Bfs n A i Q pos
  cur : Q[pos]? = some x
  row : ∀ u, u < k → A x.1 u = true → ∃ y ∈ Q, y.1 = u ∧ y.2 ≤ x.2 + 1
section
variable {n : Nat} {A : Nat → Nat → Bool} {i : Nat} {Q : List (Nat × Nat)} {pos : Nat}
theorem Bfs.start (hi : i < n) : Bfs n A i [(i, 0)] 0 := by
  refine ⟨rfl, ?_, by simp, by simp, ?_, by intro j x h; omega⟩
  · intro x hx; simp at hx; subst hx; exact ⟨hi, by simp [rch]⟩
  · intro x hx y hy; simp at hy; subst hy; simp
theorem Bfs.enter (h : Bfs n A i Q pos) {x : Nat × Nat} (hx : Q[pos]? = some x) : BfsIn n A i Q pos x 0 := ⟨h, hx, by intro u hu; omega⟩
theorem BfsIn.skip {x : Nat × Nat} {k : Nat} (h : BfsIn n A i Q pos x k) (hs : A x.1 k = false ∨ k ∈ Q.map Prod.fst) : BfsIn n A i Q pos x (k + 1) := by
  refine ⟨h.all, h.cur, fun u hu ha => ?_⟩
  rcases Nat.lt_or_ge u k with h1 | h1
  · exact h.row u h1 ha
  · have : u = k := by omega
    subst this
    rcases hs with hs | hs
    · rw [hs] at ha; cases ha
    · obtain ⟨y, hy, e⟩ := List.mem_map.1 hs
      exact ⟨y, hy, e, h.all.last x h.cur y hy⟩
theorem BfsIn.push {x : Nat × Nat} {k : Nat} (h : BfsIn n A i Q pos x k) (hk : k < n) (ha : A x.1 k = true) (hn : k ∉ Q.map Prod.fst) : BfsIn n A i (Q ++ [(k, x.2 + 1)]) pos x (k + 1) := by
  have hpl : pos < Q.length := (List.getElem?_eq_some_iff.1 h.cur).1
  have hxm : x ∈ Q := List.mem_of_getElem? h.cur
  have hw := h.all.way x hxm
  have hget : ∀ j, j ≤ pos → (Q ++ [(k, x.2 + 1)])[j]? = Q[j]? := fun j hj => List.getElem?_append_left (by omega)
  refine ⟨⟨?_, ?_, ?_, ?_, ?_, ?_⟩, ?_, ?_⟩
  · rw [hget 0 (by omega)]; exact h.all.head
  · intro y hy
    rcases List.mem_append.1 hy with hy | hy
    · exact h.all.way y hy
    · simp at hy; subst hy; exact ⟨hk, rch_succ.2 ⟨x.1, hw.1, hw.2, ha⟩⟩
  · rw [List.map_append, List.nodup_append]
    refine ⟨h.all.nodup, by simp, ?_⟩
    intro a ha1 b hb e
    simp at hb
    subst hb; subst e
    exact hn ha1
  · rw [List.pairwise_append]
    refine ⟨h.all.mono, by simp, ?_⟩
    intro a ha1 b hb
    simp at hb; subst hb
    exact h.all.last x h.cur a ha1
  · intro y hy z hz
    rw [hget pos (Nat.le_refl _), h.cur] at hy
    cases hy
    rcases List.mem_append.1 hz with hz | hz
    · exact h.all.last x h.cur z hz
    · simp at hz; subst hz; exact Nat.le_refl _
  · intro j y hj hy u hu hau
    rw [hget j (by omega)] at hy
    obtain ⟨z, hz, e⟩ := h.all.done j y hj hy u hu hau
    exact ⟨z, List.mem_append_left _ hz, e⟩
  · rw [hget pos (Nat.le_refl _)]; exact h.cur
  · intro u hu hau
    rcases Nat.lt_or_ge u k with h1 | h1
    · obtain ⟨z, hz, e⟩ := h.row u h1 hau
      exact ⟨z, List.mem_append_left _ hz, e⟩
    · have : u = k := by omega
      subst this
      exact ⟨(u, x.2 + 1), by simp, rfl, Nat.le_refl _⟩
theorem BfsIn.leave {x : Nat × Nat} (h : BfsIn n A i Q pos x n) : Bfs n A i Q (pos + 1) := by
  have hpl : pos < Q.length := (List.getElem?_eq_some_iff.1 h.cur).1
  refine ⟨h.all.head, h.all.way, h.all.nodup, h.all.mono, ?_, ?_⟩
  · intro y hy z hz
    have h1 := h.all.last x h.cur z hz
    have h2 : x.2 ≤ y.2 := by
      have hq : pos + 1 < Q.length := (List.getElem?_eq_some_iff.1 hy).1
      have := List.pairwise_iff_getElem.1 h.all.mono pos (pos + 1) hpl hq (by omega)
      rw [(List.getElem?_eq_some_iff.1 h.cur).2, (List.getElem?_eq_some_iff.1 hy).2] at this
      exact this
    omega
  · intro j y hj hy u hu hau
    rcases Nat.lt_or_ge j pos with h1 | h1
    · exact h.all.done j y h1 hy u hu hau
    · have : j = pos := by omega
      subst this
      rw [h.cur] at hy; cases hy
      exact h.row u hu hau
/-- What the map says of a vertex. -/
def farOf (Q : List (Nat × Nat)) (u : Nat) : Option Nat := (Q.find? fun x => x.1 == u).map Prod.snd
theorem farOf_mem (hd : (Q.map Prod.fst).Nodup) {x : Nat × Nat} (hx : x ∈ Q) : farOf Q x.1 = some x.2 := by
  unfold farOf
  induction Q with
  | nil => simp at hx
  | cons y Q ih =>
    rw [List.map_cons, List.nodup_cons] at hd
    rw [List.find?_cons]
    rcases List.mem_cons.1 hx with e | e
    · subst e; simp
    · have hne : (y.1 == x.1) = false := by
        simp only [beq_eq_false_iff_ne, ne_eq]
        intro e2
        exact hd.1 (by rw [e2]; exact List.mem_map.2 ⟨x, e, rfl⟩)
      rw [hne]
      exact ih hd.2 e
theorem farOf_none {u : Nat} (h : u ∉ Q.map Prod.fst) : farOf Q u = none := by
  unfold farOf
  cases hf : Q.find? (fun x => x.1 == u) with
  | none => rfl
  | some y =>
    exfalso
    have h1 := List.mem_of_find?_eq_some hf
    have h2 := List.find?_some hf
    simp at h2
    exact h (List.mem_map.2 ⟨y, h1, h2⟩)
def farI (Q : List (Nat × Nat)) (u : Nat) : Int := match farOf Q u with | some d => (d : Int) | none => -1
theorem Bfs.dist (h : Bfs n A i Q Q.length) : IsDist n A i (farI Q) := by
  have clo : ∀ d u, u < n → rch n A i d u = true → ∃ y ∈ Q, y.1 = u ∧ y.2 ≤ d := by
    intro d
    induction d with
    | zero =>
      intro u hu hr
      have : u = i := by simpa [rch] using hr
      subst this
      exact ⟨_, List.mem_of_getElem? h.head, rfl, Nat.le_refl _⟩
    | succ d ih =>
      intro u hu hr
      obtain ⟨v, hv, h1, h2⟩ := rch_succ.1 hr
      obtain ⟨y, hy, e, hle⟩ := ih v hv h1
      obtain ⟨j, hj⟩ := List.getElem?_of_mem hy
      have hjl := (List.getElem?_eq_some_iff.1 hj).1
      obtain ⟨z, hz, e2, hz2⟩ := h.done j y hjl hj u hu (by rw [e]; exact h2)
      exact ⟨z, hz, e2, by omega⟩
  intro u hu
  by_cases hm : u ∈ Q.map Prod.fst
  · obtain ⟨y, hy, e⟩ := List.mem_map.1 hm
    have hf := farOf_mem h.nodup hy
    rw [e] at hf
    right
    refine ⟨y.2, by unfold farI; rw [hf], by have := (h.way y hy).2; rw [e] at this; exact this, fun d hd => ?_⟩
    cases hr : rch n A i d u with
    | false => rfl
    | true =>
      obtain ⟨z, hz, e2, hz2⟩ := clo d u hu hr
      have hf2 := farOf_mem h.nodup hz
      rw [e2, hf] at hf2
      injection hf2 with h9
      omega
  · left
    refine ⟨by unfold farI; rw [farOf_none hm], fun d => ?_⟩
    cases hr : rch n A i d u with
    | false => rfl
    | true =>
      obtain ⟨z, hz, e2, _⟩ := clo d u hu hr
      exact absurd (List.mem_map.2 ⟨z, hz, e2⟩) hm
end
end Go.Proofs.YtjjjohmppehejaaGreat.PlainG

namespace Go.Proofs.YtjjjohmppehejaaGreat.PlainG
/-- The least place, of the last j, with a number that is not negative; 0 if there is none. -/
def lo (d : Nat → Int) (N : Nat) : Nat → Nat
  | 0 => 0
  | j + 1 => if 0 ≤ d (N - (j + 1)) then N - (j + 1) else lo d N j
theorem lo_spec {d : Nat → Int} {N : Nat} : ∀ {j : Nat}, j ≤ N → (∃ u, N - j ≤ u ∧ u < N ∧ 0 ≤ d u) → lo d N j < N ∧ 0 ≤ d (lo d N j) ∧ ∀ u, N - j ≤ u → u < N → 0 ≤ d u → lo d N j ≤ u
  | 0, _, ⟨u, h1, h2, _⟩ => by omega
  | j + 1, hj, ⟨u, h1, h2, h3⟩ => by
    rw [lo]
    by_cases h : 0 ≤ d (N - (j + 1))
    · rw [if_pos h]; exact ⟨by omega, h, fun v hv _ _ => hv⟩
    · rw [if_neg h]
      have hne : u ≠ N - (j + 1) := fun e => h (e ▸ h3)
      obtain ⟨k1, k2, k3⟩ := lo_spec (d := d) (j := j) (by omega) ⟨u, by omega, h2, h3⟩
      refine ⟨k1, k2, fun v hv hvN hvd => ?_⟩
      by_cases e : v = N - (j + 1)
      · subst e; exact absurd hvd h
      · exact k3 v (by omega) hvN hvd
def Rc (N : Nat) (A : Nat → Nat → Bool) (i u : Nat) : Prop := ∃ d, rch N A i d u = true
section
variable {N : Nat} {A : Nat → Nat → Bool}
theorem rch_zero {i u : Nat} : rch N A i 0 u = true ↔ u = i := by simp [rch]
theorem rch_first : ∀ {d i u : Nat}, u < N → rch N A i (d + 1) u = true → ∃ v, v < N ∧ A i v = true ∧ rch N A v d u = true
  | 0, i, u, hu, h => by
    obtain ⟨v, hv, h1, h2⟩ := rch_succ.1 h
    rw [rch_zero] at h1
    subst h1
    exact ⟨u, hu, h2, rch_zero.2 rfl⟩
  | d + 1, i, u, hu, h => by
    obtain ⟨v, hv, h1, h2⟩ := rch_succ.1 h
    obtain ⟨v', hv', h3, h4⟩ := rch_first hv h1
    exact ⟨v', hv', h3, rch_succ.2 ⟨v, hv, h4, h2⟩⟩
theorem rch_cons : ∀ {d i v u : Nat}, i < N → A i v = true → rch N A v d u = true → rch N A i (d + 1) u = true
  | 0, i, v, u, hi, ha, h => by
    rw [rch_zero] at h
    subst h
    exact rch_succ.2 ⟨i, hi, rch_zero.2 rfl, ha⟩
  | d + 1, i, v, u, hi, ha, h => by
    obtain ⟨y, hy, h1, h2⟩ := rch_succ.1 h
    exact rch_succ.2 ⟨y, hy, rch_cons hi ha h1, h2⟩
theorem Rc.refl (i : Nat) : Rc N A i i := ⟨0, rch_zero.2 rfl⟩
theorem Rc.cons {i v u : Nat} (hi : i < N) (ha : A i v = true) (h : Rc N A v u) : Rc N A i u := by
  obtain ⟨d, h⟩ := h
  exact ⟨d + 1, rch_cons hi ha h⟩
/-- What the labels are ahead of a sweep: reachable, and no greater than what is D steps away. -/
structure Lab (N : Nat) (A : Nat → Nat → Bool) (D : Nat) (f : Nat → Int) : Prop where
  is : ∀ i, i < N → ∃ u : Nat, u < N ∧ f i = (u : Int) ∧ Rc N A i u
  le : ∀ i, i < N → ∀ d, d ≤ D → ∀ u, u < N → rch N A i d u = true → f i ≤ (u : Int)
theorem Lab.start : Lab N A 0 (fun i => (i : Int)) :=
  ⟨fun i hi => ⟨i, hi, rfl, Rc.refl i⟩, fun i hi d hd u hu h => by
    obtain rfl : d = 0 := by omega
    rw [rch_zero] at h
    subst h; simp⟩
/-- One edge is swept. -/
def relax (f : Nat → Int) (x y : Nat) (a : Nat) : Int := if a = x ∨ a = y then min (f x) (f y) else f a
/-- In the middle of a sweep: f0 ahead of it, the edges of es are done. -/
structure LabIn (N : Nat) (A : Nat → Nat → Bool) (D : Nat) (f0 : Nat → Int) (es : List E2) (f : Nat → Int) : Prop where
  was : Lab N A D f0
  is : ∀ i, i < N → ∃ u : Nat, u < N ∧ f i = (u : Int) ∧ Rc N A i u
  less : ∀ i, i < N → f i ≤ f0 i
  done : ∀ x ∈ es, f x.1.toNat ≤ f0 x.2.toNat ∧ f x.2.toNat ≤ f0 x.1.toNat
theorem LabIn.start {D : Nat} {f : Nat → Int} (h : Lab N A D f) : LabIn N A D f [] f := ⟨h, h.is, fun _ _ => Int.le_refl _, by simp⟩
theorem LabIn.step {D x y : Nat} {f0 f : Nat → Int} {es : List E2} (h : LabIn N A D f0 es f) (hes : ∀ z ∈ es, z.1.toNat < N ∧ z.2.toNat < N) (hx : x < N) (hy : y < N) (h1 : A x y = true) (h2 : A y x = true) : LabIn N A D f0 (es ++ [((x : Int), (y : Int))]) (relax f x y) := by
  have hle : ∀ i, relax f x y i ≤ f i := fun i => by
    unfold relax
    by_cases e : i = x ∨ i = y
    · rw [if_pos e]
      rcases e with rfl | rfl
      · exact Int.min_le_left _ _
      · exact Int.min_le_right _ _
    · rw [if_neg e]; exact Int.le_refl _
  refine ⟨h.was, fun i hi => ?_, fun i hi => Int.le_trans (hle i) (h.less i hi), fun z hz => ?_⟩
  · unfold relax
    by_cases e : i = x ∨ i = y
    · rw [if_pos e]
      obtain ⟨u, hu, eu, ru⟩ := h.is x hx
      obtain ⟨v, hv, ev, rv⟩ := h.is y hy
      by_cases hm : f x ≤ f y
      · rw [Int.min_eq_left hm]
        refine ⟨u, hu, eu, ?_⟩
        rcases e with rfl | rfl
        · exact ru
        · exact ru.cons hy h2
      · rw [Int.min_eq_right (by omega)]
        refine ⟨v, hv, ev, ?_⟩
        rcases e with rfl | rfl
        · exact rv.cons hx h1
        · exact rv
    · rw [if_neg e]; exact h.is i hi
  · rcases List.mem_append.1 hz with hz | hz
    · have hd := h.done z hz
      exact ⟨Int.le_trans (hle _) hd.1, Int.le_trans (hle _) hd.2⟩
    · simp at hz
      subst hz
      simp only [Int.toNat_natCast]
      unfold relax
      rw [if_pos (.inl rfl), if_pos (.inr rfl)]
      have a1 := h.less x hx
      have a2 := h.less y hy
      exact ⟨Int.le_trans (Int.min_le_right _ _) a2, Int.le_trans (Int.min_le_left _ _) a1⟩
theorem LabIn.leave {D : Nat} {f0 f : Nat → Int} {es : List E2} (h : LabIn N A D f0 es f) (hA : ∀ i v, i < N → v < N → A i v = true → ((i : Int), (v : Int)) ∈ es ∨ ((v : Int), (i : Int)) ∈ es) : Lab N A (D + 1) f := by
  refine ⟨h.is, fun i hi d hd u hu hr => ?_⟩
  cases d with
  | zero => exact Int.le_trans (h.less i hi) (h.was.le i hi 0 (Nat.zero_le _) u hu hr)
  | succ d =>
    obtain ⟨v, hv, ha, hr2⟩ := rch_first hu hr
    have h3 := h.was.le v hv d (by omega) u hu hr2
    have h4 : f i ≤ f0 v := by
      rcases hA i v hi hv ha with hm | hm
      · have := (h.done _ hm).1; simpa using this
      · have := (h.done _ hm).2; simpa using this
    exact Int.le_trans h4 h3
theorem lev_nonneg {i u : Nat} (hi : i < N) (hu : u < N) : 0 ≤ lev N A i N u ↔ Rc N A i u := by
  rcases lev_all (A := A) hi u hu with ⟨h1, h2⟩ | ⟨d, h1, h2, _⟩
  · constructor
    · intro h; omega
    · rintro ⟨d, h⟩; rw [h2 d] at h; cases h
  · exact ⟨fun _ => ⟨d, h2⟩, fun _ => by omega⟩
/-- Both say the least vertex that can be reached. -/
theorem Lab.least {f : Nat → Int} (h : Lab N A N f) {i : Nat} (hi : i < N) : f i = (lo (lev N A i N) N N : Int) := by
  have hii : 0 ≤ lev N A i N i := (lev_nonneg hi hi).2 (Rc.refl i)
  obtain ⟨l1, l2, l3⟩ := lo_spec (d := lev N A i N) (N := N) (j := N) (Nat.le_refl _) ⟨i, by omega, hi, hii⟩
  obtain ⟨u, hu, eu, ru⟩ := h.is i hi
  have a1 := l3 u (by omega) hu ((lev_nonneg hi hu).2 ru)
  have hlv := lev_cases (n := N) (A := A) (i := i) N (lo (lev N A i N) N N)
  rcases hlv with ⟨e, _⟩ | ⟨d, hd, _, hr, _⟩
  · omega
  · have := h.le i hi d hd _ l1 hr
    omega
end
end Go.Proofs.YtjjjohmppehejaaGreat.PlainG
