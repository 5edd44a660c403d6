/- Moving a graph, its complement, its word: plain. -/
import Derived.Test.YtifkieopaoooeaaGreatDoorPlainC
import Derived.Test.YtifkieopaoooeaaGreatDoorPlainG
set_option linter.unusedSimpArgs false
set_option linter.unusedVariables false
namespace Go.Proofs.YtifkieopaoooeaaGreatDoor.PlainG
open Plain
/-- Whether a list is a permutation of n points. -/
def permB (n : Int) (p : List Int) : Bool := decide ((p.length : Int) = n ∧ (∀ v ∈ p, 0 ≤ v ∧ v < n) ∧ p.Nodup)
theorem permB_iff {n : Int} {p : List Int} : permB n p = true ↔ (p.length : Int) = n ∧ (∀ v ∈ p, 0 ≤ v ∧ v < n) ∧ p.Nodup := by unfold permB; exact decide_eq_true_iff
def pts (n : Nat) : List Int := (List.range n).map fun (i : Nat) => (i : Int)
theorem pts_len (n : Nat) : (pts n).length = n := by simp [pts]
theorem pts_get {n i : Nat} (h : i < n) : (pts n)[i]? = some (i : Int) := by unfold pts; rw [List.getElem?_map, List.getElem?_range h]; rfl
theorem pts_nodup (n : Nat) : (pts n).Nodup := by
  unfold pts
  refine List.pairwise_map.2 (List.Pairwise.imp ?_ (List.pairwise_lt_range (n := n)))
  intro a b h e; omega
theorem pts_mem {n : Nat} {v : Int} : v ∈ pts n ↔ 0 ≤ v ∧ v < n := by
  unfold pts
  constructor
  · intro h; obtain ⟨i, hi, rfl⟩ := List.mem_map.1 h; have := List.mem_range.1 hi; omega
  · intro h; exact List.mem_map.2 ⟨v.toNat, List.mem_range.2 (by omega), Int.toNat_of_nonneg h.1⟩
theorem pts_sorted (n : Nat) : (pts n).Pairwise fun x y => x ≤ y := by
  unfold pts
  refine List.pairwise_map.2 (List.Pairwise.imp ?_ (List.pairwise_lt_range (n := n)))
  intro a b h; omega
theorem perm_pts {n : Nat} {p : List Int} (h1 : p.length = n) (h2 : ∀ v ∈ p, 0 ≤ v ∧ v < n) (h3 : p.Nodup) : p.Perm (pts n) := by
  refine (List.perm_ext_iff_of_nodup h3 (pts_nodup n)).2 fun v => ⟨fun h => pts_mem.2 (h2 v h), fun h => ?_⟩
  have hv := pts_mem.1 h
  have := mem_of_full n p h3 h2 (by omega) v.toNat (by omega)
  rwa [show ((v.toNat : Nat) : Int) = v by omega] at this
/-- A sorted list of a permutation's points is 0 .. n-1. -/
theorem lab_iff {p s : List Int} (hs : s.Perm p) (ho : s.Pairwise fun x y => x ≤ y) : s = pts p.length ↔ (∀ v ∈ p, 0 ≤ v ∧ v < p.length) ∧ p.Nodup := by
  constructor
  · intro h
    refine ⟨fun v hv => pts_mem.1 (h ▸ hs.mem_iff.2 hv), hs.nodup_iff.1 (h ▸ pts_nodup _)⟩
  · rintro ⟨h1, h2⟩
    exact (hs.trans (perm_pts rfl h1 h2)).eq_of_pairwise (fun a b _ _ h1 h2 => by omega) ho (pts_sorted _)
theorem lab_perm {n : Int} {p s : List Int} (hs : s.Perm p) (ho : s.Pairwise fun x y => x ≤ y) : permB n p = (decide (s = pts p.length) && decide ((p.length : Int) = n)) := by
  rw [Bool.eq_iff_iff, permB_iff, Bool.and_eq_true, decide_eq_true_iff, decide_eq_true_iff, lab_iff hs ho]
  constructor
  · rintro ⟨h1, h2, h3⟩; exact ⟨⟨fun v hv => by have := h2 v hv; omega, h3⟩, h1⟩
  · rintro ⟨⟨h1, h2⟩, h3⟩; exact ⟨h3, fun v hv => by have := h1 v hv; omega, h2⟩
/-- .. and up to a place it is. -/
theorem pts_upto {s : List Int} {k : Nat} (h : ∀ i, i < s.length → s[i]? = some (i : Int)) : s = pts s.length := by
  apply List.ext_getElem?
  intro i
  by_cases hi : i < s.length
  · rw [h i hi, pts_get hi]
  · rw [List.getElem?_eq_none (by omega), List.getElem?_eq_none (by rw [pts_len]; omega)]
/-- The image of a point. -/
def pt (p : List Int) (i : Int) : Int := p[i.toNat]?.getD 0
theorem pt_get {p : List Int} {i : Int} (h0 : 0 ≤ i) (h : i < p.length) : p[i.toNat]? = some (pt p i) := by
  unfold pt; rw [List.getElem?_eq_getElem (by omega)]; rfl
def mvE (p : List Int) (x : E2) : E2 := (pt p x.1, pt p x.2)
/-- The colours moved, after k steps. -/
def movTo (n : Nat) (p cs : List Int) : Nat → List Int
  | 0 => List.replicate n 0
  | k + 1 => (movTo n p cs k).set (p[k]?.getD 0).toNat (cs[k]?.getD 0)
theorem movTo_len (n : Nat) (p cs : List Int) : ∀ k, (movTo n p cs k).length = n
  | 0 => by simp [movTo]
  | k + 1 => by rw [movTo, List.length_set, movTo_len n p cs k]
def movedG (n : Nat) (p : List Int) (es : List E2) (cs : List Int) : Gr := ⟨n, canon n (adj (es.map (mvE p))), movTo n p cs n⟩
def zeroG : Gr := ⟨0, [], []⟩
def moveA (g : Gr) (p : List Int) : Gr × Int := if chkGr g ≠ 0 then (zeroG, chkGr g) else if permB g.n p = true then (movedG g.n.toNat p g.es g.cs, 0) else (zeroG, 3)
theorem movTo_get {n : Nat} {p cs : List Int} (hl : p.length = n) (hr : ∀ v ∈ p, 0 ≤ v ∧ v < n) (hd : p.Nodup) : ∀ k, k ≤ n → ∀ i, i < k → ∀ v, p[i]? = some v → (movTo n p cs k)[v.toNat]? = some (cs[i]?.getD 0)
  | 0, _, i, hi, _, _ => by omega
  | k + 1, hk, i, hi, v, hv => by
    obtain ⟨u, hu⟩ : ∃ u, p[k]? = some u := ⟨_, List.getElem?_eq_getElem (by omega)⟩
    have hur := hr u (List.mem_of_getElem? hu)
    have hvr := hr v (List.mem_of_getElem? hv)
    rw [movTo, hu, Option.getD_some]
    by_cases he : i = k
    · subst he
      rw [hv] at hu
      obtain rfl := Option.some.inj hu
      rw [List.getElem?_set_self (by rw [movTo_len]; omega)]
    · have hne : u.toNat ≠ v.toNat := by
        intro e
        have : u = v := by omega
        subst this
        rw [← hv] at hu
        exact he ((List.getElem?_inj (by omega) hd).1 hu.symm)
      rw [List.getElem?_set_ne hne]
      exact movTo_get hl hr hd k (by omega) i (by omega) v hv
/-- The moved edges are proper pairs. -/
theorem mv_ok {n : Nat} {p : List Int} {es : List E2} (hl : p.length = n) (hr : ∀ v ∈ p, 0 ≤ v ∧ v < n) (hd : p.Nodup) (he : ∀ x ∈ es, 0 ≤ x.1 ∧ x.1 < x.2 ∧ x.2 < n) : pF n (es.map (mvE p)) = 0 := by
  induction es with
  | nil => rfl
  | cons x es ih =>
    have hx := he x (by simp)
    have h1 := pt_get (p := p) (i := x.1) (by omega) (by omega)
    have h2 := pt_get (p := p) (i := x.2) (by omega) (by omega)
    have r1 := hr _ (List.mem_of_getElem? h1)
    have r2 := hr _ (List.mem_of_getElem? h2)
    rw [List.map_cons, pF]
    have v1 : vert n (pt p x.1) = true := by unfold vert; simp; omega
    have v2 : vert n (pt p x.2) = true := by unfold vert; simp; omega
    rw [if_neg (by simp only [mvE]; rw [v1, v2]; decide), if_neg (by
      intro e
      simp only [mvE] at e
      rw [e, ← h2] at h1
      have := (List.getElem?_inj (by omega) hd).1 h1
      omega)]
    exact ih fun y hy => he y (by simp [hy])
theorem mem_ord {es : List E2} {p : List Int} {es' : List E2} (h : ∀ x, x ∈ es' ↔ x ∈ es.map (fun x => (min (pt p x.1) (pt p x.2), max (pt p x.1) (pt p x.2)))) : ∀ x, x ∈ es' ↔ x ∈ (es.map (mvE p)).map (fun x => (min x.1 x.2, max x.1 x.2)) := by
  intro x; rw [h x, List.map_map]; rfl
/-- An edge between moved points. -/
theorem adj_moved {n : Nat} {p : List Int} {es : List E2} (hl : p.length = n) (hd : p.Nodup) (he : ∀ x ∈ es, 0 ≤ x.1 ∧ x.1 < x.2 ∧ x.2 < n) {i k : Nat} (hi : i < n) (hk : k < n) {u v : Nat} (hu : p[i]? = some (u : Int)) (hv : p[k]? = some (v : Int)) :
    adj (es.map (mvE p)) u v = adj es i k := by
  have key : ∀ (a : Int) (j w : Nat), 0 ≤ a → a < n → j < n → p[j]? = some (w : Int) → (pt p a = (w : Int) ↔ a = (j : Int)) := by
    intro a j w h0 h1 hj hw
    have hg := pt_get (p := p) h0 (by omega)
    constructor
    · intro e
      rw [e, ← hw] at hg
      have := (List.getElem?_inj (by omega) hd).1 hg
      omega
    · rintro rfl
      rw [Int.toNat_natCast] at hg
      rw [hw] at hg
      exact (Option.some.inj hg).symm
  rw [Bool.eq_iff_iff, adj_iff, adj_iff]
  simp only [List.mem_map, mvE, Prod.mk.injEq]
  constructor
  · rintro (⟨x, hx, h1, h2⟩ | ⟨x, hx, h1, h2⟩)
    · have hh := he x hx
      rw [key x.1 i u (by omega) (by omega) hi hu] at h1
      rw [key x.2 k v (by omega) (by omega) hk hv] at h2
      left; rw [← h1, ← h2]; exact hx
    · have hh := he x hx
      rw [key x.1 k v (by omega) (by omega) hk hv] at h1
      rw [key x.2 i u (by omega) (by omega) hi hu] at h2
      right; rw [← h1, ← h2]; exact hx
  · rintro (hx | hx)
    · left
      exact ⟨_, hx, (key _ i u (by omega) (by omega) hi hu).2 rfl, (key _ k v (by omega) (by omega) hk hv).2 rfl⟩
    · right
      exact ⟨_, hx, (key _ k v (by omega) (by omega) hk hv).2 rfl, (key _ i u (by omega) (by omega) hi hu).2 rfl⟩
/-- Only what lies in range, above the line, counts. -/
theorem canon_cong {n : Nat} {f g : Nat → Nat → Bool} (h : ∀ i k, i < k → k < n → f i k = g i k) : canon n f = canon n g := by
  refine srt_uniq (canon_srt _ _) (canon_srt _ _) fun x => ?_
  rw [mem_canon, mem_canon]
  constructor
  · rintro ⟨i, k, h1, h2, h3, h4⟩; exact ⟨i, k, h1, h2, by rw [← h i k h1 h2]; exact h3, h4⟩
  · rintro ⟨i, k, h1, h2, h3, h4⟩; exact ⟨i, k, h1, h2, by rw [h i k h1 h2]; exact h3, h4⟩
def complA (g : Gr) : Gr × Int := if chkGr g ≠ 0 then (zeroG, chkGr g) else (⟨g.n, canon g.n.toNat (fun i k => !adj g.es i k), g.cs⟩, 0)
/-- The rows of a matrix to the left of the line, one after another. -/
def rowsW (es : List E2) (n : Nat) : List Int := (List.range n).flatMap fun k => (List.range k).map fun i => if adj es k i = true then 1 else 0
theorem rowsW_succ (es : List E2) (n : Nat) : rowsW es (n + 1) = rowsW es n ++ (List.range n).map fun i => if adj es n i = true then 1 else 0 := by
  simp [rowsW, List.range_succ]
theorem rowsW_len (es : List E2) : ∀ n, (rowsW es n).length ≤ n * n
  | 0 => by simp [rowsW]
  | n + 1 => by
    rw [rowsW_succ, List.length_append, List.length_map, List.length_range]
    have := rowsW_len es n
    have e : (n + 1) * (n + 1) = n * n + 2 * n + 1 := by rw [Nat.add_mul, Nat.mul_add]; omega
    omega
def wordG (g : Gr) : List Int := g.cs ++ rowsW g.es g.n.toNat
def wordA (g : Gr) (p : List Int) : List Int × Int := if (moveA g p).2 ≠ 0 then ([], (moveA g p).2) else (wordG (moveA g p).1, 0)
end Go.Proofs.YtifkieopaoooeaaGreatDoor.PlainG
