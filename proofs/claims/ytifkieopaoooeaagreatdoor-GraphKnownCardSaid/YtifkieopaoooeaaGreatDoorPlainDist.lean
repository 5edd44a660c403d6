/- Distances: plain. · The walk over a graph by a queue: plain. -/
import Derived.Test.YtifkieopaoooeaaGreatDoorPlainG
set_option linter.unusedSimpArgs false
set_option linter.unusedVariables false
namespace Go.Proofs.YtifkieopaoooeaaGreatDoor.PlainG
/-- There is a way of d edges from i to u. -/
def rch (n : Nat) (A : Nat → Nat → Bool) (i : Nat) : Nat → Nat → Bool
  | 0, u => u == i
  | d + 1, u => (List.range n).any fun v => rch n A i d v && A v u
section
variable {n : Nat} {A : Nat → Nat → Bool} {i : Nat}
theorem rch_succ {d u : Nat} : rch n A i (d + 1) u = true ↔ ∃ v, v < n ∧ rch n A i d v = true ∧ A v u = true := by
  rw [rch, List.any_eq_true]
  constructor
  · rintro ⟨v, hv, h⟩; rw [Bool.and_eq_true] at h; exact ⟨v, List.mem_range.1 hv, h.1, h.2⟩
  · rintro ⟨v, hv, h1, h2⟩; exact ⟨v, List.mem_range.2 hv, by rw [h1, h2]; rfl⟩
def IsDist (n : Nat) (A : Nat → Nat → Bool) (i : Nat) (out : Nat → Int) : Prop :=
  ∀ u, u < n → (out u = -1 ∧ ∀ d, rch n A i d u = false) ∨ (∃ d : Nat, out u = (d : Int) ∧ rch n A i d u = true ∧ ∀ e, e < d → rch n A i e u = false)
theorem IsDist.uniq {f g : Nat → Int} (hf : IsDist n A i f) (hg : IsDist n A i g) {u : Nat} (hu : u < n) : f u = g u := by
  rcases hf u hu with ⟨f1, f2⟩ | ⟨d, f1, f2, f3⟩ <;> rcases hg u hu with ⟨g1, g2⟩ | ⟨e, g1, g2, g3⟩
  · rw [f1, g1]
  · rw [f2 e] at g2; cases g2
  · rw [g2 d] at f2; cases f2
  · have : d = e := by
      rcases Nat.lt_trichotomy d e with h | h | h
      · rw [g3 d h] at f2; cases f2
      · exact h
      · rw [f3 e h] at g2; cases g2
    rw [f1, g1, this]
/-- The distance, if it is at most D. -/
def lev (n : Nat) (A : Nat → Nat → Bool) (i D u : Nat) : Int := match (List.range (D + 1)).find? (fun e => rch n A i e u) with | some e => (e : Int) | none => -1
theorem find_range {p : Nat → Bool} {m e : Nat} (h : (List.range m).find? p = some e) : e < m ∧ p e = true ∧ ∀ k, k < e → p k = false := by
  induction m with
  | zero => simp at h
  | succ m ih =>
    rw [List.range_succ, List.find?_append] at h
    cases h1 : (List.range m).find? p with
    | some x =>
      rw [h1] at h
      simp at h; subst h
      obtain ⟨a, b, c⟩ := ih h1
      exact ⟨by omega, b, c⟩
    | none =>
      rw [h1] at h
      simp only [Option.none_or] at h
      rw [List.find?_cons] at h
      cases hp : p m with
      | true => rw [hp] at h; cases h; exact ⟨by omega, hp, fun k hk => by
          have := List.find?_eq_none.1 h1 k (List.mem_range.2 hk); simpa using this⟩
      | false => rw [hp] at h; simp at h
theorem lev_cases (D u : Nat) : (lev n A i D u = -1 ∧ ∀ d, d ≤ D → rch n A i d u = false) ∨ (∃ d : Nat, d ≤ D ∧ lev n A i D u = (d : Int) ∧ rch n A i d u = true ∧ ∀ e, e < d → rch n A i e u = false) := by
  unfold lev
  cases h : (List.range (D + 1)).find? (fun e => rch n A i e u) with
  | none =>
    left
    refine ⟨rfl, fun d hd => ?_⟩
    have := List.find?_eq_none.1 h d (List.mem_range.2 (by omega))
    simpa using this
  | some e =>
    obtain ⟨h1, h2, h3⟩ := find_range h
    exact .inr ⟨e, by omega, rfl, h2, h3⟩
theorem lev_unique {D u : Nat} {x : Int} (h : (x = -1 ∧ ∀ d, d ≤ D → rch n A i d u = false) ∨ (∃ d : Nat, d ≤ D ∧ x = (d : Int) ∧ rch n A i d u = true ∧ ∀ e, e < d → rch n A i e u = false)) : lev n A i D u = x := by
  rcases lev_cases (n := n) (A := A) (i := i) D u with ⟨f1, f2⟩ | ⟨d, f0, f1, f2, f3⟩ <;> rcases h with ⟨g1, g2⟩ | ⟨e, g0, g1, g2, g3⟩
  · rw [f1, g1]
  · rw [f2 e g0] at g2; cases g2
  · rw [g2 d f0] at f2; cases f2
  · have : d = e := by
      rcases Nat.lt_trichotomy d e with h | h | h
      · rw [g3 d h] at f2; cases f2
      · exact h
      · rw [f3 e h] at g2; cases g2
    rw [f1, g1, this]
theorem lev_zero (u : Nat) : lev n A i 0 u = if u = i then 0 else -1 := by
  apply lev_unique
  by_cases h : u = i
  · subst h
    right; exact ⟨0, Nat.le_refl _, by simp, by simp [rch], by intro e he; omega⟩
  · left
    refine ⟨by rw [if_neg h], fun d hd => ?_⟩
    have : d = 0 := by omega
    subst this
    simp [rch, h]
/-- The state in the middle of a round: the pairs ahead of (a, b) are done. -/
def mid (n : Nat) (A : Nat → Nat → Bool) (i D a b u : Nat) : Int :=
  if 0 ≤ lev n A i D u then lev n A i D u
  else if ((List.range n).any fun v => (decide (v < a) || (decide (v = a) && decide (u < b))) && (decide (lev n A i D v = (D : Int)) && A v u)) = true then (D : Int) + 1 else -1
theorem mid_start (D u : Nat) : mid n A i D 0 0 u = lev n A i D u := by
  unfold mid
  split
  · rfl
  · rename_i h
    rw [if_neg]
    · rcases lev_cases (n := n) (A := A) (i := i) D u with ⟨f1, f2⟩ | ⟨d, f0, f1, f2, f3⟩
      · rw [f1]
      · rw [f1] at h; omega
    · simp
theorem mid_end (D u : Nat) : mid n A i D n 0 u = lev n A i (D + 1) u := by
  symm
  apply lev_unique
  unfold mid
  rcases lev_cases (n := n) (A := A) (i := i) D u with ⟨f1, f2⟩ | ⟨d, f0, f1, f2, f3⟩
  · rw [f1, if_neg (by omega)]
    split
    · rename_i h
      rw [List.any_eq_true] at h
      obtain ⟨v, hv, h⟩ := h
      simp only [Bool.and_eq_true, Bool.or_eq_true, decide_eq_true_eq] at h
      obtain ⟨_, h1, h2⟩ := h
      rcases lev_cases (n := n) (A := A) (i := i) D v with ⟨g1, g2⟩ | ⟨d, g0, g1, g2, g3⟩
      · omega
      · have : d = D := by omega
        subst this
        right
        refine ⟨d + 1, Nat.le_refl _, by omega, rch_succ.2 ⟨v, List.mem_range.1 hv, g2, h2⟩, fun e he => f2 e (by omega)⟩
    · rename_i h
      left
      refine ⟨rfl, fun d hd => ?_⟩
      rcases Nat.lt_or_ge D d with h1 | h1
      · have : d = D + 1 := by omega
        subst this
        cases hr : rch n A i (D + 1) u with
        | false => rfl
        | true =>
          exfalso
          obtain ⟨v, hv, h2, h3⟩ := rch_succ.1 hr
          apply h
          rw [List.any_eq_true]
          refine ⟨v, List.mem_range.2 hv, ?_⟩
          simp only [Bool.and_eq_true, Bool.or_eq_true, decide_eq_true_eq]
          refine ⟨.inl hv, ?_, h3⟩
          apply lev_unique
          right
          refine ⟨D, Nat.le_refl _, rfl, h2, fun e he => ?_⟩
          cases hq : rch n A i e v with
          | false => rfl
          | true =>
            have := f2 (e + 1) (by omega)
            rw [rch_succ.2 ⟨v, hv, hq, h3⟩] at this; cases this
      · exact f2 d h1
  · rw [f1, if_pos (by omega)]
    right
    exact ⟨d, by omega, rfl, f2, f3⟩
theorem mid_row (D a u : Nat) (hu : u < n) : mid n A i D a n u = mid n A i D (a + 1) 0 u := by
  unfold mid
  have : (fun v => (decide (v < a) || (decide (v = a) && decide (u < n))) && (decide (lev n A i D v = (D : Int)) && A v u)) = (fun v => (decide (v < a + 1) || (decide (v = a + 1) && decide (u < 0))) && (decide (lev n A i D v = (D : Int)) && A v u)) := by
    funext v
    congr 1
    rw [Bool.eq_iff_iff]
    simp
    omega
  rw [this]
/-- What a pair does: only at u = b, if a stands at D, is joined with b, and b is still open. -/
theorem mid_step {D a b u : Nat} (ha : a < n) : mid n A i D a (b + 1) u = if u = b ∧ mid n A i D a b a = (D : Int) ∧ A a b = true ∧ mid n A i D a b b < 0 then (D : Int) + 1 else mid n A i D a b u := by
  have hmidA : (mid n A i D a b a = (D : Int)) ↔ lev n A i D a = (D : Int) := by
    unfold mid
    rcases lev_cases (n := n) (A := A) (i := i) D a with ⟨f1, f2⟩ | ⟨d, f0, f1, f2, f3⟩
    · rw [f1, if_neg (by omega)]
      split <;> constructor <;> intro h <;> omega
    · rw [f1, if_pos (by omega)]
  by_cases hub : u = b
  · subst hub
    by_cases hl : 0 ≤ lev n A i D u
    · have e1 : ∀ x y, mid n A i D x y u = lev n A i D u := fun x y => by unfold mid; rw [if_pos hl]
      rw [e1, e1, if_neg (by omega)]
    · have e1 : ∀ y, mid n A i D a y u = if ((List.range n).any fun v => (decide (v < a) || (decide (v = a) && decide (u < y))) && (decide (lev n A i D v = (D : Int)) && A v u)) = true then (D : Int) + 1 else -1 := fun y => by
        unfold mid; rw [if_neg hl]
      by_cases hx : ((List.range n).any fun v => (decide (v < a) || (decide (v = a) && decide (u < u))) && (decide (lev n A i D v = (D : Int)) && A v u)) = true
      · have R : mid n A i D a u u = (D : Int) + 1 := by rw [e1, if_pos hx]
        have L : mid n A i D a (u + 1) u = (D : Int) + 1 := by
          rw [e1, if_pos]
          rw [List.any_eq_true] at hx ⊢
          obtain ⟨v, hv, h⟩ := hx
          refine ⟨v, hv, ?_⟩
          simp only [Bool.and_eq_true, Bool.or_eq_true, decide_eq_true_eq] at h ⊢
          exact ⟨by omega, h.2⟩
        rw [L]
        split
        · rfl
        · exact R.symm
      · have R : mid n A i D a u u = -1 := by rw [e1, if_neg hx]
        by_cases hy : lev n A i D a = (D : Int) ∧ A a u = true
        · have L : mid n A i D a (u + 1) u = (D : Int) + 1 := by
            rw [e1, if_pos]
            rw [List.any_eq_true]
            refine ⟨a, List.mem_range.2 ha, ?_⟩
            simp only [Bool.and_eq_true, Bool.or_eq_true, decide_eq_true_eq]
            exact ⟨.inr ⟨by trivial, by omega⟩, hy⟩
          rw [L, if_pos ⟨rfl, hmidA.2 hy.1, hy.2, by rw [R]; omega⟩]
        · have L : mid n A i D a (u + 1) u = -1 := by
            rw [e1, if_neg]
            intro h
            apply hx
            rw [List.any_eq_true] at h ⊢
            obtain ⟨v, hv, h⟩ := h
            simp only [Bool.and_eq_true, Bool.or_eq_true, decide_eq_true_eq] at h
            refine ⟨v, hv, ?_⟩
            simp only [Bool.and_eq_true, Bool.or_eq_true, decide_eq_true_eq]
            refine ⟨?_, h.2⟩
            rcases h.1 with h1 | h1
            · exact .inl h1
            · exfalso; have := h1.1; subst this; exact hy h.2
          rw [L, if_neg (fun h => hy ⟨hmidA.1 h.2.1, h.2.2.1⟩), R]
  · rw [if_neg (fun h => hub h.1)]
    unfold mid
    have : (fun v => (decide (v < a) || (decide (v = a) && decide (u < b + 1))) && (decide (lev n A i D v = (D : Int)) && A v u)) = (fun v => (decide (v < a) || (decide (v = a) && decide (u < b))) && (decide (lev n A i D v = (D : Int)) && A v u)) := by
      funext v
      congr 1
      rw [Bool.eq_iff_iff]
      simp
      omega
    rw [this]
theorem countP_lt {p q : Nat → Bool} : ∀ {l : List Nat}, (∀ x, p x = true → q x = true) → (∃ x ∈ l, q x = true ∧ p x = false) → l.countP p < l.countP q
  | [], _, h => by obtain ⟨x, hx, _⟩ := h; simp at hx
  | y :: l, hpq, h => by
    rw [List.countP_cons, List.countP_cons]
    have hle : l.countP p ≤ l.countP q := List.countP_mono_left fun x _ => hpq x
    obtain ⟨x, hx, h1, h2⟩ := h
    rcases List.mem_cons.1 hx with e | e
    · subst e; rw [h1, h2]; simp; omega
    · have ih := countP_lt hpq ⟨x, e, h1, h2⟩
      cases hp : p y
      · simp only [Bool.false_eq_true, if_false]; split <;> omega
      · rw [hpq y hp]; simp; omega
/-- A vertex that is reached at all is reached within n edges. -/
theorem rch_bound (hi : i < n) : ∀ (d u : Nat), u < n → rch n A i d u = true → (∀ e, e < d → rch n A i e u = false) → d + 1 ≤ (List.range n).countP fun v => (List.range (d + 1)).any fun e => rch n A i e v
  | 0, u, hu, _, _ => by
    have : 0 < (List.range n).countP fun v => (List.range 1).any fun e => rch n A i e v := by
      rw [List.countP_pos_iff]
      exact ⟨i, List.mem_range.2 hi, by simp [rch, List.range_one]⟩
    exact this
  | d + 1, u, hu, h, hmin => by
    obtain ⟨v, hv, h1, h2⟩ := rch_succ.1 h
    have hv2 : ∀ e, e < d → rch n A i e v = false := fun e he => by
      cases hq : rch n A i e v with
      | false => rfl
      | true =>
        have := hmin (e + 1) (by omega)
        rw [rch_succ.2 ⟨v, hv, hq, h2⟩] at this; cases this
    have ih := rch_bound hi d v hv h1 hv2
    have := countP_lt (l := List.range n) (p := fun v => (List.range (d + 1)).any fun e => rch n A i e v) (q := fun v => (List.range (d + 2)).any fun e => rch n A i e v) (fun x hx => by
      rw [List.any_eq_true] at hx ⊢
      obtain ⟨e, he, h⟩ := hx
      exact ⟨e, List.mem_range.2 (by have := List.mem_range.1 he; omega), h⟩) ⟨u, List.mem_range.2 hu, by
        rw [List.any_eq_true]; exact ⟨d + 1, List.mem_range.2 (by omega), h⟩, by
        rw [List.any_eq_false]
        intro e he
        have := List.mem_range.1 he
        rw [hmin e this]; simp⟩
    exact Nat.succ_le_of_lt (Nat.lt_of_le_of_lt ih this)
theorem lev_all (hi : i < n) : IsDist n A i (lev n A i n) := by
  intro u hu
  rcases lev_cases (n := n) (A := A) (i := i) n u with ⟨f1, f2⟩ | ⟨d, f0, f1, f2, f3⟩
  · left
    refine ⟨f1, ?_⟩
    have key : ∀ m d, d ≤ m → rch n A i d u = false := by
      intro m
      induction m with
      | zero => intro d hd; exact f2 d (by omega)
      | succ m ih =>
        intro d hd
        rcases Nat.lt_or_ge m d with h | h
        · have : d = m + 1 := by omega
          subst this
          cases hr : rch n A i (m + 1) u with
          | false => rfl
          | true =>
            have := rch_bound hi (m + 1) u hu hr (fun e he => ih e (by omega))
            have h2 := List.countP_le_length (p := fun v => (List.range (m + 1 + 1)).any fun e => rch n A i e v) (l := List.range n)
            rw [List.length_range] at h2
            have := f2 (m + 1) (by omega)
            rw [this] at hr; cases hr
        · exact ih d h
    exact fun d => key d d (Nat.le_refl _)
  · exact .inr ⟨d, f1, f2, f3⟩
end
end Go.Proofs.YtifkieopaoooeaaGreatDoor.PlainG

namespace Go.Proofs.YtifkieopaoooeaaGreatDoor.PlainG
structure Bfs (n : Nat) (A : Nat → Nat → Bool) (i : Nat) (Q : List (Nat × Nat)) (pos : Nat) : Prop where
  head : Q[0]? = some (i, 0)
  way : ∀ x ∈ Q, x.1 < n ∧ rch n A i x.2 x.1 = true
  nodup : (Q.map Prod.fst).Nodup
  mono : Q.Pairwise fun x y => x.2 ≤ y.2
  last : ∀ x, Q[pos]? = some x → ∀ y ∈ Q, y.2 ≤ x.2 + 1
  done : ∀ j x, j < pos → Q[j]? = some x → ∀ u, u < n → A x.1 u = true → ∃ y ∈ Q, y.1 = u ∧ y.2 ≤ x.2 + 1
/-- In the middle of a vertex: the neighbours ahead of k are done. -/
structure BfsIn (n : Nat) (A : Nat → Nat → Bool) (i : Nat) (Q : List (Nat × Nat)) (pos : Nat) (x : Nat × Nat) (k : Nat) : Prop where
  all : Bfs n A i Q pos
  cur : Q[pos]? = some x
  row : ∀ u, u < k → A x.1 u = true → ∃ y ∈ Q, y.1 = u ∧ y.2 ≤ x.2 + 1
section
variable {n : Nat} {A : Nat → Nat → Bool} {i : Nat} {Q : List (Nat × Nat)} {pos : Nat}
theorem Bfs.start (hi : i < n) : Bfs n A i [(i, 0)] 0 := by
  refine ⟨rfl, ?_, by simp, by simp, ?_, by intro j x h; omega⟩
  · intro x hx; simp at hx; subst hx; exact ⟨hi, by simp [rch]⟩
  · intro x hx y hy; simp at hy; subst hy; simp
theorem Bfs.enter (h : Bfs n A i Q pos) {x : Nat × Nat} (hx : Q[pos]? = some x) : BfsIn n A i Q pos x 0 := ⟨h, hx, by intro u hu; omega⟩
theorem BfsIn.skip {x : Nat × Nat} {k : Nat} (h : BfsIn n A i Q pos x k) (hs : A x.1 k = false ∨ k ∈ Q.map Prod.fst) : BfsIn n A i Q pos x (k + 1) := by
  refine ⟨h.all, h.cur, fun u hu ha => ?_⟩
  rcases Nat.lt_or_ge u k with h1 | h1
  · exact h.row u h1 ha
  · have : u = k := by omega
    subst this
    rcases hs with hs | hs
    · rw [hs] at ha; cases ha
    · obtain ⟨y, hy, e⟩ := List.mem_map.1 hs
      exact ⟨y, hy, e, h.all.last x h.cur y hy⟩
theorem BfsIn.push {x : Nat × Nat} {k : Nat} (h : BfsIn n A i Q pos x k) (hk : k < n) (ha : A x.1 k = true) (hn : k ∉ Q.map Prod.fst) : BfsIn n A i (Q ++ [(k, x.2 + 1)]) pos x (k + 1) := by
  have hpl : pos < Q.length := (List.getElem?_eq_some_iff.1 h.cur).1
  have hxm : x ∈ Q := List.mem_of_getElem? h.cur
  have hw := h.all.way x hxm
  have hget : ∀ j, j ≤ pos → (Q ++ [(k, x.2 + 1)])[j]? = Q[j]? := fun j hj => List.getElem?_append_left (by omega)
  refine ⟨⟨?_, ?_, ?_, ?_, ?_, ?_⟩, ?_, ?_⟩
  · rw [hget 0 (by omega)]; exact h.all.head
  · intro y hy
    rcases List.mem_append.1 hy with hy | hy
    · exact h.all.way y hy
    · simp at hy; subst hy; exact ⟨hk, rch_succ.2 ⟨x.1, hw.1, hw.2, ha⟩⟩
  · rw [List.map_append, List.nodup_append]
    refine ⟨h.all.nodup, by simp, ?_⟩
    intro a ha1 b hb e
    simp at hb
    subst hb; subst e
    exact hn ha1
  · rw [List.pairwise_append]
    refine ⟨h.all.mono, by simp, ?_⟩
    intro a ha1 b hb
    simp at hb; subst hb
    exact h.all.last x h.cur a ha1
  · intro y hy z hz
    rw [hget pos (Nat.le_refl _), h.cur] at hy
    cases hy
    rcases List.mem_append.1 hz with hz | hz
    · exact h.all.last x h.cur z hz
    · simp at hz; subst hz; exact Nat.le_refl _
  · intro j y hj hy u hu hau
    rw [hget j (by omega)] at hy
    obtain ⟨z, hz, e⟩ := h.all.done j y hj hy u hu hau
    exact ⟨z, List.mem_append_left _ hz, e⟩
  · rw [hget pos (Nat.le_refl _)]; exact h.cur
  · intro u hu hau
    rcases Nat.lt_or_ge u k with h1 | h1
    · obtain ⟨z, hz, e⟩ := h.row u h1 hau
      exact ⟨z, List.mem_append_left _ hz, e⟩
    · have : u = k := by omega
      subst this
      exact ⟨(u, x.2 + 1), by simp, rfl, Nat.le_refl _⟩
theorem BfsIn.leave {x : Nat × Nat} (h : BfsIn n A i Q pos x n) : Bfs n A i Q (pos + 1) := by
  have hpl : pos < Q.length := (List.getElem?_eq_some_iff.1 h.cur).1
  refine ⟨h.all.head, h.all.way, h.all.nodup, h.all.mono, ?_, ?_⟩
  · intro y hy z hz
    have h1 := h.all.last x h.cur z hz
    have h2 : x.2 ≤ y.2 := by
      have hq : pos + 1 < Q.length := (List.getElem?_eq_some_iff.1 hy).1
      have := List.pairwise_iff_getElem.1 h.all.mono pos (pos + 1) hpl hq (by omega)
      rw [(List.getElem?_eq_some_iff.1 h.cur).2, (List.getElem?_eq_some_iff.1 hy).2] at this
      exact this
    omega
  · intro j y hj hy u hu hau
    rcases Nat.lt_or_ge j pos with h1 | h1
    · exact h.all.done j y h1 hy u hu hau
    · have : j = pos := by omega
      subst this
      rw [h.cur] at hy; cases hy
      exact h.row u hu hau
/-- What the map says of a vertex. -/
def farOf (Q : List (Nat × Nat)) (u : Nat) : Option Nat := (Q.find? fun x => x.1 == u).map Prod.snd
theorem farOf_mem (hd : (Q.map Prod.fst).Nodup) {x : Nat × Nat} (hx : x ∈ Q) : farOf Q x.1 = some x.2 := by
  unfold farOf
  induction Q with
  | nil => simp at hx
  | cons y Q ih =>
    rw [List.map_cons, List.nodup_cons] at hd
    rw [List.find?_cons]
    rcases List.mem_cons.1 hx with e | e
    · subst e; simp
    · have hne : (y.1 == x.1) = false := by
        simp only [beq_eq_false_iff_ne, ne_eq]
        intro e2
        exact hd.1 (by rw [e2]; exact List.mem_map.2 ⟨x, e, rfl⟩)
      rw [hne]
      exact ih hd.2 e
theorem farOf_none {u : Nat} (h : u ∉ Q.map Prod.fst) : farOf Q u = none := by
  unfold farOf
  cases hf : Q.find? (fun x => x.1 == u) with
  | none => rfl
  | some y =>
    exfalso
    have h1 := List.mem_of_find?_eq_some hf
    have h2 := List.find?_some hf
    simp at h2
    exact h (List.mem_map.2 ⟨y, h1, h2⟩)
def farI (Q : List (Nat × Nat)) (u : Nat) : Int := match farOf Q u with | some d => (d : Int) | none => -1
theorem Bfs.dist (h : Bfs n A i Q Q.length) : IsDist n A i (farI Q) := by
  have clo : ∀ d u, u < n → rch n A i d u = true → ∃ y ∈ Q, y.1 = u ∧ y.2 ≤ d := by
    intro d
    induction d with
    | zero =>
      intro u hu hr
      have : u = i := by simpa [rch] using hr
      subst this
      exact ⟨_, List.mem_of_getElem? h.head, rfl, Nat.le_refl _⟩
    | succ d ih =>
      intro u hu hr
      obtain ⟨v, hv, h1, h2⟩ := rch_succ.1 hr
      obtain ⟨y, hy, e, hle⟩ := ih v hv h1
      obtain ⟨j, hj⟩ := List.getElem?_of_mem hy
      have hjl := (List.getElem?_eq_some_iff.1 hj).1
      obtain ⟨z, hz, e2, hz2⟩ := h.done j y hjl hj u hu (by rw [e]; exact h2)
      exact ⟨z, hz, e2, by omega⟩
  intro u hu
  by_cases hm : u ∈ Q.map Prod.fst
  · obtain ⟨y, hy, e⟩ := List.mem_map.1 hm
    have hf := farOf_mem h.nodup hy
    rw [e] at hf
    right
    refine ⟨y.2, by unfold farI; rw [hf], by have := (h.way y hy).2; rw [e] at this; exact this, fun d hd => ?_⟩
    cases hr : rch n A i d u with
    | false => rfl
    | true =>
      obtain ⟨z, hz, e2, hz2⟩ := clo d u hu hr
      have hf2 := farOf_mem h.nodup hz
      rw [e2, hf] at hf2
      injection hf2 with h9
      omega
  · left
    refine ⟨by unfold farI; rw [farOf_none hm], fun d => ?_⟩
    cases hr : rch n A i d u with
    | false => rfl
    | true =>
      obtain ⟨z, hz, e2, _⟩ := clo d u hu hr
      exact absurd (List.mem_map.2 ⟨z, hz, e2⟩) hm
end
end Go.Proofs.YtifkieopaoooeaaGreatDoor.PlainG
