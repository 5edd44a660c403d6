/- Distances are symmetric and obey the triangle's law; parts are what can be reached: plain. -/
import Derived.Test.YtifkieopaoooeaaGreatDoorDistR
set_option linter.unusedSimpArgs false
set_option linter.unusedVariables false
namespace Go.Proofs.YtifkieopaoooeaaGreatDoor.PlainG
open Plain
section
variable {N : Nat} {A : Nat → Nat → Bool}
theorem rch_sym (hs : ∀ i k, A i k = A k i) : ∀ {d i u : Nat}, i < N → u < N → rch N A i d u = true → rch N A u d i = true
  | 0, i, u, _, _, h => by rw [rch_zero] at h ⊢; exact h.symm
  | d + 1, i, u, hi, hu, h => by
    obtain ⟨v, hv, h1, h2⟩ := rch_succ.1 h
    exact rch_cons hu (by rw [hs]; exact h2) (rch_sym hs hi hv h1)
theorem rch_trans : ∀ {d2 i m k d1 : Nat}, rch N A i d1 m = true → rch N A m d2 k = true → rch N A i (d1 + d2) k = true
  | 0, i, m, k, d1, h1, h2 => by rw [rch_zero] at h2; subst h2; exact h1
  | d2 + 1, i, m, k, d1, h1, h2 => by
    obtain ⟨v, hv, h3, h4⟩ := rch_succ.1 h2
    exact rch_succ.2 ⟨v, hv, rch_trans h1 h3, h4⟩
theorem lev_sym (hs : ∀ i k, A i k = A k i) {i k : Nat} (hi : i < N) (hk : k < N) : lev N A i N k = lev N A k N i := by
  rcases lev_all (A := A) hi k hk with ⟨a, b⟩ | ⟨d, a, b, c⟩ <;> rcases lev_all (A := A) hk i hi with ⟨a', b'⟩ | ⟨e, a', b', c'⟩
  · rw [a, a']
  · have := rch_sym hs hk hi b'; rw [b e] at this; cases this
  · have := rch_sym hs hi hk b; rw [b' d] at this; cases this
  · have : d = e := by
      rcases Nat.lt_trichotomy d e with h | h | h
      · have := rch_sym hs hi hk b; rw [c' d h] at this; cases this
      · exact h
      · have := rch_sym hs hk hi b'; rw [c e h] at this; cases this
    rw [a, a', this]
theorem lev_low {i k : Nat} (hi : i < N) (hk : k < N) : -1 ≤ lev N A i N k := by
  rcases lev_all (A := A) hi k hk with ⟨a, b⟩ | ⟨d, a, b, c⟩ <;> omega
theorem lev_high {i k : Nat} (hi : i < N) (hk : k < N) : lev N A i N k ≤ N := by
  rcases lev_cases (n := N) (A := A) (i := i) N k with ⟨a, b⟩ | ⟨d, h, a, b, c⟩ <;> omega
theorem lev_zero_iff {i k : Nat} (hi : i < N) (hk : k < N) : lev N A i N k = 0 ↔ i = k := by
  rcases lev_all (A := A) hi k hk with ⟨a, b⟩ | ⟨d, a, b, c⟩
  · constructor
    · intro h; omega
    · intro h; have := b 0; subst h; rw [rch_zero.2 rfl] at this; cases this
  · constructor
    · intro h
      obtain rfl : d = 0 := by omega
      exact (rch_zero.1 b).symm
    · intro h
      rcases Nat.eq_zero_or_pos d with h0 | h0
      · rw [a, h0]; rfl
      · have := c 0 h0; subst h; rw [rch_zero.2 rfl] at this; cases this
theorem rch_one {i k : Nat} (hi : i < N) : rch N A i 1 k = true ↔ A i k = true := by
  rw [rch_succ]
  constructor
  · rintro ⟨v, _, h1, h2⟩; rw [rch_zero] at h1; subst h1; exact h2
  · intro h; exact ⟨i, hi, rch_zero.2 rfl, h⟩
theorem lev_one_iff (hr : ∀ i, A i i = false) {i k : Nat} (hi : i < N) (hk : k < N) : lev N A i N k = 1 ↔ A i k = true := by
  rcases lev_all (A := A) hi k hk with ⟨a, b⟩ | ⟨d, a, b, c⟩
  · constructor
    · intro h; omega
    · intro h; have := b 1; rw [(rch_one hi).2 h] at this; cases this
  · constructor
    · intro h
      obtain rfl : d = 1 := by omega
      exact (rch_one hi).1 b
    · intro h
      have h0 : d ≠ 0 := by
        rintro rfl
        rw [rch_zero] at b
        subst b
        rw [hr] at h; cases h
      have h1 : ¬ 1 < d := fun h1 => by have := c 1 h1; rw [(rch_one hi).2 h] at this; cases this
      obtain rfl : d = 1 := by omega
      exact a
theorem lev_tri {i m k : Nat} (hi : i < N) (hm : m < N) (hk : k < N) (h1 : 0 ≤ lev N A i N m) (h2 : 0 ≤ lev N A m N k) : 0 ≤ lev N A i N k ∧ lev N A i N k ≤ lev N A i N m + lev N A m N k := by
  rcases lev_all (A := A) hi m hm with ⟨a, b⟩ | ⟨d, a, b, c⟩
  · omega
  rcases lev_all (A := A) hm k hk with ⟨a', b'⟩ | ⟨e, a', b', c'⟩
  · omega
  have ht := rch_trans b b'
  rcases lev_all (A := A) hi k hk with ⟨a2, b2⟩ | ⟨f, a2, b2, c2⟩
  · rw [b2] at ht; cases ht
  · have hf : ¬ d + e < f := fun h => by rw [c2 _ h] at ht; cases ht
    omega
theorem Rc.sym (hs : ∀ i k, A i k = A k i) {i k : Nat} (hi : i < N) (hk : k < N) (h : Rc N A i k) : Rc N A k i := by
  obtain ⟨d, h⟩ := h; exact ⟨d, rch_sym hs hi hk h⟩
theorem Rc.trans {i m k : Nat} (h1 : Rc N A i m) (h2 : Rc N A m k) : Rc N A i k := by
  obtain ⟨d, h1⟩ := h1; obtain ⟨e, h2⟩ := h2; exact ⟨d + e, rch_trans h1 h2⟩
theorem lo_at {i : Nat} (hi : i < N) : lo (lev N A i N) N N < N ∧ Rc N A i (lo (lev N A i N) N N) ∧ ∀ u, u < N → Rc N A i u → lo (lev N A i N) N N ≤ u := by
  obtain ⟨l1, l2, l3⟩ := lo_spec (d := lev N A i N) (N := N) (j := N) (Nat.le_refl _) ⟨i, by omega, hi, (lev_nonneg hi hi).2 (Rc.refl i)⟩
  exact ⟨l1, (lev_nonneg hi l1).1 l2, fun u hu h => l3 u (by omega) hu ((lev_nonneg hi hu).2 h)⟩
theorem lo_iff (hs : ∀ i k, A i k = A k i) {i k : Nat} (hi : i < N) (hk : k < N) : lo (lev N A i N) N N = lo (lev N A k N) N N ↔ 0 ≤ lev N A i N k := by
  rw [lev_nonneg hi hk]
  obtain ⟨a1, a2, a3⟩ := lo_at (A := A) hi
  obtain ⟨b1, b2, b3⟩ := lo_at (A := A) hk
  constructor
  · intro h
    rw [h] at a2
    exact a2.trans (Rc.sym hs hk b1 b2)
  · intro h
    have h1 := a3 _ b1 (h.trans b2)
    have h2 := b3 _ a1 ((Rc.sym hs hi hk h).trans a2)
    omega
end
theorem good_total {n : Nat} {l : List (List Int)} (h : Plain.Good n l) : l.flatten.length = n := by
  have hp : l.flatten.Perm ((List.range n).map Int.ofNat) := by
    refine (List.perm_ext_iff_of_nodup h.nodup (nodup_map_on List.nodup_range (fun a _ b _ e => Int.ofNat.inj e))).2 fun p => ?_
    constructor
    · intro hp
      obtain ⟨c, hc, hpc⟩ := List.mem_flatten.1 hp
      obtain ⟨h1, h2⟩ := h.inr c hc p hpc
      exact List.mem_map.2 ⟨p.toNat, List.mem_range.2 (by omega), by simp; omega⟩
    · intro hp
      obtain ⟨q, hq, rfl⟩ := List.mem_map.1 hp
      exact h.all q (List.mem_range.1 hq)
  rw [hp.length_eq]; simp
theorem IsPart.whole {R : Nat → List Int} {S : Nat → Prop} {P : List (List Nat)} (h : IsPart R S P) {c : List Nat} (hc : c ∈ P) {i m : Nat} (hi : i ∈ c) (hm : S m) (he : R i = R m) : m ∈ c := by
  obtain ⟨d, hd, hmd⟩ := (h.cover m).2 hm
  obtain ⟨x, hx, rfl⟩ := List.getElem_of_mem hc
  obtain ⟨y, hy, rfl⟩ := List.getElem_of_mem hd
  have ho := List.pairwise_iff_getElem.1 h.ord
  rcases Nat.lt_trichotomy x y with hxy | hxy | hxy
  · have := ho x y hx hy hxy i hi m hmd
    rw [he, cmpL_self] at this; omega
  · subst hxy; exact hmd
  · have := ho y x hy hx hxy m hmd i hi
    rw [he, cmpL_self] at this; omega
end Go.Proofs.YtifkieopaoooeaaGreatDoor.PlainG
namespace Go.Proofs.YtifkieopaoooeaaGreatDoor
open Plain PlainG
theorem adj_irr {N : Nat} {es : List E2} (he : ∀ x ∈ es, 0 ≤ x.1 ∧ x.1 < x.2 ∧ x.2 < (N : Int)) (i : Nat) : adj es i i = false := by
  cases h : adj es i i with
  | false => rfl
  | true =>
    rcases adj_iff.1 h with h | h <;> (have := he _ h; simp at this)
theorem parts_facts {N : Nat} {es : List E2} (hN : N ≤ 24) : ∃ l, ofA (partsL N es) = (l, 0) ∧ Plain.Good N l ∧ ∀ c ∈ l, ∀ x : Nat, (x : Int) ∈ c → ∀ m, m < N → (0 ≤ lev N (adj es) x N m ↔ (m : Int) ∈ c) := by
  have hlen : (partsL N es).length = N := lsF_len _ _
  have hA : ofA (partsL N es) = (collect ((partsL N es).map fun x => [x]), 0) := by rw [ofA, if_neg (by omega)]
  obtain ⟨P, h1, h2⟩ := collect_part ((partsL N es).map fun x => [x])
  rw [List.length_map, hlen] at h2
  have hR : ∀ k, k < N → (((partsL N es).map fun x => [x])[k]?.getD []) = [(lo (lev N (adj es) k N) N N : Int)] := fun k hk => by
    rw [List.getElem?_map, show (partsL N es)[k]? = some (lo (lev N (adj es) k N) N N : Int) from lsF_get hk]; rfl
  refine ⟨_, hA, by rw [h1]; exact part_good h2, ?_⟩
  rw [h1]
  intro c hc x hx m hm
  obtain ⟨d, hd, rfl⟩ := List.mem_map.1 hc
  have hmem : ∀ y : Nat, (y : Int) ∈ d.map Int.ofNat ↔ y ∈ d := fun y => by
    rw [List.mem_map]
    constructor
    · rintro ⟨z, hz, e⟩; obtain rfl : z = y := Int.ofNat.inj e; exact hz
    · intro h; exact ⟨y, h, rfl⟩
  rw [hmem] at hx ⊢
  have hxN : x < N := (h2.cover x).1 ⟨d, hd, hx⟩
  rw [← lo_iff (adj_symm es) hxN hm]
  constructor
  · intro h
    exact IsPart.whole h2 hd hx hm (by rw [hR x hxN, hR m hm, h])
  · intro h
    have := h2.same d hd x hx m h
    rw [hR x hxN, hR m hm] at this
    have h3 := List.cons.inj this
    exact_mod_cast h3.1
end Go.Proofs.YtifkieopaoooeaaGreatDoor
