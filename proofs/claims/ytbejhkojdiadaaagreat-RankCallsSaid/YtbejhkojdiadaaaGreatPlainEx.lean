/- Groups that are given by tables of permutations and words: their towers: plain. -/
import Derived.Test.YtbejhkojdiadaaaGreatPlainRank
set_option linter.unusedSimpArgs false
set_option linter.unusedVariables false
namespace Go.Proofs.YtbejhkojdiadaaaGreat.PlainPm
instance (n : Nat) (l : List Int) : Decidable (IsPm n l) := by unfold IsPm; infer_instance
/-- A list as a permutation. -/
def litP (n : Nat) (l : List Int) : Pm n := if h : IsPm n l then ⟨l, h⟩ else one n
theorem litP_l {n : Nat} {l : List Int} (h : IsPm n l) : (litP n l).l = l := by unfold litP; rw [dif_pos h]
section
variable {n : Nat}
/-- The product of generators. -/
def evW (L : List (Pm n)) (w : List Nat) : Pm n := w.foldl (fun x k => x.mul (L[k]?.getD (one n))) (one n)
theorem evW_grp (L : List (Pm n)) (w : List Nat) : Grp (· ∈ L) (evW L w) := by
  have key : ∀ (w : List Nat) (x : Pm n), Grp (· ∈ L) x → Grp (· ∈ L) (w.foldl (fun x k => x.mul (L[k]?.getD (one n))) x) := by
    intro w
    induction w with
    | nil => exact fun x h => h
    | cons k w ih =>
      intro x hx
      refine ih _ (hx.times ?_)
      cases hk : L[k]? with
      | none => exact .one
      | some y => exact Grp.base (List.mem_of_getElem? hk)
  exact key w _ .one
abbrev En := Nat × Nat × List Int × List Nat
def tabOf (n : Nat) (es : List En) (i p : Nat) : Option (Pm n) := (es.find? fun e => e.1 == i && e.2.1 == p).map fun e => litP n e.2.2.1
/-- What is to be shown of a table. -/
def chkTab (n : Nat) (L : List (Pm n)) (es : List En) : Bool :=
  (es.all fun e => decide (e.1 < n) && decide (e.2.1 < n) && decide (e.2.1 ≠ e.1) && decide ((litP n e.2.2.1).at e.1 = e.2.1) && ((List.range e.1).all fun j => decide ((litP n e.2.2.1).at j = j)) && decide (litP n e.2.2.1 = evW L e.2.2.2))
  && (L.all fun x => decide ((sft (tabTw (tabOf n es)) n 0 x).1 = n))
  && (es.all fun a => es.all fun b => decide ((sft (tabTw (tabOf n es)) n 0 ((litP n a.2.2.1).mul (litP n b.2.2.1))).1 = n))
theorem tabOf_some {es : List En} {i p : Nat} {y : Pm n} (h : tabOf n es i p = some y) : ∃ e ∈ es, e.1 = i ∧ e.2.1 = p ∧ y = litP n e.2.2.1 := by
  unfold tabOf at h
  rw [Option.map_eq_some_iff] at h
  obtain ⟨e, h1, h2⟩ := h
  have h3 := List.find?_some h1
  rw [Bool.and_eq_true, beq_iff_eq, beq_iff_eq] at h3
  exact ⟨e, List.mem_of_find?_eq_some h1, h3.1, h3.2, h2.symm⟩
theorem tower_of {L : List (Pm n)} {es : List En} (h : chkTab n L es = true) : Of (Grp (· ∈ L)) (tabTw (tabOf n es)) := by
  unfold chkTab at h
  rw [Bool.and_eq_true, Bool.and_eq_true, List.all_eq_true, List.all_eq_true, List.all_eq_true] at h
  obtain ⟨⟨h1, h2⟩, h3⟩ := h
  have h1' : ∀ e ∈ es, e.1 < n ∧ e.2.1 < n ∧ e.2.1 ≠ e.1 ∧ (litP n e.2.2.1).at e.1 = e.2.1 ∧ Fx e.1 (litP n e.2.2.1) ∧ litP n e.2.2.1 = evW L e.2.2.2 := fun e he => by
    have := h1 e he
    simp only [Bool.and_eq_true, decide_eq_true_iff, List.all_eq_true, List.mem_range] at this
    exact ⟨this.1.1.1.1.1, this.1.1.1.1.2, this.1.1.1.2, this.1.1.2, fun j hj => this.1.2 j hj, this.2⟩
  have hok : TabOk (tabOf n es) := ⟨fun i p y hy => by
    obtain ⟨e, he, rfl, rfl, rfl⟩ := tabOf_some hy
    obtain ⟨a1, a2, a3, a4, a5, _⟩ := h1' e he
    exact ⟨a1, a2, a3, a4, a5⟩⟩
  have hS : TabS L (tabOf n es) := ⟨hok, fun i p y hy => by
    obtain ⟨e, he, rfl, rfl, rfl⟩ := tabOf_some hy
    rw [(h1' e he).2.2.2.2.2]
    exact evW_grp _ _, fun x hx => by
    have := of_decide_eq_true (h2 x hx)
    exact tab_end hok (r := (sft (tabTw (tabOf n es)) n 0 x).2) (Prod.ext this rfl)⟩
  refine hS.closed fun x hx y hy => ?_
  obtain ⟨i, p, hx⟩ := (mem_entL hok).1 hx
  obtain ⟨j, q, hy⟩ := (mem_entL hok).1 hy
  obtain ⟨a, ha, _, _, rfl⟩ := tabOf_some hx
  obtain ⟨b, hb, _, _, rfl⟩ := tabOf_some hy
  have := List.all_eq_true.1 (h3 a ha) b hb
  exact tab_end hok (r := (sft (tabTw (tabOf n es)) n 0 _).2) (Prod.ext (of_decide_eq_true this) rfl)
/-- The functions depend on the levels below n alone. -/
theorem szF_congr {O O' : Nat → List Nat} (h : ∀ i, i < n → O i = O' i) : ∀ {f i : Nat}, i + f = n → szF O f i = szF O' f i
  | 0, _, _ => rfl
  | f + 1, i, hf => by rw [szF, szF, h i (by omega), szF_congr h (f := f) (by omega)]
theorem rkF_congr {O O' : Nat → List Nat} {R R' : Nat → Nat → Pm n} (h : ∀ i, i < n → O i = O' i) (h' : ∀ i, i < n → ∀ p ∈ O i, R i p = R' i p) (x : Pm n) : ∀ {f i a : Nat} {y : Pm n}, i + f = n → rkF O R x f i y a = rkF O' R' x f i y a
  | 0, _, _, _, _ => rfl
  | f + 1, i, a, y, hf => by
    rw [rkF, rkF, ← h i (by omega), ← szF_congr h (f := f) (i := i + 1) (by omega)]
    by_cases e : y.inv.at (x.at i) ∈ O i
    · rw [if_pos e, if_pos e, h' i (by omega) _ e, rkF_congr h h' x (f := f) (by omega)]
    · rw [if_neg e, if_neg e]
end
/-- All permutations of four points. -/
def gS4 : List (Pm 4) := [litP 4 [1, 2, 3, 0], litP 4 [1, 0, 2, 3]]
def eS4 : List En := [(0, 1, [1, 0, 2, 3], [1]), (0, 2, [2, 3, 0, 1], [0, 0]), (0, 3, [3, 0, 1, 2], [0, 0, 0]), (1, 2, [0, 2, 3, 1], [0, 1]), (1, 3, [0, 3, 1, 2], [0, 1, 0, 1]), (2, 3, [0, 1, 3, 2], [0, 0, 1, 0, 0])]
theorem tS4 : Of (Grp (· ∈ gS4)) (tabTw (tabOf 4 eS4)) := tower_of (by decide +kernel)
def gV4 : List (Pm 4) := [litP 4 [1, 0, 3, 2], litP 4 [2, 3, 0, 1]]
def eV4 : List En := [(0, 1, [1, 0, 3, 2], [0]), (0, 2, [2, 3, 0, 1], [1]), (0, 3, [3, 2, 1, 0], [0, 1])]
theorem tV4 : Of (Grp (· ∈ gV4)) (tabTw (tabOf 4 eV4)) := tower_of (by decide +kernel)
def gZ2 : List (Pm 4) := [litP 4 [0, 1, 3, 2]]
def eZ2 : List En := [(2, 3, [0, 1, 3, 2], [0])]
theorem tZ2 : Of (Grp (· ∈ gZ2)) (tabTw (tabOf 4 eZ2)) := tower_of (by decide +kernel)
/-- The chain of a tower, as functions. -/
def orbO {n : Nat} (T : Tw n) (i : Nat) : List Nat := ptsOf n (T i).orb
theorem exS4 : szF (orbO (tabTw (tabOf 4 eS4))) 4 0 = 24 ∧ rkF (orbO (tabTw (tabOf 4 eS4))) (repT (tabTw (tabOf 4 eS4))) (litP 4 [0, 1, 3, 2]) 4 0 (one 4) 0 = some 1 ∧ rkF (orbO (tabTw (tabOf 4 eS4))) (repT (tabTw (tabOf 4 eS4))) (litP 4 [3, 2, 1, 0]) 4 0 (one 4) 0 = some 23 := by decide +kernel
theorem exV4 : rkF (orbO (tabTw (tabOf 4 eV4))) (repT (tabTw (tabOf 4 eV4))) (litP 4 [2, 3, 0, 1]) 4 0 (one 4) 0 = some 2 := by decide +kernel
theorem exZ2 : szF (orbO (tabTw (tabOf 4 eZ2))) 4 0 = 2 := by decide +kernel
end Go.Proofs.YtbejhkojdiadaaaGreat.PlainPm
