/- Parts: least labels by sweeping over the edges: plain. -/
import Derived.Test.YtifkieopaoooeaaGreatDoorPlainDist
set_option linter.unusedSimpArgs false
set_option linter.unusedVariables false
namespace Go.Proofs.YtifkieopaoooeaaGreatDoor.PlainG
/-- The least place, of the last j, with a number that is not negative; 0 if there is none. -/
def lo (d : Nat → Int) (N : Nat) : Nat → Nat
  | 0 => 0
  | j + 1 => if 0 ≤ d (N - (j + 1)) then N - (j + 1) else lo d N j
theorem lo_spec {d : Nat → Int} {N : Nat} : ∀ {j : Nat}, j ≤ N → (∃ u, N - j ≤ u ∧ u < N ∧ 0 ≤ d u) → lo d N j < N ∧ 0 ≤ d (lo d N j) ∧ ∀ u, N - j ≤ u → u < N → 0 ≤ d u → lo d N j ≤ u
  | 0, _, ⟨u, h1, h2, _⟩ => by omega
  | j + 1, hj, ⟨u, h1, h2, h3⟩ => by
    rw [lo]
    by_cases h : 0 ≤ d (N - (j + 1))
    · rw [if_pos h]; exact ⟨by omega, h, fun v hv _ _ => hv⟩
    · rw [if_neg h]
      have hne : u ≠ N - (j + 1) := fun e => h (e ▸ h3)
      obtain ⟨k1, k2, k3⟩ := lo_spec (d := d) (j := j) (by omega) ⟨u, by omega, h2, h3⟩
      refine ⟨k1, k2, fun v hv hvN hvd => ?_⟩
      by_cases e : v = N - (j + 1)
      · subst e; exact absurd hvd h
      · exact k3 v (by omega) hvN hvd
def Rc (N : Nat) (A : Nat → Nat → Bool) (i u : Nat) : Prop := ∃ d, rch N A i d u = true
section
variable {N : Nat} {A : Nat → Nat → Bool}
theorem rch_zero {i u : Nat} : rch N A i 0 u = true ↔ u = i := by simp [rch]
theorem rch_first : ∀ {d i u : Nat}, u < N → rch N A i (d + 1) u = true → ∃ v, v < N ∧ A i v = true ∧ rch N A v d u = true
  | 0, i, u, hu, h => by
    obtain ⟨v, hv, h1, h2⟩ := rch_succ.1 h
    rw [rch_zero] at h1
    subst h1
    exact ⟨u, hu, h2, rch_zero.2 rfl⟩
  | d + 1, i, u, hu, h => by
    obtain ⟨v, hv, h1, h2⟩ := rch_succ.1 h
    obtain ⟨v', hv', h3, h4⟩ := rch_first hv h1
    exact ⟨v', hv', h3, rch_succ.2 ⟨v, hv, h4, h2⟩⟩
theorem rch_cons : ∀ {d i v u : Nat}, i < N → A i v = true → rch N A v d u = true → rch N A i (d + 1) u = true
  | 0, i, v, u, hi, ha, h => by
    rw [rch_zero] at h
    subst h
    exact rch_succ.2 ⟨i, hi, rch_zero.2 rfl, ha⟩
  | d + 1, i, v, u, hi, ha, h => by
    obtain ⟨y, hy, h1, h2⟩ := rch_succ.1 h
    exact rch_succ.2 ⟨y, hy, rch_cons hi ha h1, h2⟩
theorem Rc.refl (i : Nat) : Rc N A i i := ⟨0, rch_zero.2 rfl⟩
theorem Rc.cons {i v u : Nat} (hi : i < N) (ha : A i v = true) (h : Rc N A v u) : Rc N A i u := by
  obtain ⟨d, h⟩ := h
  exact ⟨d + 1, rch_cons hi ha h⟩
/-- What the labels are ahead of a sweep: reachable, and no greater than what is D steps away. -/
structure Lab (N : Nat) (A : Nat → Nat → Bool) (D : Nat) (f : Nat → Int) : Prop where
  is : ∀ i, i < N → ∃ u : Nat, u < N ∧ f i = (u : Int) ∧ Rc N A i u
  le : ∀ i, i < N → ∀ d, d ≤ D → ∀ u, u < N → rch N A i d u = true → f i ≤ (u : Int)
theorem Lab.start : Lab N A 0 (fun i => (i : Int)) :=
  ⟨fun i hi => ⟨i, hi, rfl, Rc.refl i⟩, fun i hi d hd u hu h => by
    obtain rfl : d = 0 := by omega
    rw [rch_zero] at h
    subst h; simp⟩
/-- One edge is swept. -/
def relax (f : Nat → Int) (x y : Nat) (a : Nat) : Int := if a = x ∨ a = y then min (f x) (f y) else f a
/-- In the middle of a sweep: f0 ahead of it, the edges of es are done. -/
structure LabIn (N : Nat) (A : Nat → Nat → Bool) (D : Nat) (f0 : Nat → Int) (es : List E2) (f : Nat → Int) : Prop where
  was : Lab N A D f0
  is : ∀ i, i < N → ∃ u : Nat, u < N ∧ f i = (u : Int) ∧ Rc N A i u
  less : ∀ i, i < N → f i ≤ f0 i
  done : ∀ x ∈ es, f x.1.toNat ≤ f0 x.2.toNat ∧ f x.2.toNat ≤ f0 x.1.toNat
theorem LabIn.start {D : Nat} {f : Nat → Int} (h : Lab N A D f) : LabIn N A D f [] f := ⟨h, h.is, fun _ _ => Int.le_refl _, by simp⟩
theorem LabIn.step {D x y : Nat} {f0 f : Nat → Int} {es : List E2} (h : LabIn N A D f0 es f) (hes : ∀ z ∈ es, z.1.toNat < N ∧ z.2.toNat < N) (hx : x < N) (hy : y < N) (h1 : A x y = true) (h2 : A y x = true) : LabIn N A D f0 (es ++ [((x : Int), (y : Int))]) (relax f x y) := by
  have hle : ∀ i, relax f x y i ≤ f i := fun i => by
    unfold relax
    by_cases e : i = x ∨ i = y
    · rw [if_pos e]
      rcases e with rfl | rfl
      · exact Int.min_le_left _ _
      · exact Int.min_le_right _ _
    · rw [if_neg e]; exact Int.le_refl _
  refine ⟨h.was, fun i hi => ?_, fun i hi => Int.le_trans (hle i) (h.less i hi), fun z hz => ?_⟩
  · unfold relax
    by_cases e : i = x ∨ i = y
    · rw [if_pos e]
      obtain ⟨u, hu, eu, ru⟩ := h.is x hx
      obtain ⟨v, hv, ev, rv⟩ := h.is y hy
      by_cases hm : f x ≤ f y
      · rw [Int.min_eq_left hm]
        refine ⟨u, hu, eu, ?_⟩
        rcases e with rfl | rfl
        · exact ru
        · exact ru.cons hy h2
      · rw [Int.min_eq_right (by omega)]
        refine ⟨v, hv, ev, ?_⟩
        rcases e with rfl | rfl
        · exact rv.cons hx h1
        · exact rv
    · rw [if_neg e]; exact h.is i hi
  · rcases List.mem_append.1 hz with hz | hz
    · have hd := h.done z hz
      exact ⟨Int.le_trans (hle _) hd.1, Int.le_trans (hle _) hd.2⟩
    · simp at hz
      subst hz
      simp only [Int.toNat_natCast]
      unfold relax
      rw [if_pos (.inl rfl), if_pos (.inr rfl)]
      have a1 := h.less x hx
      have a2 := h.less y hy
      exact ⟨Int.le_trans (Int.min_le_right _ _) a2, Int.le_trans (Int.min_le_left _ _) a1⟩
theorem LabIn.leave {D : Nat} {f0 f : Nat → Int} {es : List E2} (h : LabIn N A D f0 es f) (hA : ∀ i v, i < N → v < N → A i v = true → ((i : Int), (v : Int)) ∈ es ∨ ((v : Int), (i : Int)) ∈ es) : Lab N A (D + 1) f := by
  refine ⟨h.is, fun i hi d hd u hu hr => ?_⟩
  cases d with
  | zero => exact Int.le_trans (h.less i hi) (h.was.le i hi 0 (Nat.zero_le _) u hu hr)
  | succ d =>
    obtain ⟨v, hv, ha, hr2⟩ := rch_first hu hr
    have h3 := h.was.le v hv d (by omega) u hu hr2
    have h4 : f i ≤ f0 v := by
      rcases hA i v hi hv ha with hm | hm
      · have := (h.done _ hm).1; simpa using this
      · have := (h.done _ hm).2; simpa using this
    exact Int.le_trans h4 h3
theorem lev_nonneg {i u : Nat} (hi : i < N) (hu : u < N) : 0 ≤ lev N A i N u ↔ Rc N A i u := by
  rcases lev_all (A := A) hi u hu with ⟨h1, h2⟩ | ⟨d, h1, h2, _⟩
  · constructor
    · intro h; omega
    · rintro ⟨d, h⟩; rw [h2 d] at h; cases h
  · exact ⟨fun _ => ⟨d, h2⟩, fun _ => by omega⟩
/-- Both say the least vertex that can be reached. -/
theorem Lab.least {f : Nat → Int} (h : Lab N A N f) {i : Nat} (hi : i < N) : f i = (lo (lev N A i N) N N : Int) := by
  have hii : 0 ≤ lev N A i N i := (lev_nonneg hi hi).2 (Rc.refl i)
  obtain ⟨l1, l2, l3⟩ := lo_spec (d := lev N A i N) (N := N) (j := N) (Nat.le_refl _) ⟨i, by omega, hi, hii⟩
  obtain ⟨u, hu, eu, ru⟩ := h.is i hi
  have a1 := l3 u (by omega) hu ((lev_nonneg hi hu).2 ru)
  have hlv := lev_cases (n := N) (A := A) (i := i) N (lo (lev N A i N) N N)
  rcases hlv with ⟨e, _⟩ | ⟨d, hd, _, hr, _⟩
  · omega
  · have := h.le i hi d hd _ l1 hr
    omega
end
end Go.Proofs.YtifkieopaoooeaaGreatDoor.PlainG
