/- Permutations of n points as a group; a tower of stabilisers: what the levels of a closed tower generate; how it grows: plain. -/
import Derived.WalkKit
set_option linter.unusedSimpArgs false
set_option linter.unusedVariables false
namespace Go.Proofs.YtbejhkojdiadaaaGreatDoor.PlainPm
def IsPm (n : Nat) (l : List Int) : Prop := l.length = n ∧ (∀ x ∈ l, 0 ≤ x ∧ x < n) ∧ l.Nodup
structure Pm (n : Nat) where
  l : List Int
  ok : IsPm n l
theorem Pm.ext' {n : Nat} {x y : Pm n} (h : x.l = y.l) : x = y := by
  cases x; cases y; cases h; rfl
def atL (l : List Int) (i : Nat) : Nat := (l[i]?.getD 0).toNat
def Pm.at {n : Nat} (x : Pm n) (i : Nat) : Nat := atL x.l i
theorem atL_get {n : Nat} {l : List Int} (h : IsPm n l) {i : Nat} (hi : i < n) : l[i]? = some (atL l i : Int) ∧ atL l i < n := by
  obtain ⟨h1, h2, _⟩ := h
  have hl : i < l.length := by omega
  have hm := h2 _ (List.getElem_mem hl)
  unfold atL
  rw [List.getElem?_eq_getElem hl]
  simp only [Option.getD_some, Option.some.injEq]
  omega
theorem Pm.get {n : Nat} (x : Pm n) {i : Nat} (hi : i < n) : x.l[i]? = some (x.at i : Int) := (atL_get x.ok hi).1
theorem Pm.lt {n : Nat} (x : Pm n) {i : Nat} (hi : i < n) : x.at i < n := (atL_get x.ok hi).2
theorem Pm.ext {n : Nat} {x y : Pm n} (h : ∀ i, i < n → x.at i = y.at i) : x = y := by
  apply Pm.ext'
  apply List.ext_getElem?
  intro i
  by_cases hi : i < n
  · rw [x.get hi, y.get hi, h i hi]
  · rw [List.getElem?_eq_none (by have := x.ok.1; omega), List.getElem?_eq_none (by have := y.ok.1; omega)]
theorem Pm.inj {n : Nat} (x : Pm n) {i k : Nat} (hi : i < n) (hk : k < n) (h : x.at i = x.at k) : i = k := by
  have h1 := x.get hi
  have h2 := x.get hk
  rw [h, ← h2] at h1
  exact (List.getElem?_inj (by have := x.ok.1; omega) x.ok.2.2).1 h1
def ofF (n : Nat) (f : Nat → Nat) : List Int := (List.range n).map fun i => (f i : Int)
theorem ofF_get {n : Nat} {f : Nat → Nat} {i : Nat} (hi : i < n) : (ofF n f)[i]? = some (f i : Int) := by
  unfold ofF; rw [List.getElem?_map, List.getElem?_range hi]; rfl
theorem ofF_at {n : Nat} {f : Nat → Nat} {i : Nat} (hi : i < n) : atL (ofF n f) i = f i := by
  unfold atL; rw [ofF_get hi]; simp
theorem ofF_ok {n : Nat} {f : Nat → Nat} (h1 : ∀ i, i < n → f i < n) (h2 : ∀ i k, i < n → k < n → f i = f k → i = k) : IsPm n (ofF n f) := by
  refine ⟨by simp [ofF], ?_, ?_⟩
  · intro x hx
    unfold ofF at hx
    obtain ⟨i, hi, rfl⟩ := List.mem_map.1 hx
    have := h1 i (by simpa using hi)
    omega
  · unfold ofF
    refine List.pairwise_map.2 ?_
    refine List.Pairwise.imp_of_mem ?_ (List.pairwise_lt_range (n := n))
    intro i k hi hk hlt he
    have := h2 i k (by simpa using hi) (by simpa using hk) (by omega)
    omega
def one (n : Nat) : Pm n := ⟨ofF n fun i => i, ofF_ok (fun i h => h) (fun i k _ _ h => h)⟩
def Pm.mul {n : Nat} (x y : Pm n) : Pm n := ⟨ofF n fun i => y.at (x.at i), ofF_ok (fun i h => y.lt (x.lt h)) (fun i k hi hk h => x.inj hi hk (y.inj (x.lt hi) (x.lt hk) h))⟩
theorem one_at {n i : Nat} (hi : i < n) : (PlainPm.one n).at i = i := ofF_at hi
theorem Pm.mul_at {n : Nat} (x y : Pm n) {i : Nat} (hi : i < n) : (x.mul y).at i = y.at (x.at i) := ofF_at hi
theorem Pm.mul_assoc {n : Nat} (x y z : Pm n) : (x.mul y).mul z = x.mul (y.mul z) := Pm.ext fun i hi => by
  rw [Pm.mul_at _ _ hi, Pm.mul_at _ _ hi, Pm.mul_at _ _ hi, Pm.mul_at _ _ (x.lt hi)]
theorem Pm.one_mul {n : Nat} (x : Pm n) : (PlainPm.one n).mul x = x := Pm.ext fun i hi => by rw [Pm.mul_at _ _ hi, one_at hi]
theorem Pm.mul_one {n : Nat} (x : Pm n) : x.mul (PlainPm.one n) = x := Pm.ext fun i hi => by rw [Pm.mul_at _ _ hi, one_at (x.lt hi)]
theorem nodup_map_on {α β : Type} {f : α → β} {xs : List α} (h : xs.Nodup) (hf : ∀ x ∈ xs, ∀ y ∈ xs, f x = f y → x = y) : (xs.map f).Nodup := by
  unfold List.Nodup at *
  rw [List.pairwise_map]
  exact h.imp_of_mem (fun hx hy hne he => hne (hf _ hx _ hy he))
theorem nodup_len : ∀ (n : Nat) (s : List Int), s.Nodup → (∀ p ∈ s, 0 ≤ p ∧ p < n) → s.length ≤ n
  | 0, s, _, h => by
    cases s with
    | nil => simp
    | cons p r => have := h p (by simp); omega
  | n + 1, s, hd, h => by
    by_cases hm : (n : Int) ∈ s
    · have h1 := nodup_len n (s.erase n) (hd.erase _) (fun p hp => by
        have h2 := h p (List.mem_of_mem_erase hp)
        have h3 : p ≠ n := fun e => by subst e; exact (List.Nodup.not_mem_erase hd) hp
        omega)
      rw [List.length_erase_of_mem hm] at h1; omega
    · have := nodup_len n s hd (fun p hp => by
        have h2 := h p hp
        have h3 : p ≠ n := fun e => by subst e; exact hm hp
        omega)
      omega
theorem mem_of_full : ∀ (n : Nat) (s : List Int), s.Nodup → (∀ p ∈ s, 0 ≤ p ∧ p < n) → n ≤ s.length → ∀ p : Nat, p < n → (p : Int) ∈ s
  | 0, _, _, _, _, p, hp => by omega
  | n + 1, s, hd, hr, hl, p, hp => by
    by_cases hm : (p : Int) ∈ s
    · exact hm
    · exfalso
      -- put n in p's place
      have h1 : (s.map fun x => if x = (n : Int) then (p : Int) else x).Nodup := by
        refine nodup_map_on hd (fun x hx y hy e => ?_)
        have hxp : x ≠ p := fun e => hm (e ▸ hx)
        have hyp : y ≠ p := fun e => hm (e ▸ hy)
        by_cases e1 : x = (n : Int) <;> by_cases e2 : y = (n : Int)
        · omega
        · rw [if_pos e1, if_neg e2] at e; exact absurd e.symm hyp
        · rw [if_neg e1, if_pos e2] at e; exact absurd e hxp
        · rw [if_neg e1, if_neg e2] at e; exact e
      have h2 := nodup_len n _ h1 (fun x hx => by
        obtain ⟨y, hy, rfl⟩ := List.mem_map.1 hx
        have := hr y hy
        by_cases e : y = (n : Int)
        · subst e
          have : (p : Int) ≠ n := fun e => hm (by rw [e]; exact hy)
          simp; omega
        · simp only [e, if_false]; omega)
      rw [List.length_map] at h2
      omega
theorem Pm.onto {n : Nat} (x : Pm n) {k : Nat} (hk : k < n) : ∃ i, i < n ∧ x.at i = k := by
  have hm := mem_of_full n x.l x.ok.2.2 x.ok.2.1 (by have := x.ok.1; omega) k hk
  obtain ⟨j, hj, he⟩ := List.getElem_of_mem hm
  have hjn : j < n := by have := x.ok.1; omega
  have hg := x.get hjn
  rw [List.getElem?_eq_getElem hj, he] at hg
  have := Option.some.inj hg
  exact ⟨j, hjn, by omega⟩
def Pm.invF {n : Nat} (x : Pm n) (k : Nat) : Nat := x.l.idxOf (k : Int)
theorem Pm.invF_spec {n : Nat} (x : Pm n) {k : Nat} (hk : k < n) : x.invF k < n ∧ x.at (x.invF k) = k := by
  obtain ⟨i, hi, hik⟩ := x.onto hk
  have hm : (k : Int) ∈ x.l := by
    have := x.get hi
    rw [hik] at this
    exact List.mem_of_getElem? this
  have h1 : x.invF k < n := by have := List.idxOf_lt_length_of_mem hm; have h2 := x.ok.1; unfold Pm.invF; omega
  refine ⟨h1, ?_⟩
  have h2 := x.get h1
  have hl : x.invF k < x.l.length := by have := x.ok.1; omega
  rw [List.getElem?_eq_getElem hl] at h2
  have h3 : x.l[x.invF k] = (k : Int) := List.getElem_idxOf hl
  rw [h3] at h2
  have := Option.some.inj h2
  omega
def Pm.inv {n : Nat} (x : Pm n) : Pm n := ⟨ofF n x.invF, ofF_ok (fun i h => (x.invF_spec h).1) (fun i k hi hk h => by
  have h1 := (x.invF_spec hi).2
  have h2 := (x.invF_spec hk).2
  rw [h, h2] at h1
  exact h1.symm)⟩
theorem Pm.inv_at {n : Nat} (x : Pm n) {k : Nat} (hk : k < n) : x.inv.at k < n ∧ x.at (x.inv.at k) = k := by
  have : x.inv.at k = x.invF k := ofF_at hk
  rw [this]; exact x.invF_spec hk
theorem Pm.inv_of {n : Nat} (x : Pm n) {i : Nat} (hi : i < n) : x.inv.at (x.at i) = i := x.inj (x.inv_at (x.lt hi)).1 hi (x.inv_at (x.lt hi)).2
theorem Pm.mul_inv {n : Nat} (x : Pm n) : x.mul x.inv = PlainPm.one n := Pm.ext fun i hi => by rw [Pm.mul_at _ _ hi, x.inv_of hi, one_at hi]
theorem Pm.inv_mul {n : Nat} (x : Pm n) : x.inv.mul x = PlainPm.one n := Pm.ext fun i hi => by rw [Pm.mul_at _ _ hi, (x.inv_at hi).2, one_at hi]
end Go.Proofs.YtbejhkojdiadaaaGreatDoor.PlainPm
namespace Go.Proofs.YtbejhkojdiadaaaGreatDoor.PlainPm
structure IsG {n : Nat} (H : Pm n → Prop) : Prop where
  one : H (PlainPm.one n)
  mul : ∀ {x y}, H x → H y → H (x.mul y)
  inv : ∀ {x}, H x → H x.inv
theorem Pm.inv_inv {n : Nat} (x : Pm n) : x.inv.inv = x := by
  have h := Pm.mul_one x.inv.inv
  rw [← Pm.inv_mul x, ← Pm.mul_assoc, Pm.inv_mul, Pm.one_mul] at h
  exact h.symm
theorem Pm.inv_unique {n : Nat} {x y : Pm n} (h : x.mul y = PlainPm.one n) : y = x.inv := by
  have := congrArg (fun z => x.inv.mul z) h
  simpa [← Pm.mul_assoc, Pm.inv_mul, Pm.one_mul, Pm.mul_one] using this
theorem Pm.mul_inv_rev {n : Nat} (x y : Pm n) : (x.mul y).inv = y.inv.mul x.inv := by
  symm
  apply Pm.inv_unique
  rw [Pm.mul_assoc, ← Pm.mul_assoc y, Pm.mul_inv, Pm.one_mul, Pm.mul_inv]
theorem Pm.mul_inv_cancel {n : Nat} (x y : Pm n) : (x.mul y).mul y.inv = x := by rw [Pm.mul_assoc, Pm.mul_inv, Pm.mul_one]
theorem Pm.inv_mul_cancel {n : Nat} (x y : Pm n) : (x.mul y.inv).mul y = x := by rw [Pm.mul_assoc, Pm.inv_mul, Pm.mul_one]
theorem Pm.inv_one {n : Nat} : (PlainPm.one n).inv = PlainPm.one n := (Pm.inv_unique (Pm.one_mul _)).symm
inductive Grp {n : Nat} (L : Pm n → Prop) : Pm n → Prop
  | one : Grp L (PlainPm.one n)
  | mul (x s : Pm n) : Grp L x → L s → Grp L (x.mul s)
  | inv (x s : Pm n) : Grp L x → L s → Grp L (x.mul s.inv)
section
variable {n : Nat} {L : Pm n → Prop}
theorem Grp.base {s : Pm n} (h : L s) : Grp L s := by
  have := Grp.mul _ s .one h
  rwa [Pm.one_mul] at this
theorem Grp.times {x y : Pm n} (h : Grp L x) (k : Grp L y) : Grp L (x.mul y) := by
  induction k with
  | one => rw [Pm.mul_one]; exact h
  | mul y s _ hs ih => rw [← Pm.mul_assoc]; exact .mul _ _ ih hs
  | inv y s _ hs ih => rw [← Pm.mul_assoc]; exact .inv _ _ ih hs
theorem Grp.inverse {x : Pm n} (h : Grp L x) : Grp L x.inv := by
  induction h with
  | one => rw [Pm.inv_one]; exact .one
  | mul x s _ hs ih =>
    rw [Pm.mul_inv_rev]
    have := Grp.inv _ s .one hs
    rw [Pm.one_mul] at this
    exact this.times ih
  | inv x s _ hs ih => rw [Pm.mul_inv_rev, Pm.inv_inv]; exact (Grp.base hs).times ih
theorem Grp.isG : IsG (Grp L) := ⟨.one, Grp.times, Grp.inverse⟩
theorem Grp.sub {H : Pm n → Prop} (hH : IsG H) (hl : ∀ s, L s → H s) {x : Pm n} (h : Grp L x) : H x := by
  induction h with
  | one => exact hH.one
  | mul x s _ hs ih => exact hH.mul ih (hl s hs)
  | inv x s _ hs ih => exact hH.mul ih (hH.inv (hl s hs))
end
structure Lv (n : Nat) where
  gens : List (Pm n)
  orb : List Nat
  to : Nat → Option (Pm n)
  tried : Nat → Nat
abbrev Tw (n : Nat) := Nat → Lv n
def Fx {n : Nat} (i : Nat) (x : Pm n) : Prop := ∀ j, j < i → x.at j = j
section
variable {n : Nat}
theorem Fx.mul {i : Nat} {x y : Pm n} (hi : i ≤ n) (h : Fx i x) (k : Fx i y) : Fx i (x.mul y) := fun j hj => by
  rw [Pm.mul_at _ _ (by omega), h j hj, k j hj]
theorem Fx.inv {i : Nat} {x : Pm n} (hi : i ≤ n) (h : Fx i x) : Fx i x.inv := fun j hj => by
  have := x.inv_of (i := j) (by omega)
  rwa [h j hj] at this
theorem Fx.one {i : Nat} (hi : i ≤ n) : Fx i (PlainPm.one n) := fun j hj => one_at (by omega)
theorem Fx.all {x : Pm n} (h : Fx n x) : x = PlainPm.one n := Pm.ext fun i hi => by rw [h i hi, one_at hi]
theorem Fx.mono {i j : Nat} {x : Pm n} (h : Fx j x) (hij : i ≤ j) : Fx i x := fun k hk => h k (by omega)
theorem Fx.succ {i : Nat} {x : Pm n} (h : Fx i x) (hx : x.at i = i) : Fx (i + 1) x := fun k hk => by
  by_cases e : k = i
  · rw [e]; exact hx
  · exact h k (by omega)
def S (T : Tw n) : Nat → Nat → Pm n → Prop
  | 0, i, x => Fx i x
  | f + 1, i, x => Fx i x ∧ ∃ y, (T i).to (x.at i) = some y ∧ S T f (i + 1) (x.mul y.inv)
theorem S.fx {T : Tw n} {f i : Nat} {x : Pm n} (h : S T f i x) : Fx i x := by
  cases f with
  | zero => exact h
  | succ f => exact h.1
structure WfL (n i : Nat) (l : Lv n) : Prop where
  base : l.to i = some (PlainPm.one n)
  img : ∀ p y, l.to p = some y → p < n ∧ y.at i = p ∧ Fx i y
  orb : ∀ p, p ∈ l.orb ↔ (l.to p).isSome = true
  nd : l.orb.Nodup
  gfx : ∀ s ∈ l.gens, Fx i s
  tl : ∀ q, l.tried q ≤ l.gens.length
  tz : ∀ q, l.to q = none → l.tried q = 0
def Wf (T : Tw n) : Prop := ∀ i, i < n → WfL n i (T i)
def More (T T' : Tw n) : Prop := ∀ i p y, (T i).to p = some y → (T' i).to p = some y
theorem More.refl (T : Tw n) : More T T := fun _ _ _ h => h
theorem More.trans {T T' T'' : Tw n} (h : More T T') (k : More T' T'') : More T T'' := fun i p y hy => k i p y (h i p y hy)
theorem S.more {T T' : Tw n} (hm : More T T') : ∀ {f i : Nat} {x : Pm n}, S T f i x → S T' f i x
  | 0, _, _, h => h
  | f + 1, i, x, ⟨h1, y, h2, h3⟩ => ⟨h1, y, hm _ _ _ h2, h3.more hm⟩
theorem S.up {T : Tw n} (hT : Wf T) {f i : Nat} {x : Pm n} (hi : i < n) (h : S T f (i + 1) x) : S T (f + 1) i x := by
  have hx := h.fx i (by omega)
  refine ⟨h.fx.mono (by omega), PlainPm.one n, by rw [hx]; exact (hT i hi).base, ?_⟩
  rw [Pm.inv_one, Pm.mul_one]; exact h
theorem S.one {T : Tw n} (hT : Wf T) : ∀ {f i : Nat}, i + f = n → S T f i (PlainPm.one n)
  | 0, i, h => Fx.one (by omega)
  | f + 1, i, h => (S.one hT (f := f) (i := i + 1) (by omega)).up hT (by omega)
theorem S.mk {T : Tw n} (hT : Wf T) {f i p : Nat} {u y : Pm n} (hi : i < n) (h : S T f (i + 1) u) (hy : (T i).to p = some y) : S T (f + 1) i (u.mul y) := by
  obtain ⟨h1, h2, h3⟩ := (hT i hi).img p y hy
  refine ⟨(h.fx.mono (by omega)).mul (by omega) h3, y, ?_, ?_⟩
  · rw [Pm.mul_at _ _ hi, h.fx i (by omega), h2]; exact hy
  · rw [Pm.mul_inv_cancel]; exact h
theorem S.split {T : Tw n} {f i : Nat} {x : Pm n} (h : S T (f + 1) i x) : ∃ y u, (T i).to (x.at i) = some y ∧ S T f (i + 1) u ∧ x = u.mul y := by
  obtain ⟨_, y, h2, h3⟩ := h
  exact ⟨y, _, h2, h3, (Pm.inv_mul_cancel _ _).symm⟩
theorem S.inG {T : Tw n} {H : Pm n → Prop} (hH : IsG H) : ∀ {f i : Nat} {x : Pm n}, i + f = n → (∀ j, i ≤ j → j < n → ∀ p y, (T j).to p = some y → H y) → S T f i x → H x
  | 0, i, x, hf, _, h => by
    have hi : i = n := by omega
    subst hi
    rw [Fx.all h]; exact hH.one
  | f + 1, i, x, hf, hg, h => by
    obtain ⟨y, u, h1, h2, rfl⟩ := h.split
    exact hH.mul (h2.inG hH (by omega) fun j hj => hg j (by omega)) (hg i (Nat.le_refl _) (by omega) _ y h1)
theorem onto_list {α : Type} [DecidableEq α] : ∀ {l m : List α}, l.Nodup → m.Nodup → (∀ x ∈ l, x ∈ m) → m.length ≤ l.length → ∀ y ∈ m, y ∈ l
  | [], m, _, _, _, h, y, hy => by
    have : m = [] := List.eq_nil_of_length_eq_zero (by simpa using h)
    rw [this] at hy; exact hy
  | x :: l, m, h1, h2, h3, h4, y, hy => by
    by_cases e : y = x
    · rw [e]; simp
    · have hx : x ∈ m := h3 x (by simp)
      rw [List.nodup_cons] at h1
      have := onto_list (l := l) (m := m.erase x) h1.2 (h2.erase x) (fun z hz => by
        have hzx : z ≠ x := fun e => h1.1 (e ▸ hz)
        exact (List.mem_erase_of_ne hzx).2 (h3 z (by simp [hz]))) (by rw [List.length_erase_of_mem hx]; simp at h4; omega) y ((List.mem_erase_of_ne e).2 hy)
      simp [this]
theorem onto_orb {l : List Nat} {f : Nat → Nat} (hd : l.Nodup) (hf : ∀ p ∈ l, f p ∈ l) (hi : ∀ p ∈ l, ∀ q ∈ l, f p = f q → p = q) {q : Nat} (hq : q ∈ l) : ∃ p, p ∈ l ∧ f p = q := by
  have h1 : (l.map f).Nodup := nodup_map_on hd hi
  have := onto_list h1 hd (fun x hx => by obtain ⟨p, hp, rfl⟩ := List.mem_map.1 hx; exact hf p hp) (by simp) q hq
  obtain ⟨p, hp, e⟩ := List.mem_map.1 this
  exact ⟨p, hp, e⟩
def Comp (T : Tw n) : Prop := ∀ i, i < n → ∀ q y, (T i).to q = some y → ∀ s ∈ (T i).gens, S T (n - i) i (y.mul s)
def SndL (T : Tw n) (i : Nat) : Prop := ∀ j, i ≤ j → j < n → (∀ p y, (T j).to p = some y → Grp (· ∈ (T i).gens) y) ∧ (∀ s ∈ (T j).gens, Grp (· ∈ (T i).gens) s)
theorem S.group {T : Tw n} (hT : Wf T) (hc : Comp T) (hs : ∀ i, i < n → SndL T i) : ∀ {f i : Nat}, i + f = n → IsG (S T f i) ∧ (i < n → ∀ x, S T f i x ↔ Grp (· ∈ (T i).gens) x)
  | 0, i, hf => by
    have hi : i = n := by omega
    subst hi
    exact ⟨⟨Fx.one (Nat.le_refl _), fun h k => Fx.mul (Nat.le_refl _) h k, fun h => Fx.inv (Nat.le_refl _) h⟩, fun h => by omega⟩
  | f + 1, i, hf => by
    have hi : i < n := by omega
    have hfi : n - i = f + 1 := by omega
    obtain ⟨ih, _⟩ := S.group hT hc hs (f := f) (i := i + 1) (by omega)
    have hc := hc i hi
    rw [hfi] at hc
    have w := hT i hi
    have hmul : ∀ x s, S T (f + 1) i x → s ∈ (T i).gens → S T (f + 1) i (x.mul s) := by
      intro x s hx hs
      obtain ⟨y, u, h1, h2, rfl⟩ := hx.split
      obtain ⟨y', v, k1, k2, e⟩ := (hc _ y h1 s hs).split
      rw [Pm.mul_assoc, e, ← Pm.mul_assoc]
      exact S.mk hT hi (ih.mul h2 k2) k1
    have hinv : ∀ x s, S T (f + 1) i x → s ∈ (T i).gens → S T (f + 1) i (x.mul s.inv) := by
      intro x s hx hs
      obtain ⟨y, u, h1, h2, rfl⟩ := hx.split
      have hq : (u.mul y).at i ∈ (T i).orb := (w.orb _).2 (by rw [h1]; rfl)
      have hmv : ∀ p ∈ (T i).orb, s.at p ∈ (T i).orb := by
        intro p hp
        obtain ⟨z, hz⟩ := Option.isSome_iff_exists.1 ((w.orb p).1 hp)
        obtain ⟨_, z', hz', _⟩ := hc p z hz s hs
        rw [Pm.mul_at _ _ hi, ((w.img p z hz).2).1] at hz'
        exact (w.orb _).2 (by rw [hz']; rfl)
      have hlt : ∀ p ∈ (T i).orb, p < n := fun p hp => by
        obtain ⟨z, hz⟩ := Option.isSome_iff_exists.1 ((w.orb p).1 hp)
        exact (w.img p z hz).1
      obtain ⟨q', hq', e⟩ := onto_orb w.nd hmv (fun p hp q hq e => s.inj (hlt p hp) (hlt q hq) e) hq
      obtain ⟨y', hy'⟩ := Option.isSome_iff_exists.1 ((w.orb q').1 hq')
      obtain ⟨y2, v, k1, k2, e2⟩ := (hc q' y' hy' s hs).split
      rw [Pm.mul_at _ _ hi, ((w.img q' y' hy').2).1, e, h1] at k1
      obtain rfl := Option.some.inj k1
      have e3 : y.mul s.inv = v.inv.mul y' := by
        have h1 : v.inv.mul (y'.mul s) = y := by rw [e2, ← Pm.mul_assoc, Pm.inv_mul, Pm.one_mul]
        rw [← h1, Pm.mul_assoc, Pm.mul_inv_cancel]
      rw [Pm.mul_assoc, e3, ← Pm.mul_assoc]
      exact S.mk hT hi (ih.mul h2 (ih.inv k2)) hy'
    have hsub : ∀ x, Grp (· ∈ (T i).gens) x → S T (f + 1) i x := by
      intro x hx
      induction hx with
      | one => exact S.one hT hf
      | mul x s _ hs ih => exact hmul x s ih hs
      | inv x s _ hs ih => exact hinv x s ih hs
    have hiff : ∀ x, S T (f + 1) i x ↔ Grp (· ∈ (T i).gens) x := fun x => ⟨fun h => h.inG Grp.isG hf fun j hj hjn p y hy => ((hs i hi) j hj hjn).1 p y hy, hsub x⟩
    refine ⟨⟨S.one hT hf, fun h k => (hiff _).2 (((hiff _).1 h).times ((hiff _).1 k)), fun h => (hiff _).2 ((hiff _).1 h).inverse⟩, fun _ => hiff⟩
end
end Go.Proofs.YtbejhkojdiadaaaGreatDoor.PlainPm
namespace Go.Proofs.YtbejhkojdiadaaaGreatDoor.PlainPm
theorem sub_len {α : Type} [DecidableEq α] : ∀ {l m : List α}, l.Nodup → (∀ x ∈ l, x ∈ m) → l.length ≤ m.length
  | [], m, _, _ => by simp
  | x :: l, m, h1, h2 => by
    rw [List.nodup_cons] at h1
    have hx : x ∈ m := h2 x (by simp)
    have := sub_len (l := l) (m := m.erase x) h1.2 (fun z hz => by
      have hzx : z ≠ x := fun e => h1.1 (e ▸ hz)
      exact (List.mem_erase_of_ne hzx).2 (h2 z (by simp [hz])))
    rw [List.length_erase_of_mem hx] at this
    have : 0 < m.length := List.length_pos_of_mem hx
    simp; omega
theorem sum_le {f g : Nat → Nat} : ∀ (n : Nat), (∀ j, f j ≤ g j) → ((List.range n).map f).sum ≤ ((List.range n).map g).sum
  | 0, _ => by simp
  | n + 1, h => by
    have := sum_le n h
    have := h n
    simp [List.range_succ]; omega
theorem sum_lt {f g : Nat → Nat} {k : Nat} : ∀ (n : Nat), (∀ j, f j ≤ g j) → k < n → f k < g k → ((List.range n).map f).sum < ((List.range n).map g).sum
  | 0, _, h, _ => by omega
  | n + 1, h, hk, hlt => by
    have h1 := sum_le n h
    have h2 := h n
    by_cases e : k = n
    · subst e; simp [List.range_succ]; omega
    · have := sum_lt n h (by omega) hlt
      simp [List.range_succ]; omega
section
variable {n : Nat}
def many (T : Tw n) : Nat := ((List.range n).map fun j => (T j).orb.length).sum
def updL (T : Tw n) (i : Nat) (l : Lv n) : Tw n := fun j => if j = i then l else T j
theorem updL_at (T : Tw n) (i : Nat) (l : Lv n) : updL T i l i = l := if_pos rfl
theorem updL_ne (T : Tw n) {i j : Nat} (l : Lv n) (h : j ≠ i) : updL T i l j = T j := if_neg h
def Tested (T : Tw n) (i : Nat) : Prop := ∀ q y, (T i).to q = some y → ∀ k, k < (T i).tried q → ∀ s, (T i).gens[k]? = some s → S T (n - i) i (y.mul s)
def DoneL (T : Tw n) (i : Nat) : Prop := ∀ q ∈ (T i).orb, (T i).tried q = (T i).gens.length
def InH (T : Tw n) (i : Nat) (H : Pm n → Prop) : Prop := ∀ j, i ≤ j → j < n → (∀ p y, (T j).to p = some y → H y) ∧ ∀ s ∈ (T j).gens, H s
theorem sndL_iff {T : Tw n} {i : Nat} : SndL T i ↔ InH T i (Grp (· ∈ (T i).gens)) := Iff.rfl
structure Inv (T : Tw n) (i : Nat) : Prop where
  wf : Wf T
  tst : ∀ j, i ≤ j → j < n → Tested T j
  snd : ∀ j, i ≤ j → j < n → SndL T j
def DoneF (T : Tw n) (i : Nat) : Prop := ∀ j, i ≤ j → j < n → DoneL T j
structure Ext (T T' : Tw n) (i : Nat) : Prop where
  low : ∀ j, j < i → T' j = T j
  more : More T T'
  pot : ∀ j, (T' j).gens.length + many T ≤ (T j).gens.length + many T'
  orbs : ∀ j, (T j).orb.length ≤ (T' j).orb.length
theorem Ext.refl (T : Tw n) (i : Nat) : Ext T T i := ⟨fun _ _ => rfl, More.refl T, fun _ => Nat.le_refl _, fun _ => Nat.le_refl _⟩
theorem Ext.trans {T T' T'' : Tw n} {i j : Nat} (h : Ext T T' i) (k : Ext T' T'' j) (hij : i ≤ j) : Ext T T'' i :=
  ⟨fun a ha => (k.low a (by omega)).trans (h.low a ha), h.more.trans k.more, fun a => by have := h.pot a; have := k.pot a; omega, fun a => Nat.le_trans (h.orbs a) (k.orbs a)⟩
def stepNew (l : Lv n) (q p : Nat) (y : Pm n) : Lv n := ⟨l.gens, l.orb ++ [p], fun x => if x = p then some y else l.to x, fun x => if x = q then l.tried q + 1 else l.tried x⟩
def stepTry (l : Lv n) (q : Nat) : Lv n := ⟨l.gens, l.orb, l.to, fun x => if x = q then l.tried q + 1 else l.tried x⟩
def addGen (l : Lv n) (r : Pm n) : Lv n := ⟨l.gens ++ [r], l.orb, l.to, l.tried⟩
structure AddPre (T : Tw n) (x : Pm n) (i : Nat) : Prop where
  inv : Inv T i
  done : DoneF T i
  fx : Fx i x
structure AddPost (T : Tw n) (x : Pm n) (i : Nat) (T' : Tw n) : Prop where
  inv : Inv T' i
  done : DoneF T' i
  ext : Ext T T' i
  cl : ∀ H, IsG H → InH T i H → H x → InH T' i H
  mem : S T' (n - i) i x
structure ClosePre (T : Tw n) (i : Nat) : Prop where
  inv : Inv T i
  done : DoneF T (i + 1)
structure CloseR (T0 : Tw n) (i : Nat) (T : Tw n) : Prop where
  inv : Inv T i
  done : DoneF T (i + 1)
  ext : Ext T0 T i
  gens : (T i).gens = (T0 i).gens
  cl : ∀ H, IsG H → InH T0 i H → InH T i H
theorem CloseR.start {T : Tw n} {i : Nat} (h : ClosePre T i) : CloseR T i T := ⟨h.inv, h.done, Ext.refl T i, rfl, fun _ _ h => h⟩
theorem s_top {T : Tw n} {i p : Nat} {y : Pm n} (hT : Wf T) (hi : i < n) (hy : (T i).to p = some y) : S T (n - i) i y := by
  have := S.mk hT hi (S.one hT (f := n - i - 1) (i := i + 1) (by omega)) hy
  rw [Pm.one_mul] at this
  rwa [show n - i = n - i - 1 + 1 by omega]
theorem CloseR.new {T0 T : Tw n} {i q p : Nat} {yq s y : Pm n} (h : CloseR T0 i T) (hi : i < n) (hq : (T i).to q = some yq) (hs : (T i).gens[(T i).tried q]? = some s) (hy : y = yq.mul s) (hp : y.at i = p) (hn : (T i).to p = none) :
    CloseR T0 i (updL T i (stepNew (T i) q p y)) := by
  obtain ⟨T1, hT1⟩ : ∃ T1, T1 = updL T i (stepNew (T i) q p y) := ⟨_, rfl⟩
  have e1 : T1 i = stepNew (T i) q p y := by rw [hT1, updL_at]
  have e2 : ∀ j, j ≠ i → T1 j = T j := fun j hj => by rw [hT1, updL_ne _ _ hj]
  rw [← hT1]
  have w := h.inv.wf i hi
  have hsm : s ∈ (T i).gens := List.mem_of_getElem? hs
  have hsl := (List.getElem?_eq_some_iff.1 hs).1
  have hfy : Fx i y := by rw [hy]; exact ((w.img q yq hq).2.2).mul (by omega) (w.gfx s hsm)
  have hpn : p < n := by rw [← hp]; exact y.lt hi
  have hqp : q ≠ p := fun e => by rw [e, hn] at hq; cases hq
  have hpo : p ∉ (T i).orb := fun hm => by have := (w.orb p).1 hm; rw [hn] at this; cases this
  have hmore : More T T1 := fun j a z hz => by
    by_cases e : j = i
    · subst e
      rw [e1]
      show (if a = p then some y else (T j).to a) = some z
      rw [if_neg (fun e => by rw [e, hn] at hz; cases hz)]; exact hz
    · rw [e2 j e]; exact hz
  have hto : ∀ a z, (T1 i).to a = some z → (a = p ∧ z = y) ∨ (a ≠ p ∧ (T i).to a = some z) := fun a z hz => by
    rw [e1] at hz
    have hz : (if a = p then some y else (T i).to a) = some z := hz
    by_cases e : a = p
    · rw [if_pos e] at hz; exact .inl ⟨e, (Option.some.inj hz).symm⟩
    · rw [if_neg e] at hz; exact .inr ⟨e, hz⟩
  have hg : (T1 i).gens = (T i).gens := by rw [e1]; rfl
  have hwf : Wf T1 := by
    intro j hj
    by_cases e : j = i
    · subst e
      refine ⟨hmore _ _ _ w.base, ?_, ?_, ?_, ?_, ?_, ?_⟩
      · intro a z hz
        rcases hto a z hz with ⟨rfl, rfl⟩ | ⟨_, hz⟩
        · exact ⟨hpn, hp, hfy⟩
        · exact w.img a z hz
      · intro a
        rw [e1]
        show a ∈ (T j).orb ++ [p] ↔ (if a = p then some y else (T j).to a).isSome = true
        by_cases e : a = p
        · rw [if_pos e]; simp [e]
        · rw [if_neg e, ← w.orb a]; simp [e]
      · rw [e1]
        show ((T j).orb ++ [p]).Nodup
        rw [List.nodup_append]
        refine ⟨w.nd, by simp, fun a ha b hb e => ?_⟩
        simp at hb
        rw [e, hb] at ha; exact hpo ha
      · rw [hg]; exact w.gfx
      · intro a
        rw [hg, e1]
        show (if a = q then (T j).tried q + 1 else (T j).tried a) ≤ _
        by_cases e : a = q
        · rw [if_pos e]; omega
        · rw [if_neg e]; exact w.tl a
      · intro a ha
        rw [e1] at ha ⊢
        have ha : (if a = p then some y else (T j).to a) = none := ha
        show (if a = q then (T j).tried q + 1 else (T j).tried a) = 0
        by_cases e : a = p
        · rw [if_pos e] at ha; cases ha
        · rw [if_neg e] at ha
          rw [if_neg (fun e => by rw [e, hq] at ha; cases ha)]
          exact w.tz a ha
    · rw [e2 j e]; exact h.inv.wf j hj
  have hsnd : ∀ H, IsG H → InH T i H → InH T1 i H := by
    intro H hH hin j hij hjn
    by_cases e : j = i
    · subst e
      obtain ⟨k1, k2⟩ := hin j hij hjn
      refine ⟨fun a z hz => ?_, by rw [hg]; exact k2⟩
      rcases hto a z hz with ⟨_, rfl⟩ | ⟨_, hz⟩
      · rw [hy]; exact hH.mul (k1 q yq hq) (k2 s hsm)
      · exact k1 a z hz
    · rw [e2 j e]; exact hin j hij hjn
  refine ⟨⟨hwf, ?_, ?_⟩, ?_, ?_, hg.trans h.gens, fun H hH hin => hsnd H hH (h.cl H hH hin)⟩
  · intro j hij hjn
    by_cases e : j = i
    · subst e
      intro a z hz k hk s' hs'
      rw [hg] at hs'
      have hk : k < (if a = q then (T j).tried q + 1 else (T j).tried a) := by rw [e1] at hk; exact hk
      rcases hto a z hz with ⟨rfl, rfl⟩ | ⟨hne, hz⟩
      · rw [if_neg (fun e => hqp e.symm), w.tz _ hn] at hk; omega
      · by_cases e : a = q
        · rw [if_pos e] at hk
          subst e
          by_cases e2 : k = (T j).tried a
          · rw [e2, hs] at hs'
            obtain rfl := Option.some.inj hs'
            rw [hq] at hz
            obtain rfl := Option.some.inj hz
            rw [← hy]
            exact s_top (p := p) hwf hi (by rw [e1]; exact if_pos rfl)
          · exact (h.inv.tst j hij hjn a z hz k (by omega) s' hs').more hmore
        · rw [if_neg e] at hk
          exact (h.inv.tst j hij hjn a z hz k hk s' hs').more hmore
    · have ht := h.inv.tst j hij hjn
      intro a z hz k hk s' hs'
      rw [e2 j e] at hz hk hs'
      exact (ht a z hz k hk s' hs').more hmore
  · intro j hij hjn
    by_cases e : j = i
    · subst e
      rw [sndL_iff, hg]
      exact hsnd _ Grp.isG (h.inv.snd j hij hjn)
    · intro a hja han
      rw [e2 a (by omega), e2 j e]
      exact h.inv.snd j hij hjn a hja han
  · intro j hij hjn
    have := h.done j hij hjn
    intro a ha
    rw [e2 j (by omega)] at ha ⊢
    exact this a ha
  · have ho : ∀ j, (T j).orb.length ≤ (T1 j).orb.length := fun j => by
      by_cases e : j = i
      · subst e; rw [e1]; show _ ≤ ((T j).orb ++ [p]).length; simp
      · rw [e2 j e]; exact Nat.le_refl _
    refine h.ext.trans (j := i) ⟨fun j hj => e2 j (by omega), hmore, fun j => ?_, ho⟩ (Nat.le_refl _)
    have hm : many T ≤ many T1 := sum_le n ho
    by_cases e : j = i
    · subst e; rw [hg]; omega
    · rw [e2 j e]; omega
theorem try_levels {T : Tw n} {i q : Nat} {s : Pm n} (hT : Inv T (i + 1)) (hw : Wf T) (hi : i < n) (hq : (T i).to q ≠ none) (hs : (T i).gens[(T i).tried q]? = some s) :
    Inv (updL T i (stepTry (T i) q)) (i + 1) ∧ More T (updL T i (stepTry (T i) q)) ∧ Wf (updL T i (stepTry (T i) q)) := by
  obtain ⟨T1, hT1⟩ : ∃ T1, T1 = updL T i (stepTry (T i) q) := ⟨_, rfl⟩
  have e1 : T1 i = stepTry (T i) q := by rw [hT1, updL_at]
  have e2 : ∀ j, j ≠ i → T1 j = T j := fun j hj => by rw [hT1, updL_ne _ _ hj]
  rw [← hT1]
  have w := hw i hi
  have hsl := (List.getElem?_eq_some_iff.1 hs).1
  have hmore : More T T1 := fun j a z hz => by
    by_cases e : j = i
    · subst e; rw [e1]; exact hz
    · rw [e2 j e]; exact hz
  have hwf : Wf T1 := by
    intro j hj
    by_cases e : j = i
    · subst e
      rw [e1]
      refine ⟨w.base, w.img, w.orb, w.nd, w.gfx, fun a => ?_, fun a ha => ?_⟩
      · show (if a = q then (T j).tried q + 1 else (T j).tried a) ≤ (T j).gens.length
        by_cases e : a = q
        · rw [if_pos e]; omega
        · rw [if_neg e]; exact w.tl a
      · show (if a = q then (T j).tried q + 1 else (T j).tried a) = 0
        rw [if_neg (fun e => hq (by rw [← e]; exact ha))]
        exact w.tz a ha
    · rw [e2 j e]; exact hw j hj
  refine ⟨⟨hwf, ?_, ?_⟩, hmore, hwf⟩
  · intro j hij hjn a z hz k hk s' hs'
    rw [e2 j (by omega)] at hz hk hs'
    exact (hT.tst j hij hjn a z hz k hk s' hs').more hmore
  · intro j hij hjn a hja han
    rw [e2 a (by omega), e2 j (by omega)]
    exact hT.snd j hij hjn a hja han
theorem AddPre.ofTry {T0 T : Tw n} {i q p : Nat} {yq s y z : Pm n} (h : CloseR T0 i T) (hi : i < n) (hq : (T i).to q = some yq) (hs : (T i).gens[(T i).tried q]? = some s) (hy : y = yq.mul s) (hp : y.at i = p) (hz : (T i).to p = some z) :
    AddPre (updL T i (stepTry (T i) q)) (y.mul z.inv) (i + 1) := by
  have w := h.inv.wf i hi
  obtain ⟨h1, _, _⟩ := try_levels ⟨h.inv.wf, fun j a b => h.inv.tst j (by omega) b, fun j a b => h.inv.snd j (by omega) b⟩ h.inv.wf hi (by rw [hq]; simp) hs
  refine ⟨h1, fun j hij hjn => ?_, ?_⟩
  · intro a ha
    rw [updL_ne _ _ (by omega)] at ha ⊢
    exact h.done j hij hjn a ha
  · obtain ⟨_, k2, k3⟩ := w.img p z hz
    have hfy : Fx i y := by rw [hy]; exact ((w.img q yq hq).2.2).mul (by omega) (w.gfx s (List.mem_of_getElem? hs))
    refine (hfy.mul (by omega) (k3.inv (by omega))).succ ?_
    rw [Pm.mul_at _ _ hi, hp, ← k2, z.inv_of hi]
theorem CloseR.old {T0 T T2 : Tw n} {i q p : Nat} {yq s y z : Pm n} (h : CloseR T0 i T) (hi : i < n) (hq : (T i).to q = some yq) (hs : (T i).gens[(T i).tried q]? = some s) (hy : y = yq.mul s) (hp : y.at i = p) (hz : (T i).to p = some z)
    (hA : AddPost (updL T i (stepTry (T i) q)) (y.mul z.inv) (i + 1) T2) : CloseR T0 i T2 := by
  obtain ⟨T1, hT1⟩ : ∃ T1, T1 = updL T i (stepTry (T i) q) := ⟨_, rfl⟩
  have e1 : T1 i = stepTry (T i) q := by rw [hT1, updL_at]
  have e2 : ∀ j, j ≠ i → T1 j = T j := fun j hj => by rw [hT1, updL_ne _ _ hj]
  have w := h.inv.wf i hi
  have hsm : s ∈ (T i).gens := List.mem_of_getElem? hs
  obtain ⟨_, hm1, _⟩ := try_levels ⟨h.inv.wf, fun j a b => h.inv.tst j (by omega) b, fun j a b => h.inv.snd j (by omega) b⟩ h.inv.wf hi (by rw [hq]; simp) hs
  rw [← hT1] at hA hm1
  have h2i : T2 i = stepTry (T i) q := by rw [hA.ext.low i (by omega), e1]
  have hm2 : More T T2 := hm1.trans hA.ext.more
  have hto : (T2 i).to = (T i).to := by rw [h2i]; rfl
  have hg : (T2 i).gens = (T i).gens := by rw [h2i]; rfl
  have hcl : ∀ H, IsG H → InH T i H → InH T2 i H := by
    intro H hH hin
    have hi0 := hin i (Nat.le_refl _) hi
    have h3 : InH T2 (i + 1) H := hA.cl H hH (fun j hij hjn => by rw [e2 j (by omega)]; exact hin j (by omega) hjn) (hH.mul (by rw [hy]; exact hH.mul (hi0.1 q yq hq) (hi0.2 s hsm)) (hH.inv (hi0.1 p z hz)))
    intro j hij hjn
    by_cases e : j = i
    · subst e
      rw [hg, hto]; exact hi0
    · exact h3 j (by omega) hjn
  refine ⟨⟨hA.inv.wf, ?_, ?_⟩, fun j hij hjn => hA.done j hij hjn, ?_, hg.trans h.gens, fun H hH hin => hcl H hH (h.cl H hH hin)⟩
  · intro j hij hjn
    by_cases e : j = i
    · subst e
      intro a c hc k hk s' hs'
      rw [hto] at hc
      rw [hg] at hs'
      have hk : k < (if a = q then (T j).tried q + 1 else (T j).tried a) := by rw [h2i] at hk; exact hk
      by_cases e : a = q
      · rw [if_pos e] at hk
        subst e
        by_cases e3 : k = (T j).tried a
        · rw [e3, hs] at hs'
          obtain rfl := Option.some.inj hs'
          rw [hq] at hc
          obtain rfl := Option.some.inj hc
          rw [← hy]
          have h5 := S.mk hA.inv.wf hi hA.mem (hm2 _ _ _ hz)
          rw [Pm.inv_mul_cancel] at h5
          rwa [show n - j = n - (j + 1) + 1 by omega]
        · exact (h.inv.tst j hij hjn a c hc k (by omega) s' hs').more hm2
      · rw [if_neg e] at hk
        exact (h.inv.tst j hij hjn a c hc k hk s' hs').more hm2
    · exact hA.inv.tst j (by omega) hjn
  · intro j hij hjn
    by_cases e : j = i
    · subst e
      rw [sndL_iff, hg]
      exact hcl _ Grp.isG (h.inv.snd j hij hjn)
    · exact hA.inv.snd j (by omega) hjn
  · refine h.ext.trans (j := i) ⟨fun j hj => by rw [hA.ext.low j (by omega), e2 j (by omega)], hm2, fun j => ?_, fun j => ?_⟩ (Nat.le_refl _)
    · have hpo := hA.ext.pot j
      have hmm : many T1 = many T := by
        unfold many
        congr 1
        apply List.map_congr_left
        intro a _
        by_cases e : a = i
        · subst e; rw [e1]; rfl
        · rw [e2 a e]
      rw [hmm] at hpo
      by_cases e : j = i
      · subst e; rw [e1] at hpo; exact hpo
      · rw [e2 j e] at hpo; exact hpo
    · have ho := hA.ext.orbs j
      by_cases e : j = i
      · subst e; rw [e1] at ho; exact ho
      · rw [e2 j e] at ho; exact ho
theorem AddPost.last {T : Tw n} {x : Pm n} {i : Nat} (h : AddPre T x i) (hi : i = n) : AddPost T x i T := by
  refine ⟨h.inv, h.done, Ext.refl T i, fun _ _ h _ => h, ?_⟩
  subst hi
  rw [Nat.sub_self]; exact h.fx
def sft (T : Tw n) : Nat → Nat → Pm n → Nat × Pm n
  | 0, i, x => (i, x)
  | f + 1, i, x => match (T i).to (x.at i) with
    | none => (i, x)
    | some y => sft T f (i + 1) (if x.at i = i then x else x.mul y.inv)
theorem sft_next {T : Tw n} (hT : Wf T) {i : Nat} (hi : i < n) {x y : Pm n} (h : (T i).to (x.at i) = some y) : (if x.at i = i then x else x.mul y.inv) = x.mul y.inv := by
  by_cases e : x.at i = i
  · rw [if_pos e]
    rw [e, (hT i hi).base] at h
    rw [← Option.some.inj h, Pm.inv_one, Pm.mul_one]
  · rw [if_neg e]
theorem fx_next {T : Tw n} (hT : Wf T) {i : Nat} (hi : i < n) {x y : Pm n} (hx : Fx i x) (h : (T i).to (x.at i) = some y) : Fx (i + 1) (x.mul y.inv) := by
  obtain ⟨_, k2, k3⟩ := (hT i hi).img _ y h
  refine (hx.mul (by omega) (k3.inv (by omega))).succ ?_
  rw [Pm.mul_at _ _ hi, ← k2, y.inv_of hi]
theorem sft_spec {T : Tw n} (hT : Wf T) : ∀ {f i : Nat} {x : Pm n}, i + f = n → Fx i x → i ≤ (sft T f i x).1 ∧ (sft T f i x).1 ≤ n ∧ Fx (sft T f i x).1 (sft T f i x).2 ∧
    ((sft T f i x).1 < n → (T (sft T f i x).1).to ((sft T f i x).2.at (sft T f i x).1) = none) ∧
    (∀ T', Wf T' → More T T' → S T' (n - (sft T f i x).1) (sft T f i x).1 (sft T f i x).2 → S T' f i x) ∧
    (∀ H, IsG H → InH T i H → H x → H (sft T f i x).2)
  | 0, i, x, hf, hx => by
    simp only [sft]
    refine ⟨Nat.le_refl _, by omega, hx, fun h => by omega, fun T' _ _ h => ?_, fun _ _ _ h => h⟩
    rwa [show n - i = 0 by omega] at h
  | f + 1, i, x, hf, hx => by
    have hi : i < n := by omega
    cases hy : (T i).to (x.at i) with
    | none =>
      have e : sft T (f + 1) i x = (i, x) := by rw [sft, hy]
      rw [e]
      refine ⟨Nat.le_refl _, by omega, hx, fun _ => hy, fun T' _ _ h => ?_, fun _ _ _ h => h⟩
      dsimp only at h
      rwa [show n - i = f + 1 by omega] at h
    | some y =>
      have e : sft T (f + 1) i x = sft T f (i + 1) (x.mul y.inv) := by rw [sft, hy]; dsimp only; rw [sft_next hT hi hy]
      rw [e]
      obtain ⟨h1, h2, h3, h4, h5, h6⟩ := sft_spec hT (f := f) (i := i + 1) (by omega) (fx_next hT hi hx hy)
      refine ⟨by omega, h2, h3, h4, fun T' hw hm h => ?_, fun H hH hin hx => ?_⟩
      · have := S.mk hw hi (h5 T' hw hm h) (hm _ _ _ hy)
        rwa [Pm.inv_mul_cancel] at this
      · exact h6 H hH (fun j hij hjn => hin j (by omega) hjn) (hH.mul hx (hH.inv ((hin i (Nat.le_refl _) hi).1 _ y hy)))
theorem sft_end {T : Tw n} {f i : Nat} {x r : Pm n} (hT : Wf T) (hf : i + f = n) (hx : Fx i x) (h : sft T f i x = (n, r)) : S T f i x := by
  obtain ⟨_, _, h3, _, h5, _⟩ := sft_spec hT hf hx
  rw [h] at h3 h5
  exact h5 T hT (More.refl T) (by dsimp only; rw [Nat.sub_self]; exact h3)
theorem AddPost.none {T : Tw n} {x r : Pm n} {i : Nat} (h : AddPre T x i) (hi : i ≤ n) (hs : sft T (n - i) i x = (n, r)) : AddPost T x i T :=
  ⟨h.inv, h.done, Ext.refl T i, fun _ _ h _ => h, sft_end h.inv.wf (by omega) h.fx hs⟩
def addTo (T : Tw n) (i k : Nat) (r : Pm n) : Tw n := fun j => if i ≤ j ∧ j ≤ k then addGen (T j) r else T j
theorem addTo_many (T : Tw n) (i k : Nat) (r : Pm n) : many (addTo T i k r) = many T := by
  unfold many
  congr 1
  apply List.map_congr_left
  intro a _
  unfold addTo
  split <;> rfl
structure AddR (T : Tw n) (x : Pm n) (i a : Nat) (r : Pm n) (k : Nat) (T' : Tw n) : Prop where
  inv : Inv T' i
  done : DoneF T' k
  low : ∀ j, j < k → T' j = addTo T i a r j
  more : More T T'
  pot : k ≤ a → ∀ j, (T' j).gens.length + many T ≤ (T j).gens.length + many T'
  first : a < k → T' = addTo T i a r
  orbs : ∀ j, (T j).orb.length ≤ (T' j).orb.length
  cl : ∀ H, IsG H → InH T i H → H x → InH T' i H
  mem : k ≤ a → S T' (n - a) a r
theorem AddR.start {T : Tw n} {x r : Pm n} {i a : Nat} (h : AddPre T x i) (hi : i ≤ n) (hs : sft T (n - i) i x = (a, r)) (ha : a < n) : AddR T x i a r (a + 1) (addTo T i a r) := by
  obtain ⟨s1, s2, s3, s4, s5, s6⟩ := sft_spec (f := n - i) h.inv.wf (by omega) h.fx
  rw [hs] at s1 s3 s4 s6
  dsimp only at s1 s3 s4 s6
  obtain ⟨T1, hT1⟩ : ∃ T1, T1 = addTo T i a r := ⟨_, rfl⟩
  have e1 : ∀ j, i ≤ j → j ≤ a → T1 j = addGen (T j) r := fun j h1 h2 => by rw [hT1]; exact if_pos ⟨h1, h2⟩
  have e2 : ∀ j, ¬ (i ≤ j ∧ j ≤ a) → T1 j = T j := fun j h1 => by rw [hT1]; exact if_neg h1
  have hto : ∀ j, (T1 j).to = (T j).to := fun j => by
    by_cases e : i ≤ j ∧ j ≤ a
    · rw [e1 j e.1 e.2]; rfl
    · rw [e2 j e]
  have hor : ∀ j, (T1 j).orb = (T j).orb := fun j => by
    by_cases e : i ≤ j ∧ j ≤ a
    · rw [e1 j e.1 e.2]; rfl
    · rw [e2 j e]
  have htr : ∀ j, (T1 j).tried = (T j).tried := fun j => by
    by_cases e : i ≤ j ∧ j ≤ a
    · rw [e1 j e.1 e.2]; rfl
    · rw [e2 j e]
  have hgm : ∀ j, ∀ s ∈ (T1 j).gens, s ∈ (T j).gens ∨ (s = r ∧ i ≤ j ∧ j ≤ a) := fun j s hs => by
    by_cases e : i ≤ j ∧ j ≤ a
    · rw [e1 j e.1 e.2] at hs
      have hs : s ∈ (T j).gens ++ [r] := hs
      rcases List.mem_append.1 hs with hs | hs
      · exact .inl hs
      · exact .inr ⟨by simpa using hs, e⟩
    · rw [e2 j e] at hs; exact .inl hs
  have hgs : ∀ j, ∀ s ∈ (T j).gens, s ∈ (T1 j).gens := fun j s hs => by
    by_cases e : i ≤ j ∧ j ≤ a
    · rw [e1 j e.1 e.2]; show s ∈ (T j).gens ++ [r]; simp [hs]
    · rw [e2 j e]; exact hs
  have hmore : More T T1 := fun j p z hz => by rw [hto j]; exact hz
  have hwf : Wf T1 := by
    intro j hj
    have w := h.inv.wf j hj
    refine ⟨by rw [hto]; exact w.base, by rw [hto]; exact w.img, by rw [hto, hor]; exact w.orb, by rw [hor]; exact w.nd, fun s hs => ?_, fun q => ?_, fun q => by rw [hto, htr]; exact w.tz q⟩
    · rcases hgm j s hs with hs | ⟨rfl, _, hja⟩
      · exact w.gfx s hs
      · exact s3.mono hja
    · rw [htr]
      refine Nat.le_trans (w.tl q) ?_
      by_cases e : i ≤ j ∧ j ≤ a
      · rw [e1 j e.1 e.2]; show _ ≤ ((T j).gens ++ [r]).length; simp
      · rw [e2 j e]; exact Nat.le_refl _
  rw [← hT1]
  refine ⟨⟨hwf, ?_, ?_⟩, ?_, fun j _ => by rw [hT1], hmore, fun h => by omega, fun _ => hT1, fun j => by rw [hor]; exact Nat.le_refl _, ?_, fun h => by omega⟩
  · intro j hij hjn q y hy k hk s hs
    rw [hto] at hy
    rw [htr] at hk
    have hkl := (h.inv.wf j hjn).tl q
    have hs' : (T j).gens[k]? = some s := by
      by_cases e : i ≤ j ∧ j ≤ a
      · rw [e1 j e.1 e.2] at hs
        have hs : ((T j).gens ++ [r])[k]? = some s := hs
        rwa [List.getElem?_append_left (by omega)] at hs
      · rwa [e2 j e] at hs
    exact (h.inv.tst j hij hjn q y hy k hk s hs').more hmore
  · intro j hij hjn b hjb hbn
    obtain ⟨k1, k2⟩ := h.inv.snd j hij hjn b hjb hbn
    have hup : ∀ z, Grp (· ∈ (T j).gens) z → Grp (· ∈ (T1 j).gens) z := fun z hz => hz.sub Grp.isG fun s hs => Grp.base (hgs j s hs)
    refine ⟨fun p y hy => hup y (k1 p y (by rwa [hto] at hy)), fun s hs => ?_⟩
    rcases hgm b s hs with hs | ⟨rfl, hib, hba⟩
    · exact hup s (k2 s hs)
    · refine Grp.base ?_
      rw [e1 j hij (by omega)]
      show s ∈ (T j).gens ++ [s]; simp
  · intro j hij hjn
    have := h.done j (by omega) hjn
    unfold DoneL
    rw [e2 j (by omega)]
    exact this
  · intro H hH hin hx j hij hjn
    obtain ⟨k1, k2⟩ := hin j hij hjn
    refine ⟨fun p y hy => k1 p y (by rwa [hto] at hy), fun s hs => ?_⟩
    rcases hgm j s hs with hs | ⟨rfl, _, _⟩
    · exact k2 s hs
    · exact s6 H hH hin hx
theorem AddR.pre {T T' : Tw n} {x r : Pm n} {i a k : Nat} (h : AddR T x i a r (k + 1) T') (hik : i ≤ k) : ClosePre T' k :=
  ⟨⟨h.inv.wf, fun j a b => h.inv.tst j (by omega) b, fun j a b => h.inv.snd j (by omega) b⟩, h.done⟩
theorem AddR.step {T T' T'' : Tw n} {x r : Pm n} {i a k : Nat} (h : AddR T x i a r (k + 1) T') (hp : AddPre T x i) (hi : i ≤ n) (hs : sft T (n - i) i x = (a, r)) (ha : a < n) (hik : i ≤ k) (hka : k ≤ a) (hc : CloseR T' k T'') (hd : DoneL T'' k) : AddR T x i a r k T'' := by
  obtain ⟨s1, s2, s3, s4, s5, s6⟩ := sft_spec (f := n - i) hp.inv.wf (by omega) hp.fx
  rw [hs] at s1 s3 s4 s6
  dsimp only at s1 s3 s4 s6
  have hm : More T T'' := h.more.trans hc.ext.more
  have hmem : S T'' (n - a) a r := by
    by_cases e : k = a
    · subst e
      have hk := h.low k (by omega)
      have hg : (T'' k).gens = (T k).gens ++ [r] := by rw [hc.gens, hk]; show (if i ≤ k ∧ k ≤ k then addGen (T k) r else T k).gens = _; rw [if_pos ⟨hik, Nat.le_refl _⟩]; rfl
      have w := hc.inv.wf k ha
      have hko : k ∈ (T'' k).orb := (w.orb k).2 (by rw [w.base]; rfl)
      have := hc.inv.tst k (Nat.le_refl _) ha k _ w.base (T k).gens.length (by rw [hd k hko, hg]; simp) r (by rw [hg]; simp)
      rwa [Pm.one_mul] at this
    · exact (h.mem (by omega)).more hc.ext.more
  refine ⟨⟨hc.inv.wf, fun j hij hjn => ?_, fun j hij hjn => ?_⟩, fun j hij hjn => ?_, fun j hj => by rw [hc.ext.low j hj, h.low j (by omega)], hm, ?_, fun h => by omega, fun j => Nat.le_trans (h.orbs j) (hc.ext.orbs j), ?_, fun _ => hmem⟩
  · by_cases e : k ≤ j
    · exact hc.inv.tst j e hjn
    · have hl := hc.ext.low j (by omega)
      intro q y hy b hb s hs
      rw [hl] at hy hb hs
      exact (h.inv.tst j hij hjn q y hy b hb s hs).more hc.ext.more
  · by_cases e : k ≤ j
    · exact hc.inv.snd j e hjn
    · have hl := hc.ext.low j (by omega)
      have h1 := h.inv.snd j hij hjn
      have h2 : InH T'' k (Grp (· ∈ (T' j).gens)) := hc.cl _ Grp.isG fun b hkb hbn => h1 b (by omega) hbn
      rw [sndL_iff, hl]
      intro b hjb hbn
      by_cases e2 : k ≤ b
      · exact h2 b e2 hbn
      · rw [hc.ext.low b (by omega)]; exact h1 b hjb hbn
  · by_cases e : j = k
    · subst e; exact hd
    · exact hc.done j (by omega) hjn
  · intro _ j
    by_cases e : k = a
    · subst e
      have hT' := h.first (by omega)
      have hmany : many T' = many T := by rw [hT', addTo_many]
      have hpot := hc.ext.pot j
      rw [hmany] at hpot
      by_cases e2 : i ≤ j ∧ j ≤ k
      · have hg : (T'' j).gens.length = (T j).gens.length + 1 := by
          have hl1 : (T' j).gens.length = (T j).gens.length + 1 := by rw [hT']; show (if i ≤ j ∧ j ≤ k then addGen (T j) r else T j).gens.length = _; rw [if_pos e2]; show ((T j).gens ++ [r]).length = _; simp
          by_cases e3 : j = k
          · subst e3; rw [hc.gens]; exact hl1
          · rw [hc.ext.low j (by omega)]; exact hl1
        have hlt : many T < many T'' := by
          refine sum_lt (k := k) n (fun j => Nat.le_trans (h.orbs j) (hc.ext.orbs j)) ha ?_
          have w := hp.inv.wf k ha
          have w2 := hc.inv.wf k ha
          have hnew : r.at k ∈ (T'' k).orb := by
            have h9 := hmem
            rw [show n - k = n - k - 1 + 1 by omega] at h9
            obtain ⟨_, y, hy, _⟩ := h9
            exact (w2.orb _).2 (by rw [hy]; rfl)
          have hold : r.at k ∉ (T k).orb := fun hm => by have := (w.orb _).1 hm; rw [s4 ha] at this; cases this
          have := sub_len (l := r.at k :: (T k).orb) (m := (T'' k).orb) (List.nodup_cons.2 ⟨hold, w.nd⟩) (fun p hp => by
            rcases List.mem_cons.1 hp with rfl | hp
            · exact hnew
            · obtain ⟨z, hz⟩ := Option.isSome_iff_exists.1 ((w.orb p).1 hp)
              exact (w2.orb p).2 (by rw [hm _ _ _ hz]; rfl))
          rw [List.length_cons] at this
          omega
        omega
      · have hl1 : T' j = T j := by rw [hT']; exact if_neg e2
        rw [hl1] at hpot; exact hpot
    · have h1 := h.pot (by omega) j
      have h2 := hc.ext.pot j
      omega
  · intro H hH hin hx
    have h1 := h.cl H hH hin hx
    have h2 : InH T'' k H := hc.cl H hH fun b hkb hbn => h1 b (by omega) hbn
    intro b hib hbn
    by_cases e2 : k ≤ b
    · exact h2 b e2 hbn
    · rw [hc.ext.low b (by omega)]; exact h1 b hib hbn
theorem AddR.finish {T T' : Tw n} {x r : Pm n} {i a : Nat} (h : AddR T x i a r i T') (hp : AddPre T x i) (hi : i ≤ n) (hs : sft T (n - i) i x = (a, r)) (ha : a < n) : AddPost T x i T' := by
  obtain ⟨s1, s2, s3, s4, s5, s6⟩ := sft_spec (f := n - i) hp.inv.wf (by omega) hp.fx
  rw [hs] at s1 s5
  dsimp only at s1 s5
  refine ⟨h.inv, h.done, ⟨fun j hj => ?_, h.more, h.pot s1, h.orbs⟩, h.cl, s5 T' h.inv.wf h.more (h.mem s1)⟩
  rw [h.low j hj]
  exact if_neg (by omega)
def tower0 (n : Nat) : Tw n := fun i => ⟨[], [i], fun p => if p = i then some (PlainPm.one n) else none, fun _ => 0⟩
theorem tower0_wf : Wf (tower0 n) := by
  intro i hi
  refine ⟨if_pos rfl, ?_, ?_, by simp [tower0], by simp [tower0], fun q => by simp [tower0], fun q _ => rfl⟩
  · intro p y h
    have h : (if p = i then some (PlainPm.one n) else none) = some y := h
    by_cases e : p = i
    · rw [if_pos e] at h
      rw [← Option.some.inj h]
      subst e
      exact ⟨hi, one_at hi, Fx.one (by omega)⟩
    · rw [if_neg e] at h; cases h
  · intro p
    show p ∈ [i] ↔ (if p = i then some (PlainPm.one n) else none).isSome = true
    by_cases e : p = i
    · simp [e]
    · simp [e]
structure Built (L : List (Pm n)) (T : Tw n) : Prop where
  inv : Inv T 0
  done : DoneF T 0
  ext : Ext (tower0 n) T 0
  cl : ∀ H, IsG H → (∀ x ∈ L, H x) → InH T 0 H
  mem : ∀ x ∈ L, S T n 0 x
theorem Built.start : Built [] (tower0 n) := by
  refine ⟨⟨tower0_wf, ?_, ?_⟩, ?_, Ext.refl _ _, ?_, by simp⟩
  · intro j _ _ q y _ k hk
    have hk : k < 0 := hk
    omega
  · intro j _ hjn b _ _
    refine ⟨fun p y h => ?_, fun s hs => by simp [tower0] at hs⟩
    have h : (if p = b then some (PlainPm.one n) else none) = some y := h
    by_cases e : p = b
    · rw [if_pos e] at h; rw [← Option.some.inj h]; exact .one
    · rw [if_neg e] at h; cases h
  · intro j _ _ q _; rfl
  · intro H hH _ b _ _
    refine ⟨fun p y h => ?_, fun s hs => by simp [tower0] at hs⟩
    have h : (if p = b then some (PlainPm.one n) else none) = some y := h
    by_cases e : p = b
    · rw [if_pos e] at h; rw [← Option.some.inj h]; exact hH.one
    · rw [if_neg e] at h; cases h
theorem Built.pre {L : List (Pm n)} {T : Tw n} (h : Built L T) (x : Pm n) : AddPre T x 0 := ⟨h.inv, h.done, fun j hj => by omega⟩
theorem Built.snoc {L : List (Pm n)} {T T' : Tw n} {x : Pm n} (h : Built L T) (k : AddPost T x 0 T') : Built (L ++ [x]) T' := by
  refine ⟨k.inv, k.done, h.ext.trans k.ext (Nat.le_refl _), fun H hH hl => k.cl H hH (h.cl H hH fun y hy => hl y (by simp [hy])) (hl x (by simp)), fun y hy => ?_⟩
  rcases List.mem_append.1 hy with hy | hy
  · exact (h.mem y hy).more k.ext.more
  · have : y = x := by simpa using hy
    rw [this]; exact k.mem
theorem Inv.comp {T : Tw n} (h : Inv T 0) (hd : DoneF T 0) : Comp T := by
  intro i hi q y hy s hs
  obtain ⟨k, hk⟩ := List.mem_iff_getElem?.1 hs
  have hko : q ∈ (T i).orb := ((h.wf i hi).orb q).2 (by rw [hy]; rfl)
  exact h.tst i (Nat.zero_le _) hi q y hy k (by rw [hd i (Nat.zero_le _) hi q hko]; exact (List.getElem?_eq_some_iff.1 hk).1) s hk
theorem S.down {T : Tw n} (hT : Wf T) {f i : Nat} {x : Pm n} (hi : i < n) (h : S T (f + 1) i x) (hx : x.at i = i) : S T f (i + 1) x := by
  obtain ⟨_, y, h1, h2⟩ := h
  rw [hx, (hT i hi).base] at h1
  rw [← Option.some.inj h1, Pm.inv_one, Pm.mul_one] at h2
  exact h2
theorem Built.group {L : List (Pm n)} {T : Tw n} (h : Built L T) (x : Pm n) : S T n 0 x ↔ Grp (· ∈ L) x := by
  have hc := h.inv.comp h.done
  have hg := (S.group h.inv.wf hc (fun i hi => h.inv.snd i (Nat.zero_le _) hi) (f := n) (i := 0) (by omega)).1
  constructor
  · intro hx
    exact hx.inG Grp.isG (by omega) fun j hj hjn p y hy => ((h.cl _ Grp.isG fun x hx => Grp.base hx) j hj hjn).1 p y hy
  · intro hx
    exact hx.sub hg fun s hs => h.mem s hs
theorem Built.stab {L : List (Pm n)} {T : Tw n} (h : Built L T) : ∀ (i : Nat), i ≤ n → ∀ x, S T (n - i) i x ↔ (Grp (· ∈ L) x ∧ Fx i x)
  | 0, _, x => by
    rw [Nat.sub_zero, h.group]
    exact ⟨fun hx => ⟨hx, fun j hj => by omega⟩, fun hx => hx.1⟩
  | i + 1, hi, x => by
    have ih := h.stab i (by omega) x
    rw [show n - i = n - (i + 1) + 1 by omega] at ih
    constructor
    · intro hx
      exact ⟨(ih.1 (hx.up h.inv.wf (by omega))).1, hx.fx⟩
    · rintro ⟨h1, h2⟩
      exact (ih.2 ⟨h1, h2.mono (by omega)⟩).down h.inv.wf (by omega) (h2 i (by omega))
end
end Go.Proofs.YtbejhkojdiadaaaGreatDoor.PlainPm
