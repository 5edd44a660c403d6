/- Ranks, elements by rank and least elements in a chain of a group: plain. -/
import Derived.Test.YtbejhkojdiadaaaGreatPlainTab
set_option linter.unusedSimpArgs false
set_option linter.unusedVariables false
namespace Go.Proofs.YtbejhkojdiadaaaGreat.PlainPm
section
variable {n : Nat}
/-- A chain of a group: the orbits' points and the representatives. -/
structure ChG (G : Pm n → Prop) (O : Nat → List Nat) (R : Nat → Nat → Pm n) : Prop where
  isG : IsG G
  nd : ∀ i, i < n → (O i).Nodup
  lt : ∀ i, i < n → ∀ p ∈ O i, p < n
  mem : ∀ i, i < n → ∀ p, p ∈ O i ↔ ∃ y, G y ∧ Fx i y ∧ y.at i = p
  rep : ∀ i, i < n → ∀ p ∈ O i, G (R i p) ∧ Fx i (R i p) ∧ (R i p).at i = p
theorem Of.chG {G : Pm n → Prop} (hG : IsG G) {T : Tw n} (h : Of G T) : ChG G (fun i => ptsOf n (T i).orb) (PlainPm.repT T) := by
  have hm : ∀ i, i < n → ∀ p, p ∈ ptsOf n (T i).orb ↔ ∃ y, G y ∧ Fx i y ∧ y.at i = p := fun i hi p => by
    rw [mem_ptsOf, h.orb hi]
    constructor
    · exact fun h => h.2
    · rintro ⟨y, h1, h2, h3⟩
      exact ⟨by rw [← h3]; exact y.lt hi, y, h1, h2, h3⟩
  refine ⟨hG, fun i hi => List.Nodup.sublist List.filter_sublist List.nodup_range, fun i hi p hp => (mem_ptsOf.1 hp).1, hm, fun i hi p hp => ?_⟩
  have := h.repT hG hi (mem_ptsOf.1 hp).2
  exact ⟨this.g, this.fx, this.im⟩
variable {G : Pm n → Prop} {O : Nat → List Nat} {R : Nat → Nat → Pm n}
theorem ChG.base (h : ChG G O R) {i : Nat} (hi : i < n) : i ∈ O i := (h.mem i hi i).2 ⟨PlainPm.one n, h.isG.one, Fx.one (by omega), one_at hi⟩
theorem ChG.pos (h : ChG G O R) {i : Nat} (hi : i < n) : 0 < (O i).length := List.length_pos_of_mem (h.base hi)
theorem ChG.short (h : ChG G O R) {i : Nat} (hi : i < n) : (O i).length ≤ n := by
  have := sub_len (m := List.range n) (h.nd i hi) (fun p hp => List.mem_range.2 (h.lt i hi p hp))
  simpa using this
theorem ChG.pick (h : ChG G O R) {i : Nat} (hi : i < n) {x y : Pm n} (hy : G y) (hx : G x) (hxy : ∀ j, j < i → y.at j = x.at j) : y.inv.at (x.at i) ∈ O i := by
  refine (h.mem i hi _).2 ⟨x.mul y.inv, h.isG.mul hx (h.isG.inv hy), fun j hj => ?_, Pm.mul_at _ _ hi⟩
  rw [Pm.mul_at _ _ (by omega), ← hxy j hj, y.inv_of (by omega)]
theorem ChG.step (h : ChG G O R) {i q : Nat} (hi : i < n) {y : Pm n} (hy : G y) (hq : q ∈ O i) :
    G ((R i q).mul y) ∧ (∀ j, j < i → ((R i q).mul y).at j = y.at j) ∧ ((R i q).mul y).at i = y.at q := by
  obtain ⟨h1, h2, h3⟩ := h.rep i hi q hq
  exact ⟨h.isG.mul h1 hy, fun j hj => by rw [Pm.mul_at _ _ (by omega), h2 j hj], by rw [Pm.mul_at _ _ hi, h3]⟩
/-- The sizes of the levels' groups. -/
def szF (O : Nat → List Nat) : Nat → Nat → Nat
  | 0, _ => 1
  | f + 1, i => (O i).length * szF O f (i + 1)
theorem ChG.sz_pos (h : ChG G O R) : ∀ {f i : Nat}, i + f = n → 0 < szF O f i
  | 0, _, _ => by simp [szF]
  | f + 1, i, hf => Nat.mul_pos (h.pos (by omega)) (h.sz_pos (f := f) (by omega))
theorem ChG.sz_le (h : ChG G O R) {m : Nat} (hm : n ≤ m) : ∀ {f i : Nat}, i + f = n → szF O f i ≤ m ^ f
  | 0, _, _ => by simp [szF]
  | f + 1, i, hf => by
    have h1 := h.sz_le hm (f := f) (i := i + 1) (by omega)
    have h2 := h.short (i := i) (by omega)
    rw [szF, Nat.pow_succ, Nat.mul_comm]
    exact Nat.mul_le_mul h1 (by omega)
/-- The level at which sifting ends. -/
def sfG (O : Nat → List Nat) (R : Nat → Nat → Pm n) : Nat → Nat → Pm n → Nat
  | 0, i, _ => i
  | f + 1, i, x => if x.at i ∈ O i then sfG O R f (i + 1) (x.mul (R i (x.at i)).inv) else i
theorem ChG.sf_iff (h : ChG G O R) : ∀ {f i : Nat} {x : Pm n}, i + f = n → Fx i x → (sfG O R f i x = n ↔ G x)
  | 0, i, x, hf, hx => by
    have hi : i = n := by omega
    subst hi
    rw [Fx.all hx]
    exact ⟨fun _ => h.isG.one, fun _ => rfl⟩
  | f + 1, i, x, hf, hx => by
    have hi : i < n := by omega
    by_cases hm : x.at i ∈ O i
    · rw [sfG, if_pos hm]
      obtain ⟨h1, h2, h3⟩ := h.rep i hi _ hm
      have hx' : Fx (i + 1) (x.mul (R i (x.at i)).inv) := by
        refine (hx.mul (by omega) (h2.inv (by omega))).succ ?_
        have := (R i (x.at i)).inv_of (i := i) hi
        rw [h3] at this
        rw [Pm.mul_at _ _ hi, this]
      rw [h.sf_iff (f := f) (by omega) hx']
      constructor
      · intro hg
        have := h.isG.mul hg h1
        rwa [Pm.inv_mul_cancel] at this
      · exact fun hg => h.isG.mul hg (h.isG.inv h1)
    · rw [sfG, if_neg hm]
      exact ⟨fun e => by omega, fun hg => absurd ((h.mem i hi _).2 ⟨x, hg, hx, rfl⟩) hm⟩
/-- How many images are less. -/
def cnt (y : Pm n) (l : List Nat) (v : Nat) : Nat := l.countP fun q => decide (y.at q < v)
theorem cnt_le (y : Pm n) (l : List Nat) (v : Nat) : cnt y l v ≤ l.length := List.countP_le_length
/-- The rank; nothing for what is no element. -/
def rkF (O : Nat → List Nat) (R : Nat → Nat → Pm n) (x : Pm n) : Nat → Nat → Pm n → Nat → Option Nat
  | 0, _, _, a => some a
  | f + 1, i, y, a => if y.inv.at (x.at i) ∈ O i then rkF O R x f (i + 1) ((R i (y.inv.at (x.at i))).mul y) (a + cnt y (O i) (x.at i) * szF O f (i + 1)) else none
theorem ChG.rk_some (h : ChG G O R) {x : Pm n} : ∀ {f i a : Nat} {y : Pm n}, i + f = n → G y → (∀ j, j < i → y.at j = x.at j) → ((rkF O R x f i y a).isSome = true ↔ G x)
  | 0, i, a, y, hf, hy, hxy => by
    have : y = x := Pm.ext fun j hj => hxy j (by omega)
    subst this
    simp [rkF, hy]
  | f + 1, i, a, y, hf, hy, hxy => by
    have hi : i < n := by omega
    by_cases hm : y.inv.at (x.at i) ∈ O i
    · rw [rkF, if_pos hm]
      obtain ⟨h1, h2, h3⟩ := h.step hi hy hm
      refine h.rk_some (f := f) (by omega) h1 fun j hj => ?_
      by_cases e : j = i
      · subst e; rw [h3, (y.inv_at (x.lt hi)).2]
      · rw [h2 j (by omega)]; exact hxy j (by omega)
    · rw [rkF, if_neg hm]
      exact ⟨fun e => by simp at e, fun hx => absurd (h.pick hi hy hx hxy) hm⟩
/-- The least element of the coset. -/
def lstF (O : Nat → List Nat) (R : Nat → Nat → Pm n) : Nat → Nat → Pm n → Pm n
  | 0, _, x => x
  | f + 1, i, x => lstF O R f (i + 1) ((R i (best x (O i) ((O i).headD 0))).mul x)
theorem ChG.best_mem (h : ChG G O R) {i : Nat} (hi : i < n) (x : Pm n) : best x (O i) ((O i).headD 0) ∈ O i := by
  rcases (best_spec x (O i) ((O i).headD 0)).1 with e | e
  · rw [e]
    have := h.pos hi
    match ho : O i with
    | [] => rw [ho] at this; simp at this
    | p :: l => simp
  · exact e
/-- The point whose image has so many images below it. -/
def selQ (y : Pm n) (l : List Nat) (s : Nat) : Nat := (l.find? fun q => cnt y l (y.at q) == s).getD 0
theorem cnt_inj {y : Pm n} {l : List Nat} (hl : ∀ p ∈ l, p < n) {p q : Nat} (hp : p ∈ l) (hq : q ∈ l) (h : cnt y l (y.at p) = cnt y l (y.at q)) : p = q := by
  refine y.inj (hl p hp) (hl q hq) ?_
  have key : ∀ {a b : Nat}, a ∈ l → y.at a < y.at b → cnt y l (y.at a) < cnt y l (y.at b) := fun {a b} ha hab => by
    unfold cnt
    have h1 : ∀ m : List Nat, m.countP (fun q => decide (y.at q < y.at a)) ≤ m.countP (fun q => decide (y.at q < y.at b)) := fun m =>
      List.countP_mono_left fun q _ hq => by
        rw [decide_eq_true_iff] at hq ⊢; omega
    obtain ⟨l1, l2, rfl⟩ := List.append_of_mem ha
    have a1 := h1 l1
    have a2 := h1 l2
    rw [List.countP_append, List.countP_append, List.countP_cons_of_neg (by simp), List.countP_cons_of_pos (by simpa using hab)]
    omega
  rcases Nat.lt_trichotomy (y.at p) (y.at q) with h1 | h1 | h1
  · have := key hp h1; omega
  · exact h1
  · have := key hq h1; omega
theorem selQ_eq {y : Pm n} {l : List Nat} (hl : ∀ p ∈ l, p < n) {q s : Nat} (hq : q ∈ l) (h : cnt y l (y.at q) = s) : selQ y l s = q := by
  unfold selQ
  cases hf : l.find? (fun q => cnt y l (y.at q) == s) with
  | none =>
    have := List.find?_eq_none.1 hf q hq
    simp [h] at this
  | some p =>
    have h1 := List.find?_some hf
    have h2 := List.mem_of_find?_eq_some hf
    rw [beq_iff_eq] at h1
    exact cnt_inj (y := y) hl h2 hq (h1.trans h.symm)
/-- The element with a rank. -/
def unF (O : Nat → List Nat) (R : Nat → Nat → Pm n) : Nat → Nat → Pm n → Nat → Pm n
  | 0, _, y, _ => y
  | f + 1, i, y, k => unF O R f (i + 1) ((R i (selQ y (O i) (k / szF O f (i + 1)))).mul y) (k % szF O f (i + 1))
/-- In a sorted list without doubles the number of lesser ones is the place. -/
theorem countP_sorted {l : List Int} (hs : l.Pairwise (· < ·)) {s : Nat} (hl : s < l.length) : l.countP (fun v => decide (v < l[s])) = s := by
  induction l generalizing s with
  | nil => simp at hl
  | cons a l ih =>
    rw [List.pairwise_cons] at hs
    match s with
    | 0 =>
      rw [List.countP_eq_zero]
      intro v hv
      simp only [List.getElem_cons_zero, decide_eq_true_iff]
      rcases List.mem_cons.1 hv with rfl | hv
      · omega
      · have := hs.1 v hv; omega
    | s + 1 =>
      have hl' : s < l.length := by simpa using hl
      simp only [List.getElem_cons_succ]
      rw [List.countP_cons_of_pos (by simpa using hs.1 _ (List.getElem_mem hl')), ih hs.2 hl']
/-- The image at a place of the sorted images is that of selQ. -/
theorem sel_sorted {y : Pm n} {l : List Nat} (hl : ∀ p ∈ l, p < n) (hd : l.Nodup) {m : List Int} (hp : m.Perm (l.map fun q => (y.at q : Int))) (hs : m.Pairwise (· ≤ ·)) {s : Nat} (h : s < l.length) :
    selQ y l s ∈ l ∧ cnt y l (y.at (selQ y l s)) = s ∧ m[s]? = some ((y.at (selQ y l s) : Nat) : Int) := by
  have hml : m.length = l.length := by rw [hp.length_eq, List.length_map]
  have hnd : m.Nodup := hp.nodup_iff.2 (nodup_map_on hd fun a ha b hb e => y.inj (hl a ha) (hl b hb) (by omega))
  have hs' : m.Pairwise (· < ·) := (hs.and hnd).imp fun h => by have := h.1; have := h.2; omega
  have hsm : s < m.length := by omega
  obtain ⟨q, hq, he⟩ := List.mem_map.1 (hp.mem_iff.1 (List.getElem_mem hsm))
  have hc := countP_sorted hs' hsm
  rw [hp.countP_eq, List.countP_map, ← he] at hc
  have hc2 : cnt y l (y.at q) = s := by
    rw [← hc]
    unfold cnt
    congr 1
    funext p
    simp
  have := selQ_eq hl hq hc2
  rw [this]
  exact ⟨hq, hc2, by rw [List.getElem?_eq_getElem hsm, ← he]⟩
end
end Go.Proofs.YtbejhkojdiadaaaGreat.PlainPm
