/- The least elements of a tower; the reference's table of permutations; closed, it is a tower: plain. -/
import Derived.Test.YtbejhkojdiadaaaGreatPlainPm
set_option linter.unusedSimpArgs false
set_option linter.unusedVariables false
namespace Go.Proofs.YtbejhkojdiadaaaGreat.PlainPm
section
variable {n : Nat}
/-- In the order of the lists. -/
def lexLe (x y : Pm n) : Prop := x = y ∨ ∃ k, k < n ∧ (∀ j, j < k → x.at j = y.at j) ∧ x.at k < y.at k
theorem lexLe.antisymm {x y : Pm n} (h : lexLe x y) (k : lexLe y x) : x = y := by
  rcases h with h | ⟨a, _, ha, la⟩
  · exact h
  rcases k with k | ⟨b, _, hb, lb⟩
  · exact k.symm
  rcases Nat.lt_trichotomy a b with h | h | h
  · have := hb a h; omega
  · subst h; omega
  · have := ha b h; omega
def best (x : Pm n) (l : List Nat) (b : Nat) : Nat := l.foldl (fun b q => if x.at q < x.at b then q else b) b
theorem best_cons (x : Pm n) (q : Nat) (l : List Nat) (b : Nat) : best x (q :: l) b = best x l (if x.at q < x.at b then q else b) := rfl
theorem best_snoc (x : Pm n) (l : List Nat) (q b : Nat) : best x (l ++ [q]) b = if x.at q < x.at (best x l b) then q else best x l b := by
  unfold best; rw [List.foldl_append]; rfl
theorem best_spec (x : Pm n) : ∀ (l : List Nat) (b : Nat), (best x l b = b ∨ best x l b ∈ l) ∧ x.at (best x l b) ≤ x.at b ∧ ∀ q ∈ l, x.at (best x l b) ≤ x.at q
  | [], b => ⟨.inl rfl, Nat.le_refl _, by simp⟩
  | q :: l, b => by
    rw [best_cons]
    by_cases e : x.at q < x.at b
    · rw [if_pos e]
      obtain ⟨h1, h2, h3⟩ := best_spec x l q
      refine ⟨.inr ?_, by omega, fun p hp => ?_⟩
      · rcases h1 with h1 | h1
        · rw [h1]; simp
        · simp [h1]
      · rcases List.mem_cons.1 hp with rfl | hp
        · exact h2
        · exact h3 p hp
    · rw [if_neg e]
      obtain ⟨h1, h2, h3⟩ := best_spec x l b
      refine ⟨?_, h2, fun p hp => ?_⟩
      · rcases h1 with h1 | h1
        · exact .inl h1
        · exact .inr (by simp [h1])
      · rcases List.mem_cons.1 hp with rfl | hp
        · omega
        · exact h3 p hp
/-- The least product of what the levels from k on make and x. -/
def leastT (T : Tw n) : Nat → Nat → Pm n → Pm n
  | 0, _, x => x
  | f + 1, k, x => leastT T f (k + 1) (if best x (T k).orb k = k then x else (((T k).to (best x (T k).orb k)).getD (one n)).mul x)
theorem least_next {T : Tw n} (hT : Wf T) {k : Nat} (hk : k < n) (x : Pm n) : ∃ y, (T k).to (best x (T k).orb k) = some y ∧ (if best x (T k).orb k = k then x else (((T k).to (best x (T k).orb k)).getD (one n)).mul x) = y.mul x := by
  have w := hT k hk
  have hb : best x (T k).orb k ∈ (T k).orb := by
    rcases (best_spec x (T k).orb k).1 with h | h
    · rw [h]; exact (w.orb k).2 (by rw [w.base]; rfl)
    · exact h
  obtain ⟨y, hy⟩ := Option.isSome_iff_exists.1 ((w.orb _).1 hb)
  refine ⟨y, hy, ?_⟩
  by_cases e : best x (T k).orb k = k
  · rw [if_pos e]
    rw [e, w.base] at hy
    rw [← Option.some.inj hy, Pm.one_mul]
  · rw [if_neg e, hy]; rfl
theorem leastT_spec {T : Tw n} (hT : Wf T) : ∀ {f k : Nat} (x : Pm n), k + f = n → (∃ u, S T f k u ∧ leastT T f k x = u.mul x) ∧ ∀ v, S T f k v → lexLe (leastT T f k x) (v.mul x)
  | 0, k, x, hf => by
    have hk : k = n := by omega
    subst hk
    exact ⟨⟨one k, Fx.one (Nat.le_refl _), (Pm.one_mul _).symm⟩, fun v hv => .inl (by rw [Fx.all hv, Pm.one_mul]; rfl)⟩
  | f + 1, k, x, hf => by
    have hk : k < n := by omega
    have w := hT k hk
    obtain ⟨y, hy, he⟩ := least_next hT hk x
    obtain ⟨b, hb⟩ : ∃ b, best x (T k).orb k = b := ⟨_, rfl⟩
    obtain ⟨_, b2, b3⟩ := best_spec x (T k).orb k
    rw [hb] at hy b2 b3
    have hl : leastT T (f + 1) k x = leastT T f (k + 1) (y.mul x) := by rw [leastT, he]
    rw [hl]
    obtain ⟨⟨u, hu, e⟩, hmin⟩ := leastT_spec hT (f := f) (k := k + 1) (y.mul x) (by omega)
    have hyk : y.at k = b := ((w.img b y hy).2).1
    have hrk : (leastT T f (k + 1) (y.mul x)).at k = x.at b := by
      rw [e, Pm.mul_at _ _ hk, hu.fx k (by omega), Pm.mul_at _ _ hk, hyk]
    have hrj : ∀ j, j < k → (leastT T f (k + 1) (y.mul x)).at j = x.at j := fun j hj => by
      rw [e, Pm.mul_at _ _ (by omega), hu.fx j (by omega), Pm.mul_at _ _ (by omega), (w.img b y hy).2.2 j hj]
    refine ⟨⟨u.mul y, S.mk hT hk hu hy, by rw [e, Pm.mul_assoc]⟩, fun v hv => ?_⟩
    have hvo : v.at k ∈ (T k).orb := by
      obtain ⟨_, z, hz, _⟩ := hv
      exact (w.orb _).2 (by rw [hz]; rfl)
    have hge := b3 _ hvo
    by_cases h : x.at b = x.at (v.at k)
    · have hbn := (w.img b y hy).1
      have heq : b = v.at k := x.inj hbn (v.lt hk) h
      obtain ⟨y2, u2, k1, k2, e2⟩ := hv.split
      rw [← heq, hy] at k1
      obtain rfl := Option.some.inj k1
      rw [e2, Pm.mul_assoc]
      exact hmin u2 k2
    · refine .inr ⟨k, hk, fun j hj => ?_, ?_⟩
      · rw [hrj j hj, Pm.mul_at _ _ (by omega), hv.fx j hj]
      · rw [hrk, Pm.mul_at _ _ hk]; omega
/-- The least element that maps i to p of what fixes the points below i. -/
structure Rep (G : Pm n → Prop) (i p : Nat) (r : Pm n) : Prop where
  g : G r
  fx : Fx i r
  im : r.at i = p
  le : ∀ y, G y → Fx i y → y.at i = p → lexLe r y
theorem Rep.uniq {G : Pm n → Prop} {i p : Nat} {r r' : Pm n} (h : Rep G i p r) (k : Rep G i p r') : r = r' :=
  (h.le r' k.g k.fx k.im).antisymm (k.le r h.g h.fx h.im)
/-- A tower of a group. -/
structure Of (G : Pm n → Prop) (T : Tw n) : Prop where
  wf : Wf T
  mem : ∀ i, i ≤ n → ∀ x, S T (n - i) i x ↔ (G x ∧ Fx i x)
theorem Built.of {L : List (Pm n)} {T : Tw n} (h : Built L T) : Of (Grp (· ∈ L)) T := ⟨h.inv.wf, h.stab⟩
theorem Of.orb {G : Pm n → Prop} {T : Tw n} (h : Of G T) {i : Nat} (hi : i < n) (p : Nat) : p ∈ (T i).orb ↔ ∃ y, G y ∧ Fx i y ∧ y.at i = p := by
  rw [((h.wf i hi).orb p)]
  constructor
  · intro hs
    obtain ⟨y, hy⟩ := Option.isSome_iff_exists.1 hs
    obtain ⟨_, k2, k3⟩ := (h.wf i hi).img p y hy
    exact ⟨y, ((h.mem i (by omega) y).1 (s_top h.wf hi hy)).1, k3, k2⟩
  · rintro ⟨y, h1, h2, h3⟩
    have := (h.mem i (by omega) y).2 ⟨h1, h2⟩
    rw [show n - i = n - i - 1 + 1 by omega] at this
    obtain ⟨_, z, hz, _⟩ := this
    rw [h3] at hz; rw [hz]; rfl
theorem Of.rep {G : Pm n → Prop} (hG : IsG G) {T : Tw n} (h : Of G T) {i p : Nat} {y : Pm n} (hi : i < n) (hy : (T i).to p = some y) : Rep G i p (leastT T (n - (i + 1)) (i + 1) y) := by
  have w := h.wf i hi
  obtain ⟨_, k2, k3⟩ := w.img p y hy
  have hgy := ((h.mem i (by omega) y).1 (s_top h.wf hi hy)).1
  obtain ⟨⟨u, hu, e⟩, hmin⟩ := leastT_spec h.wf (f := n - (i + 1)) (k := i + 1) y (by omega)
  have hu' := (h.mem (i + 1) (by omega) u).1 hu
  refine ⟨by rw [e]; exact hG.mul hu'.1 hgy, by rw [e]; exact (hu'.2.mono (by omega)).mul (by omega) k3, by rw [e, Pm.mul_at _ _ hi, hu'.2 i (by omega), k2], fun z hz hfz hzp => ?_⟩
  have hz' := (h.mem i (by omega) z).2 ⟨hz, hfz⟩
  rw [show n - i = n - (i + 1) + 1 by omega] at hz'
  obtain ⟨y2, u2, k4, k5, e2⟩ := hz'.split
  rw [hzp, hy] at k4
  obtain rfl := Option.some.inj k4
  rw [e2]
  exact hmin u2 k5
/-- The points of an orbit, ascending. -/
def ptsOf (n : Nat) (l : List Nat) : List Nat := (List.range n).filter fun p => decide (p ∈ l)
theorem Of.pts {G : Pm n → Prop} {T T' : Tw n} (h : Of G T) (h' : Of G T') {i : Nat} (hi : i < n) : ptsOf n (T i).orb = ptsOf n (T' i).orb := by
  unfold ptsOf
  congr 1
  funext p
  rw [Bool.eq_iff_iff, decide_eq_true_iff, decide_eq_true_iff, h.orb hi, h'.orb hi]
def repT (T : Tw n) (i p : Nat) : Pm n := leastT T (n - (i + 1)) (i + 1) (((T i).to p).getD (one n))
/-- The chain of a tower. -/
def orbsT (T : Tw n) : List (List Nat) := (List.range n).map fun i => ptsOf n (T i).orb
def repsT (T : Tw n) : List (List (Pm n)) := (List.range n).map fun i => (ptsOf n (T i).orb).map (repT T i)
theorem mem_ptsOf {l : List Nat} {p : Nat} : p ∈ ptsOf n l ↔ p < n ∧ p ∈ l := by simp [ptsOf]
theorem Of.repT {G : Pm n → Prop} (hG : IsG G) {T : Tw n} (h : Of G T) {i p : Nat} (hi : i < n) (hp : p ∈ (T i).orb) : Rep G i p (repT T i p) := by
  obtain ⟨y, hy⟩ := Option.isSome_iff_exists.1 (((h.wf i hi).orb p).1 hp)
  unfold PlainPm.repT
  rw [hy]
  exact h.rep hG hi hy
/-- Two towers of one group have one chain. -/
theorem Of.same {G : Pm n → Prop} (hG : IsG G) {T T' : Tw n} (h : Of G T) (h' : Of G T') : orbsT T = orbsT T' ∧ repsT T = repsT T' := by
  constructor
  · unfold orbsT
    exact List.map_congr_left fun i hi => h.pts h' (List.mem_range.1 hi)
  · unfold repsT
    apply List.map_congr_left
    intro i hi
    have hi := List.mem_range.1 hi
    rw [← h.pts h' hi]
    apply List.map_congr_left
    intro p hp
    have hp := (mem_ptsOf.1 hp).2
    exact (h.repT hG hi hp).uniq (h'.repT hG hi ((h'.orb hi p).2 ((h.orb hi p).1 hp)))
theorem Of.congr {G G' : Pm n → Prop} {T : Tw n} (h : Of G T) (e : ∀ x, G x ↔ G' x) : Of G' T := ⟨h.wf, fun i hi x => by rw [h.mem i hi x, e x]⟩
end
end Go.Proofs.YtbejhkojdiadaaaGreat.PlainPm
namespace Go.Proofs.YtbejhkojdiadaaaGreat.PlainPm
section
variable {n : Nat}
instance : DecidableEq (Pm n) := fun x y => if h : x.l = y.l then .isTrue (Pm.ext' h) else .isFalse fun e => h (by rw [e])
/-- The entries of a table, row after row. -/
def rowE (n : Nat) (t : Nat → Nat → Option (Pm n)) (i : Nat) : List (Pm n) := (List.range n).filterMap (t i)
def entL (n : Nat) (t : Nat → Nat → Option (Pm n)) : List (Pm n) := (List.range n).flatMap (rowE n t)
def entF (n : Nat) (t : Nat → Nat → Option (Pm n)) (i : Nat) : List (Pm n) := (List.range n).flatMap fun j => if i ≤ j then rowE n t j else []
/-- A table as a tower. -/
def tabTw (t : Nat → Nat → Option (Pm n)) : Tw n := fun i => ⟨entF n t i, (List.range n).filter fun p => decide (p = i) || (t i p).isSome, fun p => if p = i then some (one n) else t i p, fun _ => 0⟩
structure TabOk (t : Nat → Nat → Option (Pm n)) : Prop where
  ok : ∀ i p y, t i p = some y → i < n ∧ p < n ∧ p ≠ i ∧ y.at i = p ∧ Fx i y
theorem mem_entL {t : Nat → Nat → Option (Pm n)} (h : TabOk t) {y : Pm n} : y ∈ entL n t ↔ ∃ i p, t i p = some y := by
  unfold entL rowE
  rw [List.mem_flatMap]
  constructor
  · rintro ⟨i, _, hy⟩
    obtain ⟨p, _, hp⟩ := List.mem_filterMap.1 hy
    exact ⟨i, p, hp⟩
  · rintro ⟨i, p, hp⟩
    obtain ⟨h1, h2, _⟩ := h.ok i p y hp
    exact ⟨i, List.mem_range.2 h1, List.mem_filterMap.2 ⟨p, List.mem_range.2 h2, hp⟩⟩
theorem mem_entF {t : Nat → Nat → Option (Pm n)} (h : TabOk t) {i : Nat} {y : Pm n} : y ∈ entF n t i ↔ ∃ j p, i ≤ j ∧ t j p = some y := by
  unfold entF rowE
  rw [List.mem_flatMap]
  constructor
  · rintro ⟨j, _, hy⟩
    by_cases e : i ≤ j
    · rw [if_pos e] at hy
      obtain ⟨p, _, hp⟩ := List.mem_filterMap.1 hy
      exact ⟨j, p, e, hp⟩
    · rw [if_neg e] at hy; cases hy
  · rintro ⟨j, p, hij, hp⟩
    obtain ⟨h1, h2, _⟩ := h.ok j p y hp
    refine ⟨j, List.mem_range.2 h1, ?_⟩
    rw [if_pos hij]
    exact List.mem_filterMap.2 ⟨p, List.mem_range.2 h2, hp⟩
/-- The place of an entry is determined. -/
theorem TabOk.place {t : Nat → Nat → Option (Pm n)} (h : TabOk t) {i p j q : Nat} {y : Pm n} (h1 : t i p = some y) (h2 : t j q = some y) : i = j ∧ p = q := by
  obtain ⟨a1, a2, a3, a4, a5⟩ := h.ok i p y h1
  obtain ⟨b1, b2, b3, b4, b5⟩ := h.ok j q y h2
  rcases Nat.lt_trichotomy i j with e | e | e
  · have := b5 i e; omega
  · subst e; exact ⟨rfl, by omega⟩
  · have := a5 j e; omega
theorem nodup_filterMap {α β : Type} {f : α → Option β} : ∀ {l : List α}, l.Nodup → (∀ a ∈ l, ∀ b ∈ l, ∀ y, f a = some y → f b = some y → a = b) → (l.filterMap f).Nodup
  | [], _, _ => by simp
  | a :: l, h, hf => by
    rw [List.nodup_cons] at h
    have ih := nodup_filterMap (f := f) h.2 fun x hx y hy => hf x (by simp [hx]) y (by simp [hy])
    cases e : f a with
    | none => rw [List.filterMap_cons_none e]; exact ih
    | some y =>
      rw [List.filterMap_cons_some e, List.nodup_cons]
      refine ⟨fun hm => ?_, ih⟩
      obtain ⟨b, hb, hfb⟩ := List.mem_filterMap.1 hm
      have := hf a (by simp) b (by simp [hb]) y e hfb
      exact h.1 (this ▸ hb)
theorem nodup_flatMap {α β : Type} {f : α → List β} : ∀ {l : List α}, l.Nodup → (∀ a ∈ l, (f a).Nodup) → (∀ a ∈ l, ∀ b ∈ l, ∀ y, y ∈ f a → y ∈ f b → a = b) → (l.flatMap f).Nodup
  | [], _, _, _ => by simp
  | a :: l, h, h1, h2 => by
    rw [List.nodup_cons] at h
    rw [List.flatMap_cons, List.nodup_append]
    refine ⟨h1 a (by simp), nodup_flatMap h.2 (fun x hx => h1 x (by simp [hx])) fun x hx y hy => h2 x (by simp [hx]) y (by simp [hy]), ?_⟩
    rintro y hy z hz rfl
    obtain ⟨b, hb, hyb⟩ := List.mem_flatMap.1 hz
    have := h2 a (by simp) b (by simp [hb]) y hy hyb
    exact h.1 (this ▸ hb)
theorem entL_nodup {t : Nat → Nat → Option (Pm n)} (h : TabOk t) : (entL n t).Nodup := by
  refine nodup_flatMap List.nodup_range (fun i _ => nodup_filterMap List.nodup_range fun p _ q _ y h1 h2 => (h.place h1 h2).2) fun i _ j _ y h1 h2 => ?_
  obtain ⟨p, _, hp⟩ := List.mem_filterMap.1 h1
  obtain ⟨q, _, hq⟩ := List.mem_filterMap.1 h2
  exact (h.place hp hq).1
theorem entL_len (t : Nat → Nat → Option (Pm n)) : (entL n t).length ≤ n * n := by
  have key : ∀ m, ((List.range m).flatMap (rowE n t)).length ≤ m * n := by
    intro m
    induction m with
    | zero => simp
    | succ m ih =>
      have : (rowE n t m).length ≤ n := by have := List.length_filterMap_le (t m) (List.range n); simpa [rowE] using this
      rw [List.range_succ, List.flatMap_append, List.length_append, Nat.add_mul, List.flatMap_singleton]
      omega
  exact key n
def setE (t : Nat → Nat → Option (Pm n)) (a p : Nat) (r : Pm n) : Nat → Nat → Option (Pm n) := fun i q => if i = a ∧ q = p then some r else t i q
theorem tab_wf {t : Nat → Nat → Option (Pm n)} (h : TabOk t) : Wf (tabTw t) := by
  intro i hi
  refine ⟨if_pos rfl, ?_, ?_, List.Nodup.sublist List.filter_sublist List.nodup_range, ?_, fun q => Nat.zero_le _, fun q _ => rfl⟩
  · intro p y hy
    have hy : (if p = i then some (one n) else t i p) = some y := hy
    by_cases e : p = i
    · rw [if_pos e] at hy
      rw [← Option.some.inj hy]
      subst e
      exact ⟨hi, one_at hi, Fx.one (by omega)⟩
    · rw [if_neg e] at hy
      obtain ⟨_, h2, _, h4, h5⟩ := h.ok i p y hy
      exact ⟨h2, h4, h5⟩
  · intro p
    show p ∈ (List.range n).filter _ ↔ (if p = i then some (one n) else t i p).isSome = true
    rw [List.mem_filter, List.mem_range]
    by_cases e : p = i
    · subst e; simp [hi]
    · rw [if_neg e]
      simp only [e, decide_false, Bool.false_or]
      constructor
      · exact fun h => h.2
      · intro hs
        obtain ⟨y, hy⟩ := Option.isSome_iff_exists.1 hs
        exact ⟨(h.ok i p y hy).2.1, hs⟩
  · intro s hs
    obtain ⟨j, p, hij, hp⟩ := (mem_entF h).1 hs
    exact ((h.ok j p s hp).2.2.2.2).mono hij
/-- A residue is entered. -/
theorem tab_set {t : Nat → Nat → Option (Pm n)} (h : TabOk t) {x r : Pm n} {a : Nat} (hs : sft (tabTw t) n 0 x = (a, r)) (ha : a < n) :
    TabOk (setE t a (r.at a) r) ∧ More (tabTw t) (tabTw (setE t a (r.at a) r)) ∧ S (tabTw (setE t a (r.at a) r)) n 0 x ∧ t a (r.at a) = none ∧ (entL n t).length < (entL n (setE t a (r.at a) r)).length ∧ r.at a ≠ a := by
  have hw := tab_wf h
  obtain ⟨_, _, s3, s4, s5, _⟩ := sft_spec (f := n) (i := 0) (x := x) hw (by omega) (fun j hj => by omega)
  rw [hs] at s3 s4 s5
  dsimp only at s3 s4 s5
  have hno : (if r.at a = a then some (one n) else t a (r.at a)) = none := s4 ha
  have hne : r.at a ≠ a := fun e => by rw [if_pos e] at hno; cases hno
  rw [if_neg hne] at hno
  have hok : TabOk (setE t a (r.at a) r) := ⟨fun i p y hy => by
    unfold setE at hy
    by_cases e : i = a ∧ p = r.at a
    · rw [if_pos e] at hy
      rw [← Option.some.inj hy, e.1, e.2]
      exact ⟨ha, r.lt ha, hne, rfl, s3⟩
    · rw [if_neg e] at hy; exact h.ok i p y hy⟩
  have hm : More (tabTw t) (tabTw (setE t a (r.at a) r)) := fun i p y hy => by
    have hy : (if p = i then some (one n) else t i p) = some y := hy
    show (if p = i then some (one n) else setE t a (r.at a) r i p) = some y
    by_cases e : p = i
    · rw [if_pos e] at hy ⊢; exact hy
    · rw [if_neg e] at hy ⊢
      unfold setE
      rw [if_neg (fun e2 => by rw [e2.1, e2.2, hno] at hy; cases hy)]
      exact hy
  have hsr : (tabTw (setE t a (r.at a) r) a).to (r.at a) = some r := by
    show (if r.at a = a then some (one n) else setE t a (r.at a) r a (r.at a)) = some r
    rw [if_neg hne]; exact if_pos ⟨rfl, rfl⟩
  refine ⟨hok, hm, s5 _ (tab_wf hok) hm (s_top (tab_wf hok) ha hsr), hno, ?_, hne⟩
  have h1 : r ∈ entL n (setE t a (r.at a) r) := (mem_entL hok).2 ⟨a, r.at a, if_pos ⟨rfl, rfl⟩⟩
  have h2 : r ∉ entL n t := fun hm => by
    obtain ⟨i, p, hp⟩ := (mem_entL h).1 hm
    have hp' : setE t a (r.at a) r i p = some r := by
      unfold setE
      by_cases e : i = a ∧ p = r.at a
      · rw [if_pos e]
      · rw [if_neg e]; exact hp
    obtain ⟨e1, e2⟩ := hok.place hp' (show setE t a (r.at a) r a (r.at a) = some r from if_pos ⟨rfl, rfl⟩)
    rw [e1, e2, hno] at hp; cases hp
  have := sub_len (l := r :: entL n t) (m := entL n (setE t a (r.at a) r)) (List.nodup_cons.2 ⟨h2, entL_nodup h⟩) (fun y hy => by
    rcases List.mem_cons.1 hy with rfl | hy
    · exact h1
    · obtain ⟨i, p, hp⟩ := (mem_entL h).1 hy
      refine (mem_entL hok).2 ⟨i, p, ?_⟩
      unfold setE
      rw [if_neg (fun e => by rw [e.1, e.2, hno] at hp; cases hp)]
      exact hp)
  rw [List.length_cons] at this
  omega
/-- The table after the elements of a list were inserted. -/
structure TabS (L : List (Pm n)) (t : Nat → Nat → Option (Pm n)) : Prop where
  ok : TabOk t
  cl : ∀ i p y, t i p = some y → Grp (· ∈ L) y
  mem : ∀ x ∈ L, S (tabTw t) n 0 x
theorem TabS.start : TabS (n := n) [] (fun _ _ => none) := ⟨⟨fun i p y h => (by cases h)⟩, fun i p y h => (by cases h), by simp⟩
theorem TabS.inH {L : List (Pm n)} {t : Nat → Nat → Option (Pm n)} (h : TabS L t) : InH (tabTw t) 0 (Grp (· ∈ L)) := fun j _ hj => ⟨fun p y hy => by
    have hy : (if p = j then some (one n) else t j p) = some y := hy
    by_cases e : p = j
    · rw [if_pos e] at hy; rw [← Option.some.inj hy]; exact .one
    · rw [if_neg e] at hy; exact h.cl j p y hy, fun s hs => by
    obtain ⟨i, p, _, hp⟩ := (mem_entF h.ok).1 hs
    exact h.cl i p s hp⟩
/-- An element of the group is inserted. -/
theorem TabS.set {L : List (Pm n)} {t : Nat → Nat → Option (Pm n)} {x r : Pm n} {a : Nat} (h : TabS L t) (hx : Grp (· ∈ L) x) (hs : sft (tabTw t) n 0 x = (a, r)) (ha : a < n) : TabS L (setE t a (r.at a) r) := by
  obtain ⟨h1, h2, h3, _, _, _⟩ := tab_set h.ok hs ha
  obtain ⟨_, _, _, _, _, s6⟩ := sft_spec (f := n) (i := 0) (x := x) (tab_wf h.ok) (by omega) (fun j hj => by omega)
  have hr := s6 _ Grp.isG h.inH hx
  rw [hs] at hr
  dsimp only at hr
  refine ⟨h1, fun i p y hy => ?_, fun y hy => (h.mem y hy).more h2⟩
  unfold setE at hy
  by_cases e : i = a ∧ p = r.at a
  · rw [if_pos e] at hy; rw [← Option.some.inj hy]; exact hr
  · rw [if_neg e] at hy; exact h.cl i p y hy
theorem TabS.weak {L : List (Pm n)} {t : Nat → Nat → Option (Pm n)} {x : Pm n} (h : TabS L t) (hx : S (tabTw t) n 0 x) : TabS (L ++ [x]) t :=
  ⟨h.ok, fun i p y hy => (h.cl i p y hy).sub Grp.isG fun s hs => Grp.base (by simp [hs]), fun y hy => by
    rcases List.mem_append.1 hy with hy | hy
    · exact h.mem y hy
    · have : y = x := by simpa using hy
      rw [this]; exact hx⟩
theorem tab_end {t : Nat → Nat → Option (Pm n)} (h : TabOk t) {x r : Pm n} (hs : sft (tabTw t) n 0 x = (n, r)) : S (tabTw t) n 0 x := sft_end (tab_wf h) (by omega) (fun j hj => by omega) hs
theorem TabS.snocEnd {L : List (Pm n)} {t : Nat → Nat → Option (Pm n)} {x r : Pm n} (h : TabS L t) (hs : sft (tabTw t) n 0 x = (n, r)) : TabS (L ++ [x]) t := h.weak (tab_end h.ok hs)
theorem TabS.snocSet {L : List (Pm n)} {t : Nat → Nat → Option (Pm n)} {x r : Pm n} {a : Nat} (h : TabS L t) (hs : sft (tabTw t) n 0 x = (a, r)) (ha : a < n) : TabS (L ++ [x]) (setE t a (r.at a) r) := by
  obtain ⟨h1, h2, h3, _, _, _⟩ := tab_set h.ok hs ha
  have hL : ∀ z, Grp (· ∈ L) z → Grp (· ∈ L ++ [x]) z := fun z hz => hz.sub Grp.isG fun s hs => Grp.base (by simp [hs])
  obtain ⟨_, _, _, _, _, s6⟩ := sft_spec (f := n) (i := 0) (x := x) (tab_wf h.ok) (by omega) (fun j hj => by omega)
  have hr := s6 (Grp (· ∈ L ++ [x])) Grp.isG (fun j a b => ⟨fun p y hy => hL _ ((h.inH j a b).1 p y hy), fun s hs => hL _ ((h.inH j a b).2 s hs)⟩) (Grp.base (by simp))
  rw [hs] at hr
  dsimp only at hr
  refine ⟨h1, fun i p y hy => ?_, fun y hy => ?_⟩
  · unfold setE at hy
    by_cases e : i = a ∧ p = r.at a
    · rw [if_pos e] at hy; rw [← Option.some.inj hy]; exact hr
    · rw [if_neg e] at hy; exact hL _ (h.cl i p y hy)
  · rcases List.mem_append.1 hy with hy | hy
    · exact (h.mem y hy).more h2
    · have : y = x := by simpa using hy
      rw [this]; exact h3
theorem s_downs {T : Tw n} (hT : Wf T) : ∀ {i : Nat} {x : Pm n}, i ≤ n → S T n 0 x → Fx i x → S T (n - i) i x
  | 0, x, _, h, _ => h
  | i + 1, x, hi, h, hx => by
    have := s_downs hT (i := i) (by omega) h (hx.mono (by omega))
    rw [show n - i = n - (i + 1) + 1 by omega] at this
    exact this.down hT (by omega) (hx i (by omega))
theorem s_ups {T : Tw n} (hT : Wf T) : ∀ {i : Nat} {x : Pm n}, i ≤ n → S T (n - i) i x → S T n 0 x
  | 0, x, _, h => h
  | i + 1, x, hi, h => by
    have := h.up hT (by omega)
    rw [show n - (i + 1) + 1 = n - i by omega] at this
    exact s_ups hT (by omega) this
/-- All products of two entries are made: the table is the group's. -/
theorem TabS.closed {L : List (Pm n)} {t : Nat → Nat → Option (Pm n)} (h : TabS L t) (hp : ∀ x ∈ entL n t, ∀ y ∈ entL n t, S (tabTw t) n 0 (x.mul y)) : Of (Grp (· ∈ L)) (tabTw t) := by
  have hw := tab_wf h.ok
  have hent : ∀ i p y, t i p = some y → S (tabTw t) n 0 y := fun i p y hy => by
    obtain ⟨h1, _, h3, _, _⟩ := h.ok.ok i p y hy
    exact s_ups hw (by omega) (s_top hw h1 (show (if p = i then some (one n) else t i p) = some y by rw [if_neg h3]; exact hy))
  have hc : Comp (tabTw t) := by
    intro i hi q y hy s hs
    obtain ⟨j, p, hij, hjp⟩ := (mem_entF h.ok).1 hs
    obtain ⟨k1, k2, k3⟩ := (hw i hi).img q y hy
    have hfs : Fx i s := ((h.ok.ok j p s hjp).2.2.2.2).mono hij
    refine s_downs hw (by omega) ?_ (k3.mul (by omega) hfs)
    have hy : (if q = i then some (one n) else t i q) = some y := hy
    by_cases e : q = i
    · rw [if_pos e] at hy
      rw [← Option.some.inj hy, Pm.one_mul]
      exact hent j p s hjp
    · rw [if_neg e] at hy
      exact hp y ((mem_entL h.ok).2 ⟨i, q, hy⟩) s ((mem_entL h.ok).2 ⟨j, p, hjp⟩)
  have hsn : ∀ i, i < n → SndL (tabTw t) i := by
    intro i hi j hij hj
    refine ⟨fun p y hy => ?_, fun s hs => ?_⟩
    · have hy : (if p = j then some (one n) else t j p) = some y := hy
      by_cases e : p = j
      · rw [if_pos e] at hy; rw [← Option.some.inj hy]; exact .one
      · rw [if_neg e] at hy; exact Grp.base ((mem_entF h.ok).2 ⟨j, p, hij, hy⟩)
    · obtain ⟨k, p, hjk, hkp⟩ := (mem_entF h.ok).1 hs
      exact Grp.base ((mem_entF h.ok).2 ⟨k, p, by omega, hkp⟩)
  have hg := (S.group hw hc hsn (f := n) (i := 0) (by omega)).1
  have hiff : ∀ x, S (tabTw t) n 0 x ↔ Grp (· ∈ L) x := fun x => ⟨fun hx => hx.inG Grp.isG (by omega) fun j hj hjn p y hy => (h.inH j hj hjn).1 p y hy, fun hx => hx.sub hg fun s hs => h.mem s hs⟩
  refine ⟨hw, fun i hi x => ⟨fun hx => ⟨(hiff x).1 (s_ups hw hi hx), hx.fx⟩, fun hx => s_downs hw hi ((hiff x).2 hx.1) hx.2⟩⟩
/-- In the middle of closing: l holds the entries; the products of the pairs ahead of (i, k) are made. -/
structure TabC (L : List (Pm n)) (t : Nat → Nat → Option (Pm n)) (l : List (Pm n)) (i k m : Nat) : Prop where
  tab : TabS L t
  nd : l.Nodup
  ent : ∀ y, y ∈ l ↔ y ∈ entL n t
  pr : ∀ a b x y, l[a]? = some x → l[b]? = some y → b ≤ a → (a < i ∨ (a = i ∧ b < k)) → S (tabTw t) n 0 (x.mul y) ∧ S (tabTw t) n 0 (y.mul x)
  p1 : 1 ≤ m → ∀ x y, l[i]? = some x → l[k]? = some y → S (tabTw t) n 0 (x.mul y)
  p2 : 2 ≤ m → ∀ x y, l[i]? = some x → l[k]? = some y → S (tabTw t) n 0 (y.mul x)
theorem TabC.len {L l : List (Pm n)} {t : Nat → Nat → Option (Pm n)} {i k m : Nat} (h : TabC L t l i k m) : l.length = (entL n t).length :=
  Nat.le_antisymm (sub_len h.nd fun y hy => (h.ent y).1 hy) (sub_len (entL_nodup h.tab.ok) fun y hy => (h.ent y).2 hy)
theorem TabC.start {L : List (Pm n)} {t : Nat → Nat → Option (Pm n)} (h : TabS L t) : TabC L t (entL n t) 0 0 0 :=
  ⟨h, entL_nodup h.ok, fun _ => Iff.rfl, fun a b x y _ _ _ h => by omega, fun h => by omega, fun h => by omega⟩
theorem TabC.next {L l : List (Pm n)} {t : Nat → Nat → Option (Pm n)} {i k : Nat} (h : TabC L t l i k 2) : TabC L t l i (k + 1) 0 :=
  ⟨h.tab, h.nd, h.ent, fun a b x y hx hy hba hab => by
    by_cases e : a = i ∧ b = k
    · rw [e.1] at hx; rw [e.2] at hy
      exact ⟨h.p1 (by omega) x y hx hy, h.p2 (by omega) x y hx hy⟩
    · exact h.pr a b x y hx hy hba (by omega), fun h => by omega, fun h => by omega⟩
theorem TabC.row {L l : List (Pm n)} {t : Nat → Nat → Option (Pm n)} {i : Nat} (h : TabC L t l i (i + 1) 0) : TabC L t l (i + 1) 0 0 :=
  ⟨h.tab, h.nd, h.ent, fun a b x y hx hy hba hab => h.pr a b x y hx hy hba (by omega), fun h => by omega, fun h => by omega⟩
/-- A product that is made already. -/
theorem TabC.have {L l : List (Pm n)} {t : Nat → Nat → Option (Pm n)} {i k m : Nat} {x y z r : Pm n} (h : TabC L t l i k m) (hm : m < 2) (hx : l[i]? = some x) (hy : l[k]? = some y) (hz : z = if m = 1 then y.mul x else x.mul y) (hs : sft (tabTw t) n 0 z = (n, r)) : TabC L t l i k (m + 1) := by
  have hS := tab_end h.tab.ok hs
  refine ⟨h.tab, h.nd, h.ent, h.pr, fun _ x' y' hx' hy' => ?_, fun h2 x' y' hx' hy' => ?_⟩
  · by_cases e : m = 0
    · rw [if_neg (by omega)] at hz
      rw [hx] at hx'; rw [hy] at hy'
      rw [← Option.some.inj hx', ← Option.some.inj hy', ← hz]; exact hS
    · exact h.p1 (by omega) x' y' hx' hy'
  · have e : m = 1 := by omega
    rw [if_pos e] at hz
    rw [hx] at hx'; rw [hy] at hy'
    rw [← Option.some.inj hx', ← Option.some.inj hy', ← hz]; exact hS
/-- A product that is new: the list grows by the new entries. -/
theorem TabC.add {L l : List (Pm n)} {t : Nat → Nat → Option (Pm n)} {i k m a : Nat} {x y z r : Pm n} (h : TabC L t l i k m) (hm : m < 2) (hx : l[i]? = some x) (hy : l[k]? = some y) (hz : z = if m = 1 then y.mul x else x.mul y) (hs : sft (tabTw t) n 0 z = (a, r)) (ha : a < n) :
    TabC L (setE t a (r.at a) r) (l ++ (entL n (setE t a (r.at a) r)).filter fun y => decide (y.l ∉ l.map (·.l))) i k (m + 1) := by
  have hgz : Grp (· ∈ L) z := by
    have hgx : Grp (· ∈ L) x := by
      obtain ⟨j, p, hp⟩ := (mem_entL h.tab.ok).1 ((h.ent x).1 (List.mem_of_getElem? hx)); exact h.tab.cl j p x hp
    have hgy : Grp (· ∈ L) y := by
      obtain ⟨j, p, hp⟩ := (mem_entL h.tab.ok).1 ((h.ent y).1 (List.mem_of_getElem? hy)); exact h.tab.cl j p y hp
    rw [hz]; split
    · exact hgy.times hgx
    · exact hgx.times hgy
  have hT := h.tab.set hgz hs ha
  obtain ⟨h1, h2, h3, h4, h5, h6⟩ := tab_set h.tab.ok hs ha
  have hmemL : ∀ y : Pm n, y.l ∈ l.map (·.l) ↔ y ∈ l := fun y => by
    rw [List.mem_map]
    constructor
    · rintro ⟨w, hw, e⟩
      have : w = y := Pm.ext' e
      exact this ▸ hw
    · intro hy; exact ⟨y, hy, rfl⟩
  have hget : ∀ (b : Nat) (w u : Pm n), l[b]? = some u → (l ++ (entL n (setE t a (r.at a) r)).filter fun y => decide (y.l ∉ l.map (·.l)))[b]? = some w → w = u := fun b w u hu hw => by
    rw [List.getElem?_append_left (List.getElem?_eq_some_iff.1 hu).1, hu] at hw
    exact (Option.some.inj hw).symm
  have hold : ∀ y, y ∈ entL n t → y ∈ entL n (setE t a (r.at a) r) := fun y hy => by
    obtain ⟨j, p, hp⟩ := (mem_entL h.tab.ok).1 hy
    refine (mem_entL h1).2 ⟨j, p, ?_⟩
    unfold setE
    rw [if_neg (fun e => by rw [e.1, e.2, h4] at hp; cases hp)]
    exact hp
  refine ⟨hT, ?_, ?_, ?_, ?_, ?_⟩
  · rw [List.nodup_append]
    refine ⟨h.nd, List.Nodup.sublist List.filter_sublist (entL_nodup h1), ?_⟩
    rintro u hu v hv rfl
    have := (List.mem_filter.1 hv).2
    rw [decide_eq_true_iff, hmemL] at this
    exact this hu
  · intro w
    rw [List.mem_append, List.mem_filter, decide_eq_true_iff, hmemL]
    constructor
    · rintro (hw | hw)
      · exact hold w ((h.ent w).1 hw)
      · exact hw.1
    · intro hw
      by_cases e : w ∈ l
      · exact .inl e
      · exact .inr ⟨hw, e⟩
  · intro b c u v hu hv hcb hbc
    have hil := (List.getElem?_eq_some_iff.1 hx).1
    have hbl : b < l.length := by omega
    have hcl : c < l.length := by omega
    rw [List.getElem?_append_left hbl] at hu
    rw [List.getElem?_append_left hcl] at hv
    obtain ⟨k1, k2⟩ := h.pr b c u v hu hv hcb hbc
    exact ⟨k1.more h2, k2.more h2⟩
  · intro _ x' y' hx' hy'
    rw [hget i x' x hx hx', hget k y' y hy hy']
    by_cases e : m = 0
    · rw [if_neg (by omega)] at hz
      rw [← hz]; exact h3
    · exact (h.p1 (by omega) x y hx hy).more h2
  · intro _ x' y' hx' hy'
    rw [hget i x' x hx hx', hget k y' y hy hy']
    have e : m = 1 := by omega
    rw [if_pos e] at hz
    rw [← hz]; exact h3
theorem TabC.finish {L l : List (Pm n)} {t : Nat → Nat → Option (Pm n)} {i : Nat} (h : TabC L t l i 0 0) (hi : l.length ≤ i) : Of (Grp (· ∈ L)) (tabTw t) := by
  refine h.tab.closed fun x hx y hy => ?_
  obtain ⟨a, ha⟩ := List.mem_iff_getElem?.1 ((h.ent x).2 hx)
  obtain ⟨b, hb⟩ := List.mem_iff_getElem?.1 ((h.ent y).2 hy)
  have hal := (List.getElem?_eq_some_iff.1 ha).1
  have hbl := (List.getElem?_eq_some_iff.1 hb).1
  by_cases e : b ≤ a
  · exact (h.pr a b x y ha hb e (by omega)).1
  · exact (h.pr b a y x hb ha (by omega) (by omega)).2
end
end Go.Proofs.YtbejhkojdiadaaaGreat.PlainPm
