/- The least elements of a tower; the reference's table of permutations; closed, it is a tower: plain. · Permutations and a tower of stabilisers in memory. · A tower of stabilisers in memory. -/
import Derived.Test.YtbejhkojdiadaaaGreatDoorRk01
import Derived.Test.YtbejhkojdiadaaaGreatDoorRk02
import Derived.Deep.OwnRows
import Derived.WalkKit
import Derived.WalkSpells
import Derived.BigQuiet
import Derived.Deep.QuietTactic
import Derived.Deep.LoopGhost
import Derived.Lib.Hide
import Derived.Maps.AppendAt
import Derived.Deep.AppendLies
import Derived.StillTailTactics
import Derived.Laws.CopyOwn
set_option linter.unusedSimpArgs false
set_option linter.unusedVariables false
namespace Go.Proofs.YtbejhkojdiadaaaGreatDoor.PlainPm
section
variable {n : Nat}
def lexLe (x y : Pm n) : Prop := x = y ∨ ∃ k, k < n ∧ (∀ j, j < k → x.at j = y.at j) ∧ x.at k < y.at k
theorem lexLe.antisymm {x y : Pm n} (h : lexLe x y) (k : lexLe y x) : x = y := by
  rcases h with h | ⟨a, _, ha, la⟩
  · exact h
  rcases k with k | ⟨b, _, hb, lb⟩
  · exact k.symm
  rcases Nat.lt_trichotomy a b with h | h | h
  · have := hb a h; omega
  · subst h; omega
  · have := ha b h; omega
def best (x : Pm n) (l : List Nat) (b : Nat) : Nat := l.foldl (fun b q => if x.at q < x.at b then q else b) b
theorem best_cons (x : Pm n) (q : Nat) (l : List Nat) (b : Nat) : best x (q :: l) b = best x l (if x.at q < x.at b then q else b) := rfl
theorem best_snoc (x : Pm n) (l : List Nat) (q b : Nat) : best x (l ++ [q]) b = if x.at q < x.at (best x l b) then q else best x l b := by
  unfold best; rw [List.foldl_append]; rfl
theorem best_spec (x : Pm n) : ∀ (l : List Nat) (b : Nat), (best x l b = b ∨ best x l b ∈ l) ∧ x.at (best x l b) ≤ x.at b ∧ ∀ q ∈ l, x.at (best x l b) ≤ x.at q
  | [], b => ⟨.inl rfl, Nat.le_refl _, by simp⟩
  | q :: l, b => by
    rw [best_cons]
    by_cases e : x.at q < x.at b
    · rw [if_pos e]
      obtain ⟨h1, h2, h3⟩ := best_spec x l q
      refine ⟨.inr ?_, by omega, fun p hp => ?_⟩
      · rcases h1 with h1 | h1
        · rw [h1]; simp
        · simp [h1]
      · rcases List.mem_cons.1 hp with rfl | hp
        · exact h2
        · exact h3 p hp
    · rw [if_neg e]
      obtain ⟨h1, h2, h3⟩ := best_spec x l b
      refine ⟨?_, h2, fun p hp => ?_⟩
      · rcases h1 with h1 | h1
        · exact .inl h1
        · exact .inr (by simp [h1])
      · rcases List.mem_cons.1 hp with rfl | hp
        · omega
        · exact h3 p hp
def leastT (T : Tw n) : Nat → Nat → Pm n → Pm n
  | 0, _, x => x
  | f + 1, k, x => leastT T f (k + 1) (if best x (T k).orb k = k then x else (((T k).to (best x (T k).orb k)).getD (PlainPm.one n)).mul x)
theorem least_next {T : Tw n} (hT : Wf T) {k : Nat} (hk : k < n) (x : Pm n) : ∃ y, (T k).to (best x (T k).orb k) = some y ∧ (if best x (T k).orb k = k then x else (((T k).to (best x (T k).orb k)).getD (PlainPm.one n)).mul x) = y.mul x := by
  have w := hT k hk
  have hb : best x (T k).orb k ∈ (T k).orb := by
    rcases (best_spec x (T k).orb k).1 with h | h
    · rw [h]; exact (w.orb k).2 (by rw [w.base]; rfl)
    · exact h
  obtain ⟨y, hy⟩ := Option.isSome_iff_exists.1 ((w.orb _).1 hb)
  refine ⟨y, hy, ?_⟩
  by_cases e : best x (T k).orb k = k
  · rw [if_pos e]
    rw [e, w.base] at hy
    rw [← Option.some.inj hy, Pm.one_mul]
  · rw [if_neg e, hy]; rfl
theorem leastT_spec {T : Tw n} (hT : Wf T) : ∀ {f k : Nat} (x : Pm n), k + f = n → (∃ u, S T f k u ∧ leastT T f k x = u.mul x) ∧ ∀ v, S T f k v → lexLe (leastT T f k x) (v.mul x)
  | 0, k, x, hf => by
    have hk : k = n := by omega
    subst hk
    exact ⟨⟨one k, Fx.one (Nat.le_refl _), (Pm.one_mul _).symm⟩, fun v hv => .inl (by rw [Fx.all hv, Pm.one_mul]; rfl)⟩
  | f + 1, k, x, hf => by
    have hk : k < n := by omega
    have w := hT k hk
    obtain ⟨y, hy, he⟩ := least_next hT hk x
    obtain ⟨b, hb⟩ : ∃ b, best x (T k).orb k = b := ⟨_, rfl⟩
    obtain ⟨_, b2, b3⟩ := best_spec x (T k).orb k
    rw [hb] at hy b2 b3
    have hl : leastT T (f + 1) k x = leastT T f (k + 1) (y.mul x) := by rw [leastT, he]
    rw [hl]
    obtain ⟨⟨u, hu, e⟩, hmin⟩ := leastT_spec hT (f := f) (k := k + 1) (y.mul x) (by omega)
    have hyk : y.at k = b := ((w.img b y hy).2).1
    have hrk : (leastT T f (k + 1) (y.mul x)).at k = x.at b := by
      rw [e, Pm.mul_at _ _ hk, hu.fx k (by omega), Pm.mul_at _ _ hk, hyk]
    have hrj : ∀ j, j < k → (leastT T f (k + 1) (y.mul x)).at j = x.at j := fun j hj => by
      rw [e, Pm.mul_at _ _ (by omega), hu.fx j (by omega), Pm.mul_at _ _ (by omega), (w.img b y hy).2.2 j hj]
    refine ⟨⟨u.mul y, S.mk hT hk hu hy, by rw [e, Pm.mul_assoc]⟩, fun v hv => ?_⟩
    have hvo : v.at k ∈ (T k).orb := by
      obtain ⟨_, z, hz, _⟩ := hv
      exact (w.orb _).2 (by rw [hz]; rfl)
    have hge := b3 _ hvo
    by_cases h : x.at b = x.at (v.at k)
    · have hbn := (w.img b y hy).1
      have heq : b = v.at k := x.inj hbn (v.lt hk) h
      obtain ⟨y2, u2, k1, k2, e2⟩ := hv.split
      rw [← heq, hy] at k1
      obtain rfl := Option.some.inj k1
      rw [e2, Pm.mul_assoc]
      exact hmin u2 k2
    · refine .inr ⟨k, hk, fun j hj => ?_, ?_⟩
      · rw [hrj j hj, Pm.mul_at _ _ (by omega), hv.fx j hj]
      · rw [hrk, Pm.mul_at _ _ hk]; omega
structure Rep (G : Pm n → Prop) (i p : Nat) (r : Pm n) : Prop where
  g : G r
  fx : Fx i r
  im : r.at i = p
  le : ∀ y, G y → Fx i y → y.at i = p → lexLe r y
theorem Rep.uniq {G : Pm n → Prop} {i p : Nat} {r r' : Pm n} (h : Rep G i p r) (k : Rep G i p r') : r = r' :=
  (h.le r' k.g k.fx k.im).antisymm (k.le r h.g h.fx h.im)
structure Of (G : Pm n → Prop) (T : Tw n) : Prop where
  wf : Wf T
  mem : ∀ i, i ≤ n → ∀ x, S T (n - i) i x ↔ (G x ∧ Fx i x)
theorem Built.of {L : List (Pm n)} {T : Tw n} (h : Built L T) : Of (Grp (· ∈ L)) T := ⟨h.inv.wf, h.stab⟩
theorem Of.orb {G : Pm n → Prop} {T : Tw n} (h : Of G T) {i : Nat} (hi : i < n) (p : Nat) : p ∈ (T i).orb ↔ ∃ y, G y ∧ Fx i y ∧ y.at i = p := by
  rw [((h.wf i hi).orb p)]
  constructor
  · intro hs
    obtain ⟨y, hy⟩ := Option.isSome_iff_exists.1 hs
    obtain ⟨_, k2, k3⟩ := (h.wf i hi).img p y hy
    exact ⟨y, ((h.mem i (by omega) y).1 (s_top h.wf hi hy)).1, k3, k2⟩
  · rintro ⟨y, h1, h2, h3⟩
    have := (h.mem i (by omega) y).2 ⟨h1, h2⟩
    rw [show n - i = n - i - 1 + 1 by omega] at this
    obtain ⟨_, z, hz, _⟩ := this
    rw [h3] at hz; rw [hz]; rfl
theorem Of.rep {G : Pm n → Prop} (hG : IsG G) {T : Tw n} (h : Of G T) {i p : Nat} {y : Pm n} (hi : i < n) (hy : (T i).to p = some y) : Rep G i p (leastT T (n - (i + 1)) (i + 1) y) := by
  have w := h.wf i hi
  obtain ⟨_, k2, k3⟩ := w.img p y hy
  have hgy := ((h.mem i (by omega) y).1 (s_top h.wf hi hy)).1
  obtain ⟨⟨u, hu, e⟩, hmin⟩ := leastT_spec h.wf (f := n - (i + 1)) (k := i + 1) y (by omega)
  have hu' := (h.mem (i + 1) (by omega) u).1 hu
  refine ⟨by rw [e]; exact hG.mul hu'.1 hgy, by rw [e]; exact (hu'.2.mono (by omega)).mul (by omega) k3, by rw [e, Pm.mul_at _ _ hi, hu'.2 i (by omega), k2], fun z hz hfz hzp => ?_⟩
  have hz' := (h.mem i (by omega) z).2 ⟨hz, hfz⟩
  rw [show n - i = n - (i + 1) + 1 by omega] at hz'
  obtain ⟨y2, u2, k4, k5, e2⟩ := hz'.split
  rw [hzp, hy] at k4
  obtain rfl := Option.some.inj k4
  rw [e2]
  exact hmin u2 k5
def ptsOf (n : Nat) (l : List Nat) : List Nat := (List.range n).filter fun p => decide (p ∈ l)
theorem Of.pts {G : Pm n → Prop} {T T' : Tw n} (h : Of G T) (h' : Of G T') {i : Nat} (hi : i < n) : ptsOf n (T i).orb = ptsOf n (T' i).orb := by
  unfold ptsOf
  congr 1
  funext p
  rw [Bool.eq_iff_iff, decide_eq_true_iff, decide_eq_true_iff, h.orb hi, h'.orb hi]
def repT (T : Tw n) (i p : Nat) : Pm n := leastT T (n - (i + 1)) (i + 1) (((T i).to p).getD (PlainPm.one n))
def orbsT (T : Tw n) : List (List Nat) := (List.range n).map fun i => ptsOf n (T i).orb
def repsT (T : Tw n) : List (List (Pm n)) := (List.range n).map fun i => (ptsOf n (T i).orb).map (repT T i)
theorem mem_ptsOf {l : List Nat} {p : Nat} : p ∈ ptsOf n l ↔ p < n ∧ p ∈ l := by simp [ptsOf]
theorem Of.repT {G : Pm n → Prop} (hG : IsG G) {T : Tw n} (h : Of G T) {i p : Nat} (hi : i < n) (hp : p ∈ (T i).orb) : Rep G i p (repT T i p) := by
  obtain ⟨y, hy⟩ := Option.isSome_iff_exists.1 (((h.wf i hi).orb p).1 hp)
  unfold PlainPm.repT
  rw [hy]
  exact h.rep hG hi hy
theorem Of.same {G : Pm n → Prop} (hG : IsG G) {T T' : Tw n} (h : Of G T) (h' : Of G T') : orbsT T = orbsT T' ∧ repsT T = repsT T' := by
  constructor
  · unfold orbsT
    exact List.map_congr_left fun i hi => h.pts h' (List.mem_range.1 hi)
  · unfold repsT
    apply List.map_congr_left
    intro i hi
    have hi := List.mem_range.1 hi
    rw [← h.pts h' hi]
    apply List.map_congr_left
    intro p hp
    have hp := (mem_ptsOf.1 hp).2
    exact (h.repT hG hi hp).uniq (h'.repT hG hi ((h'.orb hi p).2 ((h.orb hi p).1 hp)))
theorem Of.congr {G G' : Pm n → Prop} {T : Tw n} (h : Of G T) (e : ∀ x, G x ↔ G' x) : Of G' T := ⟨h.wf, fun i hi x => by rw [h.mem i hi x, e x]⟩
end
end Go.Proofs.YtbejhkojdiadaaaGreatDoor.PlainPm
namespace Go.Proofs.YtbejhkojdiadaaaGreatDoor.PlainPm
section
variable {n : Nat}
instance : DecidableEq (Pm n) := fun x y => if h : x.l = y.l then .isTrue (Pm.ext' h) else .isFalse fun e => h (by rw [e])
def rowE (n : Nat) (t : Nat → Nat → Option (Pm n)) (i : Nat) : List (Pm n) := (List.range n).filterMap (t i)
def entL (n : Nat) (t : Nat → Nat → Option (Pm n)) : List (Pm n) := (List.range n).flatMap (rowE n t)
def entF (n : Nat) (t : Nat → Nat → Option (Pm n)) (i : Nat) : List (Pm n) := (List.range n).flatMap fun j => if i ≤ j then rowE n t j else []
def tabTw (t : Nat → Nat → Option (Pm n)) : Tw n := fun i => ⟨entF n t i, (List.range n).filter fun p => decide (p = i) || (t i p).isSome, fun p => if p = i then some (PlainPm.one n) else t i p, fun _ => 0⟩
structure TabOk (t : Nat → Nat → Option (Pm n)) : Prop where
  ok : ∀ i p y, t i p = some y → i < n ∧ p < n ∧ p ≠ i ∧ y.at i = p ∧ Fx i y
theorem mem_entL {t : Nat → Nat → Option (Pm n)} (h : TabOk t) {y : Pm n} : y ∈ entL n t ↔ ∃ i p, t i p = some y := by
  unfold entL rowE
  rw [List.mem_flatMap]
  constructor
  · rintro ⟨i, _, hy⟩
    obtain ⟨p, _, hp⟩ := List.mem_filterMap.1 hy
    exact ⟨i, p, hp⟩
  · rintro ⟨i, p, hp⟩
    obtain ⟨h1, h2, _⟩ := h.ok i p y hp
    exact ⟨i, List.mem_range.2 h1, List.mem_filterMap.2 ⟨p, List.mem_range.2 h2, hp⟩⟩
theorem mem_entF {t : Nat → Nat → Option (Pm n)} (h : TabOk t) {i : Nat} {y : Pm n} : y ∈ entF n t i ↔ ∃ j p, i ≤ j ∧ t j p = some y := by
  unfold entF rowE
  rw [List.mem_flatMap]
  constructor
  · rintro ⟨j, _, hy⟩
    by_cases e : i ≤ j
    · rw [if_pos e] at hy
      obtain ⟨p, _, hp⟩ := List.mem_filterMap.1 hy
      exact ⟨j, p, e, hp⟩
    · rw [if_neg e] at hy; cases hy
  · rintro ⟨j, p, hij, hp⟩
    obtain ⟨h1, h2, _⟩ := h.ok j p y hp
    refine ⟨j, List.mem_range.2 h1, ?_⟩
    rw [if_pos hij]
    exact List.mem_filterMap.2 ⟨p, List.mem_range.2 h2, hp⟩
theorem TabOk.place {t : Nat → Nat → Option (Pm n)} (h : TabOk t) {i p j q : Nat} {y : Pm n} (h1 : t i p = some y) (h2 : t j q = some y) : i = j ∧ p = q := by
  obtain ⟨a1, a2, a3, a4, a5⟩ := h.ok i p y h1
  obtain ⟨b1, b2, b3, b4, b5⟩ := h.ok j q y h2
  rcases Nat.lt_trichotomy i j with e | e | e
  · have := b5 i e; omega
  · subst e; exact ⟨rfl, by omega⟩
  · have := a5 j e; omega
theorem nodup_filterMap {α β : Type} {f : α → Option β} : ∀ {l : List α}, l.Nodup → (∀ a ∈ l, ∀ b ∈ l, ∀ y, f a = some y → f b = some y → a = b) → (l.filterMap f).Nodup
  | [], _, _ => by simp
  | a :: l, h, hf => by
    rw [List.nodup_cons] at h
    have ih := nodup_filterMap (f := f) h.2 fun x hx y hy => hf x (by simp [hx]) y (by simp [hy])
    cases e : f a with
    | none => rw [List.filterMap_cons_none e]; exact ih
    | some y =>
      rw [List.filterMap_cons_some e, List.nodup_cons]
      refine ⟨fun hm => ?_, ih⟩
      obtain ⟨b, hb, hfb⟩ := List.mem_filterMap.1 hm
      have := hf a (by simp) b (by simp [hb]) y e hfb
      exact h.1 (this ▸ hb)
theorem nodup_flatMap {α β : Type} {f : α → List β} : ∀ {l : List α}, l.Nodup → (∀ a ∈ l, (f a).Nodup) → (∀ a ∈ l, ∀ b ∈ l, ∀ y, y ∈ f a → y ∈ f b → a = b) → (l.flatMap f).Nodup
  | [], _, _, _ => by simp
  | a :: l, h, h1, h2 => by
    rw [List.nodup_cons] at h
    rw [List.flatMap_cons, List.nodup_append]
    refine ⟨h1 a (by simp), nodup_flatMap h.2 (fun x hx => h1 x (by simp [hx])) fun x hx y hy => h2 x (by simp [hx]) y (by simp [hy]), ?_⟩
    rintro y hy z hz rfl
    obtain ⟨b, hb, hyb⟩ := List.mem_flatMap.1 hz
    have := h2 a (by simp) b (by simp [hb]) y hy hyb
    exact h.1 (this ▸ hb)
theorem entL_nodup {t : Nat → Nat → Option (Pm n)} (h : TabOk t) : (entL n t).Nodup := by
  refine nodup_flatMap List.nodup_range (fun i _ => nodup_filterMap List.nodup_range fun p _ q _ y h1 h2 => (h.place h1 h2).2) fun i _ j _ y h1 h2 => ?_
  obtain ⟨p, _, hp⟩ := List.mem_filterMap.1 h1
  obtain ⟨q, _, hq⟩ := List.mem_filterMap.1 h2
  exact (h.place hp hq).1
theorem entL_len (t : Nat → Nat → Option (Pm n)) : (entL n t).length ≤ n * n := by
  have key : ∀ m, ((List.range m).flatMap (rowE n t)).length ≤ m * n := by
    intro m
    induction m with
    | zero => simp
    | succ m ih =>
      have : (rowE n t m).length ≤ n := by have := List.length_filterMap_le (t m) (List.range n); simpa [rowE] using this
      rw [List.range_succ, List.flatMap_append, List.length_append, Nat.add_mul, List.flatMap_singleton]
      omega
  exact key n
def setE (t : Nat → Nat → Option (Pm n)) (a p : Nat) (r : Pm n) : Nat → Nat → Option (Pm n) := fun i q => if i = a ∧ q = p then some r else t i q
theorem tab_wf {t : Nat → Nat → Option (Pm n)} (h : TabOk t) : Wf (tabTw t) := by
  intro i hi
  refine ⟨if_pos rfl, ?_, ?_, List.Nodup.sublist List.filter_sublist List.nodup_range, ?_, fun q => Nat.zero_le _, fun q _ => rfl⟩
  · intro p y hy
    have hy : (if p = i then some (PlainPm.one n) else t i p) = some y := hy
    by_cases e : p = i
    · rw [if_pos e] at hy
      rw [← Option.some.inj hy]
      subst e
      exact ⟨hi, one_at hi, Fx.one (by omega)⟩
    · rw [if_neg e] at hy
      obtain ⟨_, h2, _, h4, h5⟩ := h.ok i p y hy
      exact ⟨h2, h4, h5⟩
  · intro p
    show p ∈ (List.range n).filter _ ↔ (if p = i then some (PlainPm.one n) else t i p).isSome = true
    rw [List.mem_filter, List.mem_range]
    by_cases e : p = i
    · subst e; simp [hi]
    · rw [if_neg e]
      simp only [e, decide_false, Bool.false_or]
      constructor
      · exact fun h => h.2
      · intro hs
        obtain ⟨y, hy⟩ := Option.isSome_iff_exists.1 hs
        exact ⟨(h.ok i p y hy).2.1, hs⟩
  · intro s hs
    obtain ⟨j, p, hij, hp⟩ := (mem_entF h).1 hs
    exact ((h.ok j p s hp).2.2.2.2).mono hij
theorem tab_set {t : Nat → Nat → Option (Pm n)} (h : TabOk t) {x r : Pm n} {a : Nat} (hs : sft (tabTw t) n 0 x = (a, r)) (ha : a < n) :
    TabOk (setE t a (r.at a) r) ∧ More (tabTw t) (tabTw (setE t a (r.at a) r)) ∧ S (tabTw (setE t a (r.at a) r)) n 0 x ∧ t a (r.at a) = none ∧ (entL n t).length < (entL n (setE t a (r.at a) r)).length ∧ r.at a ≠ a := by
  have hw := tab_wf h
  obtain ⟨_, _, s3, s4, s5, _⟩ := sft_spec (f := n) (i := 0) (x := x) hw (by omega) (fun j hj => by omega)
  rw [hs] at s3 s4 s5
  dsimp only at s3 s4 s5
  have hno : (if r.at a = a then some (PlainPm.one n) else t a (r.at a)) = none := s4 ha
  have hne : r.at a ≠ a := fun e => by rw [if_pos e] at hno; cases hno
  rw [if_neg hne] at hno
  have hok : TabOk (setE t a (r.at a) r) := ⟨fun i p y hy => by
    unfold setE at hy
    by_cases e : i = a ∧ p = r.at a
    · rw [if_pos e] at hy
      rw [← Option.some.inj hy, e.1, e.2]
      exact ⟨ha, r.lt ha, hne, rfl, s3⟩
    · rw [if_neg e] at hy; exact h.ok i p y hy⟩
  have hm : More (tabTw t) (tabTw (setE t a (r.at a) r)) := fun i p y hy => by
    have hy : (if p = i then some (PlainPm.one n) else t i p) = some y := hy
    show (if p = i then some (PlainPm.one n) else setE t a (r.at a) r i p) = some y
    by_cases e : p = i
    · rw [if_pos e] at hy ⊢; exact hy
    · rw [if_neg e] at hy ⊢
      unfold setE
      rw [if_neg (fun e2 => by rw [e2.1, e2.2, hno] at hy; cases hy)]
      exact hy
  have hsr : (tabTw (setE t a (r.at a) r) a).to (r.at a) = some r := by
    show (if r.at a = a then some (PlainPm.one n) else setE t a (r.at a) r a (r.at a)) = some r
    rw [if_neg hne]; exact if_pos ⟨rfl, rfl⟩
  refine ⟨hok, hm, s5 _ (tab_wf hok) hm (s_top (tab_wf hok) ha hsr), hno, ?_, hne⟩
  have h1 : r ∈ entL n (setE t a (r.at a) r) := (mem_entL hok).2 ⟨a, r.at a, if_pos ⟨rfl, rfl⟩⟩
  have h2 : r ∉ entL n t := fun hm => by
    obtain ⟨i, p, hp⟩ := (mem_entL h).1 hm
    have hp' : setE t a (r.at a) r i p = some r := by
      unfold setE
      by_cases e : i = a ∧ p = r.at a
      · rw [if_pos e]
      · rw [if_neg e]; exact hp
    obtain ⟨e1, e2⟩ := hok.place hp' (show setE t a (r.at a) r a (r.at a) = some r from if_pos ⟨rfl, rfl⟩)
    rw [e1, e2, hno] at hp; cases hp
  have := sub_len (l := r :: entL n t) (m := entL n (setE t a (r.at a) r)) (List.nodup_cons.2 ⟨h2, entL_nodup h⟩) (fun y hy => by
    rcases List.mem_cons.1 hy with rfl | hy
    · exact h1
    · obtain ⟨i, p, hp⟩ := (mem_entL h).1 hy
      refine (mem_entL hok).2 ⟨i, p, ?_⟩
      unfold setE
      rw [if_neg (fun e => by rw [e.1, e.2, hno] at hp; cases hp)]
      exact hp)
  rw [List.length_cons] at this
  omega
structure TabS (L : List (Pm n)) (t : Nat → Nat → Option (Pm n)) : Prop where
  ok : TabOk t
  cl : ∀ i p y, t i p = some y → Grp (· ∈ L) y
  mem : ∀ x ∈ L, S (tabTw t) n 0 x
theorem TabS.start : TabS (n := n) [] (fun _ _ => none) := ⟨⟨fun i p y h => (by cases h)⟩, fun i p y h => (by cases h), by simp⟩
theorem TabS.inH {L : List (Pm n)} {t : Nat → Nat → Option (Pm n)} (h : TabS L t) : InH (tabTw t) 0 (Grp (· ∈ L)) := fun j _ hj => ⟨fun p y hy => by
    have hy : (if p = j then some (PlainPm.one n) else t j p) = some y := hy
    by_cases e : p = j
    · rw [if_pos e] at hy; rw [← Option.some.inj hy]; exact .one
    · rw [if_neg e] at hy; exact h.cl j p y hy, fun s hs => by
    obtain ⟨i, p, _, hp⟩ := (mem_entF h.ok).1 hs
    exact h.cl i p s hp⟩
theorem TabS.set {L : List (Pm n)} {t : Nat → Nat → Option (Pm n)} {x r : Pm n} {a : Nat} (h : TabS L t) (hx : Grp (· ∈ L) x) (hs : sft (tabTw t) n 0 x = (a, r)) (ha : a < n) : TabS L (setE t a (r.at a) r) := by
  obtain ⟨h1, h2, h3, _, _, _⟩ := tab_set h.ok hs ha
  obtain ⟨_, _, _, _, _, s6⟩ := sft_spec (f := n) (i := 0) (x := x) (tab_wf h.ok) (by omega) (fun j hj => by omega)
  have hr := s6 _ Grp.isG h.inH hx
  rw [hs] at hr
  dsimp only at hr
  refine ⟨h1, fun i p y hy => ?_, fun y hy => (h.mem y hy).more h2⟩
  unfold setE at hy
  by_cases e : i = a ∧ p = r.at a
  · rw [if_pos e] at hy; rw [← Option.some.inj hy]; exact hr
  · rw [if_neg e] at hy; exact h.cl i p y hy
theorem TabS.weak {L : List (Pm n)} {t : Nat → Nat → Option (Pm n)} {x : Pm n} (h : TabS L t) (hx : S (tabTw t) n 0 x) : TabS (L ++ [x]) t :=
  ⟨h.ok, fun i p y hy => (h.cl i p y hy).sub Grp.isG fun s hs => Grp.base (by simp [hs]), fun y hy => by
    rcases List.mem_append.1 hy with hy | hy
    · exact h.mem y hy
    · have : y = x := by simpa using hy
      rw [this]; exact hx⟩
theorem tab_end {t : Nat → Nat → Option (Pm n)} (h : TabOk t) {x r : Pm n} (hs : sft (tabTw t) n 0 x = (n, r)) : S (tabTw t) n 0 x := sft_end (tab_wf h) (by omega) (fun j hj => by omega) hs
theorem TabS.snocEnd {L : List (Pm n)} {t : Nat → Nat → Option (Pm n)} {x r : Pm n} (h : TabS L t) (hs : sft (tabTw t) n 0 x = (n, r)) : TabS (L ++ [x]) t := h.weak (tab_end h.ok hs)
theorem TabS.snocSet {L : List (Pm n)} {t : Nat → Nat → Option (Pm n)} {x r : Pm n} {a : Nat} (h : TabS L t) (hs : sft (tabTw t) n 0 x = (a, r)) (ha : a < n) : TabS (L ++ [x]) (setE t a (r.at a) r) := by
  obtain ⟨h1, h2, h3, _, _, _⟩ := tab_set h.ok hs ha
  have hL : ∀ z, Grp (· ∈ L) z → Grp (· ∈ L ++ [x]) z := fun z hz => hz.sub Grp.isG fun s hs => Grp.base (by simp [hs])
  obtain ⟨_, _, _, _, _, s6⟩ := sft_spec (f := n) (i := 0) (x := x) (tab_wf h.ok) (by omega) (fun j hj => by omega)
  have hr := s6 (Grp (· ∈ L ++ [x])) Grp.isG (fun j a b => ⟨fun p y hy => hL _ ((h.inH j a b).1 p y hy), fun s hs => hL _ ((h.inH j a b).2 s hs)⟩) (Grp.base (by simp))
  rw [hs] at hr
  dsimp only at hr
  refine ⟨h1, fun i p y hy => ?_, fun y hy => ?_⟩
  · unfold setE at hy
    by_cases e : i = a ∧ p = r.at a
    · rw [if_pos e] at hy; rw [← Option.some.inj hy]; exact hr
    · rw [if_neg e] at hy; exact hL _ (h.cl i p y hy)
  · rcases List.mem_append.1 hy with hy | hy
    · exact (h.mem y hy).more h2
    · have : y = x := by simpa using hy
      rw [this]; exact h3
theorem s_downs {T : Tw n} (hT : Wf T) : ∀ {i : Nat} {x : Pm n}, i ≤ n → S T n 0 x → Fx i x → S T (n - i) i x
  | 0, x, _, h, _ => h
  | i + 1, x, hi, h, hx => by
    have := s_downs hT (i := i) (by omega) h (hx.mono (by omega))
    rw [show n - i = n - (i + 1) + 1 by omega] at this
    exact this.down hT (by omega) (hx i (by omega))
theorem s_ups {T : Tw n} (hT : Wf T) : ∀ {i : Nat} {x : Pm n}, i ≤ n → S T (n - i) i x → S T n 0 x
  | 0, x, _, h => h
  | i + 1, x, hi, h => by
    have := h.up hT (by omega)
    rw [show n - (i + 1) + 1 = n - i by omega] at this
    exact s_ups hT (by omega) this
theorem TabS.closed {L : List (Pm n)} {t : Nat → Nat → Option (Pm n)} (h : TabS L t) (hp : ∀ x ∈ entL n t, ∀ y ∈ entL n t, S (tabTw t) n 0 (x.mul y)) : Of (Grp (· ∈ L)) (tabTw t) := by
  have hw := tab_wf h.ok
  have hent : ∀ i p y, t i p = some y → S (tabTw t) n 0 y := fun i p y hy => by
    obtain ⟨h1, _, h3, _, _⟩ := h.ok.ok i p y hy
    exact s_ups hw (by omega) (s_top hw h1 (show (if p = i then some (PlainPm.one n) else t i p) = some y by rw [if_neg h3]; exact hy))
  have hc : Comp (tabTw t) := by
    intro i hi q y hy s hs
    obtain ⟨j, p, hij, hjp⟩ := (mem_entF h.ok).1 hs
    obtain ⟨k1, k2, k3⟩ := (hw i hi).img q y hy
    have hfs : Fx i s := ((h.ok.ok j p s hjp).2.2.2.2).mono hij
    refine s_downs hw (by omega) ?_ (k3.mul (by omega) hfs)
    have hy : (if q = i then some (PlainPm.one n) else t i q) = some y := hy
    by_cases e : q = i
    · rw [if_pos e] at hy
      rw [← Option.some.inj hy, Pm.one_mul]
      exact hent j p s hjp
    · rw [if_neg e] at hy
      exact hp y ((mem_entL h.ok).2 ⟨i, q, hy⟩) s ((mem_entL h.ok).2 ⟨j, p, hjp⟩)
  have hsn : ∀ i, i < n → SndL (tabTw t) i := by
    intro i hi j hij hj
    refine ⟨fun p y hy => ?_, fun s hs => ?_⟩
    · have hy : (if p = j then some (PlainPm.one n) else t j p) = some y := hy
      by_cases e : p = j
      · rw [if_pos e] at hy; rw [← Option.some.inj hy]; exact .one
      · rw [if_neg e] at hy; exact Grp.base ((mem_entF h.ok).2 ⟨j, p, hij, hy⟩)
    · obtain ⟨k, p, hjk, hkp⟩ := (mem_entF h.ok).1 hs
      exact Grp.base ((mem_entF h.ok).2 ⟨k, p, by omega, hkp⟩)
  have hg := (S.group hw hc hsn (f := n) (i := 0) (by omega)).1
  have hiff : ∀ x, S (tabTw t) n 0 x ↔ Grp (· ∈ L) x := fun x => ⟨fun hx => hx.inG Grp.isG (by omega) fun j hj hjn p y hy => (h.inH j hj hjn).1 p y hy, fun hx => hx.sub hg fun s hs => h.mem s hs⟩
  refine ⟨hw, fun i hi x => ⟨fun hx => ⟨(hiff x).1 (s_ups hw hi hx), hx.fx⟩, fun hx => s_downs hw hi ((hiff x).2 hx.1) hx.2⟩⟩
structure TabC (L : List (Pm n)) (t : Nat → Nat → Option (Pm n)) (l : List (Pm n)) (i k m : Nat) : Prop where
  tab : TabS L t
  nd : l.Nodup
  ent : ∀ y, y ∈ l ↔ y ∈ entL n t
  pr : ∀ a b x y, l[a]? = some x → l[b]? = some y → b ≤ a → (a < i ∨ (a = i ∧ b < k)) → S (tabTw t) n 0 (x.mul y) ∧ S (tabTw t) n 0 (y.mul x)
  p1 : 1 ≤ m → ∀ x y, l[i]? = some x → l[k]? = some y → S (tabTw t) n 0 (x.mul y)
  p2 : 2 ≤ m → ∀ x y, l[i]? = some x → l[k]? = some y → S (tabTw t) n 0 (y.mul x)
theorem TabC.len {L l : List (Pm n)} {t : Nat → Nat → Option (Pm n)} {i k m : Nat} (h : TabC L t l i k m) : l.length = (entL n t).length :=
  Nat.le_antisymm (sub_len h.nd fun y hy => (h.ent y).1 hy) (sub_len (entL_nodup h.tab.ok) fun y hy => (h.ent y).2 hy)
theorem TabC.start {L : List (Pm n)} {t : Nat → Nat → Option (Pm n)} (h : TabS L t) : TabC L t (entL n t) 0 0 0 :=
  ⟨h, entL_nodup h.ok, fun _ => Iff.rfl, fun a b x y _ _ _ h => by omega, fun h => by omega, fun h => by omega⟩
theorem TabC.next {L l : List (Pm n)} {t : Nat → Nat → Option (Pm n)} {i k : Nat} (h : TabC L t l i k 2) : TabC L t l i (k + 1) 0 :=
  ⟨h.tab, h.nd, h.ent, fun a b x y hx hy hba hab => by
    by_cases e : a = i ∧ b = k
    · rw [e.1] at hx; rw [e.2] at hy
      exact ⟨h.p1 (by omega) x y hx hy, h.p2 (by omega) x y hx hy⟩
    · exact h.pr a b x y hx hy hba (by omega), fun h => by omega, fun h => by omega⟩
theorem TabC.row {L l : List (Pm n)} {t : Nat → Nat → Option (Pm n)} {i : Nat} (h : TabC L t l i (i + 1) 0) : TabC L t l (i + 1) 0 0 :=
  ⟨h.tab, h.nd, h.ent, fun a b x y hx hy hba hab => h.pr a b x y hx hy hba (by omega), fun h => by omega, fun h => by omega⟩
theorem TabC.have {L l : List (Pm n)} {t : Nat → Nat → Option (Pm n)} {i k m : Nat} {x y z r : Pm n} (h : TabC L t l i k m) (hm : m < 2) (hx : l[i]? = some x) (hy : l[k]? = some y) (hz : z = if m = 1 then y.mul x else x.mul y) (hs : sft (tabTw t) n 0 z = (n, r)) : TabC L t l i k (m + 1) := by
  have hS := tab_end h.tab.ok hs
  refine ⟨h.tab, h.nd, h.ent, h.pr, fun _ x' y' hx' hy' => ?_, fun h2 x' y' hx' hy' => ?_⟩
  · by_cases e : m = 0
    · rw [if_neg (by omega)] at hz
      rw [hx] at hx'; rw [hy] at hy'
      rw [← Option.some.inj hx', ← Option.some.inj hy', ← hz]; exact hS
    · exact h.p1 (by omega) x' y' hx' hy'
  · have e : m = 1 := by omega
    rw [if_pos e] at hz
    rw [hx] at hx'; rw [hy] at hy'
    rw [← Option.some.inj hx', ← Option.some.inj hy', ← hz]; exact hS
theorem TabC.add {L l : List (Pm n)} {t : Nat → Nat → Option (Pm n)} {i k m a : Nat} {x y z r : Pm n} (h : TabC L t l i k m) (hm : m < 2) (hx : l[i]? = some x) (hy : l[k]? = some y) (hz : z = if m = 1 then y.mul x else x.mul y) (hs : sft (tabTw t) n 0 z = (a, r)) (ha : a < n) :
    TabC L (setE t a (r.at a) r) (l ++ (entL n (setE t a (r.at a) r)).filter fun y => decide (y.l ∉ l.map (·.l))) i k (m + 1) := by
  have hgz : Grp (· ∈ L) z := by
    have hgx : Grp (· ∈ L) x := by
      obtain ⟨j, p, hp⟩ := (mem_entL h.tab.ok).1 ((h.ent x).1 (List.mem_of_getElem? hx)); exact h.tab.cl j p x hp
    have hgy : Grp (· ∈ L) y := by
      obtain ⟨j, p, hp⟩ := (mem_entL h.tab.ok).1 ((h.ent y).1 (List.mem_of_getElem? hy)); exact h.tab.cl j p y hp
    rw [hz]; split
    · exact hgy.times hgx
    · exact hgx.times hgy
  have hT := h.tab.set hgz hs ha
  obtain ⟨h1, h2, h3, h4, h5, h6⟩ := tab_set h.tab.ok hs ha
  have hmemL : ∀ y : Pm n, y.l ∈ l.map (·.l) ↔ y ∈ l := fun y => by
    rw [List.mem_map]
    constructor
    · rintro ⟨w, hw, e⟩
      have : w = y := Pm.ext' e
      exact this ▸ hw
    · intro hy; exact ⟨y, hy, rfl⟩
  have hget : ∀ (b : Nat) (w u : Pm n), l[b]? = some u → (l ++ (entL n (setE t a (r.at a) r)).filter fun y => decide (y.l ∉ l.map (·.l)))[b]? = some w → w = u := fun b w u hu hw => by
    rw [List.getElem?_append_left (List.getElem?_eq_some_iff.1 hu).1, hu] at hw
    exact (Option.some.inj hw).symm
  have hold : ∀ y, y ∈ entL n t → y ∈ entL n (setE t a (r.at a) r) := fun y hy => by
    obtain ⟨j, p, hp⟩ := (mem_entL h.tab.ok).1 hy
    refine (mem_entL h1).2 ⟨j, p, ?_⟩
    unfold setE
    rw [if_neg (fun e => by rw [e.1, e.2, h4] at hp; cases hp)]
    exact hp
  refine ⟨hT, ?_, ?_, ?_, ?_, ?_⟩
  · rw [List.nodup_append]
    refine ⟨h.nd, List.Nodup.sublist List.filter_sublist (entL_nodup h1), ?_⟩
    rintro u hu v hv rfl
    have := (List.mem_filter.1 hv).2
    rw [decide_eq_true_iff, hmemL] at this
    exact this hu
  · intro w
    rw [List.mem_append, List.mem_filter, decide_eq_true_iff, hmemL]
    constructor
    · rintro (hw | hw)
      · exact hold w ((h.ent w).1 hw)
      · exact hw.1
    · intro hw
      by_cases e : w ∈ l
      · exact .inl e
      · exact .inr ⟨hw, e⟩
  · intro b c u v hu hv hcb hbc
    have hil := (List.getElem?_eq_some_iff.1 hx).1
    have hbl : b < l.length := by omega
    have hcl : c < l.length := by omega
    rw [List.getElem?_append_left hbl] at hu
    rw [List.getElem?_append_left hcl] at hv
    obtain ⟨k1, k2⟩ := h.pr b c u v hu hv hcb hbc
    exact ⟨k1.more h2, k2.more h2⟩
  · intro _ x' y' hx' hy'
    rw [hget i x' x hx hx', hget k y' y hy hy']
    by_cases e : m = 0
    · rw [if_neg (by omega)] at hz
      rw [← hz]; exact h3
    · exact (h.p1 (by omega) x y hx hy).more h2
  · intro _ x' y' hx' hy'
    rw [hget i x' x hx hx', hget k y' y hy hy']
    have e : m = 1 := by omega
    rw [if_pos e] at hz
    rw [← hz]; exact h3
theorem TabC.finish {L l : List (Pm n)} {t : Nat → Nat → Option (Pm n)} {i : Nat} (h : TabC L t l i 0 0) (hi : l.length ≤ i) : Of (Grp (· ∈ L)) (tabTw t) := by
  refine h.tab.closed fun x hx y hy => ?_
  obtain ⟨a, ha⟩ := List.mem_iff_getElem?.1 ((h.ent x).2 hx)
  obtain ⟨b, hb⟩ := List.mem_iff_getElem?.1 ((h.ent y).2 hy)
  have hal := (List.getElem?_eq_some_iff.1 ha).1
  have hbl := (List.getElem?_eq_some_iff.1 hb).1
  by_cases e : b ≤ a
  · exact (h.pr a b x y ha hb e (by omega)).1
  · exact (h.pr b a y x hb ha (by omega) (by omega)).2
end
end Go.Proofs.YtbejhkojdiadaaaGreatDoor.PlainPm
namespace Go.Proofs.YtbejhkojdiadaaaGreatDoor
open Go.RowKit PlainPm
structure Kept (w w' : World) (S : List Nat) : Prop where
  os : w'.os = w.os
  tape : w'.tape = w.tape
  output : w'.output = w.output
  size : w.heap.size ≤ w'.heap.size
  block : ∀ k, k < w.heap.size → k ∉ S → w'.heap[k]? = w.heap[k]?
theorem Kept.refl (w : World) (S : List Nat) : Kept w w S := ⟨rfl, rfl, rfl, Nat.le_refl _, fun _ _ _ => rfl⟩
theorem Kept.trans {a b c : World} {S : List Nat} (h : Kept a b S) (k : Kept b c S) : Kept a c S :=
  ⟨k.os.trans h.os, k.tape.trans h.tape, k.output.trans h.output, Nat.le_trans h.size k.size, fun i hi hs => (k.block i (Nat.lt_of_lt_of_le hi h.size) hs).trans (h.block i hi hs)⟩
theorem Kept.transW {a b c : World} {S S' : List Nat} (h : Kept a b S) (k : Kept b c S') (hs : ∀ x ∈ S', x ∈ S ∨ a.heap.size ≤ x) : Kept a c S :=
  ⟨k.os.trans h.os, k.tape.trans h.tape, k.output.trans h.output, Nat.le_trans h.size k.size, fun i hi hS => (k.block i (Nat.lt_of_lt_of_le hi h.size) (fun hm => by
    rcases hs i hm with h1 | h1
    · exact hS h1
    · omega)).trans (h.block i hi hS)⟩
theorem Kept.ofGrown {w w' : World} {r : Option Nat} {S : List Nat} (h : w.grownBy w' r) (hr : ∀ k, r = some k → k ∈ S) : Kept w w' S :=
  ⟨h.os, h.tape, h.output, h.size, fun k hk hs => h.block k hk (fun e => hs (hr k e.symm))⟩
theorem Kept.ofBelow {w w' : World} {S : List Nat} (h : Below w.heap.size w w') : Kept w w' S := ⟨h.os, h.tape, h.output, h.size, fun k hk _ => h.block k hk⟩
theorem Kept.below {w w' : World} {S : List Nat} {D : Nat} (h : Kept w w' S) (hd : D ≤ w.heap.size) (hs : ∀ k ∈ S, D ≤ k) : Below D w w' :=
  ⟨h.os, h.tape, h.output, h.size, fun k hk => h.block k (Nat.lt_of_lt_of_le hk hd) (fun hm => by have := hs k hm; omega)⟩
theorem Kept.cell {w w' : World} {S : List Nat} (h : Kept w w' S) {p : Addr} (hp : p.block < w.heap.size) (hs : p.block ∉ S) : w'.cell? p = w.cell? p := World.cell?_of_block (w := w) (h.block p.block hp hs)
theorem Kept.drewN {w w' : World} {S : List Nat} (h : Kept w w' S) (n : Nat) : Kept w (w'.drewN n) S := ⟨h.os, h.tape, h.output, h.size, h.block⟩
theorem Kept.mono {w w' : World} {S S' : List Nat} (h : Kept w w' S) (hs : ∀ k ∈ S, k ∈ S') : Kept w w' S' := ⟨h.os, h.tape, h.output, h.size, fun k hk hn => h.block k hk (fun hm => hn (hs k hm))⟩
theorem ownsRow_block {w w' : World} {B : Nat} {v : Value} {e : TypeId} {s n : Nat} {xs : List Value} (h : w.ownsRow B e s v n xs) (hb : ∀ g, v.ownBlock = some g → w'.heap[g]? = w.heap[g]?) : w'.ownsRow B e s v n xs := by
  refine ⟨h.1, ?_⟩
  rcases h.2 with h2 | ⟨g, cap, cur, rfl, hB, hh, r⟩
  · exact .inl h2
  · exact .inr ⟨g, cap, cur, rfl, hB, (hb g rfl).trans hh, r⟩
theorem Own.block_lt {w : World} {B : Nat} {v : Value} {e : TypeId} {xs : List Value} {g : Nat} (h : Own w B v e xs) (hg : v.ownBlock = some g) : g < w.heap.size ∧ B ≤ g := by
  rcases h.2 with ⟨rfl, _⟩ | ⟨g', cap, cur, rfl, hB, hh, _⟩
  · cases hg
  · cases hg
    refine ⟨?_, hB⟩
    rcases Nat.lt_or_ge g' w.heap.size with hl | hl
    · exact hl
    · rw [Array.getElem?_eq_none hl] at hh; cases hh
theorem Own.keptL {w w' : World} {B : Nat} {v : Value} {e : TypeId} {xs : List Value} {S : List Nat} (h : Own w B v e xs) (k : Kept w w' S) (hs : ∀ g, v.ownBlock = some g → g ∉ S) : Own w' B v e xs :=
  ownsRow_block h fun g hg => k.block g (h.block_lt hg).1 (hs g hg)
def nts (l : List Nat) : List Int := l.map fun x : Nat => (x : Int)
theorem nts_len (l : List Nat) : (nts l).length = l.length := by simp [nts]
theorem nts_get {l : List Nat} {k : Nat} (h : k < l.length) : (nts l)[k]?.getD 0 = ((l[k]?.getD 0 : Nat) : Int) := by
  simp [nts, List.getElem?_eq_getElem h]
def PmV {n : Nat} (w : World) (M : List Nat) (v : Value) (x : Pm n) : Prop :=
  ∃ b o c, v = .slice (some ⟨b, o, none⟩) n c ∧ b ∉ M ∧ b < w.heap.size ∧ ∀ i, i < n → w.cell? ⟨b, o + i, none⟩ = some (.int .i64 (x.at i : Int))
def NewPm {n : Nat} (w w' : World) (v : Value) (x : Pm n) : Prop :=
  ∃ b c, v = .slice (some ⟨b, 0, none⟩) n c ∧ w.heap.size ≤ b ∧ b < w'.heap.size ∧ ∀ i, i < n → w'.cell? ⟨b, i, none⟩ = some (.int .i64 (x.at i : Int))
section
variable {n : Nat} {w w' : World} {M M' : List Nat} {v : Value} {x : Pm n}
theorem PmV.kept (h : PmV w M v x) (k : Kept w w' M) : PmV w' M v x := by
  obtain ⟨b, o, c, rfl, h1, h2, h3⟩ := h
  exact ⟨b, o, c, rfl, h1, Nat.lt_of_lt_of_le h2 k.size, fun i hi => (k.cell (p := ⟨b, o + i, none⟩) h2 h1).trans (h3 i hi)⟩
theorem PmV.below (h : PmV w M v x) (k : Below w.heap.size w w') : PmV w' M v x := h.kept (Kept.ofBelow k)
theorem PmV.drewN (h : PmV w M v x) (q : Nat) : PmV (w.drewN q) M v x := h
theorem PmV.ext (h : PmV w M v x) (hM : ∀ m ∈ M', m ∈ M ∨ w.heap.size ≤ m) : PmV w M' v x := by
  obtain ⟨b, o, c, rfl, h1, h2, h3⟩ := h
  refine ⟨b, o, c, rfl, fun hm => ?_, h2, h3⟩
  rcases hM b hm with e | e
  · exact h1 e
  · omega
theorem PmV.weak (h : PmV w M v x) : PmV w [] v x := h.ext (by simp)
theorem NewPm.pm (h : NewPm w w' v x) (hM : ∀ m ∈ M, m < w.heap.size) : PmV w' M v x := by
  obtain ⟨b, c, rfl, h1, h2, h3⟩ := h
  exact ⟨b, 0, c, rfl, fun hm => by have := hM b hm; omega, h2, fun i hi => by rw [Nat.zero_add]; exact h3 i hi⟩
theorem NewPm.from {w0 : World} (h : NewPm w w' v x) (hs : w0.heap.size ≤ w.heap.size) : NewPm w0 w' v x := by
  obtain ⟨b, c, rfl, h1, h2, h3⟩ := h
  exact ⟨b, c, rfl, by omega, h2, h3⟩
theorem NewPm.of_own {B : Nat} {e : TypeId} {g c : Nat} {xs : List Int} (h : Own w' B (.slice (some ⟨g, 0, none⟩) n c) e (ints xs)) (hB : w.heap.size ≤ B) (he : xs = x.l) : NewPm w w' (.slice (some ⟨g, 0, none⟩) n c) x := by
  have hl := x.ok.1
  refine ⟨g, c, rfl, ?_, ?_, fun i hi => ?_⟩
  · have := (h.block_lt (g := g) rfl).2; omega
  · exact (h.block_lt (g := g) rfl).1
  · subst he
    rw [h.cell i (by rw [ints_len]; omega), ints_get (by omega), x.get hi]; rfl
end
end Go.Proofs.YtbejhkojdiadaaaGreatDoor
namespace Go.Proofs.YtbejhkojdiadaaaGreatDoor
open Go.RowKit PlainPm
structure Stp (w : World) (M : List Nat) (w' : World) (M' : List Nat) : Prop where
  kept : Kept w w' M
  new : ∀ m ∈ M', m ∈ M ∨ w.heap.size ≤ m
theorem Stp.refl (w : World) (M : List Nat) : Stp w M w M := ⟨Kept.refl _ _, fun m h => .inl h⟩
theorem Stp.trans {a b c : World} {M M' M'' : List Nat} (h : Stp a M b M') (k : Stp b M' c M'') : Stp a M c M'' :=
  ⟨h.kept.transW k.kept h.new, fun m hm => by
    rcases k.new m hm with e | e
    · exact h.new m e
    · have := h.kept.size; exact .inr (by omega)⟩
theorem Stp.below {w w' : World} {M : List Nat} (h : Below w.heap.size w w') : Stp w M w' M := ⟨Kept.ofBelow h, fun m h => .inl h⟩
section
variable {n : Nat} {w w' : World} {M M' : List Nat} {v : Value} {x : Pm n}
theorem PmV.stp (h : PmV w M v x) (k : Stp w M w' M') : PmV w' M' v x := by
  obtain ⟨b, o, c, rfl, h1, h2, h3⟩ := h.kept k.kept
  refine ⟨b, o, c, rfl, fun hm => ?_, h2, h3⟩
  obtain ⟨b', o', c', e, _, h4, _⟩ := h
  cases e
  rcases k.new _ hm with e | e
  · exact h1 e
  · omega
def PmL (w : World) (M : List Nat) (gs : List Value) (l : List (Pm n)) : Prop := gs.length = l.length ∧ ∀ (k : Nat) (s : Pm n), l[k]? = some s → ∃ v, gs[k]? = some v ∧ PmV w M v s
theorem PmL.stp {gs : List Value} {l : List (Pm n)} (h : PmL w M gs l) (k : Stp w M w' M') : PmL w' M' gs l :=
  ⟨h.1, fun i s hs => by
    obtain ⟨v, h1, h2⟩ := h.2 i s hs
    exact ⟨v, h1, h2.stp k⟩⟩
theorem PmL.snoc {gs : List Value} {l : List (Pm n)} (h : PmL w M gs l) (hv : PmV w M v x) : PmL w M (gs ++ [v]) (l ++ [x]) := by
  refine ⟨by simp [h.1], fun i s hs => ?_⟩
  by_cases hi : i < l.length
  · rw [List.getElem?_append_left hi] at hs
    rw [List.getElem?_append_left (by rw [h.1]; exact hi)]
    exact h.2 i s hs
  · rw [List.getElem?_append_right (by omega)] at hs
    rw [List.getElem?_append_right (by rw [h.1]; omega), h.1]
    cases hk : i - l.length with
    | zero => rw [hk] at hs; simp at hs ⊢; subst hs; exact hv
    | succ j => rw [hk] at hs; simp at hs
def OptV (w : World) (M : List Nat) (v : Value) : Option (Pm n) → Prop
  | none => v = .slice none 0 0
  | some y => PmV w M v y
theorem OptV.stp {o : Option (Pm n)} (h : OptV w M v o) (k : Stp w M w' M') : OptV w' M' v o := by
  cases o with
  | none => exact h
  | some y => exact PmV.stp h k
def fld (l : Lv n) (c : Nat) : List (Pm n) × List Nat × Option (Pm n) × Nat :=
  if c = 0 then (l.gens, [], none, 0) else if c = 1 then ([], l.orb, none, 0) else if c < 66 then ([], [], l.to (c - 2), 0) else if c < 130 then ([], [], l.to (c - 66), 0) else ([], [], none, l.tried (c - 130))
def CellOk (w : World) (B : Nat) (M : List Nat) (c : Nat) (f : List (Pm n) × List Nat × Option (Pm n) × Nat) (v : Value) : Prop :=
  if c = 0 then ∃ gs, Own w B v 41 gs ∧ PmL w M gs f.1 else if c = 1 then Own w B v 3 (ints (nts f.2.1)) else if c < 66 then OptV w M v f.2.2.1 else if c < 130 then OptV w M v (f.2.2.1.map Pm.inv) else v = .int .i64 (f.2.2.2 : Int)
theorem CellOk.stp {B c : Nat} {f : List (Pm n) × List Nat × Option (Pm n) × Nat} (h : CellOk w B M c f v) (k : Stp w M w' M') (hb : c < 2 → ∀ g, v.ownBlock = some g → w'.heap[g]? = w.heap[g]?) : CellOk w' B M' c f v := by
  unfold CellOk at h ⊢
  by_cases c0 : c = 0
  · rw [if_pos c0] at h ⊢
    obtain ⟨gs, h1, h2⟩ := h
    exact ⟨gs, ownsRow_block h1 (hb (by omega)), h2.stp k⟩
  rw [if_neg c0] at h ⊢
  by_cases c1 : c = 1
  · rw [if_pos c1] at h ⊢
    exact ownsRow_block h (hb (by omega))
  rw [if_neg c1] at h ⊢
  by_cases c2 : c < 66
  · rw [if_pos c2] at h ⊢
    exact OptV.stp h k
  rw [if_neg c2] at h ⊢
  by_cases c3 : c < 130
  · rw [if_pos c3] at h ⊢
    exact OptV.stp h k
  · rw [if_neg c3] at h ⊢
    exact h
structure TowW (n : Nat) (B t G : Nat) (w : World) (M : List Nat) (T : Tw n) (F : Nat → Value) : Prop where
  hn : 0 < n ∧ n ≤ 64
  tb : w.cell? ⟨t, 0, none⟩ = some (.int .i64 (n : Int))
  tl : w.cell? ⟨t, 1, none⟩ = some (.slice (some ⟨G, 0, none⟩) n n)
  tm : t ∉ M ∧ t < w.heap.size
  row : w.rowIs G 144 (n * 194) F
  gm : G ∈ M
  mb : ∀ m ∈ M, B ≤ m ∧ m < w.heap.size
  cells : ∀ i c, i < n → c < 194 → CellOk w B M c (fld (T i) c) (F (194 * i + c))
  blk : ∀ i c, i < n → c < 2 → ∀ g, (F (194 * i + c)).ownBlock = some g → g ∈ M ∧ g ≠ G
  dis : ∀ i c j d, i < n → c < 2 → j < n → d < 2 → ∀ g, (F (194 * i + c)).ownBlock = some g → (F (194 * j + d)).ownBlock = some g → i = j ∧ c = d
section
variable {B t G : Nat} {T T' : Tw n} {F F' : Nat → Value}
theorem TowW.upd (h : TowW n B t G w M T F) (k : Stp w M w' M') (hrow : w'.rowIs G 144 (n * 194) F') (hmb : ∀ m ∈ M', B ≤ m ∧ m < w'.heap.size) (hgm : G ∈ M')
    (hc : ∀ j c, j < n → c < 194 → (F' (194 * j + c) = F (194 * j + c) ∧ fld (T' j) c = fld (T j) c ∧ (c < 2 → ∀ g, (F (194 * j + c)).ownBlock = some g → w'.heap[g]? = w.heap[g]?)) ∨ CellOk w' B M' c (fld (T' j) c) (F' (194 * j + c)))
    (hblk : ∀ i c, i < n → c < 2 → ∀ g, (F' (194 * i + c)).ownBlock = some g → g ∈ M' ∧ g ≠ G)
    (hdis : ∀ i c j d, i < n → c < 2 → j < n → d < 2 → ∀ g, (F' (194 * i + c)).ownBlock = some g → (F' (194 * j + d)).ownBlock = some g → i = j ∧ c = d) :
    TowW n B t G w' M' T' F' := by
  refine ⟨h.hn, (k.kept.cell (p := ⟨t, 0, none⟩) h.tm.2 h.tm.1).trans h.tb, (k.kept.cell (p := ⟨t, 1, none⟩) h.tm.2 h.tm.1).trans h.tl, ⟨fun hm => ?_, Nat.lt_of_lt_of_le h.tm.2 k.kept.size⟩, hrow, hgm, hmb, fun i c hi hc' => ?_, hblk, hdis⟩
  · rcases k.new _ hm with e | e
    · exact h.tm.1 e
    · have := h.tm.2; omega
  · rcases hc i c hi hc' with ⟨e1, e2, e3⟩ | e
    · rw [e1, e2]; exact (h.cells i c hi hc').stp k e3
    · exact e
theorem TowW.below (h : TowW n B t G w M T F) (k : Below w.heap.size w w') : TowW n B t G w' M T F :=
  h.upd (Stp.below k) (h.row.of_block (k.block G h.row.lt)) (fun m hm => ⟨(h.mb m hm).1, Nat.lt_of_lt_of_le (h.mb m hm).2 k.size⟩) h.gm
    (fun j c hj hc => .inl ⟨rfl, rfl, fun hc2 g hg => k.block g (h.mb g (h.blk j c hj hc2 g hg).1).2⟩) h.blk h.dis
theorem TowW.to_ (h : TowW n B t G w M T F) {i p : Nat} (hi : i < n) (hp : p < 64) : OptV w M (F (194 * i + (2 + p))) ((T i).to p) := by
  have := h.cells i (2 + p) hi (by omega)
  unfold CellOk fld at this
  rw [if_neg (by omega), if_neg (by omega), if_pos (by omega), if_neg (by omega), if_neg (by omega), if_pos (by omega)] at this
  simpa using this
theorem TowW.by_ (h : TowW n B t G w M T F) {i p : Nat} (hi : i < n) (hp : p < 64) : OptV w M (F (194 * i + (66 + p))) (((T i).to p).map Pm.inv) := by
  have := h.cells i (66 + p) hi (by omega)
  unfold CellOk fld at this
  rw [if_neg (by omega), if_neg (by omega), if_neg (by omega), if_pos (by omega), if_neg (by omega), if_neg (by omega), if_neg (by omega), if_pos (by omega)] at this
  simpa using this
theorem TowW.tried_ (h : TowW n B t G w M T F) {i p : Nat} (hi : i < n) (hp : p < 64) : F (194 * i + (130 + p)) = .int .i64 ((T i).tried p : Int) := by
  have := h.cells i (130 + p) hi (by omega)
  unfold CellOk fld at this
  rw [if_neg (by omega), if_neg (by omega), if_neg (by omega), if_neg (by omega), if_neg (by omega), if_neg (by omega), if_neg (by omega), if_neg (by omega)] at this
  simpa using this
theorem TowW.gens_ (h : TowW n B t G w M T F) {i : Nat} (hi : i < n) : ∃ gs, Own w B (F (194 * i)) 41 gs ∧ PmL w M gs (T i).gens := by
  have := h.cells i 0 hi (by omega)
  unfold CellOk fld at this
  simpa using this
theorem TowW.orb_ (h : TowW n B t G w M T F) {i : Nat} (hi : i < n) : Own w B (F (194 * i + 1)) 3 (ints (nts (T i).orb)) := by
  have := h.cells i 1 hi (by omega)
  unfold CellOk fld at this
  simpa using this
theorem TowW.cell (h : TowW n B t G w M T F) {i c : Nat} (hi : i < n) (hc : c < 194) : w.cell? ⟨G, 194 * i + c, none⟩ = some (F (194 * i + c)) := h.row.cell (by omega)
theorem TowW.stored (h : TowW n B t G w M T F) (a : Nat) (u : Value) : Stp w M (w.setCell ⟨G, a, none⟩ u) M :=
  ⟨Kept.ofGrown (grown_put a u) (fun k e => by cases e; exact h.gm), fun m hm => .inl hm⟩
theorem fld_tried {l : Lv n} {q c : Nat} (hc : c < 194) (h : c ≠ 130 + q) : fld (stepTry l q) c = fld l c := by
  unfold fld stepTry
  by_cases c0 : c = 0
  · rw [if_pos c0, if_pos c0]
  rw [if_neg c0, if_neg c0]
  by_cases c1 : c = 1
  · rw [if_pos c1, if_pos c1]
  rw [if_neg c1, if_neg c1]
  by_cases c2 : c < 66
  · rw [if_pos c2, if_pos c2]
  rw [if_neg c2, if_neg c2]
  by_cases c3 : c < 130
  · rw [if_pos c3, if_pos c3]
  rw [if_neg c3, if_neg c3]
  dsimp only
  rw [if_neg (by omega)]
theorem fld_tried_at {l : Lv n} {q : Nat} : fld l (130 + q) = ([], [], none, l.tried q) := by
  unfold fld
  rw [if_neg (by omega), if_neg (by omega), if_neg (by omega), if_neg (by omega)]
  simp
theorem TowW.setTried (h : TowW n B t G w M T F) {i q : Nat} (hi : i < n) (hq : q < 64) :
    TowW n B t G (w.setCell ⟨G, 194 * i + (130 + q), none⟩ (.int .i64 ((T i).tried q + 1 : Nat))) M (updL T i (stepTry (T i) q)) (fun k => if k = 194 * i + (130 + q) then .int .i64 ((T i).tried q + 1 : Nat) else F k) := by
  have hne : ∀ j c, c < 2 → 194 * j + c ≠ 194 * i + (130 + q) := fun j c hc => by omega
  have k := h.stored (194 * i + (130 + q)) (.int .i64 ((T i).tried q + 1 : Nat))
  refine h.upd k (h.row.set _ _) (fun m hm => ⟨(h.mb m hm).1, Nat.lt_of_lt_of_le (h.mb m hm).2 k.kept.size⟩) h.gm (fun j c hj hc => ?_) (fun j c hj hc g hg => ?_) (fun j c j' c' hj hc hj' hc' g hg hg' => ?_)
  · by_cases e : j = i ∧ c = 130 + q
    · right
      obtain ⟨rfl, rfl⟩ := e
      rw [if_pos rfl, updL_at, fld_tried_at]
      unfold CellOk stepTry
      rw [if_neg (by omega), if_neg (by omega), if_neg (by omega), if_neg (by omega)]
      simp
    · left
      have hF : 194 * j + c ≠ 194 * i + (130 + q) := by omega
      refine ⟨if_neg hF, ?_, fun hc2 g hg => ?_⟩
      · by_cases ej : j = i
        · subst ej; rw [updL_at]; exact fld_tried hc (by omega)
        · rw [updL_ne _ _ ej]
      · exact Below.heap_setCell _ _ _ _ (h.blk j c hj hc2 g hg).2
  · rw [if_neg (hne j c hc)] at hg; exact h.blk j c hj hc g hg
  · rw [if_neg (hne j c hc)] at hg; rw [if_neg (hne j' c' hc')] at hg'; exact h.dis j c j' c' hj hc hj' hc' g hg hg'
def setTo (l : Lv n) (p : Nat) (y : Pm n) : Lv n := ⟨l.gens, l.orb, fun x => if x = p then some y else l.to x, l.tried⟩
def addOrb (l : Lv n) (p : Nat) : Lv n := ⟨l.gens, l.orb ++ [p], l.to, l.tried⟩
theorem fld_setTo {l : Lv n} {p c : Nat} {y : Pm n} (hp : p < 64) (hc : c < 194) (h1 : c ≠ 2 + p) (h2 : c ≠ 66 + p) : fld (setTo l p y) c = fld l c := by
  unfold fld setTo
  by_cases c0 : c = 0
  · rw [if_pos c0, if_pos c0]
  rw [if_neg c0, if_neg c0]
  by_cases c1 : c = 1
  · rw [if_pos c1, if_pos c1]
  rw [if_neg c1, if_neg c1]
  by_cases c2 : c < 66
  · rw [if_pos c2, if_pos c2]
    dsimp only
    rw [if_neg (by omega)]
  rw [if_neg c2, if_neg c2]
  by_cases c3 : c < 130
  · rw [if_pos c3, if_pos c3]
    dsimp only
    rw [if_neg (by omega)]
  rw [if_neg c3, if_neg c3]
theorem TowW.put2 (h : TowW n B t G w M T F) {i p : Nat} {y : Pm n} {v u : Value} (hi : i < n) (hp : p < 64) (hv : PmV w M v y) (hu : PmV w M u y.inv) :
    TowW n B t G ((w.setCell ⟨G, 194 * i + (2 + p), none⟩ v).setCell ⟨G, 194 * i + (66 + p), none⟩ u) M (updL T i (setTo (T i) p y)) (fun k => if k = 194 * i + (66 + p) then u else if k = 194 * i + (2 + p) then v else F k) ∧
    Stp w M ((w.setCell ⟨G, 194 * i + (2 + p), none⟩ v).setCell ⟨G, 194 * i + (66 + p), none⟩ u) M := by
  have k : Stp w M ((w.setCell ⟨G, 194 * i + (2 + p), none⟩ v).setCell ⟨G, 194 * i + (66 + p), none⟩ u) M :=
    ⟨(h.stored (194 * i + (2 + p)) v).kept.trans (Kept.ofGrown (grown_put _ u) (fun k e => by cases e; exact h.gm)), fun m hm => .inl hm⟩
  have hne : ∀ j c, c < 2 → 194 * j + c ≠ 194 * i + (66 + p) ∧ 194 * j + c ≠ 194 * i + (2 + p) := fun j c hc => by omega
  refine ⟨h.upd k ((h.row.set _ _).set _ _) (fun m hm => ⟨(h.mb m hm).1, Nat.lt_of_lt_of_le (h.mb m hm).2 k.kept.size⟩) h.gm (fun j c hj hc => ?_) (fun j c hj hc g hg => ?_) (fun j c j' c' hj hc hj' hc' g hg hg' => ?_), k⟩
  · by_cases e : j = i ∧ c = 66 + p
    · right
      obtain ⟨rfl, rfl⟩ := e
      rw [if_pos rfl, updL_at]
      unfold CellOk fld setTo
      rw [if_neg (by omega), if_neg (by omega), if_neg (by omega), if_pos (by omega), if_neg (by omega), if_neg (by omega), if_neg (by omega), if_pos (by omega)]
      simp only [show 66 + p - 66 = p by omega, if_pos, Option.map_some]
      exact hu.stp k
    · by_cases e2 : j = i ∧ c = 2 + p
      · right
        obtain ⟨rfl, rfl⟩ := e2
        rw [if_neg (by omega), if_pos rfl, updL_at]
        unfold CellOk fld setTo
        rw [if_neg (by omega), if_neg (by omega), if_pos (by omega), if_neg (by omega), if_neg (by omega), if_pos (by omega)]
        simp only [show 2 + p - 2 = p by omega, if_pos]
        exact hv.stp k
      · left
        refine ⟨by rw [if_neg (by omega), if_neg (by omega)], ?_, fun hc2 g hg => ?_⟩
        · by_cases ej : j = i
          · subst ej; rw [updL_at]; exact fld_setTo hp hc (by omega) (by omega)
          · rw [updL_ne _ _ ej]
        · have := (h.blk j c hj hc2 g hg).2
          rw [Below.heap_setCell _ _ _ _ this, Below.heap_setCell _ _ _ _ this]
  · rw [if_neg (hne j c hc).1, if_neg (hne j c hc).2] at hg; exact h.blk j c hj hc g hg
  · rw [if_neg (hne j c hc).1, if_neg (hne j c hc).2] at hg; rw [if_neg (hne j' c' hc').1, if_neg (hne j' c' hc').2] at hg'; exact h.dis j c j' c' hj hc hj' hc' g hg hg'
theorem TowW.app (h : TowW n B t G w M T F) {i c0 g cap m : Nat} {l : Lv n} {w6 : World} (hB : B ≤ w.heap.size) (hi : i < n) (hc0 : c0 < 2) (hl : ∀ c, c < 194 → c ≠ c0 → fld l c = fld (T i) c)
    (hg : w.grownBy w6 (F (194 * i + c0)).ownBlock) (hnew : (F (194 * i + c0)).ownBlock = some g ∨ w.heap.size ≤ g) (hlt : g < w6.heap.size)
    (hok : ∀ w7 M7, Stp w M w7 M7 → w7.heap[g]? = w6.heap[g]? → CellOk w7 B M7 c0 (fld l c0) (.slice (some ⟨g, 0, none⟩) m cap)) :
    TowW n B t G (w6.setCell ⟨G, 194 * i + c0, none⟩ (.slice (some ⟨g, 0, none⟩) m cap)) (g :: M) (updL T i l) (fun k => if k = 194 * i + c0 then .slice (some ⟨g, 0, none⟩) m cap else F k) ∧
    Stp w M (w6.setCell ⟨G, 194 * i + c0, none⟩ (.slice (some ⟨g, 0, none⟩) m cap)) (g :: M) := by
  have hGl := h.row.lt
  have hgG : g ≠ G := by
    rcases hnew with e | e
    · exact (h.blk i c0 hi hc0 g e).2
    · omega
  have hgB : B ≤ g := by
    rcases hnew with e | e
    · exact (h.mb g (h.blk i c0 hi hc0 g e).1).1
    · omega
  have k6 : Kept w w6 M := Kept.ofGrown hg (fun b e => (h.blk i c0 hi hc0 b e).1)
  have k : Stp w M (w6.setCell ⟨G, 194 * i + c0, none⟩ (.slice (some ⟨g, 0, none⟩) m cap)) (g :: M) :=
    ⟨k6.trans (Kept.ofGrown (grown_put _ _) (fun k e => by cases e; exact h.gm)), fun b hb => by
      rcases List.mem_cons.1 hb with rfl | hb
      · rcases hnew with e | e
        · exact .inl (h.blk i c0 hi hc0 b e).1
        · exact .inr e
      · exact .inl hb⟩
  have hG6 : w6.heap[G]? = w.heap[G]? := hg.block G hGl (fun e => (h.blk i c0 hi hc0 G e.symm).2 rfl)
  have hsz : (w6.setCell ⟨G, 194 * i + c0, none⟩ (.slice (some ⟨g, 0, none⟩) m cap)).heap.size = w6.heap.size := by simp [World.setCell]
  have hF : ∀ j c, j < n → c < 2 → ¬ (j = i ∧ c = c0) → 194 * j + c ≠ 194 * i + c0 := fun j c _ hc e => by omega
  refine ⟨h.upd k ((h.row.of_block hG6).set _ _) (fun b hb => ?_) (by simp [h.gm]) (fun j c hj hc => ?_) (fun j c hj hc b hb => ?_) (fun j c j' c' hj hc hj' hc' b hb hb' => ?_), k⟩
  · rcases List.mem_cons.1 hb with rfl | hb
    · exact ⟨hgB, by rw [hsz]; exact hlt⟩
    · exact ⟨(h.mb b hb).1, Nat.lt_of_lt_of_le (h.mb b hb).2 k.kept.size⟩
  · by_cases e : j = i ∧ c = c0
    · right
      obtain ⟨rfl, rfl⟩ := e
      rw [if_pos rfl, updL_at]
      exact hok _ _ k (Below.heap_setCell _ _ _ _ hgG)
    · left
      refine ⟨if_neg (by omega), ?_, fun hc2 b hb => ?_⟩
      · by_cases ej : j = i
        · subst ej; rw [updL_at]; exact hl c hc (fun e2 => e ⟨rfl, e2⟩)
        · rw [updL_ne _ _ ej]
      · have hb2 := h.blk j c hj hc2 b hb
        rw [Below.heap_setCell _ _ _ _ hb2.2]
        exact hg.block b (h.mb b hb2.1).2 (fun e2 => e (h.dis j c i c0 hj hc2 hi hc0 b hb e2.symm))
  · by_cases e : j = i ∧ c = c0
    · obtain ⟨rfl, rfl⟩ := e
      rw [if_pos rfl] at hb
      cases hb
      exact ⟨by simp, hgG⟩
    · rw [if_neg (hF j c hj hc e)] at hb
      have := h.blk j c hj hc b hb
      exact ⟨by simp [this.1], this.2⟩
  · by_cases e : j = i ∧ c = c0
    · by_cases e' : j' = i ∧ c' = c0
      · omega
      · obtain ⟨rfl, rfl⟩ := e
        rw [if_pos rfl] at hb
        rw [if_neg (hF j' c' hj' hc' e')] at hb'
        cases hb
        rcases hnew with q | q
        · exact h.dis j c j' c' hi hc hj' hc' _ q hb'
        · exact absurd (h.mb _ (h.blk j' c' hj' hc' _ hb').1).2 (Nat.not_lt.2 q)
    · rw [if_neg (hF j c hj hc e)] at hb
      by_cases e' : j' = i ∧ c' = c0
      · obtain ⟨rfl, rfl⟩ := e'
        rw [if_pos rfl] at hb'
        cases hb'
        rcases hnew with q | q
        · exact h.dis j c j' c' hj hc hj' hc' _ hb q
        · exact absurd (h.mb _ (h.blk j c hj hc _ hb).1).2 (Nat.not_lt.2 q)
      · rw [if_neg (hF j' c' hj' hc' e')] at hb'
        exact h.dis j c j' c' hj hc hj' hc' b hb hb'
end
end
end Go.Proofs.YtbejhkojdiadaaaGreatDoor
