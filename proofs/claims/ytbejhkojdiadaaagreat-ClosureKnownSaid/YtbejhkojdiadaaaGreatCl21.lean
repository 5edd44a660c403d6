/- The list of all elements of a chain's group, by its levels and by ranks: plain. · The examples of chapter 11: groups by their tables, and what they have to do with each other: plain. · closure.Commutator. · Small lemmas: cells that stay. · Conj, on both sides. -/
import Derived.Test.YtbejhkojdiadaaaGreatCl01
import Derived.Test.YtbejhkojdiadaaaGreatCl02
import Derived.Test.YtbejhkojdiadaaaGreatCl03
import Derived.Test.YtbejhkojdiadaaaGreatCl04
import Derived.Test.YtbejhkojdiadaaaGreatCl05
import Derived.Test.YtbejhkojdiadaaaGreatCl06
import Derived.Test.YtbejhkojdiadaaaGreatCl07
import Derived.Test.YtbejhkojdiadaaaGreatCl08
import Derived.Test.YtbejhkojdiadaaaGreatCl09
import Derived.Test.YtbejhkojdiadaaaGreatCl10
import Derived.Test.YtbejhkojdiadaaaGreatCl11
import Derived.Test.YtbejhkojdiadaaaGreatCl12
import Derived.Test.YtbejhkojdiadaaaGreatCl13
import Derived.Test.YtbejhkojdiadaaaGreatCl14
import Derived.Test.YtbejhkojdiadaaaGreatCl15
import Derived.Test.YtbejhkojdiadaaaGreatCl16
import Derived.Test.YtbejhkojdiadaaaGreatCl17
import Derived.Test.YtbejhkojdiadaaaGreatCl18
import Derived.Test.YtbejhkojdiadaaaGreatCl19
import Derived.Test.YtbejhkojdiadaaaGreatCl20
import Derived.Test.YtbejhkojdiadaaaGreatProg
import Derived.WalkKit
import Derived.WalkSpells
import Derived.BigQuiet
import Derived.Deep.QuietTactic
import Derived.Deep.LoopGhost
import Derived.Lib.Hide
import Derived.Maps.AppendAt
import Derived.Deep.AppendLies
import Derived.StillTailTactics
import Derived.Laws.CopyOwn
import Derived.Deep.OwnRows
import Derived.Deep.DeepCutAuto
import Derived.Laws.Cover3
import Derived.Deep.RegionHeld3
import Derived.RangeFuncRecord
import Derived.Lib.SlicesSearch
import Derived.RangeFuncBox
import Derived.RangeFuncLeaves
import Derived.RangeFuncWrites
import Derived.RangeFuncFrom
import Derived.Shelf.Abstract
import Derived.OwnWalkIn
import Derived.TacticsInMore
import Derived.LoopNIn
import Derived.LoopIn
import Derived.Shelf.GgSortFunc.Insertion
import Derived.Shelf.SlIter.Collect
import Derived.Shelf.Sort.Plain
import Derived.Deep.RegionLaw
import Derived.ControlIn
import Derived.Deep.AppendSrc
set_option linter.unusedSimpArgs false
set_option linter.unusedVariables false
namespace Go.Proofs.YtbejhkojdiadaaaGreat.PlainPm
variable {n : Nat} {G : Pm n → Prop} {O : Nat → List Nat} {R : Nat → Nat → Pm n}
theorem sel_mem {y : Pm n} {l : List Nat} (hl : ∀ p ∈ l, p < n) (hd : l.Nodup) {s : Nat} (h : s < l.length) : selQ y l s ∈ l ∧ cnt y l (y.at (selQ y l s)) = s := by
  have := sel_sorted (y := y) hl hd (m := (l.map fun q => (y.at q : Int)).mergeSort (fun a b => decide (a ≤ b))) (List.mergeSort_perm _ _)
    ((List.pairwise_mergeSort (fun a b c h1 h2 => by simp at *; omega) (fun a b => by simp; omega) _).imp (by simp)) h
  exact ⟨this.1, this.2.1⟩
theorem cnt_lt {y : Pm n} {l : List Nat} {q : Nat} (hq : q ∈ l) : cnt y l (y.at q) < l.length := by
  rcases Nat.lt_or_ge (cnt y l (y.at q)) l.length with h | h
  · exact h
  · have h1 : cnt y l (y.at q) = l.length := Nat.le_antisymm (cnt_le ..) h
    have := (List.countP_eq_length.1 h1) q hq
    simp at this
def elsF (O : Nat → List Nat) (R : Nat → Nat → Pm n) : Nat → Nat → Pm n → List (Pm n)
  | 0, _, y => [y]
  | f + 1, i, y => (List.range (O i).length).flatMap fun s => elsF O R f (i + 1) ((R i (selQ y (O i) s)).mul y)
theorem range_mul {α : Type} (g : Nat → α) (m : Nat) : ∀ L, (List.range (L * m)).map g = (List.range L).flatMap fun s => (List.range m).map fun j => g (s * m + j)
  | 0 => by simp
  | L + 1 => by
    rw [List.range_succ, List.flatMap_append, ← range_mul g m L, Nat.succ_mul, List.range_add, List.map_append]
    simp [List.map_map, Function.comp_def]
theorem els_un (h : ChG G O R) : ∀ {f i : Nat} {y : Pm n}, i + f = n → elsF O R f i y = (List.range (szF O f i)).map (unF O R f i y)
  | 0, i, y, _ => by simp [elsF, szF, unF]
  | f + 1, i, y, hf => by
    have hp := h.sz_pos (f := f) (i := i + 1) (by omega)
    rw [elsF, szF, range_mul]
    refine congrArg (fun g => (List.range (O i).length).flatMap g) (funext fun s => ?_)
    rw [els_un h (f := f) (by omega)]
    refine List.map_congr_left fun j hj => ?_
    have hj' := List.mem_range.1 hj
    rw [unF]
    have h1 : (s * szF O f (i + 1) + j) / szF O f (i + 1) = s := by
      rw [Nat.mul_comm, Nat.mul_add_div hp, Nat.div_eq_of_lt hj', Nat.add_zero]
    have h2 : (s * szF O f (i + 1) + j) % szF O f (i + 1) = j := by
      rw [Nat.mul_comm, Nat.mul_add_mod, Nat.mod_eq_of_lt hj']
    rw [h1, h2]
theorem mem_els (h : ChG G O R) : ∀ {f i : Nat} {x y : Pm n}, i + f = n → G y → (x ∈ elsF O R f i y ↔ G x ∧ ∀ j, j < i → x.at j = y.at j)
  | 0, i, x, y, hf, hy => by
    have : i = n := by omega
    subst this
    rw [elsF, List.mem_singleton]
    exact ⟨fun e => by subst e; exact ⟨hy, fun _ _ => rfl⟩, fun e => Pm.ext e.2⟩
  | f + 1, i, x, y, hf, hy => by
    have hi : i < n := by omega
    rw [elsF, List.mem_flatMap]
    constructor
    · rintro ⟨s, hs, hx⟩
      obtain ⟨h1, h2⟩ := sel_mem (y := y) (h.lt i hi) (h.nd i hi) (List.mem_range.1 hs)
      obtain ⟨s1, s2, s3⟩ := h.step hi hy h1
      obtain ⟨k1, k2⟩ := (mem_els h (f := f) (by omega) s1).1 hx
      exact ⟨k1, fun j hj => by rw [k2 j (by omega), s2 j hj]⟩
    · rintro ⟨hx, hxy⟩
      have hp := h.pick hi hy hx (fun j hj => (hxy j hj).symm)
      have hsel := selQ_eq (y := y) (h.lt i hi) hp rfl
      refine ⟨cnt y (O i) (y.at (y.inv.at (x.at i))), List.mem_range.2 (cnt_lt hp), ?_⟩
      rw [hsel]
      obtain ⟨s1, s2, s3⟩ := h.step hi hy hp
      refine (mem_els h (f := f) (by omega) s1).2 ⟨hx, fun j hj => ?_⟩
      rcases Nat.lt_or_ge j i with h1 | h1
      · rw [s2 j h1]; exact hxy j h1
      · have : j = i := by omega
        subst this
        rw [s3, (y.inv_at (x.lt hi)).2]
theorem els_len (h : ChG G O R) {f i : Nat} {y : Pm n} (hf : i + f = n) : (elsF O R f i y).length = szF O f i := by
  rw [els_un h hf]; simp
def lexLt' (x y : Pm n) : Prop := ∃ k, k < n ∧ (∀ j, j < k → x.at j = y.at j) ∧ x.at k < y.at k
theorem pairwise_flatMap {α β : Type} {r : β → β → Prop} {l : List α} {f : α → List β} {q : α → α → Prop} (hq : l.Pairwise q) (h1 : ∀ a ∈ l, (f a).Pairwise r) (h2 : ∀ a ∈ l, ∀ b ∈ l, q a b → ∀ x ∈ f a, ∀ y ∈ f b, r x y) : (l.flatMap f).Pairwise r := by
  induction l with
  | nil => simp
  | cons a l ih =>
    rw [List.pairwise_cons] at hq
    rw [List.flatMap_cons, List.pairwise_append]
    refine ⟨h1 a (List.mem_cons_self ..), ih hq.2 (fun b hb => h1 b (List.mem_cons_of_mem _ hb)) (fun b hb c hc => h2 b (List.mem_cons_of_mem _ hb) c (List.mem_cons_of_mem _ hc)), ?_⟩
    intro x hx y hy
    obtain ⟨b, hb, hy⟩ := List.mem_flatMap.1 hy
    exact h2 a (List.mem_cons_self ..) b (List.mem_cons_of_mem _ hb) (hq.1 b hb) x hx y hy
theorem cnt_mono {y : Pm n} {l : List Nat} {a b : Nat} (h : cnt y l a < cnt y l b) : a < b := by
  rcases Nat.lt_or_ge a b with h1 | h1
  · exact h1
  · have : cnt y l b ≤ cnt y l a := List.countP_mono_left fun q _ hq => by rw [decide_eq_true_iff] at hq ⊢; omega
    omega
theorem els_lt (h : ChG G O R) : ∀ {f i : Nat} {y : Pm n}, i + f = n → G y → (elsF O R f i y).Pairwise lexLt'
  | 0, i, y, _, _ => by simp [elsF]
  | f + 1, i, y, hf, hy => by
    have hi : i < n := by omega
    rw [elsF]
    refine pairwise_flatMap (q := fun s t => s < t) List.pairwise_lt_range (fun s hs => ?_) (fun s hs t ht hst x hx z hz => ?_)
    · obtain ⟨h1, _⟩ := sel_mem (y := y) (h.lt i hi) (h.nd i hi) (List.mem_range.1 hs)
      exact els_lt h (f := f) (by omega) (h.step hi hy h1).1
    · obtain ⟨h1, c1⟩ := sel_mem (y := y) (h.lt i hi) (h.nd i hi) (List.mem_range.1 hs)
      obtain ⟨h2, c2⟩ := sel_mem (y := y) (h.lt i hi) (h.nd i hi) (List.mem_range.1 ht)
      obtain ⟨s1, s2, s3⟩ := h.step hi hy h1
      obtain ⟨t1, t2, t3⟩ := h.step hi hy h2
      obtain ⟨_, k1⟩ := (mem_els h (f := f) (by omega) s1).1 hx
      obtain ⟨_, k2⟩ := (mem_els h (f := f) (by omega) t1).1 hz
      refine ⟨i, hi, fun j hj => by rw [k1 j (by omega), k2 j (by omega), s2 j hj, t2 j hj], ?_⟩
      rw [k1 i (by omega), k2 i (by omega), s3, t3]
      exact cnt_mono (l := O i) (by rw [c1, c2]; exact hst)
theorem mem_all (h : ChG G O R) {x : Pm n} : x ∈ elsF O R n 0 (PlainPm.one n) ↔ G x := by
  rw [mem_els h (Nat.zero_add n) h.isG.one]
  exact ⟨fun e => e.1, fun e => ⟨e, fun j hj => by omega⟩⟩
end Go.Proofs.YtbejhkojdiadaaaGreat.PlainPm
namespace Go.Proofs.YtbejhkojdiadaaaGreat.PlainPm
variable {n : Nat}
def inT (T : Tw n) (x : Pm n) : Bool := decide ((sft T n 0 x).1 = n)
theorem inT_grp {G : Pm n → Prop} {T : Tw n} (h : Of G T) {x : Pm n} (hx : inT T x = true) : G x :=
  ((h.mem 0 (Nat.zero_le _) x).1 (sft_end h.wf (Nat.zero_add n) (fun j hj => by omega) (show sft T n 0 x = (n, (sft T n 0 x).2) from Prod.ext (of_decide_eq_true hx) rfl))).1
theorem s_sft {T : Tw n} (hT : Wf T) : ∀ {f i : Nat} {x : Pm n}, i + f = n → S T f i x → (sft T f i x).1 = n
  | 0, i, x, hf, _ => by simp only [sft]; omega
  | f + 1, i, x, hf, h => by
    obtain ⟨_, y, hy, hs⟩ := h
    rw [sft, hy]
    show (sft T f (i + 1) (if x.at i = i then x else x.mul y.inv)).1 = n
    rw [sft_next hT (by omega) hy]
    exact s_sft hT (by omega) hs
theorem inT_iff {G : Pm n → Prop} {T : Tw n} (h : Of G T) (x : Pm n) : inT T x = true ↔ G x :=
  ⟨inT_grp h, fun hx => decide_eq_true (s_sft h.wf (Nat.zero_add n) ((h.mem 0 (Nat.zero_le _) x).2 ⟨hx, fun j hj => by omega⟩))⟩
def ncW (L B : List (Pm n)) (w : List (Nat × List Nat)) : Pm n := w.foldl (fun x e => x.mul (cj (L[e.1]?.getD (one n)) (evW B e.2))) (one n)
theorem ncW_nc (L B : List (Pm n)) (w : List (Nat × List Nat)) : NcG (· ∈ L) (· ∈ B) (ncW L B w) := by
  have key : ∀ (w : List (Nat × List Nat)) (x : Pm n), NcG (· ∈ L) (· ∈ B) x → NcG (· ∈ L) (· ∈ B) (w.foldl (fun x e => x.mul (cj (L[e.1]?.getD (one n)) (evW B e.2))) x) := by
    intro w
    induction w with
    | nil => exact fun x h => h
    | cons e w ih =>
      refine fun x h => ih _ (NcG.isG.mul h (NcG.nrm.grp _ ?_ _ (evW_grp B e.2)))
      cases hl : L[e.1]? with
      | none => exact NcG.isG.one
      | some y => exact NcG.base (List.mem_of_getElem? hl)
  exact key w _ NcG.isG.one
theorem nc_eq {L B K : List (Pm n)} {es : List En} (ws : List (List (Nat × List Nat))) (hK : Of (Grp (· ∈ K)) (tabTw (tabOf n es)))
    (h : (L.all (inT (tabTw (tabOf n es))) && K.all (fun x => B.all fun y => inT (tabTw (tabOf n es)) (cj x y)) && decide (ws.map (ncW L B) = K)) = true) (x : Pm n) : NcG (· ∈ L) (· ∈ B) x ↔ Grp (· ∈ K) x := by
  simp only [Bool.and_eq_true, List.all_eq_true, decide_eq_true_iff] at h
  obtain ⟨⟨h1, h2⟩, h3⟩ := h
  refine (NcG.of Grp.isG (fun y hy => inT_grp hK (h1 y hy)) (nrm_of Grp.isG (fun _ => Iff.rfl) fun a ha y hy => inT_grp hK (h2 a ha y hy)) (fun y hy => Grp.sub NcG.isG (fun s hs => ?_) hy) x).symm
  rw [← h3] at hs
  obtain ⟨w, _, rfl⟩ := List.mem_map.1 hs
  exact ncW_nc L B w
def cmL (A B : List (Pm n)) : List (Pm n) := A.flatMap fun a => B.map (cm a)
theorem mem_cmL {A B : List (Pm n)} {z : Pm n} : z ∈ cmL A B ↔ ∃ a b, a ∈ A ∧ b ∈ B ∧ z = cm a b := by
  unfold cmL
  simp only [List.mem_flatMap, List.mem_map]
  exact ⟨fun ⟨a, ha, b, hb, e⟩ => ⟨a, b, ha, hb, e.symm⟩, fun ⟨a, b, ha, hb, e⟩ => ⟨a, ha, b, hb, e.symm⟩⟩
theorem cmL_nc {G1 G2 : Pm n → Prop} {A B : List (Pm n)} (hg1 : IsG G1) (hg2 : IsG G2) (h1 : ∀ x, Grp (· ∈ A) x ↔ G1 x) (h2 : ∀ x, Grp (· ∈ B) x ↔ G2 x) (x : Pm n) : NcG (· ∈ cmL A B) (· ∈ A ++ B) x ↔ CmG G1 G2 x := by
  rw [← cm_nc hg1 hg2 h1 h2 x]
  exact ⟨fun h H hH hl hb => h H hH (fun y hy => hl y (mem_cmL.1 hy)) (hb.sub fun y hy => List.mem_append.1 hy), fun h H hH hl hb => h H hH (fun y hy => hl y (mem_cmL.2 hy)) (hb.sub fun y hy => List.mem_append.2 hy)⟩
theorem cm_eq {A B K : List (Pm n)} {es : List En} (ws : List (List (Nat × List Nat))) (hK : Of (Grp (· ∈ K)) (tabTw (tabOf n es)))
    (h : ((cmL A B).all (inT (tabTw (tabOf n es))) && K.all (fun x => (A ++ B).all fun y => inT (tabTw (tabOf n es)) (cj x y)) && decide (ws.map (ncW (cmL A B) (A ++ B)) = K)) = true) (x : Pm n) : CmG (Grp (· ∈ A)) (Grp (· ∈ B)) x ↔ Grp (· ∈ K) x := by
  rw [← nc_eq ws hK h x]
  exact (cmL_nc Grp.isG Grp.isG (fun _ => Iff.rfl) (fun _ => Iff.rfl) x).symm
def CjG (G : Pm n → Prop) (p : Pm n) (z : Pm n) : Prop := G (cj z p.inv)
theorem CjG.isG {G : Pm n → Prop} (hG : IsG G) (p : Pm n) : IsG (CjG G p) := cj_isG hG p.inv
theorem grp_cj {G : Pm n → Prop} {l : List (Pm n)} (h : ∀ x, Grp (· ∈ l) x ↔ G x) (hG : IsG G) (p z : Pm n) : Grp (· ∈ l.map fun a => cj a p) z ↔ CjG G p z := by
  constructor
  · refine Grp.sub (CjG.isG hG p) fun s hs => ?_
    obtain ⟨a, ha, rfl⟩ := List.mem_map.1 hs
    show G (cj (cj a p) p.inv)
    rw [cj_back]
    exact (h a).1 (Grp.base ha)
  · intro hz
    have h1 : Grp (· ∈ l) (cj z p.inv) := (h _).2 hz
    have h2 : Grp (· ∈ l.map fun a => cj a p) (cj (cj z p.inv) p) := Grp.sub (cj_isG Grp.isG p) (fun s hs => Grp.base (List.mem_map.2 ⟨s, hs, rfl⟩)) h1
    rwa [cj_forth] at h2
def CtG (G : Pm n → Prop) (x : Pm n) : Prop := G x ∧ ∀ y, G y → x.mul y = y.mul x
theorem comm_isG (x : Pm n) : IsG fun y : Pm n => x.mul y = y.mul x :=
  ⟨by rw [Pm.mul_one, Pm.one_mul], fun {a b} ha hb => by rw [← Pm.mul_assoc, ha, Pm.mul_assoc, hb, Pm.mul_assoc], fun {a} ha => by
    have h1 := congrArg (fun z => (a.inv.mul z).mul a.inv) ha
    simp only [Pm.mul_assoc, Pm.inv_mul_mul, Pm.mul_inv, Pm.mul_one] at h1
    exact h1.symm⟩
theorem CtG.isG {G : Pm n → Prop} (hG : IsG G) : IsG (CtG G) :=
  ⟨⟨hG.one, fun y _ => by rw [Pm.mul_one, Pm.one_mul]⟩, fun {a b} ha hb => ⟨hG.mul ha.1 hb.1, fun y hy => by rw [Pm.mul_assoc, hb.2 y hy, ← Pm.mul_assoc, ha.2 y hy, Pm.mul_assoc]⟩,
   fun {a} ha => ⟨hG.inv ha.1, fun y hy => ((comm_isG y).inv (x := a) (ha.2 y hy).symm).symm⟩⟩
theorem ct_gens {G : Pm n → Prop} {l : List (Pm n)} (h : ∀ x, Grp (· ∈ l) x ↔ G x) (x : Pm n) : CtG G x ↔ G x ∧ ∀ y ∈ l, x.mul y = y.mul x :=
  ⟨fun hx => ⟨hx.1, fun y hy => hx.2 y ((h y).1 (Grp.base hy))⟩, fun hx => ⟨hx.1, fun y hy => Grp.sub (comm_isG x) hx.2 ((h y).2 hy)⟩⟩
theorem cj_comm (x y : Pm n) : cj x y = x ↔ x.mul y = y.mul x := by
  unfold cj
  constructor
  · intro h
    have := congrArg (fun z => y.mul z) h
    simp only [Pm.mul_assoc, Pm.mul_inv_mul] at this
    exact this
  · intro h
    rw [Pm.mul_assoc, h, Pm.inv_mul_mul]
def CoG (C D : Pm n → Prop) (x : Pm n) : Prop := ∀ y, D y → C (cj x y)
theorem CoG.isG {C D : Pm n → Prop} (hC : IsG C) : IsG (CoG C D) :=
  ⟨fun y _ => by rw [cj_one]; exact hC.one, fun ha hb y hy => by rw [cj_mul]; exact hC.mul (ha y hy) (hb y hy), fun ha y hy => by rw [cj_inv]; exact hC.inv (ha y hy)⟩
theorem CoG.sub {C D : Pm n → Prop} (hD : IsG D) {x : Pm n} (h : CoG C D x) : C x := by have := h _ hD.one; rwa [cj_by_one] at this
theorem CoG.nrm {C D : Pm n → Prop} (hD : IsG D) : Nrm (CoG C D) D := fun x hx y hy z hz => by rw [cj_cj]; exact hx _ (hD.mul hy hz)
theorem CoG.of_nrm {C D H : Pm n → Prop} {l : List (Pm n)} (hl : ∀ x, Grp (· ∈ l) x ↔ D x) (hs : ∀ x, H x → C x) (hn : Nrm H (· ∈ l)) {x : Pm n} (hx : H x) : CoG C D x := fun y hy => hs _ (hn.grp x hx y ((hl y).2 hy))
def ctChk (n : Nat) (E : List (Pm n)) (B K : List (Pm n)) (T TG : Tw n) : Bool :=
  E.all (fun x => !(B.all fun y => decide (x.mul y = y.mul x)) || inT T x) && K.all fun x => inT TG x && B.all fun y => decide (x.mul y = y.mul x)
theorem ct_eq {B K : List (Pm n)} {T TG : Tw n} (hK : Of (Grp (· ∈ K)) T) (hB : Of (Grp (· ∈ B)) TG) (h : ctChk n (elsF (orbO TG) (repT TG) n 0 (one n)) B K T TG = true) (x : Pm n) : CtG (Grp (· ∈ B)) x ↔ Grp (· ∈ K) x := by
  unfold ctChk at h
  simp only [Bool.and_eq_true, List.all_eq_true, Bool.or_eq_true, Bool.not_eq_true', decide_eq_true_iff] at h
  obtain ⟨h1, h2⟩ := h
  constructor
  · intro hx
    have hm := (mem_all (hB.chG Grp.isG)).2 hx.1
    rcases h1 x hm with h3 | h3
    · rw [List.all_eq_false] at h3
      obtain ⟨y, hy, hne⟩ := h3
      exact absurd (decide_eq_true (hx.2 y (Grp.base hy))) hne
    · exact inT_grp hK h3
  · exact Grp.sub (CtG.isG Grp.isG) fun s hs => (ct_gens (fun _ => Iff.rfl) s).2 ⟨inT_grp hB (h2 s hs).1, (h2 s hs).2⟩
def coChk (n : Nat) (E ED K : List (Pm n)) (T TC : Tw n) : Bool :=
  E.all (fun x => !(ED.all fun y => inT TC (cj x y)) || inT T x) && K.all fun x => ED.all fun y => inT TC (cj x y)
theorem co_eq {A B K : List (Pm n)} {T TC TD : Tw n} (hK : Of (Grp (· ∈ K)) T) (hA : Of (Grp (· ∈ A)) TC) (hB : Of (Grp (· ∈ B)) TD) (h : coChk n (elsF (orbO TC) (repT TC) n 0 (one n)) (elsF (orbO TD) (repT TD) n 0 (one n)) K T TC = true) (x : Pm n) :
    CoG (Grp (· ∈ A)) (Grp (· ∈ B)) x ↔ Grp (· ∈ K) x := by
  unfold coChk at h
  simp only [Bool.and_eq_true, List.all_eq_true, Bool.or_eq_true, Bool.not_eq_true'] at h
  obtain ⟨h1, h2⟩ := h
  have hm : ∀ y, y ∈ elsF (orbO TD) (repT TD) n 0 (one n) ↔ Grp (· ∈ B) y := fun y => mem_all (hB.chG Grp.isG)
  constructor
  · intro hx
    rcases h1 x ((mem_all (hA.chG Grp.isG)).2 (CoG.sub Grp.isG hx)) with h3 | h3
    · rw [List.all_eq_false] at h3
      obtain ⟨y, hy, hne⟩ := h3
      exact absurd ((inT_iff hA _).2 (hx y ((hm y).1 hy))) hne
    · exact inT_grp hK h3
  · exact Grp.sub (CoG.isG Grp.isG) fun s hs y hy => inT_grp hA (h2 s hs y ((hm y).2 hy))
def gA4 : List (Pm 4) := [litP 4 [1, 2, 0, 3], litP 4 [0, 2, 3, 1]]
def eA4 : List En := [(0, 1, [1, 2, 0, 3], [0]), (0, 2, [2, 0, 1, 3], [0, 0]), (0, 3, [3, 0, 2, 1], [0, 0, 1]), (1, 2, [0, 2, 3, 1], [1]), (1, 3, [0, 3, 1, 2], [1, 1])]
theorem tA4 : Of (Grp (· ∈ gA4)) (tabTw (tabOf 4 eA4)) := tower_of (by decide +kernel)
def gY2 : List (Pm 4) := [litP 4 [1, 0, 2, 3]]
def gYZ : List (Pm 4) := [litP 4 [1, 0, 2, 3], litP 4 [0, 1, 3, 2]]
def eYZ : List En := [(0, 1, [1, 0, 2, 3], [0]), (2, 3, [0, 1, 3, 2], [1])]
theorem tYZ : Of (Grp (· ∈ gYZ)) (tabTw (tabOf 4 eYZ)) := tower_of (by decide +kernel)
theorem nYZ : szF (orbO (tabTw (tabOf 4 eYZ))) 4 0 = 4 := by decide +kernel
def gD4 : List (Pm 4) := [litP 4 [1, 0, 3, 2], litP 4 [2, 3, 0, 1], litP 4 [0, 1, 3, 2]]
def eD4 : List En := [(0, 1, [1, 0, 3, 2], [0]), (0, 2, [2, 3, 0, 1], [1]), (0, 3, [3, 2, 0, 1], [1, 2]), (2, 3, [0, 1, 3, 2], [2])]
theorem tD4 : Of (Grp (· ∈ gD4)) (tabTw (tabOf 4 eD4)) := tower_of (by decide +kernel)
theorem nD4 : szF (orbO (tabTw (tabOf 4 eD4))) 4 0 = 8 := by decide +kernel
def gC2 : List (Pm 4) := [litP 4 [1, 0, 3, 2]]
def eC2 : List En := [(0, 1, [1, 0, 3, 2], [0])]
theorem tC2 : Of (Grp (· ∈ gC2)) (tabTw (tabOf 4 eC2)) := tower_of (by decide +kernel)
theorem nC2 : szF (orbO (tabTw (tabOf 4 eC2))) 4 0 = 2 := by decide +kernel
def gI1 : List (Pm 4) := []
def eI1 : List En := []
theorem tI1 : Of (Grp (· ∈ gI1)) (tabTw (tabOf 4 eI1)) := tower_of (by decide +kernel)
theorem nI1 : szF (orbO (tabTw (tabOf 4 eI1))) 4 0 = 1 := by decide +kernel
theorem ncV4 (x : Pm 4) : NcG (· ∈ [litP 4 [1, 0, 3, 2]]) (· ∈ gS4) x ↔ Grp (· ∈ gV4) x := nc_eq (es := eV4) [[(0, [])], [(0, [0, 1])]] tV4 (by decide +kernel) x
theorem ncS4 (x : Pm 4) : NcG (· ∈ [litP 4 [0, 1, 3, 2]]) (· ∈ gS4) x ↔ Grp (· ∈ gS4) x := nc_eq (es := eS4) [[(0, []), (0, [0, 0]), (0, [0, 1, 0])], [(0, [0, 0])]] tS4 (by decide +kernel) x
theorem cmA4 (x : Pm 4) : CmG (Grp (· ∈ gS4)) (Grp (· ∈ gS4)) x ↔ Grp (· ∈ gA4) x := cm_eq (es := eA4) [[(1, [])], [(1, [0])]] tA4 (by decide +kernel) x
theorem cmV4 (x : Pm 4) : CmG (Grp (· ∈ gA4)) (Grp (· ∈ gA4)) x ↔ Grp (· ∈ gV4) x := cm_eq (es := eV4) [[(1, [1])], [(1, [0])]] tV4 (by decide +kernel) x
theorem cmC2 (x : Pm 4) : CmG (Grp (· ∈ gV4)) (Grp (· ∈ gZ2)) x ↔ Grp (· ∈ gC2) x := cm_eq (es := eC2) [[(1, [])]] tC2 (by decide +kernel) x
theorem cmI1 (x : Pm 4) : CmG (Grp (· ∈ gY2)) (Grp (· ∈ gZ2)) x ↔ Grp (· ∈ gI1) x := cm_eq (es := eI1) [] tI1 (by decide +kernel) x
theorem nrmV4 : Nrm (Grp (· ∈ gV4)) (Grp (· ∈ gS4)) := Nrm.grp (nrm_of Grp.isG (fun _ => Iff.rfl) (by
  have h : (gV4.all fun x => gS4.all fun y => inT (tabTw (tabOf 4 eV4)) (cj x y)) = true := by decide +kernel
  simp only [List.all_eq_true] at h
  exact fun x hx y hy => inT_grp tV4 (h x hx y hy)))
theorem not_nrmZ2 : ¬ Nrm (Grp (· ∈ gZ2)) (Grp (· ∈ gS4)) := fun h => by
  have h1 := h (litP 4 [0, 1, 3, 2]) (Grp.base (by simp [gZ2])) (litP 4 [1, 2, 3, 0]) (Grp.base (by simp [gS4]))
  have h2 := (inT_iff tZ2 _).2 h1
  exact absurd h2 (by decide +kernel)
theorem cjY2 : gZ2.map (fun a => cj a (litP 4 [2, 3, 0, 1])) = gY2 := by decide +kernel
theorem ctI1 (x : Pm 4) : CtG (Grp (· ∈ gS4)) x ↔ Grp (· ∈ gI1) x := ct_eq tI1 tS4 (by decide +kernel) x
theorem ctC2 (x : Pm 4) : CtG (Grp (· ∈ gD4)) x ↔ Grp (· ∈ gC2) x := ct_eq tC2 tD4 (by decide +kernel) x
theorem coI1 (x : Pm 4) : CoG (Grp (· ∈ gZ2)) (Grp (· ∈ gS4)) x ↔ Grp (· ∈ gI1) x := co_eq tI1 tZ2 tS4 (by decide +kernel) x
theorem coV4 (x : Pm 4) : CoG (Grp (· ∈ gD4)) (Grp (· ∈ gS4)) x ↔ Grp (· ∈ gV4) x := co_eq tV4 tD4 tS4 (by decide +kernel) x
end Go.Proofs.YtbejhkojdiadaaaGreat.PlainPm
namespace Go.Proofs.YtbejhkojdiadaaaGreat
open Go.RowKit PlainPm
section
variable {n : Nat}
theorem sgen_len2 {G : Pm n → Prop} {T : Tw n} (hG : IsG G) (h : Of G T) : 2 * (sgen n (orbO T) (PlainPm.repT T) n).length ≤ n * (n + 1) := by
  have key : ∀ m, (sgen n (orbO T) (PlainPm.repT T) m).length ≤ ((List.range m).flatMap fun i => (orbO T i).map (PlainPm.repT T i)).length := fun m => by
    induction m with
    | zero => simp [sgen]
    | succ m ih =>
      rw [sgen_succ, List.range_succ, List.flatMap_append, List.length_append, List.length_append]
      simp only [List.flatMap_cons, List.flatMap_nil, List.append_nil, List.length_map, List.length_drop]
      omega
  have := agen_len2 hG h
  have := key n
  unfold PlainPm.agen at *
  omega
theorem cmL_succ {A B : List (Pm n)} {k : Nat} {a : Pm n} (ha : A[k]? = some a) : cmL (A.take (k + 1)) B = cmL (A.take k) B ++ B.map (cm a) := by
  unfold cmL
  rw [List.take_add_one, ha, List.flatMap_append]
  simp
theorem cmL_len {A B : List (Pm n)} : (cmL A B).length = A.length * B.length := by
  unfold cmL
  induction A with
  | nil => simp
  | cons a A ih => rw [List.flatMap_cons, List.length_append, ih, List.length_map, List.length_cons, Nat.succ_mul, Nat.add_comm]
theorem cap8 {m1 m2 : Nat} (hn : n ≤ 8) (h1 : 2 * m1 ≤ n * (n + 1)) (h2 : 2 * m2 ≤ n * (n + 1)) : m1 ≤ 36 ∧ m2 ≤ 36 ∧ m1 * m2 ≤ 4096 := by
  have h : n * (n + 1) ≤ 8 * 9 := Nat.mul_le_mul hn (by omega)
  have := Nat.mul_le_mul (show m1 ≤ 36 by omega) (show m2 ≤ 36 by omega)
  omega
theorem capB {m : Nat} (hn : n ≤ 8) (h : 2 * m ≤ n * (n + 1)) {A B : List (Pm n)} (h1 : A.length ≤ 36) (h2 : B.length ≤ 36) : m + m * (A ++ B).length ≤ 4096 := by
  have h0 : n * (n + 1) ≤ 8 * 9 := Nat.mul_le_mul hn (by omega)
  have h3 : m ≤ 36 := by omega
  have h4 : (A ++ B).length ≤ 72 := by rw [List.length_append]; omega
  have := Nat.mul_le_mul h3 h4
  omega
set_option maxRecDepth 100000 in
set_option maxHeartbeats 4000000 in
theorem comm27 (hn' : 0 < n ∧ n ≤ 8) {w : World} {v1 v2 : Value} {G1 G2 : Pm n → Prop} (g1 : IsG G1) (g2 : IsG G2) (h1 : GrG w v1 G1) (h2 : GrG w v2 G2) :
    Calls Tryz.prog 27 #[v1, v2] w fun e w' => ∃ a c b d, e = .returned (.tuple #[.agg #[.int .i64 (n : Int), .slice a n c, .slice b n d], .int .i64 0]) ∧ Below w.heap.size w w' ∧
      ∀ S, (∀ m ∈ S, m < w.heap.size) → GrS w' (.agg #[.int .i64 (n : Int), .slice a n c, .slice b n d]) (CmG G1 G2) S := by
  have hn : 0 < n ∧ n ≤ 64 := ⟨hn'.1, by omega⟩
  obtain ⟨i27, hi27, hz27, hs27, hb27⟩ := info_parts Tryz.info27
  have I27 := Lib.hid (And.intro hi27 (And.intro hz27 (And.intro hs27 hb27)))
  clear hi27 hz27 hs27 hb27
  obtain ⟨os1, rs1, os2, rs2, p1, p2, p3⟩ := GrG.pair0 hn g1 g2 h1 h2
  have hpr := fun (V : World) (hV : Below w.heap.size w V) => pair70 (p1.below hV) (p2.below hV)
  rw [p3] at hpr
  obtain ⟨T1, t1, ab, ao, c, bb, bo, e, hv1, hl1⟩ := h1.lev g1 ⟨hn.1, hn.2⟩
  obtain ⟨T2, t2, ab', ao', c', bb', bo', e', hv2, hl2⟩ := h2.lev g2 ⟨hn.1, hn.2⟩
  subst hv1
  subst hv2
  have l1 := fun (V : World) (hV : Below w.heap.size w V) => strong73 (O := orbO T1) (R := PlainPm.repT T1) (c := c) (e := e) hn (t1.chG g1) hl1 hV
  have l2 := fun (V : World) (hV : Below w.heap.size w V) => strong73 (O := orbO T2) (R := PlainPm.repT T2) (c := c') (e := e') hn (t2.chG g2) hl2 hV
  have hC1 := sgen_grp g1 t1
  have hC2 := sgen_grp g2 t2
  have hs1 := sgen_len2 g1 t1
  have hs2 := sgen_len2 g2 t2
  obtain ⟨A, hA⟩ : ∃ A, sgen n (orbO T1) (PlainPm.repT T1) n = A := ⟨_, rfl⟩
  obtain ⟨B, hB⟩ : ∃ B, sgen n (orbO T2) (PlainPm.repT T2) n = B := ⟨_, rfl⟩
  rw [hA] at l1 hC1 hs1
  rw [hB] at l2 hC2 hs2
  obtain ⟨X, hX⟩ : ∃ X, w.heap.size = X := ⟨_, rfl⟩
  obtain ⟨W1, hW1⟩ : ∃ W1, ((w.alloc (.cells #[.int .i64 (n : Int), .slice (some ⟨ab, ao, none⟩) n c, .slice (some ⟨bb, bo, none⟩) n e] 25)).alloc (.cells #[.int .i64 (n : Int), .slice (some ⟨ab', ao', none⟩) n c', .slice (some ⟨bb', bo', none⟩) n e'] 25)).alloc (.cells #[.int .i64 0, .slice none 0 0, .slice none 0 0] 25) = W1 := ⟨_, rfl⟩
  have hsz : W1.heap.size = X + 3 := by rw [← hW1]; simp [hX]
  have hwW : Below w.heap.size w W1 := hW1 ▸ alloc_b (alloc_b (alloc_b (Below.refl _ _) _) _) _
  have k0 : W1.heap[X]? = some (.cells #[.int .i64 (n : Int), .slice (some ⟨ab, ao, none⟩) n c, .slice (some ⟨bb, bo, none⟩) n e] 25) := by
    rw [← hW1]
    exact ((alloc_b (Below.refl _ _) _).block X (by simp; omega)).trans (((alloc_b (Below.refl _ _) _).block X (by simp; omega)).trans (box_al25 hX _ _ _))
  have k1 : W1.heap[X + 1]? = some (.cells #[.int .i64 (n : Int), .slice (some ⟨ab', ao', none⟩) n c', .slice (some ⟨bb', bo', none⟩) n e'] 25) := by
    rw [← hW1]
    exact ((alloc_b (Below.refl _ _) _).block (X + 1) (by simp; omega)).trans (box_al25 (by simp [hX]) _ _ _)
  have k2 : W1.heap[X + 2]? = some (.cells #[.int .i64 0, .slice none 0 0, .slice none 0 0] 25) := by
    rw [← hW1]
    exact box_al25 (by simp [hX]) _ _ _
  obtain ⟨x0, x1, x2, _⟩ := box_cells k0
  obtain ⟨y0, y1, y2, _⟩ := box_cells k1
  have HB := Lib.hid (And.intro k0 (And.intro k1 (And.intro k2 (And.intro hsz (And.intro hwW hX)))))
  have HC := Lib.hid (And.intro hpr (And.intro l1 (And.intro l2 (And.intro hC1 (And.intro hC2 (And.intro hs1 hs2))))))
  clear hpr l1 l2 hC1 hC2 hs1 hs2 k0 k1 k2 hsz hwW h1 h2 p1 p2 p3 t1 t2 hA hB hl1 hl2
  go_enter Tryz.func27, Tryz.ntmps27
  try rw [hX]
  go_wp2_with (go_at_call 70; (with_reducible refine (HC.out.1 _ HB.out.2.2.2.2.1).mono ?_); rintro e0 w2 ⟨rfl, k1⟩; have H2 := Lib.hid k1; clear k1)
  obtain ⟨z0, z1, z2, _⟩ := box_cells ((H2.out.block X (by rw [HB.out.2.2.2.1]; omega)).trans HB.out.1)
  obtain ⟨z3, z4, z5, _⟩ := box_cells ((H2.out.block (X + 1) (by rw [HB.out.2.2.2.1]; omega)).trans HB.out.2.1)
  have hx0 := And.intro z0 (And.intro z1 (And.intro z2 (And.intro z3 (And.intro z4 (And.intro z5 (Below.refl w2.heap.size w2))))))
  have hX3 : X + 3 ≤ w2.heap.size := by have := H2.out.size; rw [HB.out.2.2.2.1] at this; exact this
  have hw2 : Below w.heap.size w w2 := below_trans HB.out.2.2.2.2.1 H2.out
  have HW2 := Lib.hid hw2
  clear hw2
  go_region_law
    (first
      | (go_simp; go_at_call 73; (with_reducible refine (HC.out.2.2.1 _ (below_trans HW2.out B4.out)).mono ?_)
         rintro e5 w5 ⟨v5, us5, rfl, k1, k2, k3, k4⟩
         obtain ⟨a5, c5, rfl, _⟩ := k1.row (by unfold maxLen; omega)
         have b5 : Below w2.heap.size w2 w5 := below_trans B4.out k4
         obtain ⟨j0, j1, j2, j3, j4, j5, _⟩ := keep6n hx0 b5
         have H5 := Lib.hid (And.intro k1 (And.intro k2 (And.intro k3 (And.intro k4 b5))))
         clear k1 k2 k3 k4 b5)
      | (go_simp; go_at_call 73; (with_reducible refine (HC.out.2.1 _ (below_trans HW2.out ?_)).mono ?_)
         first | exact Below.refl _ _ | exact below_drw (Below.refl _ _) | exact below_self_drewN _ _
         rintro e4 w4 ⟨v4, us4, rfl, k1, k2, k3, k4⟩
         obtain ⟨a4, c4, rfl, _⟩ := k1.row (by unfold maxLen; omega)
         have b4 : Below w2.heap.size w2 w4 := below_trans (by first | exact Below.refl _ _ | exact below_drw (Below.refl _ _) | exact below_self_drewN _ _) k4
         obtain ⟨i0, i1, i2, i3, i4, i5, _⟩ := keep6n hx0 b4
         have B4 := Lib.hid b4
         have H4 := Lib.hid (And.intro (k1.mono (show w2.heap.size ≤ _ from by first | exact Nat.le_refl _ | simp)) (And.intro k2 k3))
         clear k1 k2 k3 k4 b4))
  all_goals
    have hw5 : Below w.heap.size w w5 := below_trans HW2.out H5.out.2.2.2.2
    have la := H4.out.2.1.1
    have lb := H5.out.2.1.1
    obtain ⟨c55a, c55b, cap⟩ := cap8 hn'.2 HC.out.2.2.2.2.2.1 HC.out.2.2.2.2.2.2
    have PA : PmsV w5 [] (.slice a4 us4.length c4) A := pms_ownB (H4.out.1.below H5.out.2.2.2.1) (H4.out.2.1.below hw5) (by omega)
    have PB : PmsV w5 [] (.slice a5 us5.length c5) B := pms_ownB H5.out.1 (H5.out.2.1.below hw5) (by omega)
    obtain ⟨NA, hNA⟩ : ∃ N, us4.length = N := ⟨_, rfl⟩
    obtain ⟨NB, hNB⟩ : ∃ N, us5.length = N := ⟨_, rfl⟩
    obtain ⟨_, _, q4, hA63, hatA⟩ := pms_at PA
    simp only [Value.slice.injEq] at q4
    obtain ⟨rfl, -, rfl⟩ := q4
    obtain ⟨_, _, q5, hB63, hatB⟩ := pms_at PB
    simp only [Value.slice.injEq] at q5
    obtain ⟨rfl, -, rfl⟩ := q5
    rw [← la, hNA] at hA63
    rw [← lb, hNB] at hB63
    rw [hNA] at H4 ⊢
    rw [hNB] at H5 ⊢
    have HP := Lib.hid (And.intro hatA (And.intro hatB (And.intro (hNA.symm.trans la).symm (And.intro (hNB.symm.trans lb).symm (And.intro hw5 (And.intro cap (And.intro c55a c55b)))))))
    clear hatA hatB hNA hNB la lb hw5 PA PB cap c55a c55b
    obtain ⟨N1, hN1⟩ : ∃ N1, (Value.slice a4 NA c4).ownBlock.toList = N1 := ⟨_, rfl⟩
    have HN1 := Lib.hid hN1
    clear hN1
    go_wp2_with fail
    go_loopw [9, 29] (fun v i wr => ∃ (k : Nat) (us : List Value), k ≤ NA ∧ i = .int .i64 (k : Int) ∧ GrowL N1 wr w5.heap.size v us (cmL (A.take k) B) ∧ Below w5.heap.size w5 wr) (fun _ i _ => NA - (intOf i).toNat)
    case atStart => exact ⟨0, [], Nat.zero_le _, rfl, GrowL.nil _ (fun m hm => Nat.lt_of_lt_of_le (H4.out.1.block_lt (mem_ob.1 (HN1.out ▸ hm))).1 H5.out.2.2.2.1.size), Below.refl _ _⟩
    case round =>
      obtain ⟨k, us, hk, rfl, hgl, hbr⟩ := hrel
      obtain ⟨wo, rfl⟩ : ∃ wo, wo = wr := ⟨_, rfl⟩
      by_cases hka : k < NA
      · have hk1 : (k : Int) < NA := by omega
        obtain ⟨a, ha⟩ : ∃ a, A[k]? = some a := ⟨_, List.getElem?_eq_getElem (by rw [HP.out.2.2.1]; exact hka)⟩
        obtain ⟨g6, o6, u6, rfl, hc6, hp6⟩ := HP.out.1 k a ha
        have hc6o := (hbr.cell (block_lt_of_cell hc6)).trans hc6
        obtain ⟨b6b, b6o, b6c, rfl, _⟩ := id hp6
        have HK := Lib.hid (And.intro hgl (And.intro hbr (And.intro ha hp6)))
        clear hgl hbr ha hp6
        go_wp2_with fail
        go_loopw [9, 35] (fun v i wi => ∃ (m : Nat) (us : List Value), m ≤ NB ∧ i = .int .i64 (m : Int) ∧ GrowL N1 wi w5.heap.size v us (cmL (A.take k) B ++ (B.take m).map (cm a)) ∧ Below w5.heap.size w5 wi) (fun _ i _ => NB - (intOf i).toNat)
        case atStart => exact ⟨0, us, Nat.zero_le _, rfl, by rw [List.take_zero, List.map_nil, List.append_nil]; exact HK.out.1, HK.out.2.1⟩
        case round =>
          obtain ⟨m, us, hm, rfl, hgl, hbi⟩ := hrel
          by_cases hmb : m < NB
          · have hm1 : (m : Int) < NB := by omega
            obtain ⟨b, hb⟩ : ∃ b, B[m]? = some b := ⟨_, List.getElem?_eq_getElem (by rw [HP.out.2.2.2.1]; exact hmb)⟩
            obtain ⟨g7, o7, u7, rfl, hc7, hp7⟩ := HP.out.2.1 m b hb
            have hc7i := (hbi.cell (block_lt_of_cell hc7)).trans hc7
            have hc6i := (hbi.cell (block_lt_of_cell hc6)).trans hc6
            obtain ⟨b7b, b7o, b7c, rfl, _⟩ := id hp7
            have hlu : us.length < 1099511627776 := by
              have h1 := hgl.len
              rw [List.length_append, cmL_len, List.length_map] at h1
              have h2 : (A.take k).length * B.length ≤ A.length * B.length := Nat.mul_le_mul_right _ (by rw [List.length_take]; omega)
              have h3 : (B.take m).length ≤ B.length := by rw [List.length_take]; omega
              have h4 := HP.out.2.2.2.2.2
              omega
            have hD : w5.heap.size ≤ wr.heap.size := hbi.size
            have h79 := px79 hn (HK.out.2.2.2.below hbi) (hp7.below hbi)
            have HY := Lib.hid (And.intro h79 (And.intro hgl (And.intro hbi hb)))
            clear h79 hgl hbi hb
            go_wp2_with (first
              | (at_builtin; refine app1 rfl (.tmp 45) (.tmp 47) 44 27 rfl i27 (.slice none 0 0) 24 Tryz.underlying44 I27.out.1 I27.out.2.1 I27.out.2.2.1 I27.out.2.2.2 rfl (by omega) w5.heap.size (.slice (some ⟨xb, 0, none⟩) n xc) _ us rfl (HY.out.2.1.below H6.out.1).1 rfl rfl hlu (Nat.le_trans hD H6.out.1.size) ?_; intro v8 w8 k1 k2 k3; have H8 := Lib.hid (And.intro k1 (And.intro k2 k3)); clear k1 k2 k3)
              | (go_at_call 79; (with_reducible refine HY.out.1.mono ?_); rintro e6 w6 ⟨v6, rfl, k1, k2⟩
                 have hz6 := k1.growV HY.out.2.1
                 obtain ⟨xb, xc, rfl, _⟩ := id k1
                 have H6 := Lib.hid (And.intro k2 (And.intro hz6 hz6))
                 clear k1 k2 hz6))
            refine ⟨⟨m + 1, us ++ [.slice (some ⟨xb, 0, none⟩) n xc], by omega, by go_num, ?_, ?_⟩, by simp [intOf]; omega⟩
            · have := (HY.out.2.1.below H6.out.1).app H6.out.2.1 H8.out.1 H8.out.2.1 H8.out.2.2
              rw [List.append_assoc] at this
              rw [List.take_add_one, HY.out.2.2.2, List.map_append]
              exact this
            · exact (HY.out.2.2.1.trans (H6.out.1.mono HY.out.2.2.1.size)).grown H8.out.2.1 (Nat.le_trans HY.out.2.2.1.size H6.out.1.size) (fun g e => (HY.out.2.1.1.block_lt e).2)
          · have hm1 : ¬ (m : Int) < NB := by omega
            have hmN : m = NB := by omega
            have HY := Lib.hid (And.intro hgl (And.intro hbi hmN))
            clear hgl hbi hmN
            go_wp2_with fail
            refine ⟨⟨k + 1, us, by omega, by go_num, ?_, HY.out.2.1⟩, by simp [intOf]; omega⟩
            rw [cmL_succ HK.out.2.2.1]
            have := HY.out.1
            rw [HY.out.2.2, ← HP.out.2.2.2.1, List.take_length] at this
            exact this
      · have hk1 : ¬ (k : Int) < NA := by omega
        have hkN : k = NA := by omega
        have hgl' := hgl
        rw [hkN, ← HP.out.2.2.1, List.take_length] at hgl'
        have lenA : us4.length = NA := H4.out.2.1.1.trans HP.out.2.2.1
        have lenB : us5.length = NB := H5.out.2.1.1.trans HP.out.2.2.2.1
        have rowB : Row wo a5 us5 := by
          obtain ⟨_, _, er, hr⟩ := H5.out.1.row (by rw [lenB]; have := HP.out.2.2.2.2.2.2.2; have := HP.out.2.2.2.1; unfold maxLen; omega)
          cases er
          exact hr.below hbr
        have o4 : Own wo w2.heap.size (.slice a4 NA c4) 27 us4 := (H4.out.1.below H5.out.2.2.2.1).below hbr
        have sz25 : w2.heap.size ≤ wo.heap.size := Nat.le_trans H5.out.2.2.2.2.size hbr.size
        have one5 : ∀ y ∈ us5, y.oneCell' = true := H5.out.2.1.one_
        have len45 : us4.length + NB < 1000000 := by have := HP.out.2.2.2.2.2.2.1; have := HP.out.2.2.2.2.2.2.2; have := HP.out.2.2.1; have := HP.out.2.2.2.1; omega
        have hXw : X < wo.heap.size := by omega
        have e0 := (hbr.cell (block_lt_of_cell j0)).trans j0
        have bwo : Below w.heap.size w wo := below_trans HP.out.2.2.2.2.1 hbr
        have b2o : Below w2.heap.size w2 wo := below_trans H5.out.2.2.2.2 hbr
        have HK := Lib.hid (And.intro hgl' (And.intro hbr (And.intro rowB (And.intro o4 (And.intro sz25 (And.intro one5 (And.intro bwo b2o)))))))
        clear hgl hgl' hbr rowB o4 sz25 one5 bwo b2o
        go_wp2_with fail
        go_region_law
          (first
            | (refine step_appR ?_ (.tmp 54) (.tmp 55) 44 27 ?_ i27 (.slice none 0 0) 24 Tryz.underlying44 I27.out.1 I27.out.2.1 I27.out.2.2.1 I27.out.2.2.2 ?_ ?_ w2.heap.size (.slice a4 NA c4) us4 us5 ?_ wo HK.out.2.2.2.1 a5 NB c5 ?_ HK.out.2.2.1 lenB HK.out.2.2.2.2.2.1 len45 HK.out.2.2.2.2.1 ?_ ?_
               rfl
               rfl
               rfl
               omega
               rfl
               rfl
               first | exact Below.refl _ _ | exact below_drw (Below.refl _ _) | exact below_self_drewN _ _
               intro v6 w6 k1 k2
               have b6 : Below w2.heap.size wo w6 := (Below.refl _ _).grown k2 HK.out.2.2.2.2.1 (fun g hg => (HK.out.2.2.2.1.block_lt hg).2)
               have bw6 : Below w.heap.size w w6 := HK.out.2.2.2.2.2.2.1.trans (b6.mono HW2.out.size)
               have e6 := (b6.cell (p := ⟨X, 0, none⟩) (show X < w2.heap.size by omega)).trans e0
               have in1 : ∀ g, (Value.slice a4 NA c4).ownBlock = some g → g ∈ N1 := fun g hg => HN1.out ▸ mem_ob.2 hg
               have ou6 : Own w6 w5.heap.size u9 27 us := HK.out.1.1.kept k2 (by
                 rcases HK.out.1.1.blk with h | ⟨g, cur, h, hge, _, _⟩
                 · exact .inl h
                 · refine .inr fun e => ?_
                   rw [h] at e
                   have q1 := (H4.out.1.block_lt e.symm).1
                   have q2 := H5.out.2.2.2.1.size
                   omega)
               have pu6 : PmL w6 (u9.ownBlock.toList ++ N1) us (cmL A B) := HK.out.1.2.1.stp ⟨Kept.ofGrown k2 (fun g e => List.mem_append_right _ (in1 g e)), fun m hm => .inl hm⟩
               have P6 := Lib.hid (And.intro (pms_ownB ou6 pu6.weakM (by rw [cmL_len]; have := HP.out.2.2.2.2.2.1; omega)) (And.intro (pms_ownB k1 (PmL.app (H4.out.2.1.below bw6) (H5.out.2.1.below bw6)) (by rw [List.length_append]; have := HP.out.2.2.2.2.2.2.1; have := HP.out.2.2.2.2.2.2.2; omega)) (And.intro bw6 b6)))
               clear k1 k2 b6 bw6 ou6 pu6 in1)
            | (go_simp; go_at_call 80; (with_reducible refine (closed80 (L := cmL A B) (B := A ++ B) hn ?_ P6.out.1 P6.out.2.1).mono ?_)
               rw [cmL_len]; have := HP.out.2.2.2.2.2.1; omega
               rintro e7 w7 ⟨bk, rfl, k1, k2, k3⟩
               have hsz6 : X + 3 ≤ w6.heap.size := Nat.le_trans hX3 (Nat.le_trans HK.out.2.2.2.2.1 P6.out.2.2.2.size)
               obtain ⟨a7, c7, b7', d7, hb7, hg7⟩ := k3 (List.range (X + 3)) (fun m hm => Nat.lt_of_lt_of_le (List.mem_range.1 hm) hsz6)
               obtain ⟨q0, q1, q2, _⟩ := b81_cells hb7
               have hr7 := (k2.block (X + 2) (by omega)).trans ((P6.out.2.2.2.block (X + 2) (by omega)).trans ((HK.out.2.2.2.2.2.2.2.block (X + 2) (by omega)).trans ((H2.out.block (X + 2) (by rw [HB.out.2.2.2.1]; omega)).trans HB.out.2.2.1)))
               obtain ⟨r0, r1, r2, r3, r4, r5⟩ := box_cells hr7
               have e7 := (k2.cell (p := ⟨X, 0, none⟩) (show X < w6.heap.size by omega)).trans e6
               have H7 := Lib.hid (And.intro hg7 (And.intro hr7 (below_trans P6.out.2.2.1 k2)))
               clear k1 k2 k3 hb7 hg7 hr7))
        all_goals
          go_wp2_with fail
          have hfin : (set3 w7 (X + 1 + 1) (.int .i64 (n : Int)) (.slice a7 n c7) (.slice b7' n d7)).heap[X + 1 + 1]? = some (.cells #[.int .i64 (n : Int), .slice a7 n c7, .slice b7' n d7] 25) := set3_box H7.out.2.1
          obtain ⟨V, hV⟩ : ∃ V, set3 w7 (X + 1 + 1) (.int .i64 (n : Int)) (.slice a7 n c7) (.slice b7' n d7) = V := ⟨_, rfl⟩
          have hKp : Kept w7 V [X + 1 + 1] := hV ▸ set3_kept (by simp)
          rw [hV] at hfin
          unfold set3 at hV
          rw [hV]
          obtain ⟨f0, f1, f2, _⟩ := box_cells hfin
          refine bodyPost_ret (v := .tuple #[.agg #[.int .i64 (n : Int), .slice a7 n c7, .slice b7' n d7], .int .i64 0]) (by simp [results, Tryz.results27, go_sem, f0, f1, f2]) rfl ?_
          refine ⟨a7, c7, b7', d7, rfl, ?_, fun S hS => ?_⟩
          · have h1 := H7.out.2.2
            rw [HB.out.2.2.2.2.2] at h1
            have h2 := h1.size
            exact h1.trans (hKp.below1 (by omega) (by omega))
          · refine ((H7.out.1.kept (hKp.mono (fun q hq => ?_))).congr (cmL_nc g1 g2 HC.out.2.2.2.1 HC.out.2.2.2.2.1)).ext (fun q hq => .inl ?_)
            · rw [List.mem_singleton.1 hq]
              exact List.mem_cons_of_mem _ (List.mem_range.2 (by omega))
            · have := hS q hq
              exact List.mem_cons_of_mem _ (List.mem_range.2 (by omega))
end
end Go.Proofs.YtbejhkojdiadaaaGreat
namespace Go.Proofs.YtbejhkojdiadaaaGreat
open Go.RowKit PlainPm
section
variable {n : Nat}
theorem cell_set_same2 {W : World} {b : Nat} {v : Value} (h : ∃ u, W.cell? ⟨b, 0, none⟩ = some u) : (W.setCell ⟨b, 0, none⟩ v).cell? ⟨b, 0, none⟩ = some v := by
  obtain ⟨u, hu⟩ := h
  exact World.cell?_setCell_same' _ _ _ (by rw [hu]; rfl)
theorem cell_set_ne {W : World} {b b' j : Nat} {v : Value} (h : b ≠ b') : (W.setCell ⟨b', 0, none⟩ v).cell? ⟨b, j, none⟩ = W.cell? ⟨b, j, none⟩ := by
  unfold World.cell?
  have : (W.setCell ⟨b', 0, none⟩ v).heap[b]? = W.heap[b]? := by simp [World.setCell, Array.getElem?_modify, Ne.symm h]
  rw [this]
theorem isSome_set {W : World} {b b' : Nat} {v : Value} (h : ∃ u, W.cell? ⟨b, 0, none⟩ = some u) : ∃ u, (W.setCell ⟨b', 0, none⟩ v).cell? ⟨b, 0, none⟩ = some u := by
  obtain ⟨u, hu⟩ := h
  by_cases e : b = b'
  · subst e; exact ⟨v, cell_set_same2 ⟨u, hu⟩⟩
  · refine ⟨u, ?_⟩
    unfold World.cell? at hu ⊢
    have : (W.setCell ⟨b', 0, none⟩ v).heap[b]? = W.heap[b]? := by simp [World.setCell, Array.getElem?_modify, Ne.symm e]
    rw [this]; exact hu
theorem isSome_below {A W : World} {n : Nat} (k : Below n A W) {p : Addr} (hp : p.block < n) (h : ∃ u, A.cell? p = some u) : ∃ u, W.cell? p = some u := by
  obtain ⟨u, hu⟩ := h
  exact ⟨u, (k.cell hp).trans hu⟩
theorem LvW.up {ab ao bb bo : Nat} {w w' : World} {O : Nat → List Nat} {R : Nat → Nat → Pm n} (h : LvW n w O R ab ao bb bo) (k : Up w w') : LvW n w' O R ab ao bb bo :=
  ⟨fun i hi => by
    obtain ⟨v, hv, g, o, c, rfl, h1, h2, h3, h4⟩ := h.orb i hi
    exact ⟨_, k.cell _ _ hv, g, o, c, rfl, Nat.lt_of_lt_of_le h1 k.size, h2, h3, fun j q hq => k.cell _ _ (h4 j q hq)⟩, fun i hi => by
    obtain ⟨v, hv, g, o, c, rfl, h1, h2, h3, h4⟩ := h.rep i hi
    exact ⟨_, k.cell _ _ hv, g, o, c, rfl, Nat.lt_of_lt_of_le h1 k.size, h2, h3, fun j x hx => by obtain ⟨u, hu, hp⟩ := h4 j x hx; exact ⟨u, k.cell _ _ hu, hp.up k⟩⟩⟩
theorem pmsN_ownM {D : Nat} {w1 w3 : World} {M : List Nat} {v : Value} {us : List Value} {l : List (Pm n)} (ho : Own w3 D v 27 us) (hD : ∀ m ∈ M, m < D) (hp : PmL w1 [] us l) (hb : Below w1.heap.size w1 w3) (hM : ∀ m ∈ M, w1.heap.size ≤ m) (hl : l.length ≤ 1000000) : PmsN w3 M v l := by
  have hlm : us.length ≤ maxLen := by rw [hp.1]; unfold maxLen; omega
  obtain ⟨a, c, e, hr⟩ := ho.row hlm
  refine ⟨a, c, us, by rw [e, hp.1], fun W' k => ?_, ⟨hp.1, fun i x hx => by obtain ⟨u, hu, hpm⟩ := hp.2 i x hx; exact ⟨u, hu, hpm.fresh hb hM⟩⟩⟩
  have ho' : Own W' D v 27 us := ho.keptL k (fun g hg hm => by have h1 := (ho.block_lt hg).2; have := hD g hm; omega)
  obtain ⟨a', c', e', hr'⟩ := ho'.row hlm
  rw [e] at e'
  cases e'
  exact hr'
theorem Own.lowset {w : World} {B b : Nat} {v u : Value} {e : TypeId} {xs : List Value} (h : Own w B v e xs) (hb : b < B) : Own (w.setCell ⟨b, 0, none⟩ u) B v e xs :=
  h.kept (grown_put 0 u) (by
    rcases h.blk with h1 | ⟨g, cur, h1, h2, _, _⟩
    · exact .inl h1
    · exact .inr (fun e => by rw [h1] at e; cases e; omega))
theorem two_set {W : World} {X : Nat} {a b v u : Value} {t s : TypeId} (h2 : W.heap[X + 1 + 1]? = some (.cells #[a] t (0, 0))) (h3 : W.heap[X + 1 + 1 + 1]? = some (.cells #[b] s (0, 0))) :
    ((W.setCell ⟨X + 1 + 1, 0, none⟩ v).setCell ⟨X + 1 + 1 + 1, 0, none⟩ u).heap[X + 1 + 1]? = some (.cells #[v] t (0, 0)) ∧ ((W.setCell ⟨X + 1 + 1, 0, none⟩ v).setCell ⟨X + 1 + 1 + 1, 0, none⟩ u).heap[X + 1 + 1 + 1]? = some (.cells #[u] s (0, 0)) ∧
    Kept W ((W.setCell ⟨X + 1 + 1, 0, none⟩ v).setCell ⟨X + 1 + 1 + 1, 0, none⟩ u) [X + 1 + 1, X + 1 + 1 + 1] ∧ ∀ k, k ≠ X + 1 + 1 → k ≠ X + 1 + 1 + 1 → ((W.setCell ⟨X + 1 + 1, 0, none⟩ v).setCell ⟨X + 1 + 1 + 1, 0, none⟩ u).heap[k]? = W.heap[k]? := by
  have other : ∀ (W : World) (b k : Nat) (v : Value), k ≠ b → (W.setCell ⟨b, 0, none⟩ v).heap[k]? = W.heap[k]? := fun W b k v h => by
    simp [World.setCell, Array.getElem?_modify, Ne.symm h]
  refine ⟨?_, ?_, ?_, fun k h h' => ?_⟩
  · rw [other _ _ _ _ (by omega)]; exact box1_set h2
  · exact box1_set ((other _ _ _ _ (by omega)).trans h3)
  · exact (Kept.ofGrown (grown_put 0 v) (fun k e => by cases e; simp)).trans (Kept.ofGrown (grown_put 0 u) (fun k e => by cases e; simp))
  · rw [other _ _ _ _ h', other _ _ _ _ h]
theorem drew_size' (w : World) : w.drew.heap.size = w.heap.size := rfl
theorem drew_cell' (w : World) (p : Addr) : w.drew.cell? p = w.cell? p := rfl
theorem drew_frozen' (w : World) (p : Addr) : w.drew.frozen? p = w.frozen? p := rfl
theorem al_at {w : World} {X : Nat} (hX : w.heap.size = X) (o : Obj) : (w.alloc o).heap[X]? = some o := hX ▸ World.alloc_heap_new w o
theorem keep3b {X : Nat} {V A B : World} {u0 u1 u2 : Value} (h : A.cell? ⟨X, 0, none⟩ = some u0 ∧ A.cell? ⟨X, 1, none⟩ = some u1 ∧ A.cell? ⟨X, 2, none⟩ = some u2 ∧ Below V.heap.size V A) (k : Below A.heap.size A B) :
    B.cell? ⟨X, 0, none⟩ = some u0 ∧ B.cell? ⟨X, 1, none⟩ = some u1 ∧ B.cell? ⟨X, 2, none⟩ = some u2 ∧ Below V.heap.size V B :=
  ⟨(k.cell (block_lt_of_cell h.1)).trans h.1, (k.cell (block_lt_of_cell h.2.1)).trans h.2.1, (k.cell (block_lt_of_cell h.2.2.1)).trans h.2.2.1, below_trans h.2.2.2 k⟩
end
end Go.Proofs.YtbejhkojdiadaaaGreat
namespace Go.Proofs.YtbejhkojdiadaaaGreat
open Go.RowKit PlainPm
section
variable {n : Nat}
theorem GrG.chk {w : World} {v : Value} {G : Pm n → Prop} (hn : 0 < n ∧ n ≤ 64) (hG : IsG G) (h : GrG w v G) : ∃ os rs, ChV w v n os rs ∧ chkE n os rs = 0 := by
  obtain ⟨T, t, c, _⟩ := h.ch
  refine ⟨_, _, c, ?_⟩
  unfold chkE
  rw [if_pos (by omega), Int.toNat_natCast, if_pos (valid_ofG hG t)]
theorem chkP_l (hn : 0 < n ∧ n ≤ 64) (x : Pm n) : chkPerm x.l = 0 := (chk_iff x.ok.1 (by omega) hn.2).2 x.ok
def mixC (A : List (Pm n)) (p : Pm n) (k : Nat) : List (Pm n) := (A.take k).map (fun a => cj a p) ++ A.drop k
theorem mixC_zero (A : List (Pm n)) (p : Pm n) : mixC A p 0 = A := by simp [mixC]
theorem mixC_get {A : List (Pm n)} {p a : Pm n} {k : Nat} (h : A[k]? = some a) : (mixC A p k)[k]? = some a := by
  have hk := (List.getElem?_eq_some_iff.1 h).1
  unfold mixC
  rw [List.getElem?_append_right (by simp; omega)]
  simp [Nat.min_eq_left (Nat.le_of_lt hk), h]
theorem mixC_set {A : List (Pm n)} {p a : Pm n} {k : Nat} (h : A[k]? = some a) : (mixC A p k).set k (cj a p) = mixC A p (k + 1) := by
  have hk := (List.getElem?_eq_some_iff.1 h).1
  have hd : A.drop k = a :: A.drop (k + 1) := by
    rw [List.drop_eq_getElem_cons hk]
    congr 1
    exact (List.getElem?_eq_some_iff.1 h).2
  unfold mixC
  rw [List.set_append_right _ _ (by simp; omega), hd, List.take_add_one, h]
  simp [Nat.min_eq_left (Nat.le_of_lt hk)]
theorem mixC_all {A : List (Pm n)} {p : Pm n} : mixC A p A.length = A.map (fun a => cj a p) := by simp [mixC]
theorem PmL.setP {w : World} {M : List Nat} {us : List Value} {l : List (Pm n)} {k : Nat} {v : Value} {x : Pm n} (h : PmL w M us l) (hv : PmV w M v x) : PmL w M (us.set k v) (l.set k x) := by
  refine ⟨by simp [h.1], fun i y hy => ?_⟩
  by_cases e : i = k
  · subst e
    have hi : i < (l.set i x).length := (List.getElem?_eq_some_iff.1 hy).1
    rw [List.length_set] at hi
    rw [List.getElem?_set_self hi] at hy
    cases hy
    exact ⟨v, by rw [List.getElem?_set_self (by rw [h.1]; exact hi)], hv⟩
  · rw [List.getElem?_set_ne (Ne.symm e)] at hy
    obtain ⟨u, hu, hp⟩ := h.2 i y hy
    exact ⟨u, by rw [List.getElem?_set_ne (Ne.symm e)]; exact hu, hp⟩
set_option maxRecDepth 100000 in
set_option maxHeartbeats 4000000 in
theorem cnj34 (hn' : 0 < n ∧ n ≤ 8) {w : World} {v1 vx : Value} {G : Pm n → Prop} {p : Pm n} (hG : IsG G) (h1 : GrG w v1 G) (hx : PmV w [] vx p) :
    Calls Tryz.prog 34 #[v1, vx] w fun e w' => ∃ a c b d, e = .returned (.tuple #[.agg #[.int .i64 (n : Int), .slice a n c, .slice b n d], .int .i64 0]) ∧ Below w.heap.size w w' ∧
      ∀ S, (∀ m ∈ S, m < w.heap.size) → GrS w' (.agg #[.int .i64 (n : Int), .slice a n c, .slice b n d]) (CjG G p) S := by
  have hn : 0 < n ∧ n ≤ 64 := ⟨hn'.1, by omega⟩
  obtain ⟨i27, hi27, hz27, hs27, hb27⟩ := info_parts Tryz.info27
  have I27 := Lib.hid (And.intro hi27 (And.intro hz27 (And.intro hs27 hb27)))
  clear hi27 hz27 hs27 hb27
  obtain ⟨os, rs, hch, hc0⟩ := h1.chk hn hG
  have hck := fun (V : World) (hV : Below w.heap.size w V) => chk54 (hch.below hV)
  simp only [hc0] at hck
  obtain ⟨T1, t1, ab, ao, c, bb, bo, e, hv1, hl1⟩ := h1.lev hG ⟨hn.1, hn.2⟩
  subst hv1
  have l1 := fun (V : World) (hV : Below w.heap.size w V) => strong73 (O := orbO T1) (R := PlainPm.repT T1) (c := c) (e := e) hn (t1.chG hG) hl1 hV
  have hC1 := sgen_grp hG t1
  have hs1 := sgen_len2 hG t1
  obtain ⟨A, hA⟩ : ∃ A, sgen n (orbO T1) (PlainPm.repT T1) n = A := ⟨_, rfl⟩
  rw [hA] at l1 hC1 hs1
  obtain ⟨xa, xc, ex, hxi⟩ := PmV.ints (n := n) (by omega) hx
  have hxl := p.ok.1
  rw [hxl] at ex
  subst ex
  have hpc := fun (V : World) (hV : Below w.heap.size w V) => perm_calls (c := xc) (hxi.below hV)
  simp only [chkP_l hn p, hxl] at hpc
  obtain ⟨xb, xo, xcc, exx, _⟩ := id hx
  simp only [Value.slice.injEq, true_and] at exx
  obtain ⟨rfl, rfl⟩ := exx
  obtain ⟨X, hX⟩ : ∃ X, w.heap.size = X := ⟨_, rfl⟩
  obtain ⟨W1, hW1⟩ : ∃ W1, (w.alloc (.cells #[.int .i64 (n : Int), .slice (some ⟨ab, ao, none⟩) n c, .slice (some ⟨bb, bo, none⟩) n e] 25)).alloc (.cells #[.int .i64 0, .slice none 0 0, .slice none 0 0] 25) = W1 := ⟨_, rfl⟩
  have hsz : W1.heap.size = X + 2 := by rw [← hW1]; simp [hX]
  have hwW : Below w.heap.size w W1 := hW1 ▸ alloc_b (alloc_b (Below.refl _ _) _) _
  have k0 : W1.heap[X]? = some (.cells #[.int .i64 (n : Int), .slice (some ⟨ab, ao, none⟩) n c, .slice (some ⟨bb, bo, none⟩) n e] 25) := by
    rw [← hW1]
    exact ((alloc_b (Below.refl _ _) _).block X (by simp; omega)).trans (box_al25 hX _ _ _)
  have k1 : W1.heap[X + 1]? = some (.cells #[.int .i64 0, .slice none 0 0, .slice none 0 0] 25) := by
    rw [← hW1]
    exact box_al25 (by simp [hX]) _ _ _
  obtain ⟨x0, x1, x2, _⟩ := box_cells k0
  have hx0 := And.intro x0 (And.intro x1 (And.intro x2 (Below.refl W1.heap.size W1)))
  have HB := Lib.hid (And.intro k0 (And.intro k1 (And.intro hsz (And.intro hwW hX))))
  have HC := Lib.hid (And.intro hck (And.intro l1 (And.intro hC1 (And.intro hs1 (And.intro hpc hx)))))
  have hnn : ((n : Int) != (n : Int)) = false := by simp
  clear hck l1 hC1 hs1 hpc k0 k1 hsz hwW h1 hx hxi hch hA t1 hl1
  go_enter Tryz.func34, Tryz.ntmps34
  try simp only [hX]
  go_wp2_with (first
    | (go_at_call 73; (with_reducible refine (HC.out.2.1 _ (below_trans HB.out.2.2.2.1 H3.out)).mono ?_)
       rintro e4 w4 ⟨v4, us4, rfl, k1, k2, k3, k4⟩
       obtain ⟨a4, c4, rfl, _⟩ := k1.row (by unfold maxLen; omega)
       have b4 : Below W1.heap.size W1 w4 := below_trans H3.out k4
       obtain ⟨j0, j1, j2, _⟩ := keep3b hx0 b4
       have H4 := Lib.hid (And.intro k1 (And.intro k2 (And.intro k3 (And.intro b4 k4))))
       clear k1 k2 k3 k4 b4)
    | (go_at_call 92; (with_reducible refine (HC.out.2.2.2.2.1 _ (below_trans HB.out.2.2.2.1 H2.out)).mono ?_)
       rintro e3 w3 ⟨rfl, k⟩
       have b3 : Below W1.heap.size W1 w3 := below_trans H2.out k
       obtain ⟨i0, i1, i2, _⟩ := keep3b hx0 b3
       have H3 := Lib.hid b3
       clear k b3)
    | (go_at_call 54; (with_reducible refine (HC.out.1 _ HB.out.2.2.2.1).mono ?_)
       rintro e2 w2 ⟨rfl, k⟩
       obtain ⟨z0, z1, z2, _⟩ := keep3b hx0 k
       have H2 := Lib.hid k
       clear k))
  have hw4 : Below w.heap.size w w4 := below_trans HB.out.2.2.2.1 H4.out.2.2.2.1
  have la := H4.out.2.1.1
  have c36 : A.length ≤ 36 := (cap8 hn'.2 HC.out.2.2.2.1 HC.out.2.2.2.1).1
  obtain ⟨NA, hNA⟩ : ∃ N, us4.length = N := ⟨_, rfl⟩
  have hlen : A.length = NA := la.symm.trans hNA
  rw [hNA] at H4 ⊢
  have hp4 := HC.out.2.2.2.2.2.below hw4
  have HP := Lib.hid (And.intro hlen (And.intro c36 (And.intro hw4 hp4)))
  have hN63 : NA ≤ 9223372036854775807 := by omega
  clear hlen hNA la c36 hw4 hp4
  obtain ⟨N1, hN1⟩ : ∃ N1, (Value.slice a4 NA c4).ownBlock.toList = N1 := ⟨_, rfl⟩
  have p0 : PmL w4 N1 us4 (mixC A p 0) := by
    rw [mixC_zero]
    refine ⟨H4.out.2.1.1, fun i x hx => ?_⟩
    obtain ⟨u, hu, hpm⟩ := H4.out.2.1.2 i x hx
    refine ⟨u, hu, hpm.fresh HP.out.2.2.1 (fun m hm => ?_)⟩
    have h1 := (H4.out.1.block_lt (mem_ob.1 (hN1 ▸ hm))).2
    have h2 := (below_trans HB.out.2.2.2.1 H3.out).size
    omega
  have HN1 := Lib.hid (And.intro hN1 p0)
  clear hN1 p0
  go_loopw [32] (fun i wr => ∃ (k : Nat) (us : List Value), k ≤ NA ∧ i = .int .i64 (k : Int) ∧ us.length = NA ∧ Own wr w3.heap.size (.slice a4 NA c4) 27 us ∧ PmL wr N1 us (mixC A p k) ∧ Below w3.heap.size w3 wr) (fun i _ => NA - (intOf i).toNat)
  case atStart => exact ⟨0, us4, Nat.zero_le _, rfl, H4.out.2.1.1.trans HP.out.1, H4.out.1, HN1.out.2, H4.out.2.2.2.2⟩
  case round =>
    obtain ⟨k, us, hk, rfl, hlu, ho, hpl, hbr⟩ := hrel
    by_cases hka : k < NA
    · have hk1 : (k : Int) < NA := by omega
      obtain ⟨a, ha⟩ : ∃ a, A[k]? = some a := ⟨_, List.getElem?_eq_getElem (by rw [HP.out.1]; exact hka)⟩
      obtain ⟨u, hu, hpu⟩ := hpl.2 k a (mixC_get ha)
      obtain ⟨g, cap, ev, _, _, _, _⟩ := ho.form (by rw [hlu]; omega)
      simp only [Value.slice.injEq] at ev
      obtain ⟨rfl, -, rfl⟩ := ev
      have hc6 := (ho.cell k (by rw [hlu]; exact hka)).trans hu
      obtain ⟨ub, uo, uc, rfl, _⟩ := id hpu
      have h84 := px84 hn hpu.weak (HC.out.2.2.2.2.2.below (below_trans (below_trans HB.out.2.2.2.1 H3.out) hbr))
      have HY := Lib.hid (And.intro h84 (And.intro ho (And.intro hpl (And.intro hbr (And.intro ha hlu)))))
      clear h84 ho hpl hbr ha hlu hu hpu
      go_wp2_with (go_at_call 84; (with_reducible refine HY.out.1.mono ?_); rintro e6 w6 ⟨v6, rfl, k1, k2⟩
                   have o6 := HY.out.2.1.below k2
                   have s0 : w6.cell? ⟨g, k, none⟩ = some (.slice (some ⟨ub, uo, none⟩) n uc) := (k2.cell (block_lt_of_cell hc6)).trans hc6
                   have s1 : w6.frozen? ⟨g, k, none⟩ = false := o6.frozen k
                   obtain ⟨vb, vc, rfl, _⟩ := id k1
                   have H6 := Lib.hid (And.intro o6 (And.intro k1 k2))
                   clear k1 k2 o6)
      have hg1 : g ∈ N1 := HN1.out.1 ▸ mem_ob.2 rfl
      have hz := H6.out.2.1.pm (M := N1) (fun m hm => (HY.out.2.1.block_lt (mem_ob.1 (HN1.out.1 ▸ hm))).1)
      refine ⟨⟨k + 1, us.set k (.slice (some ⟨vb, 0, none⟩) n vc), by omega, by go_num, by rw [List.length_set]; exact HY.out.2.2.2.2.2, H6.out.1.put k _, ?_, ?_⟩, by simp [intOf]; omega⟩
      · rw [← mixC_set HY.out.2.2.2.2.1]
        exact ((HY.out.2.2.1.stp (Stp.below H6.out.2.2)).setP hz).stp ⟨Kept.ofGrown (grown_put k _) (fun j e => by cases e; exact hg1), fun m hm => .inl hm⟩
      · exact ((HY.out.2.2.2.1.trans (H6.out.2.2.mono HY.out.2.2.2.1.size)).grown (grown_put k _) (Nat.le_trans HY.out.2.2.2.1.size H6.out.2.2.size) (fun j e => by cases e; exact (H6.out.1.block_lt rfl).2))
    · have hk1 : ¬ (k : Int) < NA := by omega
      have hkN : k = NA := by omega
      have hpl' : PmL wr N1 us (A.map fun a => cj a p) := by
        have := hpl
        rw [hkN, ← HP.out.1, mixC_all] at this
        exact this
      have hb1 : Below W1.heap.size W1 wr := below_trans H3.out hbr
      obtain ⟨q0, q1, q2, _⟩ := keep3b hx0 hb1
      have K1 := Lib.hid (And.intro (pms_ownB ho hpl'.weakM (by rw [List.length_map]; have := HP.out.2.1; omega)) hb1)
      clear hpl hpl' ho hbr hb1
      go_wp2_with (go_at_call 90; (with_reducible refine (mk90 (L := A.map fun a => cj a p) hn (by rw [List.length_map]; have := HP.out.2.1; omega) K1.out.1).mono ?_); rintro e7 w7 ⟨a7, c7, b7', d7, rfl, k2, k3⟩
                   have hr7 := (k2.block (X + 1) (by have := K1.out.2.size; have := HB.out.2.2.1; omega)).trans ((K1.out.2.block (X + 1) (by rw [HB.out.2.2.1]; omega)).trans HB.out.2.1)
                   obtain ⟨r0, r1, r2, r3, r4, r5⟩ := box_cells hr7
                   have hg7 := k3 (List.range (X + 2)) (fun m hm => by have := List.mem_range.1 hm; have := K1.out.2.size; have := HB.out.2.2.1; omega)
                   have H7 := Lib.hid (And.intro hg7 (And.intro hr7 (below_trans HB.out.2.2.2.1 (below_trans K1.out.2 k2))))
                   clear k2 k3 hg7 hr7)
      have hfin : (set3 w7 (X + 1) (.int .i64 (n : Int)) (.slice a7 n c7) (.slice b7' n d7)).heap[X + 1]? = some (.cells #[.int .i64 (n : Int), .slice a7 n c7, .slice b7' n d7] 25) := set3_box H7.out.2.1
      obtain ⟨V, hV⟩ : ∃ V, set3 w7 (X + 1) (.int .i64 (n : Int)) (.slice a7 n c7) (.slice b7' n d7) = V := ⟨_, rfl⟩
      have hKp : Kept w7 V [X + 1] := hV ▸ set3_kept (by simp)
      rw [hV] at hfin
      unfold set3 at hV
      rw [hV]
      obtain ⟨f0, f1, f2, _⟩ := box_cells hfin
      refine bodyPost_ret (v := .tuple #[.agg #[.int .i64 (n : Int), .slice a7 n c7, .slice b7' n d7], .int .i64 0]) (by simp [results, Tryz.results34, go_sem, f0, f1, f2]) rfl ?_
      refine ⟨a7, c7, b7', d7, rfl, ?_, fun S hS => ?_⟩
      · have h1 := H7.out.2.2
        rw [HB.out.2.2.2.2] at h1
        have h2 := h1.size
        exact h1.trans (hKp.below1 (by omega) (by omega))
      · refine ((H7.out.1.kept (hKp.mono (fun q hq => ?_))).congr (grp_cj HC.out.2.2.1 hG p)).ext (fun q hq => .inl ?_)
        · rw [List.mem_singleton.1 hq]
          exact List.mem_range.2 (by omega)
        · have := hS q hq
          exact List.mem_range.2 (by omega)
set_option maxRecDepth 100000 in
set_option maxHeartbeats 4000000 in
theorem cnj35 (hn' : 0 < n ∧ n ≤ 8) {w : World} {v1 vx : Value} {G : Pm n → Prop} {p : Pm n} (hG : IsG G) (h1 : GrG w v1 G) (hx : PmV w [] vx p) :
    Calls Tryz.prog 35 #[v1, vx] w fun e w' => ∃ a c b d, e = .returned (.tuple #[.agg #[.int .i64 (n : Int), .slice a n c, .slice b n d], .int .i64 0]) ∧ Below w.heap.size w w' ∧
      ∀ S, (∀ m ∈ S, m < w.heap.size) → GrS w' (.agg #[.int .i64 (n : Int), .slice a n c, .slice b n d]) (CjG G p) S := by
  have hn : 0 < n ∧ n ≤ 64 := ⟨hn'.1, by omega⟩
  obtain ⟨i27, hi27, hz27, hs27, hb27⟩ := info_parts Tryz.info27
  have I27 := Lib.hid (And.intro hi27 (And.intro hz27 (And.intro hs27 hb27)))
  clear hi27 hz27 hs27 hb27
  obtain ⟨os, rs, hch, hc0⟩ := h1.chk hn hG
  have hck := fun (V : World) (hV : Below w.heap.size w V) => chk56 (hch.below hV)
  simp only [hc0] at hck
  obtain ⟨_, _, ab, ao, c, bb, bo, e, hv1, _⟩ := h1.lev hG ⟨hn.1, hn.2⟩
  subst hv1
  obtain ⟨T1, t1, ch1, _⟩ := h1.ch
  have l1 : ∀ V, Below w.heap.size w V → Calls Tryz.prog 46 #[cv n ab ao c bb bo e] V fun e w' => ∃ v us, e = .returned v ∧ Own w' V.heap.size v 27 us ∧ PmL w [] us (PlainPm.agen T1) ∧ us.length ≤ 4096 ∧ Below V.heap.size V w' := fun V hV => (strong46g hn hG t1 ch1 hV).mono (by
    rintro e w' ⟨v, us, k0, k1, k2, k3, k4⟩
    exact ⟨v, us, k0, k1, pml_rv hn.1 k2, Nat.le_trans k3 (Nat.mul_le_mul hn.2 hn.2), k4⟩)
  have hC1 := agen_grp hG t1
  have hs1 := agen_len2 hG t1
  obtain ⟨A, hA⟩ : ∃ A, PlainPm.agen T1 = A := ⟨_, rfl⟩
  rw [hA] at l1 hC1 hs1
  obtain ⟨xa, xc, ex, hxi⟩ := PmV.ints (n := n) (by omega) hx
  have hxl := p.ok.1
  rw [hxl] at ex
  subst ex
  have hpc := fun (V : World) (hV : Below w.heap.size w V) => rperm_calls (c := xc) (hxi.below hV)
  simp only [chkP_l hn p, hxl] at hpc
  obtain ⟨xb, xo, xcc, exx, _⟩ := id hx
  simp only [Value.slice.injEq, true_and] at exx
  obtain ⟨rfl, rfl⟩ := exx
  obtain ⟨X, hX⟩ : ∃ X, w.heap.size = X := ⟨_, rfl⟩
  obtain ⟨W1, hW1⟩ : ∃ W1, (w.alloc (.cells #[.int .i64 (n : Int), .slice (some ⟨ab, ao, none⟩) n c, .slice (some ⟨bb, bo, none⟩) n e] 25)).alloc (.cells #[.int .i64 0, .slice none 0 0, .slice none 0 0] 25) = W1 := ⟨_, rfl⟩
  have hsz : W1.heap.size = X + 2 := by rw [← hW1]; simp [hX]
  have hwW : Below w.heap.size w W1 := hW1 ▸ alloc_b (alloc_b (Below.refl _ _) _) _
  have k0 : W1.heap[X]? = some (.cells #[.int .i64 (n : Int), .slice (some ⟨ab, ao, none⟩) n c, .slice (some ⟨bb, bo, none⟩) n e] 25) := by
    rw [← hW1]
    exact ((alloc_b (Below.refl _ _) _).block X (by simp; omega)).trans (box_al25 hX _ _ _)
  have k1 : W1.heap[X + 1]? = some (.cells #[.int .i64 0, .slice none 0 0, .slice none 0 0] 25) := by
    rw [← hW1]
    exact box_al25 (by simp [hX]) _ _ _
  obtain ⟨x0, x1, x2, _⟩ := box_cells k0
  have hx0 := And.intro x0 (And.intro x1 (And.intro x2 (Below.refl W1.heap.size W1)))
  have HB := Lib.hid (And.intro k0 (And.intro k1 (And.intro hsz (And.intro hwW hX))))
  have HC := Lib.hid (And.intro hck (And.intro l1 (And.intro hC1 (And.intro hs1 (And.intro hpc hx)))))
  have hnn : ((n : Int) != (n : Int)) = false := by simp
  clear hck l1 hC1 hs1 hpc k0 k1 hsz hwW h1 hx hxi hch hA t1 ch1
  go_enter Tryz.func35, Tryz.ntmps35
  try simp only [hX]
  go_wp2_with (first
    | (go_at_call 46; (with_reducible refine (HC.out.2.1 _ (below_trans HB.out.2.2.2.1 H3.out)).mono ?_)
       rintro e4 w4 ⟨v4, us4, rfl, k1, k2, k3, k4⟩
       obtain ⟨a4, c4, rfl, _⟩ := k1.row (by unfold maxLen; omega)
       have b4 : Below W1.heap.size W1 w4 := below_trans H3.out k4
       obtain ⟨j0, j1, j2, _⟩ := keep3b hx0 b4
       have H4 := Lib.hid (And.intro k1 (And.intro k2 (And.intro k3 (And.intro b4 k4))))
       clear k1 k2 k3 k4 b4)
    | (go_at_call 91; (with_reducible refine (HC.out.2.2.2.2.1 _ (below_trans HB.out.2.2.2.1 H2.out)).mono ?_)
       rintro e3 w3 ⟨rfl, k⟩
       have b3 : Below W1.heap.size W1 w3 := below_trans H2.out k
       obtain ⟨i0, i1, i2, _⟩ := keep3b hx0 b3
       have H3 := Lib.hid b3
       clear k b3)
    | (go_at_call 56; (with_reducible refine (HC.out.1 _ HB.out.2.2.2.1).mono ?_)
       rintro e2 w2 ⟨rfl, k⟩
       obtain ⟨z0, z1, z2, _⟩ := keep3b hx0 k
       have H2 := Lib.hid k
       clear k))
  have hw4 : Below w.heap.size w w4 := below_trans HB.out.2.2.2.1 H4.out.2.2.2.1
  have la := H4.out.2.1.1
  have c36 : A.length ≤ 36 := (cap8 hn'.2 HC.out.2.2.2.1 HC.out.2.2.2.1).1
  obtain ⟨NA, hNA⟩ : ∃ N, us4.length = N := ⟨_, rfl⟩
  have hlen : A.length = NA := la.symm.trans hNA
  rw [hNA] at H4 ⊢
  have hp4 := HC.out.2.2.2.2.2.below hw4
  have HP := Lib.hid (And.intro hlen (And.intro c36 (And.intro hw4 hp4)))
  have hN63 : NA ≤ 9223372036854775807 := by omega
  clear hlen hNA la c36 hw4 hp4
  go_loopw [9, 10] (fun v i wr => ∃ (k : Nat) (us : List Value), k ≤ NA ∧ i = .int .i64 (k : Int) ∧ GrowL [] wr w4.heap.size v us ((A.take k).map fun a => cj a p) ∧ Below w4.heap.size w4 wr) (fun _ i _ => NA - (intOf i).toNat)
  case atStart => exact ⟨0, [], Nat.zero_le _, rfl, GrowL.nil _ (by simp), Below.refl _ _⟩
  case round =>
    obtain ⟨k, us, hk, rfl, hgl, hbr⟩ := hrel
    by_cases hka : k < NA
    · have hk1 : (k : Int) < NA := by omega
      obtain ⟨a, ha⟩ : ∃ a, A[k]? = some a := ⟨_, List.getElem?_eq_getElem (by rw [HP.out.1]; exact hka)⟩
      obtain ⟨_, _, q4, hA63, hatA⟩ := pms_at (pms_ownB H4.out.1 (H4.out.2.1.below HP.out.2.2.1) (by have := HP.out.2.1; omega))
      simp only [Value.slice.injEq] at q4
      obtain ⟨rfl, -, rfl⟩ := q4
      obtain ⟨g6, o6, u6, rfl, hc6, hp6⟩ := hatA k a ha
      have hc6r := (hbr.cell (block_lt_of_cell hc6)).trans hc6
      obtain ⟨ub, uo, uc, rfl, _⟩ := id hp6
      have h88 := px88 hn (hp6.below hbr) (HP.out.2.2.2.below hbr)
      have hlu : us.length < 1099511627776 := by have h1 := hgl.len; rw [List.length_map, List.length_take] at h1; have := HP.out.2.1; omega
      have hD : w4.heap.size ≤ wr.heap.size := hbr.size
      have HY := Lib.hid (And.intro h88 (And.intro hgl (And.intro hbr ha)))
      clear h88 hgl hbr ha hp6 hatA
      go_wp2_with (first
        | (at_builtin; refine app1 rfl (.tmp 37) (.tmp 44) 44 27 rfl i27 (.slice none 0 0) 24 Tryz.underlying44 I27.out.1 I27.out.2.1 I27.out.2.2.1 I27.out.2.2.2 rfl (by omega) w4.heap.size (.slice (some ⟨vb, 0, none⟩) n vc) _ us rfl (HY.out.2.1.below H6.out.1).1 rfl rfl hlu (Nat.le_trans hD H6.out.1.size) ?_; intro v8 w8 k1 k2 k3; have H8 := Lib.hid (And.intro k1 (And.intro k2 k3)); clear k1 k2 k3)
        | (go_at_call 88; (with_reducible refine HY.out.1.mono ?_); rintro e6 w6 ⟨v6, rfl, k1, k2⟩
           have hz6 := k1.growV HY.out.2.1
           obtain ⟨vb, vc, rfl, _⟩ := id k1
           have H6 := Lib.hid (And.intro k2 hz6)
           clear k1 k2 hz6))
      refine ⟨⟨k + 1, us ++ [.slice (some ⟨vb, 0, none⟩) n vc], by omega, by go_num, ?_, ?_⟩, by simp [intOf]; omega⟩
      · have := (HY.out.2.1.below H6.out.1).app H6.out.2 H8.out.1 H8.out.2.1 H8.out.2.2
        rw [List.take_add_one, HY.out.2.2.2, List.map_append]
        exact this
      · exact (HY.out.2.2.1.trans (H6.out.1.mono HY.out.2.2.1.size)).grown H8.out.2.1 (Nat.le_trans HY.out.2.2.1.size H6.out.1.size) (fun g e => (HY.out.2.1.1.block_lt e).2)
    · have hk1 : ¬ (k : Int) < NA := by omega
      have hkN : k = NA := by omega
      have hgl' := hgl
      rw [hkN, ← HP.out.1, List.take_length] at hgl'
      have hb1 : Below W1.heap.size W1 wr := below_trans H4.out.2.2.2.1 hbr
      obtain ⟨q0, q1, q2, _⟩ := keep3b hx0 hb1
      have K1 := Lib.hid (And.intro (pms_ownB hgl'.1 hgl'.2.1.weakM (by rw [List.length_map]; have := HP.out.2.1; omega)) hb1)
      clear hgl hgl' hbr hb1
      go_wp2_with (go_at_call 75; (with_reducible refine (chain75 (L := A.map fun a => cj a p) hn (by rw [List.length_map]; have := HP.out.2.1; omega) K1.out.1).mono ?_); rintro e7 w7 ⟨a7, c7, b7', d7, rfl, k2, k3⟩
                   have hr7 := (k2.block (X + 1) (by have := K1.out.2.size; have := HB.out.2.2.1; omega)).trans ((K1.out.2.block (X + 1) (by rw [HB.out.2.2.1]; omega)).trans HB.out.2.1)
                   obtain ⟨r0, r1, r2, r3, r4, r5⟩ := box_cells hr7
                   have hg7 := k3 (List.range (X + 2)) (fun m hm => by have := List.mem_range.1 hm; have := K1.out.2.size; have := HB.out.2.2.1; omega)
                   have H7 := Lib.hid (And.intro hg7 (And.intro hr7 (below_trans HB.out.2.2.2.1 (below_trans K1.out.2 k2))))
                   clear k2 k3 hg7 hr7)
      have hfin : (set3 w7 (X + 1) (.int .i64 (n : Int)) (.slice a7 n c7) (.slice b7' n d7)).heap[X + 1]? = some (.cells #[.int .i64 (n : Int), .slice a7 n c7, .slice b7' n d7] 25) := set3_box H7.out.2.1
      obtain ⟨V, hV⟩ : ∃ V, set3 w7 (X + 1) (.int .i64 (n : Int)) (.slice a7 n c7) (.slice b7' n d7) = V := ⟨_, rfl⟩
      have hKp : Kept w7 V [X + 1] := hV ▸ set3_kept (by simp)
      rw [hV] at hfin
      unfold set3 at hV
      rw [hV]
      obtain ⟨f0, f1, f2, _⟩ := box_cells hfin
      refine bodyPost_ret (v := .tuple #[.agg #[.int .i64 (n : Int), .slice a7 n c7, .slice b7' n d7], .int .i64 0]) (by simp [results, Tryz.results35, go_sem, f0, f1, f2]) rfl ?_
      refine ⟨a7, c7, b7', d7, rfl, ?_, fun S hS => ?_⟩
      · have h1 := H7.out.2.2
        rw [HB.out.2.2.2.2] at h1
        have h2 := h1.size
        exact h1.trans (hKp.below1 (by omega) (by omega))
      · refine ((H7.out.1.kept (hKp.mono (fun q hq => ?_))).congr (grp_cj HC.out.2.2.1 hG p)).ext (fun q hq => .inl ?_)
        · rw [List.mem_singleton.1 hq]
          exact List.mem_range.2 (by omega)
        · have := hS q hq
          exact List.mem_range.2 (by omega)
end
end Go.Proofs.YtbejhkojdiadaaaGreat
