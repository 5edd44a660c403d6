/- Conjugates and commutators of permutations; the least group that contains some and is normalised by others: plain. · The reference's chain: a chain of a list by growing. · closure.Join. · The kit's SamePerms. · The kit's Less of two permutations. · kit: place, Index: a search in a sorted list of permutations. · The list of all elements of a chain's group, by its levels and by ranks: plain. · Drawn groups and lists of elements: plain. · All representatives of a chain generate its group; the kit's Strong as a list of them. -/
import Derived.Test.YtbejhkojdiadaaaGreatCo01
import Derived.Test.YtbejhkojdiadaaaGreatCo02
import Derived.Test.YtbejhkojdiadaaaGreatCo03
import Derived.Test.YtbejhkojdiadaaaGreatCo04
import Derived.Test.YtbejhkojdiadaaaGreatCo05
import Derived.Test.YtbejhkojdiadaaaGreatCo06
import Derived.Test.YtbejhkojdiadaaaGreatCo07
import Derived.Test.YtbejhkojdiadaaaGreatCo08
import Derived.Test.YtbejhkojdiadaaaGreatCo09
import Derived.Test.YtbejhkojdiadaaaGreatCo10
import Derived.Test.YtbejhkojdiadaaaGreatCo11
import Derived.Test.YtbejhkojdiadaaaGreatCo12
import Derived.Test.YtbejhkojdiadaaaGreatCo13
import Derived.Test.YtbejhkojdiadaaaGreatCo14
import Derived.Test.YtbejhkojdiadaaaGreatCo15
import Derived.Test.YtbejhkojdiadaaaGreatProg
import Derived.WalkKit
import Derived.WalkSpells
import Derived.BigQuiet
import Derived.Deep.QuietTactic
import Derived.Deep.LoopGhost
import Derived.Lib.Hide
import Derived.Maps.AppendAt
import Derived.Deep.AppendLies
import Derived.StillTailTactics
import Derived.Laws.CopyOwn
import Derived.Deep.OwnRows
import Derived.Deep.DeepCutAuto
import Derived.Laws.Cover3
import Derived.Deep.RegionHeld3
import Derived.RangeFuncRecord
import Derived.Lib.SlicesSearch
import Derived.RangeFuncBox
import Derived.RangeFuncLeaves
import Derived.RangeFuncWrites
import Derived.RangeFuncFrom
import Derived.Shelf.Abstract
import Derived.OwnWalkIn
import Derived.TacticsInMore
import Derived.LoopNIn
import Derived.LoopIn
import Derived.Shelf.GgSortFunc.Insertion
import Derived.Shelf.SlIter.Collect
import Derived.Shelf.Sort.Plain
import Derived.Deep.RegionLaw
import Derived.ControlIn
set_option linter.unusedSimpArgs false
set_option linter.unusedVariables false
namespace Go.Proofs.YtbejhkojdiadaaaGreat.PlainPm
variable {n : Nat}
def cj (x y : Pm n) : Pm n := (y.inv.mul x).mul y
def cm (x y : Pm n) : Pm n := (x.inv.mul y.inv).mul (x.mul y)
theorem cj_one (y : Pm n) : cj (PlainPm.one n) y = PlainPm.one n := by unfold cj; rw [Pm.mul_one, Pm.inv_mul]
theorem cj_by_one (x : Pm n) : cj x (PlainPm.one n) = x := by unfold cj; rw [Pm.inv_one, Pm.one_mul, Pm.mul_one]
theorem Pm.mul_inv_mul (x y : Pm n) : x.mul (x.inv.mul y) = y := by rw [← Pm.mul_assoc, Pm.mul_inv, Pm.one_mul]
theorem Pm.inv_mul_mul (x y : Pm n) : x.inv.mul (x.mul y) = y := by rw [← Pm.mul_assoc, Pm.inv_mul, Pm.one_mul]
theorem cj_mul (x z y : Pm n) : cj (x.mul z) y = (cj x y).mul (cj z y) := by
  unfold cj
  simp only [Pm.mul_assoc, Pm.mul_inv_mul]
theorem cj_inv (x y : Pm n) : cj x.inv y = (cj x y).inv := by
  refine Pm.inv_unique ?_
  rw [← cj_mul, Pm.mul_inv, cj_one]
theorem cj_cj (x y z : Pm n) : cj (cj x y) z = cj x (y.mul z) := by
  unfold cj
  rw [Pm.mul_inv_rev]
  simp only [Pm.mul_assoc]
theorem cj_back (x y : Pm n) : cj (cj x y) y.inv = x := by rw [cj_cj, Pm.mul_inv, cj_by_one]
theorem cj_forth (x y : Pm n) : cj (cj x y.inv) y = x := by rw [cj_cj, Pm.inv_mul, cj_by_one]
theorem cj_inj {x y z : Pm n} (h : cj x z = cj y z) : x = y := by rw [← cj_back x z, h, cj_back]
def pw (y : Pm n) : Nat → Pm n
  | 0 => PlainPm.one n
  | k + 1 => (pw y k).mul y
theorem pw_add (y : Pm n) (i k : Nat) : pw y (i + k) = (pw y i).mul (pw y k) := by
  induction k with
  | zero => exact (Pm.mul_one _).symm
  | succ k ih => show (pw y (i + k)).mul y = _; rw [ih, Pm.mul_assoc]; rfl
def allL (n : Nat) : Nat → List (List Int)
  | 0 => [[]]
  | k + 1 => (allL n k).flatMap fun l => (List.range n).map fun p : Nat => (p : Int) :: l
theorem mem_allL : ∀ (k : Nat) (l : List Int), l.length = k → (∀ x ∈ l, 0 ≤ x ∧ x < n) → l ∈ allL n k
  | 0, l, h, _ => by cases l <;> simp_all [allL]
  | k + 1, [], h, _ => by simp at h
  | k + 1, x :: l, h, hx => by
    have h1 := hx x (List.mem_cons_self ..)
    refine List.mem_flatMap.2 ⟨l, mem_allL k l (by simpa using h) (fun z hz => hx z (List.mem_cons_of_mem _ hz)), List.mem_map.2 ⟨x.toNat, List.mem_range.2 (by omega), ?_⟩⟩
    rw [Int.toNat_of_nonneg h1.1]
theorem pw_order (y : Pm n) : ∃ k, y.inv = pw y k := by
  have hnd : ¬ (((List.range ((allL n n).length + 1)).map fun i => (pw y i).l).Nodup) := fun hd => by
    have := sub_len hd (m := allL n n) (fun l hl => by
      obtain ⟨i, _, rfl⟩ := List.mem_map.1 hl
      exact mem_allL n _ (pw y i).ok.1 (pw y i).ok.2.1)
    simp at this
    omega
  have hex : ∃ i k, i < k ∧ pw y i = pw y k := by
    refine Classical.byContradiction fun hno => hnd (nodup_map_on List.nodup_range fun i _ k _ he => ?_)
    rcases Nat.lt_trichotomy i k with h | h | h
    · exact absurd ⟨i, k, h, Pm.ext' he⟩ hno
    · exact h
    · exact absurd ⟨k, i, h, (Pm.ext' he).symm⟩ hno
  obtain ⟨i, k, hlt, he⟩ := hex
  obtain ⟨m, rfl⟩ : ∃ m, k = i + (m + 1) := ⟨k - i - 1, by omega⟩
  have h1 : pw y (m + 1) = PlainPm.one n := by
    have := congrArg (fun z => (pw y i).inv.mul z) he
    simp only [pw_add y i, Pm.inv_mul, Pm.inv_mul_mul] at this
    exact this.symm
  refine ⟨m, ?_⟩
  have h2 : (pw y m).mul y = PlainPm.one n := h1
  have h3 := congrArg (fun z => z.mul y.inv) h2
  simp only [Pm.mul_inv_cancel, Pm.one_mul] at h3
  exact h3.symm
def Nrm (H B : Pm n → Prop) : Prop := ∀ x, H x → ∀ y, B y → H (cj x y)
theorem Nrm.sub {H B B' : Pm n → Prop} (h : Nrm H B) (hb : ∀ y, B' y → B y) : Nrm H B' := fun x hx y hy => h x hx y (hb y hy)
theorem Nrm.pw {H B : Pm n → Prop} (h : Nrm H B) {x y : Pm n} (hx : H x) (hy : B y) : ∀ k, H (cj x (PlainPm.pw y k))
  | 0 => by show H (cj x (PlainPm.one n)); rw [cj_by_one]; exact hx
  | k + 1 => by show H (cj x ((PlainPm.pw y k).mul y)); rw [← cj_cj]; exact h _ (Nrm.pw h hx hy k) y hy
theorem Nrm.grp {H B : Pm n → Prop} (h : Nrm H B) : Nrm H (Grp B) := fun x hx y hy => by
  induction hy with
  | one => rw [cj_by_one]; exact hx
  | mul y s _ hs ih => rw [← cj_cj]; exact h _ ih s hs
  | inv y s _ hs ih =>
    obtain ⟨k, hk⟩ := pw_order s
    rw [← cj_cj, hk]
    exact h.pw ih hs k
theorem cj_isG {H : Pm n → Prop} (hH : IsG H) (y : Pm n) : IsG fun x => H (cj x y) :=
  ⟨by rw [cj_one]; exact hH.one, fun h k => by rw [cj_mul]; exact hH.mul h k, fun h => by rw [cj_inv]; exact hH.inv h⟩
theorem nrm_of {L H B : Pm n → Prop} (hH : IsG H) (hl : ∀ x, H x ↔ Grp L x) (h : ∀ x, L x → ∀ y, B y → H (cj x y)) : Nrm H B := fun x hx y hy =>
  Grp.sub (cj_isG hH y) (fun s hs => h s hs y hy) ((hl x).1 hx)
def NcG (L B : Pm n → Prop) (x : Pm n) : Prop := ∀ H, IsG H → (∀ y, L y → H y) → Nrm H B → H x
section
variable {L B : Pm n → Prop}
theorem NcG.isG : IsG (NcG L B) := ⟨fun H h _ _ => h.one, fun hx hy H h hl hb => h.mul (hx H h hl hb) (hy H h hl hb), fun hx H h hl hb => h.inv (hx H h hl hb)⟩
theorem NcG.base {x : Pm n} (h : L x) : NcG L B x := fun H _ hl _ => hl x h
theorem NcG.nrm : Nrm (NcG L B) B := fun x hx y hy H h hl hb => hb x (hx H h hl hb) y hy
theorem NcG.of {G : Pm n → Prop} (hG : IsG G) (hl : ∀ y, L y → G y) (hb : Nrm G B) (hs : ∀ x, G x → NcG L B x) (x : Pm n) : G x ↔ NcG L B x := ⟨hs x, fun h => h G hG hl hb⟩
theorem NcG.grp (x : Pm n) : NcG L (Grp B) x ↔ NcG L B x := ⟨fun h H hH hl hb => h H hH hl hb.grp, fun h H hH hl hb => h H hH hl (hb.sub fun y hy => Grp.base hy)⟩
theorem NcG.byG {G : Pm n → Prop} (hg : ∀ y, Grp B y ↔ G y) (x : Pm n) : NcG L B x ↔ NcG L G x :=
  ⟨fun h H hH hl hb => h H hH hl (hb.sub fun y hy => (hg y).1 (Grp.base hy)), fun h H hH hl hb => h H hH hl (hb.grp.sub fun y hy => (hg y).2 hy)⟩
end
theorem cm_mul_left (a b c : Pm n) : cm (a.mul b) c = (cj (cm a c) b).mul (cm b c) := by
  unfold cm cj
  rw [Pm.mul_inv_rev]
  simp only [Pm.mul_assoc, Pm.mul_inv_mul, Pm.inv_mul_mul]
theorem cm_mul_right (a b c : Pm n) : cm a (b.mul c) = (cm a c).mul (cj (cm a b) c) := by
  unfold cm cj
  rw [Pm.mul_inv_rev]
  simp only [Pm.mul_assoc, Pm.mul_inv_mul, Pm.inv_mul_mul]
theorem cm_one_left (c : Pm n) : cm (PlainPm.one n) c = PlainPm.one n := by unfold cm; rw [Pm.inv_one, Pm.one_mul, Pm.one_mul, Pm.inv_mul]
theorem cm_one_right (c : Pm n) : cm c (PlainPm.one n) = PlainPm.one n := by unfold cm; rw [Pm.inv_one, Pm.mul_one, Pm.mul_one, Pm.inv_mul]
theorem cm_inv (a b : Pm n) : (cm a b).inv = cm b a := by
  unfold cm
  simp only [Pm.mul_inv_rev, Pm.inv_inv, Pm.mul_assoc]
def CmG (G1 G2 : Pm n → Prop) : Pm n → Prop := Grp fun z => ∃ a b, G1 a ∧ G2 b ∧ z = cm a b
theorem CmG.comm (G1 G2 : Pm n → Prop) (x : Pm n) : CmG G1 G2 x ↔ CmG G2 G1 x := by
  have one_way : ∀ (G1 G2 : Pm n → Prop) (x : Pm n), CmG G1 G2 x → CmG G2 G1 x := fun G1 G2 x h => Grp.sub Grp.isG (by
    rintro s ⟨a, b, ha, hb, rfl⟩
    rw [← Pm.inv_inv (cm a b), cm_inv]
    exact Grp.inverse (Grp.base ⟨b, a, hb, ha, rfl⟩)) h
  exact ⟨one_way _ _ x, one_way _ _ x⟩
theorem CmG.nrm1 {G1 G2 : Pm n → Prop} (h1 : IsG G1) : Nrm (CmG G1 G2) G1 :=
  nrm_of (L := fun z => ∃ a b, G1 a ∧ G2 b ∧ z = cm a b) Grp.isG (fun _ => Iff.rfl) (by
    rintro x ⟨a, b, ha, hb, rfl⟩ g hg
    have h := cm_mul_left a g b
    have h3 : cj (cm a b) g = (cm (a.mul g) b).mul (cm g b).inv := by rw [h, Pm.mul_inv_cancel]
    rw [h3]
    exact Grp.times (Grp.base ⟨_, _, h1.mul ha hg, hb, rfl⟩) (Grp.inverse (Grp.base ⟨_, _, hg, hb, rfl⟩)))
theorem CmG.nrm2 {G1 G2 : Pm n → Prop} (h2 : IsG G2) : Nrm (CmG G1 G2) G2 := fun x hx y hy =>
  (CmG.comm _ _ _).1 (CmG.nrm1 h2 x ((CmG.comm _ _ _).1 hx) y hy)
theorem cm_nc {G1 G2 s1 s2 : Pm n → Prop} (hg1 : IsG G1) (hg2 : IsG G2) (h1 : ∀ x, Grp s1 x ↔ G1 x) (h2 : ∀ x, Grp s2 x ↔ G2 x) (x : Pm n) :
    NcG (fun z => ∃ a b, s1 a ∧ s2 b ∧ z = cm a b) (fun y => s1 y ∨ s2 y) x ↔ CmG G1 G2 x := by
  constructor
  · intro h
    refine h _ Grp.isG ?_ ?_
    · rintro y ⟨a, b, ha, hb, rfl⟩
      exact Grp.base ⟨a, b, (h1 a).1 (Grp.base ha), (h2 b).1 (Grp.base hb), rfl⟩
    · intro z hz y hy
      rcases hy with hy | hy
      · exact CmG.nrm1 hg1 z hz y ((h1 y).1 (Grp.base hy))
      · exact CmG.nrm2 hg2 z hz y ((h2 y).1 (Grp.base hy))
  · intro h H hH hl hb
    refine Grp.sub hH ?_ h
    have n1 : Nrm H G1 := fun z hz y hy => (hb.sub (fun y hy => .inl hy)).grp z hz y ((h1 y).2 hy)
    have n2 : Nrm H G2 := fun z hz y hy => (hb.sub (fun y hy => .inr hy)).grp z hz y ((h2 y).2 hy)
    -- first in the left argument, for a generator on the right
    have left : ∀ a, G1 a → ∀ b, s2 b → H (cm a b) := fun a ha b hb' => by
      have key : ∀ a, Grp s1 a → G1 a ∧ H (cm a b) := fun a ha => by
        induction ha with
        | one => exact ⟨hg1.one, by rw [cm_one_left]; exact hH.one⟩
        | mul y s _ hs ih =>
          have hs1 := (h1 s).1 (Grp.base hs)
          exact ⟨hg1.mul ih.1 hs1, by rw [cm_mul_left]; exact hH.mul (n1 _ ih.2 s hs1) (hl _ ⟨s, b, hs, hb', rfl⟩)⟩
        | inv y s _ hs ih =>
          have hs1 := (h1 s).1 (Grp.base hs)
          have hi : H (cm s.inv b) := by
            have e := cm_mul_left s s.inv b
            rw [Pm.mul_inv, cm_one_left] at e
            have e2 := Pm.inv_unique e.symm
            rw [e2]
            exact hH.inv (n1 _ (hl _ ⟨s, b, hs, hb', rfl⟩) s.inv (hg1.inv hs1))
          exact ⟨hg1.mul ih.1 (hg1.inv hs1), by rw [cm_mul_left]; exact hH.mul (n1 _ ih.2 s.inv (hg1.inv hs1)) hi⟩
      exact (key a ((h1 a).2 ha)).2
    rintro z ⟨a, b, ha, hb', rfl⟩
    have key : ∀ b, Grp s2 b → G2 b ∧ H (cm a b) := fun b hb => by
      induction hb with
      | one => exact ⟨hg2.one, by rw [cm_one_right]; exact hH.one⟩
      | mul y s _ hs ih =>
        have hs2 := (h2 s).1 (Grp.base hs)
        exact ⟨hg2.mul ih.1 hs2, by rw [cm_mul_right]; exact hH.mul (left a ha s hs) (n2 _ ih.2 s hs2)⟩
      | inv y s _ hs ih =>
        have hs2 := (h2 s).1 (Grp.base hs)
        have hi : H (cm a s.inv) := by
          have e := cm_mul_right a s s.inv
          rw [Pm.mul_inv, cm_one_right] at e
          have e2 : cm a s.inv = (cj (cm a s) s.inv).inv := by
            have e3 := Pm.inv_unique e.symm
            rw [e3, Pm.inv_inv]
          rw [e2]
          exact hH.inv (n2 _ (left a ha s hs) s.inv (hg2.inv hs2))
        exact ⟨hg2.mul ih.1 (hg2.inv hs2), by rw [cm_mul_right]; exact hH.mul hi (n2 _ ih.2 s.inv (hg2.inv hs2))⟩
    exact (key b ((h2 b).2 hb')).2
def sg (n : Nat) (O : Nat → List Nat) : Nat := ((List.range n).map fun i => if i < n then (O i).length else 0).sum
section
variable {G G' : Pm n → Prop} {O O' : Nat → List Nat} {R R' : Nat → Nat → Pm n}
theorem ChG.sub_orb (h : ChG G O R) (h' : ChG G' O' R') (hs : ∀ x, G x → G' x) {i : Nat} (hi : i < n) {p : Nat} (hp : p ∈ O i) : p ∈ O' i := by
  obtain ⟨y, h1, h2, h3⟩ := (h.mem i hi p).1 hp
  exact (h'.mem i hi p).2 ⟨y, hs y h1, h2, h3⟩
theorem ChG.of_orb (h : ChG G O R) (h' : ChG G' O' R') (hs : ∀ x, G x → G' x) (he : ∀ i, i < n → ∀ p ∈ O' i, p ∈ O i) : ∀ {f i : Nat} {x : Pm n}, i + f = n → G' x → Fx i x → G x
  | 0, i, x, hf, hx, hfx => by
    have : i = n := by omega
    subst this
    rw [Fx.all hfx]; exact h.isG.one
  | f + 1, i, x, hf, hx, hfx => by
    have hi : i < n := by omega
    have hp : x.at i ∈ O i := he i hi _ ((h'.mem i hi _).2 ⟨x, hx, hfx, rfl⟩)
    obtain ⟨r1, r2, r3⟩ := h.rep i hi _ hp
    have hfix : Fx (i + 1) (x.mul (R i (x.at i)).inv) := by
      refine Fx.succ (Fx.mul (by omega) hfx (Fx.inv (by omega) r2)) ?_
      rw [Pm.mul_at _ _ hi]
      have := (R i (x.at i)).inv_of hi
      rw [r3] at this
      exact this
    have hg := ChG.of_orb h h' hs he (f := f) (i := i + 1) (by omega) (h'.isG.mul hx (h'.isG.inv (hs _ r1))) hfix
    have := h.isG.mul hg r1
    rwa [Pm.inv_mul_cancel] at this
theorem sg_le (h : ChG G O R) : sg n O ≤ n * n := by
  have key : ∀ m, ((List.range m).map fun i => if i < n then (O i).length else 0).sum ≤ m * n := fun m => by
    induction m with
    | zero => simp
    | succ m ih =>
      rw [List.range_succ, List.map_append, List.sum_append, Nat.succ_mul]
      simp only [List.map_cons, List.map_nil, List.sum_cons, List.sum_nil, Nat.add_zero]
      refine Nat.add_le_add ih ?_
      split
      · exact h.short (by assumption)
      · omega
  exact key n
theorem sg_lt (h : ChG G O R) (h' : ChG G' O' R') (hs : ∀ x, G x → G' x) {x : Pm n} (hx : G' x) (hn : ¬ G x) : sg n O < sg n O' := by
  have hle : ∀ j, (if j < n then (O j).length else 0) ≤ (if j < n then (O' j).length else 0) := fun j => by
    split
    · rename_i hj; exact sub_len (h.nd j hj) (fun p hp => h.sub_orb h' hs hj hp)
    · omega
  have hex : ∃ i, i < n ∧ (O i).length < (O' i).length := by
    refine Classical.byContradiction fun hno => hn (h.of_orb h' hs (fun i hi => ?_) (Nat.zero_add n) hx (fun j hj => by omega))
    have h1 : (O' i).length ≤ (O i).length := by
      rcases Nat.lt_or_ge (O i).length (O' i).length with h2 | h2
      · exact absurd ⟨i, hi, h2⟩ hno
      · exact h2
    exact onto_list (h.nd i hi) (h'.nd i hi) (fun p hp => h.sub_orb h' hs hi hp) h1
  obtain ⟨i, hi, hlt⟩ := hex
  exact sum_lt n hle hi (by rw [if_pos hi, if_pos hi]; exact hlt)
end
end Go.Proofs.YtbejhkojdiadaaaGreat.PlainPm
namespace Go.Proofs.YtbejhkojdiadaaaGreat
open Go.RowKit PlainPm
theorem keptB {A B C : World} {S : List Nat} {D : Nat} (h : Kept A B S) (k : Below D B C) (hD : A.heap.size ≤ D) : Kept A C S :=
  ⟨k.os.trans h.os, k.tape.trans h.tape, k.output.trans h.output, Nat.le_trans h.size k.size, fun i hi hs => (k.block i (Nat.lt_of_lt_of_le hi hD)).trans (h.block i hi hs)⟩
end Go.Proofs.YtbejhkojdiadaaaGreat
namespace Go.Proofs.YtbejhkojdiadaaaGreat
open Go.RowKit PlainPm
theorem GrG.below {n : Nat} {w w' : World} {v : Value} {G : Pm n → Prop} (h : GrG w v G) (k : Below w.heap.size w w') : GrG w' v G := by
  obtain ⟨T, a, c, b, d, h1, h2, h3, h4, h5, h6⟩ := h
  have q : ∀ {a : Option Addr} {vs : List Value}, Row w a vs → vs.length = n → ∀ i, i < n → ∃ b o, a = some ⟨b, o, none⟩ ∧ b < w.heap.size := fun {a vs} hr hl i hi => by
    obtain ⟨b, o, e, hb, _⟩ := hr.2 i _ (List.getElem?_eq_getElem (by rw [hl]; exact hi))
    exact ⟨b, o, e, hb⟩
  obtain ⟨vs, r1, r2, _⟩ := id h3
  obtain ⟨vs', r1', r2', _⟩ := id h4
  exact ⟨T, a, c, b, d, h1, h2, h3.below k, h4.below k, h5.below k (q r1 (by rw [r2]; simp [orbI])), h6.below k (q r1' (by rw [r2']; simp [repI]))⟩
theorem GrG.pair0 {n : Nat} (hn : 0 < n ∧ n ≤ 64) {w : World} {v1 v2 : Value} {G1 G2 : Pm n → Prop} (g1 : IsG G1) (g2 : IsG G2) (h1 : GrG w v1 G1) (h2 : GrG w v2 G2) :
    ∃ os1 rs1 os2 rs2, ChV w v1 n os1 rs1 ∧ ChV w v2 n os2 rs2 ∧ pairE n os1 rs1 n os2 rs2 = 0 := by
  obtain ⟨T1, t1, c1, _⟩ := h1.ch
  obtain ⟨T2, t2, c2, _⟩ := h2.ch
  refine ⟨_, _, _, _, c1, c2, ?_⟩
  have z := fun {G : Pm n → Prop} {T : Tw n} (hG : IsG G) (h : Of G T) => (show chkE n (orbI T n) (repI T n) = 0 by
    unfold chkE
    rw [if_pos (by omega), Int.toNat_natCast, if_pos (valid_ofG hG h)])
  unfold pairE
  rw [z g1 t1, z g2 t2]
  simp
theorem pmsN_own {n D bk : Nat} {w1 w3 : World} {v : Value} {us : List Value} {l : List (Pm n)} (ho : Own w3 D v 27 us) (hD : bk < D) (hp : PmL w1 [] us l) (hb : Below w1.heap.size w1 w3) (hbk : w1.heap.size ≤ bk) (hl : l.length ≤ 4096) : PmsN w3 [bk] v l := by
  have hlm : us.length ≤ maxLen := by rw [hp.1]; unfold maxLen; omega
  obtain ⟨a, c, e, hr⟩ := ho.row hlm
  refine ⟨a, c, us, by rw [e, hp.1], fun W' k => ?_, ⟨hp.1, fun i x hx => by obtain ⟨u, hu, hpm⟩ := hp.2 i x hx; exact ⟨u, hu, hpm.fresh hb (fun m hm => by rw [List.mem_singleton.1 hm]; exact hbk)⟩⟩⟩
  have ho' : Own W' D v 27 us := ho.keptL k (fun g hg hm => by have h1 := (ho.block_lt hg).2; rw [List.mem_singleton.1 hm] at h1; omega)
  obtain ⟨a', c', e', hr'⟩ := ho'.row hlm
  rw [e] at e'
  cases e'
  exact hr'
theorem keep6J {X : Nat} {V A B : World} {u0 u1 u2 s0 s1 s2 : Value} (h : A.cell? ⟨X, 0, none⟩ = some u0 ∧ A.cell? ⟨X, 1, none⟩ = some u1 ∧ A.cell? ⟨X, 2, none⟩ = some u2 ∧ A.cell? ⟨X + 1, 0, none⟩ = some s0 ∧ A.cell? ⟨X + 1, 1, none⟩ = some s1 ∧ A.cell? ⟨X + 1, 2, none⟩ = some s2 ∧ Below (X + 3) V A) (k : Below (X + 3) A B) :
    B.cell? ⟨X, 0, none⟩ = some u0 ∧ B.cell? ⟨X, 1, none⟩ = some u1 ∧ B.cell? ⟨X, 2, none⟩ = some u2 ∧ B.cell? ⟨X + 1, 0, none⟩ = some s0 ∧ B.cell? ⟨X + 1, 1, none⟩ = some s1 ∧ B.cell? ⟨X + 1, 2, none⟩ = some s2 ∧ Below (X + 3) V B :=
  ⟨(k.cell (by simp)).trans h.1, (k.cell (by simp)).trans h.2.1, (k.cell (by simp)).trans h.2.2.1, (k.cell (by simp)).trans h.2.2.2.1, (k.cell (by simp)).trans h.2.2.2.2.1, (k.cell (by simp)).trans h.2.2.2.2.2.1, h.2.2.2.2.2.2.trans k⟩
theorem BldV.congr {n : Nat} {w : World} {bk : Nat} {G G' : Pm n → Prop} {S : List Nat} (h : BldV w bk G S) (e : ∀ x, G x ↔ G' x) : BldV w bk G' S := by
  obtain ⟨a, c, b, d, h1, h2⟩ := h
  exact ⟨a, c, b, d, h1, h2.congr e⟩
theorem BldV.below {n : Nat} {w w' : World} {bk : Nat} {G : Pm n → Prop} {S : List Nat} (h : BldV w bk G S) (k : Below w.heap.size w w') : BldV w' bk G S := by
  obtain ⟨a, c, b, d, h1, h2⟩ := h
  exact ⟨a, c, b, d, (k.block bk (Array.getElem?_eq_some_iff.1 h1).1).trans h1, h2.below k⟩
theorem BldV.lt {n : Nat} {w : World} {bk : Nat} {G : Pm n → Prop} {S : List Nat} (h : BldV w bk G S) : bk < w.heap.size := by
  obtain ⟨a, c, b, d, h1, h2⟩ := h
  exact (Array.getElem?_eq_some_iff.1 h1).1
theorem grp_start {n : Nat} (x : Pm n) : Grp (n := n) (· ∈ ([] : List (Pm n))) x ↔ Grp (fun x : Pm n => False ∨ x ∈ ([] : List (Pm n))) x :=
  ⟨Grp.sub Grp.isG (fun z hz => by cases hz), Grp.sub Grp.isG (fun z hz => by rcases hz with h | h; cases h; cases h)⟩
theorem grp_more {n : Nat} {G : Pm n → Prop} {l : List (Pm n)} (x : Pm n) : Grp (fun x => G x ∨ x ∈ l) x ↔ Grp (fun x => (G x ∨ x ∈ l) ∨ x ∈ ([] : List (Pm n))) x :=
  ⟨Grp.sub Grp.isG (fun z hz => Grp.base (.inl hz)), Grp.sub Grp.isG (fun z hz => by rcases hz with h | h; exact Grp.base h; cases h)⟩
theorem grp_both {n : Nat} {G1 G2 : Pm n → Prop} {l1 l2 : List (Pm n)} (h1 : ∀ x, Grp (· ∈ l1) x ↔ G1 x) (h2 : ∀ x, Grp (· ∈ l2) x ↔ G2 x) (x : Pm n) : Grp (fun x => (False ∨ x ∈ l1) ∨ x ∈ l2) x ↔ Grp (fun x => G1 x ∨ G2 x) x :=
  ⟨Grp.sub Grp.isG (fun z hz => by
    rcases hz with (h | h) | h
    · cases h
    · exact Grp.base (.inl ((h1 z).1 (Grp.base h)))
    · exact Grp.base (.inr ((h2 z).1 (Grp.base h)))), Grp.sub Grp.isG (fun z hz => by
    rcases hz with h | h
    · exact Grp.sub Grp.isG (fun y hy => Grp.base (.inl (.inr hy))) ((h1 z).2 h)
    · exact Grp.sub Grp.isG (fun y hy => Grp.base (.inr hy)) ((h2 z).2 h))⟩
theorem sgen4096 {n : Nat} {G : Pm n → Prop} {O : Nat → List Nat} {R : Nat → Nat → Pm n} (hG : ChG G O R) (hn : n ≤ 64) : (sgen n O R n).length ≤ 4096 :=
  Nat.le_trans (sgen_len hG hn n (Nat.le_refl _)) (Nat.le_trans (Nat.mul_le_mul_right 63 hn) (by decide))
theorem Kept.below1 {w w' : World} {bk D : Nat} (h : Kept w w' [bk]) (hd : D ≤ w.heap.size) (hb : D ≤ bk) : Below D w w' := h.below hd (fun q hq => by rw [List.mem_singleton.1 hq]; exact hb)
set_option maxRecDepth 100000 in
set_option maxHeartbeats 4000000 in
theorem join23 {n : Nat} (hn : 0 < n ∧ n ≤ 64) {w : World} {v1 v2 : Value} {G1 G2 : Pm n → Prop} (g1 : IsG G1) (g2 : IsG G2) (h1 : GrG w v1 G1) (h2 : GrG w v2 G2) :
    Calls Tryz.prog 23 #[v1, v2] w fun e w' => ∃ a c b d, e = .returned (.tuple #[.agg #[.int .i64 (n : Int), .slice a n c, .slice b n d], .int .i64 0]) ∧ Below w.heap.size w w' ∧
      ∀ S, (∀ m ∈ S, m < w.heap.size) → GrS w' (.agg #[.int .i64 (n : Int), .slice a n c, .slice b n d]) (Grp fun x => G1 x ∨ G2 x) S := by
  obtain ⟨os1, rs1, os2, rs2, p1, p2, p3⟩ := GrG.pair0 hn g1 g2 h1 h2
  have hpr := fun (V : World) (hV : Below w.heap.size w V) => pair70 (p1.below hV) (p2.below hV)
  rw [p3] at hpr
  obtain ⟨T1, t1, ab, ao, c, bb, bo, e, rfl, l1⟩ := h1.lev g1 ⟨hn.1, hn.2⟩
  obtain ⟨T2, t2, ab', ao', c', bb', bo', e', rfl, l2⟩ := h2.lev g2 ⟨hn.1, hn.2⟩
  have hC1 := t1.chG g1
  have hC2 := t2.chG g2
  have hs1 := sgen_grp g1 t1
  have hs2 := sgen_grp g2 t2
  obtain ⟨X, hX⟩ : ∃ X, w.heap.size = X := ⟨_, rfl⟩
  obtain ⟨W1, hW1⟩ : ∃ W1, ((w.alloc (.cells #[.int .i64 (n : Int), .slice (some ⟨ab, ao, none⟩) n c, .slice (some ⟨bb, bo, none⟩) n e] 25)).alloc (.cells #[.int .i64 (n : Int), .slice (some ⟨ab', ao', none⟩) n c', .slice (some ⟨bb', bo', none⟩) n e'] 25)).alloc (.cells #[.int .i64 0, .slice none 0 0, .slice none 0 0] 25) = W1 := ⟨_, rfl⟩
  have hsz : W1.heap.size = X + 3 := by rw [← hW1]; simp [hX]
  have hwW : Below w.heap.size w W1 := hW1 ▸ alloc_b (alloc_b (alloc_b (Below.refl _ _) _) _) _
  have k0 : W1.heap[X]? = some (.cells #[.int .i64 (n : Int), .slice (some ⟨ab, ao, none⟩) n c, .slice (some ⟨bb, bo, none⟩) n e] 25) := by
    rw [← hW1]
    exact ((alloc_b (Below.refl _ _) _).block X (by simp; omega)).trans (((alloc_b (Below.refl _ _) _).block X (by simp; omega)).trans (box_al25 hX _ _ _))
  have k1 : W1.heap[X + 1]? = some (.cells #[.int .i64 (n : Int), .slice (some ⟨ab', ao', none⟩) n c', .slice (some ⟨bb', bo', none⟩) n e'] 25) := by
    rw [← hW1]
    exact ((alloc_b (Below.refl _ _) _).block (X + 1) (by simp; omega)).trans (box_al25 (by simp [hX]) _ _ _)
  have k2 : W1.heap[X + 2]? = some (.cells #[.int .i64 0, .slice none 0 0, .slice none 0 0] 25) := by
    rw [← hW1]
    exact box_al25 (by simp [hX]) _ _ _
  obtain ⟨x0, x1, x2, _⟩ := box_cells k0
  obtain ⟨y0, y1, y2, _⟩ := box_cells k1
  have HB := Lib.hid (And.intro k0 (And.intro k1 (And.intro k2 (And.intro hsz (And.intro hwW hX)))))
  have HC := Lib.hid (And.intro hpr (And.intro l1 (And.intro l2 (And.intro hC1 (And.intro hC2 (And.intro hs1 hs2))))))
  clear hpr l1 l2 hC1 hC2 hs1 hs2 k0 k1 k2 hsz hwW h1 h2 p1 p2 p3 t1 t2
  go_enter Tryz.func23, Tryz.ntmps23
  try rw [hX]
  go_wp2_with (go_at_call 70; (with_reducible refine (HC.out.1 _ HB.out.2.2.2.2.1).mono ?_); rintro e0 w2 ⟨rfl, k1⟩; have H2 := Lib.hid k1; clear k1)
  obtain ⟨z0, z1, z2, _⟩ := box_cells ((H2.out.block X (by rw [HB.out.2.2.2.1]; omega)).trans HB.out.1)
  obtain ⟨z3, z4, z5, _⟩ := box_cells ((H2.out.block (X + 1) (by rw [HB.out.2.2.2.1]; omega)).trans HB.out.2.1)
  have hx0 := And.intro z0 (And.intro z1 (And.intro z2 (And.intro z3 (And.intro z4 (And.intro z5 (Below.refl (X + 3) w2))))))
  have hX3 : X + 3 ≤ w2.heap.size := by have := H2.out.size; rw [HB.out.2.2.2.1] at this; exact this
  have hw2 : Below w.heap.size w w2 := below_trans HB.out.2.2.2.2.1 H2.out
  have hR : ∀ m ∈ List.range (X + 3), m < w2.heap.size := fun m hm => Nat.lt_of_lt_of_le (List.mem_range.1 hm) hX3
  have HXX := Lib.hid (show w.heap.size ≤ X + 3 by rw [HB.out.2.2.2.2.2]; omega)
  have HR := Lib.hid (And.intro hX3 (And.intro hw2 hR))
  clear hw2 hR
  go_region_law
    (first
      | (go_simp; go_at_call 72; (with_reducible refine (with72 hn H6.out.2.2.2 (sgen4096 HC.out.2.2.2.2.1 hn.2) (pmsN_own H6.out.1 H5.out.1.lt H6.out.2.1 H6.out.2.2.1 HK.out (sgen4096 HC.out.2.2.2.2.1 hn.2)) (fun m hm => Nat.lt_of_lt_of_le (List.mem_range.1 hm) ?_)).mono ?_)
         exact Nat.le_trans hX3 b6.size
         rintro e7 w7 ⟨rfl, k1, k2⟩
         have b7 : Below (X + 3) w2 w7 := b6.trans (k2.below1 (Nat.le_trans hX3 b6.size) HK3.out)
         obtain ⟨a7, c7, b7', d7, hb7, hg7⟩ := k1
         obtain ⟨q0, q1, q2, _⟩ := b81_cells hb7
         have hr7 := (b7.block (X + 2) (by omega)).trans ((H2.out.block (X + 2) (by rw [HB.out.2.2.2.1]; omega)).trans HB.out.2.2.1)
         obtain ⟨r0, r1, r2, r3, r4, r5⟩ := box_cells hr7
         have H7 := Lib.hid (And.intro hg7 hr7)
         clear k2 hb7 hg7 hr7)
      | (go_simp; go_at_call 73; (with_reducible refine (strong73 (c := c') (e := e') hn HC.out.2.2.2.2.1 HC.out.2.2.1 H5.out.2).mono ?_)
         rintro e6 w6 ⟨v6, us6, rfl, k1, k2, k3, k4⟩
         have b6 : Below (X + 3) w2 w6 := b5.trans (k4.mono (Nat.le_trans hX3 b5.size))
         have H6 := Lib.hid (And.intro k1 (And.intro k2 (And.intro (below_trans H5.out.2 k4) (H5.out.1.below k4))))
         clear k1 k2 k3 k4)
      | (go_simp; go_at_call 72; (with_reducible refine (with72 hn H4.out.2.2.2 (sgen4096 HC.out.2.2.2.1 hn.2) (pmsN_own H4.out.1 H3.out.2.1.lt H4.out.2.1 H4.out.2.2.1 HK.out (sgen4096 HC.out.2.2.2.1 hn.2)) (fun m hm => Nat.lt_of_lt_of_le (List.mem_range.1 hm) ?_)).mono ?_)
         exact Nat.le_trans hX3 b4.size
         rintro e5 w5 ⟨rfl, k1, k2⟩
         have b5 : Below (X + 3) w2 w5 := b4.trans (k2.below1 (Nat.le_trans hX3 b4.size) HK3.out)
         obtain ⟨j0, j1, j2, j3, j4, j5, _⟩ := keep6J hx0 b5
         have H5 := Lib.hid (And.intro (k1.congr grp_more) (show Below w.heap.size w w5 from HR.out.2.1.trans (b5.mono HXX.out)))
         clear k1 k2)
      | (go_simp; go_at_call 73; (with_reducible refine (strong73 (c := c) (e := e) hn HC.out.2.2.2.1 HC.out.2.1 (below_trans HR.out.2.1 H3.out.2.2)).mono ?_)
         rintro e4 w4 ⟨v4, us4, rfl, k1, k2, k3, k4⟩
         have b4 : Below (X + 3) w2 w4 := (below_trans H3.out.2.2 k4).mono hX3
         obtain ⟨i0, i1, i2, i3, i4, i5, _⟩ := keep6J hx0 b4
         have H4 := Lib.hid (And.intro k1 (And.intro k2 (And.intro (below_trans HR.out.2.1 (below_trans H3.out.2.2 k4)) (H3.out.2.1.below k4))))
         clear k1 k2 k3 k4)
      | (go_simp; go_at_call 71; (with_reducible refine (from71 hn).mono ?_)
         rintro e3 w3 ⟨bk, rfl, k1, k2, k3⟩
         have b3' : Below w2.heap.size w2 w3 := below_trans (by first | exact Below.refl _ _ | exact below_drw (Below.refl _ _)) k2
         have b3 : Below (X + 3) w2 w3 := b3'.mono hX3
         have hbk : w2.heap.size ≤ bk := k1
         obtain ⟨gg0, gg1, gg2, gg3, gg4, gg5, _⟩ := keep6J hx0 b3
         have HK3 := Lib.hid (show X + 3 ≤ bk from Nat.le_trans hX3 hbk)
         have HK := Lib.hid (show w.heap.size ≤ bk from by rw [HB.out.2.2.2.2.2]; have := HK3.out; omega)
         have H3 := Lib.hid (And.intro hbk (And.intro ((k3 (List.range (X + 3)) (fun m hm => HR.out.2.2 m hm)).congr grp_start) b3'))
         clear k1 k2 k3 b3' hbk))
  all_goals
    go_wp2_with fail
    have hfin : (set3 w7 (X + 1 + 1) (.int .i64 (n : Int)) (.slice a7 n c7) (.slice b7' n d7)).heap[X + 1 + 1]? = some (.cells #[.int .i64 (n : Int), .slice a7 n c7, .slice b7' n d7] 25) := set3_box H7.out.2
    obtain ⟨V, hV⟩ : ∃ V, set3 w7 (X + 1 + 1) (.int .i64 (n : Int)) (.slice a7 n c7) (.slice b7' n d7) = V := ⟨_, rfl⟩
    have hKp : Kept w7 V [X + 1 + 1] := hV ▸ set3_kept (by simp)
    rw [hV] at hfin
    unfold set3 at hV
    rw [hV]
    obtain ⟨f0, f1, f2, _⟩ := box_cells hfin
    refine bodyPost_ret (v := .tuple #[.agg #[.int .i64 (n : Int), .slice a7 n c7, .slice b7' n d7], .int .i64 0]) (by simp [results, Tryz.results23, go_sem, f0, f1, f2]) rfl ?_
    refine ⟨a7, c7, b7', d7, rfl, ?_, fun S hS => ?_⟩
    · have h1 := HR.out.2.1.trans (b7.mono HXX.out)
      rw [HB.out.2.2.2.2.2] at h1
      have h2 := h1.size
      exact h1.trans (hKp.below1 (by have := b7.size; omega) (by omega))
    · refine ((H7.out.1.kept (hKp.mono (fun q hq => ?_))).congr (grp_both HC.out.2.2.2.2.2.1 HC.out.2.2.2.2.2.2)).ext (fun q hq => .inl (List.mem_cons_of_mem _ (List.mem_range.2 ?_)))
      · rw [List.mem_singleton.1 hq]
        exact List.mem_cons_of_mem _ (List.mem_range.2 (by omega))
      · have := hS q hq; omega
end Go.Proofs.YtbejhkojdiadaaaGreat
namespace Go.Proofs.YtbejhkojdiadaaaGreat
open Go.RowKit PlainPm
set_option maxRecDepth 100000 in
set_option maxHeartbeats 2000000 in
theorem same47p {n : Nat} (hn : n ≤ 64) {w : World} {v v' : Value} {L L' : List (Pm n)} (hl : L.length ≤ 1000000) (hl' : L'.length ≤ 1000000) (hv : PmsV w [] v L) (hv' : PmsV w [] v' L') :
    Calls Tryz.prog 47 #[v, v'] w fun e w' => BoolIs e (L = L') ∧ Below w.heap.size w w' := by
  obtain ⟨va, vc, vs, rfl, hr, hp⟩ := hv
  obtain ⟨va', vc', vs', rfl, hr', hp'⟩ := hv'
  obtain ⟨m, hm⟩ : ∃ m, L.length = m := ⟨_, rfl⟩
  obtain ⟨m', hm'⟩ : ∃ m, L'.length = m := ⟨_, rfl⟩
  have H := Lib.hid (And.intro hr (And.intro hp (And.intro hm (And.intro hr' (And.intro hp' hm')))))
  rw [hm] at hl ⊢
  rw [hm'] at hl' ⊢
  clear hr hp hm hr' hp' hm'
  by_cases hmm : m = m'
  · subst hmm
    have g1 : ((m : Int) != (m : Int)) = false := by simp
    go_enter Tryz.func47, Tryz.ntmps47
    go_wp2_with fail
    go_loopw [4, 5] (fun _ i wr => ∃ (k : Nat), k ≤ m ∧ i = .int .i64 (k : Int) ∧ Below w.heap.size w wr ∧ ∀ j y z, j < k → L[j]? = some y → L'[j]? = some z → y = z) (fun _ i _ => m - (intOf i).toNat)
    case atStart => exact ⟨0, by omega, rfl, Below.refl _ _, fun j y z hj => by omega⟩
    case round =>
      obtain ⟨k, hk, rfl, hb, hno⟩ := hrel
      by_cases hkm : k < m
      · obtain ⟨y, hy⟩ : ∃ y, L[k]? = some y := ⟨_, List.getElem?_eq_getElem (by rw [H.out.2.2.1]; exact hkm)⟩
        obtain ⟨z, hz⟩ : ∃ y, L'[k]? = some y := ⟨_, List.getElem?_eq_getElem (by rw [H.out.2.2.2.2.2]; exact hkm)⟩
        obtain ⟨u, hu, hpm⟩ := H.out.2.1.2 k y hy
        obtain ⟨u', hu', hpm'⟩ := H.out.2.2.2.2.1.2 k z hz
        obtain ⟨rb, ro, hae, _, hrc⟩ := (H.out.1.below hb).2 k u hu
        obtain ⟨rb', ro', hae', _, hrc'⟩ := (H.out.2.2.2.1.below hb).2 k u' hu'
        subst hae
        subst hae'
        obtain ⟨ya, yc, rfl, hyi⟩ := (hpm.below hb).ints (by omega)
        obtain ⟨za, zc, rfl, hzi⟩ := (hpm'.below hb).ints (by omega)
        have h20 := fun q => same20 _ _ yc zc _ _ (wr.drewN q) (hyi.drewN q) (hzi.drewN q)
        rw [y.ok.1, z.ok.1] at h20
        rw [y.ok.1] at hrc
        rw [z.ok.1] at hrc'
        have hk1 : (k : Int) < m := by omega
        by_cases hyz : y = z
        · rw [show decide (y.l = z.l) = true by rw [hyz]; simp] at h20
          have HC := Lib.hid (And.intro hb (And.intro hno (And.intro hy (And.intro hz (And.intro hyz h20)))))
          clear hb hno hy hyz h20 hu hpm hyi hz hu' hpm' hzi
          go_wp2_with fail
          go_quiet ((go_at_call 20; exact Calls.quiet_of (HC.out.2.2.2.2.2 _)))
          go_wp2_with fail
          refine ⟨⟨k + 1, by omega, by go_num, below_trans HC.out.1 (below_self_drewN _ _), fun j a b hj ha hb => ?_⟩, by simp [intOf]; omega⟩
          by_cases e : j = k
          · subst e; rw [HC.out.2.2.1] at ha; rw [HC.out.2.2.2.1] at hb; cases ha; cases hb; exact HC.out.2.2.2.2.1
          · exact HC.out.2.1 j a b (by omega) ha hb
        · rw [show decide (y.l = z.l) = false by simp; exact fun h => hyz (Pm.ext fun i hi => by unfold Pm.at; rw [h])] at h20
          have HC := Lib.hid (And.intro hb (And.intro hno (And.intro hy (And.intro hz (And.intro hyz h20)))))
          clear hb hno hy hyz h20 hu hpm hyi hz hu' hpm' hzi
          go_wp2_with fail
          go_quiet ((go_at_call 20; exact Calls.quiet_of (HC.out.2.2.2.2.2 _)))
          go_wp2_with fail
          refine bodyPost_ret (v := .bool false) (by simp [results, Tryz.results47, go_sem]) rfl ?_
          refine ⟨BoolIs.no fun hL => ?_, below_trans HC.out.1 (below_self_drewN _ _)⟩
          have h1 := HC.out.2.2.1
          rw [hL, HC.out.2.2.2.1] at h1
          cases h1
          exact HC.out.2.2.2.2.1 rfl
      · obtain rfl : k = m := by omega
        have hk1 : ¬ (k : Int) < k := by omega
        have HC := Lib.hid (And.intro hb hno)
        clear hb hno
        go_wp2_with fail
        refine bodyPost_ret (v := .bool true) (by simp [results, Tryz.results47, go_sem]) rfl ?_
        refine ⟨BoolIs.yes ?_, HC.out.1⟩
        refine List.ext_getElem (by rw [H.out.2.2.1, H.out.2.2.2.2.2]) fun j h1 h2 => ?_
        exact HC.out.2 j _ _ (by rw [H.out.2.2.1] at h1; exact h1) (List.getElem?_eq_getElem h1) (List.getElem?_eq_getElem h2)
  · have g1 : ((m : Int) != (m' : Int)) = true := by simp; omega
    have Hm := Lib.hid hmm
    clear hmm
    go_enter Tryz.func47, Tryz.ntmps47
    go_wp2_with fail
    refine bodyPost_ret (v := .bool false) (by simp [results, Tryz.results47, go_sem]) rfl ?_
    exact ⟨BoolIs.no fun hL => Hm.out (by rw [← H.out.2.2.1, ← H.out.2.2.2.2.2, hL]), Below.refl _ _⟩
end Go.Proofs.YtbejhkojdiadaaaGreat
namespace Go.Proofs.YtbejhkojdiadaaaGreat
open Go.RowKit PlainPm
def lexLt {n : Nat} (x y : Pm n) : Prop := ∃ i, i < n ∧ (∀ j, j < i → x.at j = y.at j) ∧ x.at i < y.at i
set_option maxRecDepth 100000 in
set_option maxHeartbeats 2000000 in
theorem less135 {n : Nat} (hn : n ≤ 64) {w : World} {v v' : Value} {x y : Pm n} (hx : PmV w [] v x) (hy : PmV w [] v' y) :
    Calls Tryz.prog 135 #[v, v'] w fun e w' => BoolIs e (lexLt x y) ∧ Below w.heap.size w w' := by
  obtain ⟨xb, xo, xc, rfl, _, xl, hxc⟩ := hx
  obtain ⟨yb, yo, yc, rfl, _, yl, hyc⟩ := hy
  have H := Lib.hid (And.intro xl (And.intro hxc (And.intro yl hyc)))
  clear xl hxc yl hyc
  go_enter Tryz.func135, Tryz.ntmps135
  go_wp2_with fail
  go_loopw [4, 5] (fun _ i wr => ∃ (k : Nat), k ≤ n ∧ i = .int .i64 (k : Int) ∧ Below w.heap.size w wr ∧ ∀ j, j < k → x.at j = y.at j) (fun _ i _ => n - (intOf i).toNat)
  case atStart => exact ⟨0, by omega, rfl, Below.refl _ _, fun j hj => by omega⟩
  case round =>
    obtain ⟨k, hk, rfl, hb, hno⟩ := hrel
    by_cases hkn : k < n
    · have c1 := (hb.cell (p := ⟨xb, xo + k, none⟩) H.out.1).trans (H.out.2.1 k hkn)
      have c2 := (hb.cell (p := ⟨yb, yo + k, none⟩) H.out.2.2.1).trans (H.out.2.2.2 k hkn)
      obtain ⟨a, ha⟩ : ∃ a, x.at k = a := ⟨_, rfl⟩
      obtain ⟨b, hb'⟩ : ∃ b, y.at k = b := ⟨_, rfl⟩
      rw [ha] at c1
      rw [hb'] at c2
      have HC := Lib.hid (And.intro hb (And.intro hno (And.intro ha hb')))
      have hk1 : (k : Int) < n := by omega
      clear hb hno ha hb'
      by_cases hab : a = b
      · subst hab
        have g1 : ((a : Int) != (a : Int)) = false := by simp
        go_wp2_with fail
        go_quiet (fail)
        go_wp2_with fail
        refine ⟨⟨k + 1, by omega, by go_num, below_trans HC.out.1 (below_self_drewN _ _), fun j hj => ?_⟩, by simp [intOf]; omega⟩
        by_cases e : j = k
        · subst e; rw [HC.out.2.2.1, HC.out.2.2.2]
        · exact HC.out.2.1 j (by omega)
      · have g1 : ((a : Int) != (b : Int)) = true := by simp; omega
        have Hab := Lib.hid hab
        clear hab
        go_wp2_with fail
        go_quiet (fail)
        go_wp2_with fail
        go_quiet (fail)
        go_wp2_with fail
        refine bodyPost_ret (v := .bool (decide ((a : Int) < b))) (by simp [results, Tryz.results135, go_sem]) rfl ?_
        refine ⟨⟨_, rfl, ?_⟩, below_trans HC.out.1 (Below.trans (below_self_drewN _ _) (below_self_drewN _ _))⟩
        rw [decide_eq_true_iff]
        constructor
        · intro h
          exact ⟨k, hkn, HC.out.2.1, by rw [HC.out.2.2.1, HC.out.2.2.2]; omega⟩
        · rintro ⟨i, hi, h1, h2⟩
          rcases Nat.lt_trichotomy i k with h3 | h3 | h3
          · have := HC.out.2.1 i h3; omega
          · subst h3; rw [HC.out.2.2.1, HC.out.2.2.2] at h2; omega
          · have := h1 k h3; rw [HC.out.2.2.1, HC.out.2.2.2] at this; exact absurd this Hab.out
    · obtain rfl : k = n := by omega
      have hk1 : ¬ (k : Int) < k := by omega
      have HC := Lib.hid (And.intro hb hno)
      clear hb hno
      go_wp2_with fail
      refine bodyPost_ret (v := .bool false) (by simp [results, Tryz.results135, go_sem]) rfl ?_
      refine ⟨BoolIs.no ?_, HC.out.1⟩
      rintro ⟨i, hi, h1, h2⟩
      have := HC.out.2 i hi
      omega
end Go.Proofs.YtbejhkojdiadaaaGreat
namespace Go.Proofs.YtbejhkojdiadaaaGreat
open Go.RowKit PlainPm
section
variable {n : Nat}
theorem lexLt_irrefl (x : Pm n) : ¬ lexLt x x := fun ⟨i, _, _, h⟩ => by omega
theorem lexLt_trans {x y z : Pm n} (h : lexLt x y) (k : lexLt y z) : lexLt x z := by
  obtain ⟨i, hi, h1, h2⟩ := h
  obtain ⟨j, hj, k1, k2⟩ := k
  rcases Nat.lt_trichotomy i j with h | h | h
  · exact ⟨i, hi, fun q hq => (h1 q hq).trans (k1 q (by omega)), by rw [← k1 i h]; exact h2⟩
  · subst h; exact ⟨i, hi, fun q hq => (h1 q hq).trans (k1 q hq), by omega⟩
  · exact ⟨j, hj, fun q hq => (h1 q (by omega)).trans (k1 q hq), by rw [h1 j h]; exact k2⟩
theorem place_mem {L : List (Pm n)} (hs : L.Pairwise lexLt) {x : Pm n} {lo : Nat} (h1 : ∀ j y, j < lo → L[j]? = some y → lexLt y x) (h2 : ∀ j y, lo ≤ j → L[j]? = some y → ¬ lexLt y x) : x ∈ L ↔ L[lo]? = some x := by
  constructor
  · intro hx
    obtain ⟨j, hj⟩ := List.mem_iff_getElem?.1 hx
    rcases Nat.lt_trichotomy j lo with h | h | h
    · exact absurd (h1 j x h hj) (lexLt_irrefl x)
    · rw [← h]; exact hj
    · have hjl := (List.getElem?_eq_some_iff.1 hj).1
      have hlo : L[lo]? = some L[lo] := List.getElem?_eq_getElem (by omega)
      have := List.pairwise_iff_getElem.1 hs lo j (by omega) hjl h
      rw [(List.getElem?_eq_some_iff.1 hj).2] at this
      exact absurd this (h2 lo _ (Nat.le_refl _) hlo)
  · exact List.mem_of_getElem?
set_option maxRecDepth 100000 in
set_option maxHeartbeats 4000000 in
theorem place100c (hn : n ≤ 64) {w : World} {v vx : Value} {L : List (Pm n)} {x : Pm n} (hl : L.length ≤ 1000000) (hs : L.Pairwise lexLt) (hv : PmsV w [] v L) (hx : PmV w [] vx x) :
    Calls Tryz.prog 100 #[v, vx] w fun e w' => ∃ (lo : Nat) (t : Bool), e = .returned (.tuple #[.int .i64 (lo : Int), .bool t]) ∧ lo ≤ L.length ∧ (t = true ↔ x ∈ L) ∧ (x ∈ L ↔ L[lo]? = some x) ∧ Below w.heap.size w w' ∧ (∀ j y, j < lo → L[j]? = some y → lexLt y x) ∧ ∀ j y, lo ≤ j → L[j]? = some y → ¬ lexLt y x := by
  obtain ⟨va, vc, vs, rfl, hr, hp⟩ := hv
  obtain ⟨m, hm⟩ : ∃ m, L.length = m := ⟨_, rfl⟩
  obtain ⟨xb, xo, xc, rfl, _⟩ := id hx
  have H := Lib.hid (And.intro hr (And.intro hp (And.intro hm (And.intro hx hs))))
  rw [hm] at hl ⊢
  clear hr hp hm hx hs
  go_enter Tryz.func100, Tryz.ntmps100
  go_wp2_with fail
  go_loopw [6, 7] (fun a b wr => ∃ lo hi : Nat, a = .int .i64 (lo : Int) ∧ b = .int .i64 (hi : Int) ∧ lo ≤ hi ∧ hi ≤ m ∧ Below w.heap.size w wr ∧ (∀ j y, j < lo → L[j]? = some y → lexLt y x) ∧ (∀ j y, hi ≤ j → L[j]? = some y → ¬ lexLt y x)) (fun a b _ => (intOf b).toNat - (intOf a).toNat)
  case atStart => exact ⟨0, m, rfl, rfl, Nat.zero_le _, Nat.le_refl _, Below.refl _ _, fun j y hj => by omega, fun j y hj hy => by have h1 := (List.getElem?_eq_some_iff.1 hy).1; have h2 := H.out.2.2.1; omega⟩
  case round =>
    obtain ⟨lo, hi, rfl, rfl, hlh, hhm, hb, h1, h2⟩ := hrel
    by_cases hlt : lo < hi
    · obtain ⟨mid, hmid⟩ : ∃ mid, (lo + hi) / 2 = mid := ⟨_, rfl⟩
      have hm1 : lo ≤ mid := by omega
      have hm2 : mid < hi := by omega
      obtain ⟨y, hy⟩ : ∃ y, L[mid]? = some y := ⟨_, List.getElem?_eq_getElem (by rw [H.out.2.2.1]; omega)⟩
      obtain ⟨u, hu, hpm⟩ := H.out.2.1.2 mid y hy
      obtain ⟨rb, ro, hae, _, hrc⟩ := (H.out.1.below hb).2 mid u hu
      subst hae
      have hpy := hpm.below hb
      obtain ⟨yb, yo, yc, rfl, _⟩ := id hpy
      have h135 := less135 hn hpy (H.out.2.2.2.1.below hb)
      have hlt1 : (lo : Int) < hi := by omega
      have hq : (((lo : Int) + (hi : Int)) / 2) = (mid : Int) := by omega
      have hq' : (((lo : Int) + (hi : Int)).tdiv 2) = (mid : Int) := by rw [Int.tdiv_eq_ediv_of_nonneg (by omega)]; omega
      have HC := Lib.hid (And.intro hb (And.intro h1 (And.intro h2 (And.intro hy h135))))
      clear hb h1 h2 hy h135 hpm hpy hu
      have hpw : ∀ i j u v, i < j → L[i]? = some u → L[j]? = some v → lexLt u v := fun i j u v hij hu hv => by
        obtain ⟨hi', rfl⟩ := List.getElem?_eq_some_iff.1 hu
        obtain ⟨hj', rfl⟩ := List.getElem?_eq_some_iff.1 hv
        exact List.pairwise_iff_getElem.1 H.out.2.2.2.2 i j hi' hj' hij
      have HW := Lib.hid hpw
      clear hpw
      by_cases hx : lexLt y x
      · have HG := Lib.hid hx
        clear hx
        go_wp2_with (go_at_call 135; (with_reducible refine HC.out.2.2.2.2.mono ?_); rintro e2 w2 ⟨h1, k⟩; have h2 := h1.true_ HG.out; subst h2; have H2 := Lib.hid k; clear h1 k)
        refine ⟨⟨mid + 1, hi, by go_num, rfl, by omega, hhm, below_trans HC.out.1 H2.out, fun j z hj hz => ?_, HC.out.2.2.1⟩, by simp [intOf]; omega⟩
        rcases Nat.lt_or_ge j mid with h | h
        · exact lexLt_trans (HW.out j mid z y h hz HC.out.2.2.2.1) HG.out
        · have : j = mid := by omega
          subst this
          rw [HC.out.2.2.2.1] at hz; cases hz; exact HG.out
      · have HG := Lib.hid hx
        clear hx
        go_wp2_with (go_at_call 135; (with_reducible refine HC.out.2.2.2.2.mono ?_); rintro e2 w2 ⟨h1, k⟩; have h2 := h1.false_ HG.out; subst h2; have H2 := Lib.hid k; clear h1 k)
        refine ⟨⟨lo, mid, rfl, rfl, hm1, by omega, below_trans HC.out.1 H2.out, HC.out.2.1, fun j z hj hz hzx => ?_⟩, by simp [intOf]; omega⟩
        rcases Nat.lt_or_ge mid j with h | h
        · exact HG.out (lexLt_trans (HW.out mid j y z h HC.out.2.2.2.1 hz) hzx)
        · have : j = mid := by omega
          subst this
          rw [HC.out.2.2.2.1] at hz; cases hz; exact HG.out hzx
    · obtain rfl : lo = hi := by omega
      have hlt1 : ¬ (lo : Int) < lo := by omega
      have hpm := place_mem H.out.2.2.2.2 h1 h2
      by_cases hlm : lo < m
      · obtain ⟨y, hy⟩ : ∃ y, L[lo]? = some y := ⟨_, List.getElem?_eq_getElem (by rw [H.out.2.2.1]; exact hlm)⟩
        obtain ⟨u, hu, hpy0⟩ := H.out.2.1.2 lo y hy
        obtain ⟨rb, ro, hae, _, hrc⟩ := (H.out.1.below hb).2 lo u hu
        subst hae
        obtain ⟨ya, yc, rfl, hyi⟩ := (hpy0.below hb).ints (by omega)
        have hyl := y.ok.1
        have hxl := x.ok.1
        obtain ⟨xa, xc', hxe, hxi⟩ := (H.out.2.2.2.1.below hb).ints (by omega)
        rw [hxl] at hxe
        simp only [Value.slice.injEq] at hxe
        obtain ⟨rfl, -, rfl⟩ := hxe
        have h20 := same20 _ _ yc xc _ _ wr hyi hxi
        rw [hyl, hxl] at h20
        rw [hyl] at hrc
        have hd : decide (y.l = x.l) = decide (y = x) := by
          by_cases e : y = x
          · rw [e]; simp
          · rw [decide_eq_false e]; simp; exact fun h => e (Pm.ext' h)
        rw [hd] at h20
        have hk1 : (lo : Int) < m := by omega
        have HC := Lib.hid (And.intro hb (And.intro hpm (And.intro hy (And.intro h20 (And.intro h1 h2)))))
        clear hb hpm hy h20 h1 h2 hu hpy0 hyi hxi hyl hxl hd
        go_wp2_with (go_at_call 20; (with_reducible refine HC.out.2.2.2.1.mono ?_); rintro e2 w2 ⟨rfl, q, rfl⟩)
        refine bodyPost_ret (v := .tuple #[.int .i64 (lo : Int), .bool (decide (y = x))]) (by simp [results, Tryz.results100, go_sem]) rfl ?_
        refine ⟨lo, _, rfl, hhm, ?_, HC.out.2.1, below_trans HC.out.1 (below_self_drewN _ _), HC.out.2.2.2.2⟩
        rw [HC.out.2.1, HC.out.2.2.1]; simp
      · have hk1 : ¬ (lo : Int) < m := by omega
        have HC := Lib.hid (And.intro hb (And.intro hpm (And.intro h1 h2)))
        clear hb hpm h1 h2
        go_wp2_with fail
        refine bodyPost_ret (v := .tuple #[.int .i64 (lo : Int), .bool false]) (by simp [results, Tryz.results100, go_sem]) rfl ?_
        have hno : ¬ x ∈ L := by rw [HC.out.2.1, List.getElem?_eq_none (by rw [H.out.2.2.1]; omega)]; simp
        exact ⟨lo, .inl ⟨rfl, hhm, hno, HC.out.2.1, HC.out.1, HC.out.2.2⟩⟩
theorem place100 (hn : n ≤ 64) {w : World} {v vx : Value} {L : List (Pm n)} {x : Pm n} (hl : L.length ≤ 1000000) (hs : L.Pairwise lexLt) (hv : PmsV w [] v L) (hx : PmV w [] vx x) :
    Calls Tryz.prog 100 #[v, vx] w fun e w' => ∃ (lo : Nat) (t : Bool), e = .returned (.tuple #[.int .i64 (lo : Int), .bool t]) ∧ lo ≤ L.length ∧ (t = true ↔ x ∈ L) ∧ (x ∈ L ↔ L[lo]? = some x) ∧ Below w.heap.size w w' :=
  (place100c hn hl hs hv hx).mono fun _ _ ⟨lo, t, h1, h2, h3, h4, h5, _⟩ => ⟨lo, t, h1, h2, h3, h4, h5⟩
theorem index43 (hn : n ≤ 64) {w : World} {v vx : Value} {L : List (Pm n)} {x : Pm n} (hl : L.length ≤ 1000000) (hs : L.Pairwise lexLt) (hv : PmsV w [] v L) (hx : PmV w [] vx x) :
    Calls Tryz.prog 43 #[v, vx] w fun e w' => ∃ i : Int, e = .returned (.int .i64 i) ∧ ((x ∈ L ∧ ∃ k : Nat, i = (k : Int) ∧ L[k]? = some x) ∨ (¬ x ∈ L ∧ i = -1)) ∧ Below w.heap.size w w' := by
  have h100 := place100 hn hl hs hv hx
  obtain ⟨va, vc, vs, rfl, hr, hp⟩ := hv
  obtain ⟨xb, xo, xc, rfl, _⟩ := id hx
  have H := Lib.hid h100
  clear h100 hr hp hx
  by_cases hm : x ∈ L
  · have HG := Lib.hid hm
    clear hm
    go_enter Tryz.func43, Tryz.ntmps43
    go_wp2_with (go_at_call 100; (with_reducible refine H.out.mono ?_); rintro e2 w2 ⟨lo, t, rfl, k1, k2, k3, k4⟩; have ht := k2.2 HG.out; subst ht; have H2 := Lib.hid (And.intro k3 k4); clear k1 k2 k3 k4)
    go_ret
    exact ⟨_, rfl, .inl ⟨HG.out, lo, rfl, H2.out.1.1 HG.out⟩, H2.out.2⟩
  · have HG := Lib.hid hm
    clear hm
    go_enter Tryz.func43, Tryz.ntmps43
    go_wp2_with (go_at_call 100; (with_reducible refine H.out.mono ?_); rintro e2 w2 ⟨lo, t, rfl, k1, k2, k3, k4⟩; have ht : t = false := by cases t with | false => rfl | true => exact absurd (k2.1 rfl) HG.out
                 subst ht; have H2 := Lib.hid k4; clear k1 k2 k3 k4)
    go_ret
    exact ⟨_, rfl, .inr ⟨HG.out, rfl⟩, H2.out⟩
end
end Go.Proofs.YtbejhkojdiadaaaGreat
namespace Go.Proofs.YtbejhkojdiadaaaGreat.PlainPm
variable {n : Nat} {G : Pm n → Prop} {O : Nat → List Nat} {R : Nat → Nat → Pm n}
theorem sel_mem {y : Pm n} {l : List Nat} (hl : ∀ p ∈ l, p < n) (hd : l.Nodup) {s : Nat} (h : s < l.length) : selQ y l s ∈ l ∧ cnt y l (y.at (selQ y l s)) = s := by
  have := sel_sorted (y := y) hl hd (m := (l.map fun q => (y.at q : Int)).mergeSort (fun a b => decide (a ≤ b))) (List.mergeSort_perm _ _)
    ((List.pairwise_mergeSort (fun a b c h1 h2 => by simp at *; omega) (fun a b => by simp; omega) _).imp (by simp)) h
  exact ⟨this.1, this.2.1⟩
theorem cnt_lt {y : Pm n} {l : List Nat} {q : Nat} (hq : q ∈ l) : cnt y l (y.at q) < l.length := by
  rcases Nat.lt_or_ge (cnt y l (y.at q)) l.length with h | h
  · exact h
  · have h1 : cnt y l (y.at q) = l.length := Nat.le_antisymm (cnt_le ..) h
    have := (List.countP_eq_length.1 h1) q hq
    simp at this
def elsF (O : Nat → List Nat) (R : Nat → Nat → Pm n) : Nat → Nat → Pm n → List (Pm n)
  | 0, _, y => [y]
  | f + 1, i, y => (List.range (O i).length).flatMap fun s => elsF O R f (i + 1) ((R i (selQ y (O i) s)).mul y)
theorem range_mul {α : Type} (g : Nat → α) (m : Nat) : ∀ L, (List.range (L * m)).map g = (List.range L).flatMap fun s => (List.range m).map fun j => g (s * m + j)
  | 0 => by simp
  | L + 1 => by
    rw [List.range_succ, List.flatMap_append, ← range_mul g m L, Nat.succ_mul, List.range_add, List.map_append]
    simp [List.map_map, Function.comp_def]
theorem els_un (h : ChG G O R) : ∀ {f i : Nat} {y : Pm n}, i + f = n → elsF O R f i y = (List.range (szF O f i)).map (unF O R f i y)
  | 0, i, y, _ => by simp [elsF, szF, unF]
  | f + 1, i, y, hf => by
    have hp := h.sz_pos (f := f) (i := i + 1) (by omega)
    rw [elsF, szF, range_mul]
    refine congrArg (fun g => (List.range (O i).length).flatMap g) (funext fun s => ?_)
    rw [els_un h (f := f) (by omega)]
    refine List.map_congr_left fun j hj => ?_
    have hj' := List.mem_range.1 hj
    rw [unF]
    have h1 : (s * szF O f (i + 1) + j) / szF O f (i + 1) = s := by
      rw [Nat.mul_comm, Nat.mul_add_div hp, Nat.div_eq_of_lt hj', Nat.add_zero]
    have h2 : (s * szF O f (i + 1) + j) % szF O f (i + 1) = j := by
      rw [Nat.mul_comm, Nat.mul_add_mod, Nat.mod_eq_of_lt hj']
    rw [h1, h2]
theorem mem_els (h : ChG G O R) : ∀ {f i : Nat} {x y : Pm n}, i + f = n → G y → (x ∈ elsF O R f i y ↔ G x ∧ ∀ j, j < i → x.at j = y.at j)
  | 0, i, x, y, hf, hy => by
    have : i = n := by omega
    subst this
    rw [elsF, List.mem_singleton]
    exact ⟨fun e => by subst e; exact ⟨hy, fun _ _ => rfl⟩, fun e => Pm.ext e.2⟩
  | f + 1, i, x, y, hf, hy => by
    have hi : i < n := by omega
    rw [elsF, List.mem_flatMap]
    constructor
    · rintro ⟨s, hs, hx⟩
      obtain ⟨h1, h2⟩ := sel_mem (y := y) (h.lt i hi) (h.nd i hi) (List.mem_range.1 hs)
      obtain ⟨s1, s2, s3⟩ := h.step hi hy h1
      obtain ⟨k1, k2⟩ := (mem_els h (f := f) (by omega) s1).1 hx
      exact ⟨k1, fun j hj => by rw [k2 j (by omega), s2 j hj]⟩
    · rintro ⟨hx, hxy⟩
      have hp := h.pick hi hy hx (fun j hj => (hxy j hj).symm)
      have hsel := selQ_eq (y := y) (h.lt i hi) hp rfl
      refine ⟨cnt y (O i) (y.at (y.inv.at (x.at i))), List.mem_range.2 (cnt_lt hp), ?_⟩
      rw [hsel]
      obtain ⟨s1, s2, s3⟩ := h.step hi hy hp
      refine (mem_els h (f := f) (by omega) s1).2 ⟨hx, fun j hj => ?_⟩
      rcases Nat.lt_or_ge j i with h1 | h1
      · rw [s2 j h1]; exact hxy j h1
      · have : j = i := by omega
        subst this
        rw [s3, (y.inv_at (x.lt hi)).2]
theorem els_len (h : ChG G O R) {f i : Nat} {y : Pm n} (hf : i + f = n) : (elsF O R f i y).length = szF O f i := by
  rw [els_un h hf]; simp
theorem mem_all (h : ChG G O R) {x : Pm n} : x ∈ elsF O R n 0 (PlainPm.one n) ↔ G x := by
  rw [mem_els h (Nat.zero_add n) h.isG.one]
  exact ⟨fun e => e.1, fun e => ⟨e, fun j hj => by omega⟩⟩
end Go.Proofs.YtbejhkojdiadaaaGreat.PlainPm
namespace Go.Proofs.YtbejhkojdiadaaaGreat
open PlainPm
theorem least_ex {P : Nat → Prop} {i : Nat} (h : P i) : ∃ k, P k ∧ k ≤ i ∧ ∀ j, j < k → ¬ P j := by
  induction i using Nat.strongRecOn with
  | _ i ih =>
    by_cases hj : ∃ j, j < i ∧ P j
    · obtain ⟨j, h1, h2⟩ := hj
      obtain ⟨k, k1, k2, k3⟩ := ih j h1 h2
      exact ⟨k, k1, by omega, k3⟩
    · exact ⟨i, h, Nat.le_refl _, fun j h1 h2 => hj ⟨j, h1, h2⟩⟩
section
variable {n : Nat}
theorem lexLt_total {x y : Pm n} (h : ¬ lexLt x y) (hne : x ≠ y) : lexLt y x := by
  have h1 : ∃ i, i < n ∧ x.at i ≠ y.at i := Classical.byContradiction fun hno => hne (Pm.ext fun i hi => Classical.byContradiction fun h2 => hno ⟨i, hi, h2⟩)
  obtain ⟨i, hi, h2⟩ := h1
  obtain ⟨k, k1, k2, k3⟩ := least_ex (P := fun i => x.at i ≠ y.at i) h2
  have hk : k < n := by omega
  have heq : ∀ j, j < k → x.at j = y.at j := fun j hj => Classical.byContradiction fun h3 => k3 j hj h3
  rcases Nat.lt_or_ge (x.at k) (y.at k) with h3 | h3
  · exact absurd ⟨k, hk, heq, h3⟩ h
  · exact ⟨k, hk, fun j hj => (heq j hj).symm, by omega⟩
theorem lexLt_asymm {x y : Pm n} (h : lexLt x y) (k : lexLt y x) : False := lexLt_irrefl x (lexLt_trans h k)
theorem sorted_ext : ∀ {L L' : List (Pm n)}, L.Pairwise lexLt → L'.Pairwise lexLt → (∀ x, x ∈ L ↔ x ∈ L') → L = L'
  | [], [], _, _, _ => rfl
  | [], y :: L', _, _, h => absurd ((h y).2 (List.mem_cons_self ..)) (by simp)
  | x :: L, [], _, _, h => absurd ((h x).1 (List.mem_cons_self ..)) (by simp)
  | x :: L, y :: L', h1, h2, h => by
    rw [List.pairwise_cons] at h1 h2
    have e : x = y := by
      rcases List.mem_cons.1 ((h x).1 (List.mem_cons_self ..)) with e | hx
      · exact e
      · rcases List.mem_cons.1 ((h y).2 (List.mem_cons_self ..)) with e | hy
        · exact e.symm
        · exact (lexLt_asymm (h1.1 y hy) (h2.1 x hx)).elim
    subst e
    rw [sorted_ext h1.2 h2.2 fun z => ?_]
    constructor
    · intro hz
      rcases List.mem_cons.1 ((h z).1 (List.mem_cons_of_mem _ hz)) with e | h3
      · subst e; exact absurd (h1.1 z hz) (lexLt_irrefl z)
      · exact h3
    · intro hz
      rcases List.mem_cons.1 ((h z).2 (List.mem_cons_of_mem _ hz)) with e | h3
      · subst e; exact absurd (h2.1 z hz) (lexLt_irrefl z)
      · exact h3
theorem sorted_nodup {L : List (Pm n)} (h : L.Pairwise lexLt) : L.Nodup := h.imp fun hxy e => by subst e; exact lexLt_irrefl _ hxy
def insAt (L : List (Pm n)) (lo : Nat) (y : Pm n) : List (Pm n) := L.take lo ++ y :: L.drop lo
theorem mem_insAt {L : List (Pm n)} {lo : Nat} {y z : Pm n} : z ∈ insAt L lo y ↔ z = y ∨ z ∈ L := by
  unfold insAt
  rw [List.mem_append, List.mem_cons]
  constructor
  · rintro (h | h | h)
    · exact .inr (List.mem_of_mem_take h)
    · exact .inl h
    · exact .inr (List.mem_of_mem_drop h)
  · rintro (h | h)
    · exact .inr (.inl h)
    · rw [← List.take_append_drop lo L] at h
      rcases List.mem_append.1 h with h | h
      · exact .inl h
      · exact .inr (.inr h)
theorem insAt_len {L : List (Pm n)} {lo : Nat} {y : Pm n} (h : lo ≤ L.length) : (insAt L lo y).length = L.length + 1 := by
  unfold insAt; simp; omega
theorem insAt_srt {L : List (Pm n)} {lo : Nat} {y : Pm n} (hs : L.Pairwise lexLt) (h1 : ∀ j z, j < lo → L[j]? = some z → lexLt z y) (h2 : ∀ j z, lo ≤ j → L[j]? = some z → ¬ lexLt z y) (hy : ¬ y ∈ L) : (insAt L lo y).Pairwise lexLt := by
  unfold insAt
  have ht : ∀ z ∈ L.take lo, lexLt z y := fun z hz => by
    obtain ⟨j, hj⟩ := List.mem_iff_getElem?.1 hz
    rw [List.getElem?_take] at hj
    by_cases hjl : j < lo
    · rw [if_pos hjl] at hj; exact h1 j z hjl hj
    · rw [if_neg hjl] at hj; cases hj
  have hd : ∀ z ∈ L.drop lo, lexLt y z := fun z hz => by
    obtain ⟨j, hj⟩ := List.mem_iff_getElem?.1 hz
    rw [List.getElem?_drop] at hj
    exact lexLt_total (h2 _ z (by omega) hj) (fun e => hy (e ▸ List.mem_of_mem_drop hz))
  have hs' := hs
  rw [← List.take_append_drop lo L, List.pairwise_append] at hs'
  rw [List.pairwise_append, List.pairwise_cons]
  refine ⟨hs'.1, ⟨hd, hs'.2.1⟩, fun a ha b hb => ?_⟩
  rcases List.mem_cons.1 hb with e | hb
  · rw [e]; exact ht a ha
  · exact hs'.2.2 a ha b hb
def cycF (f m j : Nat) : Nat := if f ≤ j ∧ j < m then j + 1 else j
def cycG (f t j : Nat) : Nat := if f ≤ j ∧ j + 1 < t then j + 1 else if f ≤ j ∧ j + 1 = t then f else j
def cycP (n f t : Nat) (hf : f < t) (ht : t ≤ n) : Pm n := ⟨ofF n (cycG f t), ofF_ok (fun i h => by
  unfold cycG
  split
  · omega
  · split <;> omega) (fun i k hi hk h => by
  unfold cycG at h
  split at h <;> split at h <;> (try split at h) <;> (try split at h) <;> omega)⟩
theorem swp_lt {n i k j : Nat} (hi : i < n) (hk : k < n) (hj : j < n) : (if j = i then k else if j = k then i else j) < n := by
  split
  · exact hk
  · split
    · exact hi
    · exact hj
def swpP (x : Pm n) (i k : Nat) (hi : i < n) (hk : k < n) : Pm n := ⟨ofF n fun j => x.at (if j = i then k else if j = k then i else j), ofF_ok (fun j h => x.lt (swp_lt hi hk h)) (fun j m hj hm h => by
  have h1 := x.inj (swp_lt hi hk hj) (swp_lt hi hk hm) h
  split at h1 <;> split at h1 <;> (try split at h1) <;> (try split at h1) <;> omega)⟩
def facN : Nat → Nat
  | 0 => 1
  | f + 1 => (f + 1) * facN f
def trans (n i p : Nat) : Pm n := if h : i < n ∧ p < n then swpP (PlainPm.one n) i p h.1 h.2 else PlainPm.one n
theorem trans_at {i p : Nat} (hi : i < n) (hp : p < n) : (trans n i p).at i = p := by
  unfold trans
  rw [dif_pos ⟨hi, hp⟩]
  show atL (ofF n _) i = p
  rw [show atL (ofF n fun j => (PlainPm.one n).at (if j = i then p else if j = p then i else j)) i = (PlainPm.one n).at (if i = i then p else if i = p then i else i) from ofF_at hi, if_pos rfl, one_at hp]
theorem trans_fx {i p : Nat} (hi : i < n) (hp : p < n) (hip : i ≤ p) : Fx i (trans n i p) := fun j hj => by
  unfold trans
  rw [dif_pos ⟨hi, hp⟩]
  show atL (ofF n _) j = j
  rw [show atL (ofF n fun j => (PlainPm.one n).at (if j = i then p else if j = p then i else j)) j = (PlainPm.one n).at (if j = i then p else if j = p then i else j) from ofF_at (by omega), if_neg (by omega), if_neg (by omega), one_at (by omega)]
theorem chAll : ChG (n := n) (fun _ => True) (fun i => List.range' i (n - i)) (fun i p => trans n i p) := by
  refine ⟨⟨trivial, fun _ _ => trivial, fun _ => trivial⟩, fun i hi => List.nodup_range' , fun i hi p hp => ?_, fun i hi p => ?_, fun i hi p hp => ?_⟩
  · have := List.mem_range'_1.1 hp; omega
  · rw [List.mem_range'_1]
    constructor
    · intro h
      exact ⟨trans n i p, trivial, trans_fx hi (by omega) (by omega), trans_at hi (by omega)⟩
    · rintro ⟨y, _, hf, rfl⟩
      have hl := y.lt hi
      refine ⟨?_, by omega⟩
      rcases Nat.lt_or_ge (y.at i) i with h | h
      · have h2 := y.inj hi (by omega : y.at i < n) (hf _ h).symm
        omega
      · exact h
  · have := List.mem_range'_1.1 hp
    exact ⟨trivial, trans_fx hi (by omega) (by omega), trans_at hi (by omega)⟩
theorem szAll : ∀ {f i : Nat}, i + f = n → szF (fun i => List.range' i (n - i)) f i = facN f
  | 0, _, _ => rfl
  | f + 1, i, h => by
    show (List.range' i (n - i)).length * _ = _
    rw [List.length_range', szAll (f := f) (i := i + 1) (by omega), show n - i = f + 1 by omega]
    rfl
theorem fac_le6 {n : Nat} (h : n ≤ 6) : facN n ≤ 720 := by
  match n, h with
  | 0, _ => decide
  | 1, _ => decide
  | 2, _ => decide
  | 3, _ => decide
  | 4, _ => decide
  | 5, _ => decide
  | 6, _ => decide
theorem fac_le5 {n : Nat} (h : n ≤ 5) : facN n ≤ 120 := by
  match n, h with
  | 0, _ => decide
  | 1, _ => decide
  | 2, _ => decide
  | 3, _ => decide
  | 4, _ => decide
  | 5, _ => decide
theorem pm_card {L : List (Pm n)} (h : L.Nodup) : L.length ≤ facN n := by
  have hc := chAll (n := n)
  have hm : ∀ x : Pm n, x ∈ elsF (fun i => List.range' i (n - i)) (fun i p => trans n i p) n 0 (PlainPm.one n) := fun x => (mem_all hc).2 trivial
  have h1 := sub_len h (fun x _ => hm x)
  rw [els_len hc (Nat.zero_add n), szAll (Nat.zero_add n)] at h1
  exact h1
structure Bfs (gens L todo : List (Pm n)) : Prop where
  one : PlainPm.one n ∈ L
  grp : ∀ x ∈ L, Grp (· ∈ gens) x
  srt : L.Pairwise lexLt
  sub : ∀ x ∈ todo, x ∈ L
  clo : ∀ x ∈ L, x ∈ todo ∨ ∀ g ∈ gens, x.mul g ∈ L
structure BfsI (gens L todo : List (Pm n)) (x : Pm n) (i : Nat) : Prop where
  one : PlainPm.one n ∈ L
  grp : ∀ x ∈ L, Grp (· ∈ gens) x
  srt : L.Pairwise lexLt
  sub : ∀ x ∈ todo, x ∈ L
  mem : x ∈ L
  clo : ∀ z ∈ L, z ∈ todo ∨ z = x ∨ ∀ g ∈ gens, z.mul g ∈ L
  cur : ∀ j g, j < i → gens[j]? = some g → x.mul g ∈ L
theorem Bfs.start (gens : List (Pm n)) : Bfs gens [PlainPm.one n] [PlainPm.one n] :=
  ⟨List.mem_singleton.2 rfl, fun x hx => by rw [List.mem_singleton.1 hx]; exact Grp.one, List.pairwise_singleton _ _, fun x hx => hx, fun x hx => .inl hx⟩
theorem Bfs.pop {gens L todo : List (Pm n)} {x : Pm n} (h : Bfs gens L (todo ++ [x])) : BfsI gens L todo x 0 :=
  ⟨h.one, h.grp, h.srt, fun z hz => h.sub z (List.mem_append_left _ hz), h.sub x (List.mem_append_right _ (List.mem_singleton.2 rfl)), fun z hz => by
    rcases h.clo z hz with h1 | h1
    · rcases List.mem_append.1 h1 with h2 | h2
      · exact .inl h2
      · exact .inr (.inl (List.mem_singleton.1 h2))
    · exact .inr (.inr h1), fun j g hj => by omega⟩
theorem BfsI.old {gens L todo : List (Pm n)} {x g : Pm n} {i : Nat} (h : BfsI gens L todo x i) (hg : gens[i]? = some g) (hm : x.mul g ∈ L) : BfsI gens L todo x (i + 1) :=
  ⟨h.one, h.grp, h.srt, h.sub, h.mem, h.clo, fun j g' hj hg' => by
    by_cases e : j = i
    · subst e; rw [hg] at hg'; cases hg'; exact hm
    · exact h.cur j g' (by omega) hg'⟩
theorem BfsI.new {gens L todo : List (Pm n)} {x g : Pm n} {i lo : Nat} (h : BfsI gens L todo x i) (hg : gens[i]? = some g) (hm : ¬ x.mul g ∈ L) (h1 : ∀ j z, j < lo → L[j]? = some z → lexLt z (x.mul g)) (h2 : ∀ j z, lo ≤ j → L[j]? = some z → ¬ lexLt z (x.mul g)) :
    BfsI gens (insAt L lo (x.mul g)) (todo ++ [x.mul g]) x (i + 1) := by
  refine ⟨mem_insAt.2 (.inr h.one), fun z hz => ?_, insAt_srt h.srt h1 h2 hm, fun z hz => ?_, mem_insAt.2 (.inr h.mem), fun z hz => ?_, fun j g' hj hg' => ?_⟩
  · rcases mem_insAt.1 hz with e | hz
    · rw [e]; exact .mul _ _ (h.grp x h.mem) (List.mem_of_getElem? hg)
    · exact h.grp z hz
  · rcases List.mem_append.1 hz with hz | hz
    · exact mem_insAt.2 (.inr (h.sub z hz))
    · exact mem_insAt.2 (.inl (List.mem_singleton.1 hz))
  · rcases mem_insAt.1 hz with e | hz
    · exact .inl (List.mem_append_right _ (List.mem_singleton.2 e))
    · rcases h.clo z hz with h3 | h3 | h3
      · exact .inl (List.mem_append_left _ h3)
      · exact .inr (.inl h3)
      · exact .inr (.inr fun g' hg' => mem_insAt.2 (.inr (h3 g' hg')))
  · by_cases e : j = i
    · subst e; rw [hg] at hg'; cases hg'; exact mem_insAt.2 (.inl rfl)
    · exact mem_insAt.2 (.inr (h.cur j g' (by omega) hg'))
theorem BfsI.done {gens L todo : List (Pm n)} {x : Pm n} (h : BfsI gens L todo x gens.length) : Bfs gens L todo :=
  ⟨h.one, h.grp, h.srt, h.sub, fun z hz => by
    rcases h.clo z hz with h1 | h1 | h1
    · exact .inl h1
    · refine .inr fun g hg => ?_
      obtain ⟨j, hj⟩ := List.mem_iff_getElem?.1 hg
      rw [h1]
      exact h.cur j g (List.getElem?_eq_some_iff.1 hj).1 hj
    · exact .inr h1⟩
theorem Bfs.fin {gens L : List (Pm n)} (h : Bfs gens L []) (x : Pm n) : x ∈ L ↔ Grp (· ∈ gens) x := by
  refine ⟨h.grp x, fun hx => ?_⟩
  have hcl : ∀ z ∈ L, ∀ g ∈ gens, z.mul g ∈ L := fun z hz => by
    rcases h.clo z hz with h1 | h1
    · cases h1
    · exact h1
  have hpw : ∀ z ∈ L, ∀ g ∈ gens, ∀ k, z.mul (PlainPm.pw g k) ∈ L := fun z hz g hg k => by
    induction k with
    | zero => show z.mul (PlainPm.one n) ∈ L; rw [Pm.mul_one]; exact hz
    | succ k ih => show z.mul ((PlainPm.pw g k).mul g) ∈ L; rw [← Pm.mul_assoc]; exact hcl _ ih g hg
  induction hx with
  | one => exact h.one
  | mul z g _ hg ih => exact hcl z ih g hg
  | inv z g _ hg ih =>
    obtain ⟨k, hk⟩ := pw_order g
    rw [hk]
    exact hpw z ih g hg k
end
end Go.Proofs.YtbejhkojdiadaaaGreat
namespace Go.Proofs.YtbejhkojdiadaaaGreat
open Go.RowKit PlainPm
namespace PlainPm
section
variable {n : Nat} {G : Pm n → Prop} {T : Tw n}
def agen (T : Tw n) : List (Pm n) := (List.range n).flatMap fun i => (orbO T i).map (PlainPm.repT T i)
theorem agen_grp (hG : IsG G) (h : Of G T) (x : Pm n) : Grp (· ∈ agen T) x ↔ G x := by
  have hc := h.chG hG
  constructor
  · refine Grp.sub hG fun s hs => ?_
    obtain ⟨i, hi, hs⟩ := List.mem_flatMap.1 hs
    obtain ⟨p, hp, rfl⟩ := List.mem_map.1 hs
    exact (hc.rep i (List.mem_range.1 hi) p hp).1
  · intro hx
    exact hc.gen (M := fun y => y ∈ agen T) (fun i hi p hp => List.mem_flatMap.2 ⟨i, List.mem_range.2 hi, List.mem_map.2 ⟨p, hp, rfl⟩⟩) (f := n) (i := 0) (by omega) (fun j hj => by omega) hx
theorem agen_flat (T : Tw n) : (agen T).map (·.l) = (repI T n).flatten := by
  unfold agen repI
  rw [List.map_flatMap, List.flatMap_def]
  congr 1
  simp [Function.comp_def]
  exact fun a _ => rfl
theorem agen_len (hG : IsG G) (h : Of G T) : (agen T).length ≤ n * n := by
  have hc := h.chG hG
  have key : ∀ k, k ≤ n → ((List.range k).flatMap fun i => (orbO T i).map (PlainPm.repT T i)).length ≤ k * n := by
    intro k
    induction k with
    | zero => intro _; simp
    | succ k ih =>
      intro hk
      have h1 := ih (by omega)
      have h2 := hc.short (i := k) (by omega)
      rw [List.range_succ, List.flatMap_append, List.length_append, Nat.succ_mul]
      simp only [List.flatMap_cons, List.flatMap_nil, List.append_nil, List.length_map]
      have h2 : (orbO T k).length ≤ n := h2
      omega
  exact key n (Nat.le_refl _)
end
end PlainPm
set_option maxRecDepth 100000 in
set_option maxHeartbeats 1000000 in
theorem strong46o {w w0 : World} {d : Int} {a b : Option Addr} {lo lr c e : Nat} {rs : List (List (List Int))} (h0 : Below w0.heap.size w0 w) (h : Rows2 w0 b rs) (hlr : rs.length = lr) (hl : lr ≤ 64) (hs : ∀ xss ∈ rs, 0 < xss.length ∧ xss.length ≤ 64) :
    Calls Tryz.prog 46 #[.agg #[.int .i64 d, .slice a lo c, .slice b lr e]] w fun e w' => ∃ v us, e = .returned v ∧ Own w' w.heap.size v 27 us ∧ RV w0 us rs.flatten ∧ Below w.heap.size w w' := by
  obtain ⟨i27, hi27, hz27, hs27, hb27⟩ := info_parts Tryz.info27
  have I27 := Lib.hid (And.intro hi27 (And.intro hz27 (And.intro hs27 hb27)))
  clear hi27 hz27 hs27 hb27
  obtain ⟨vs, h1, h2, h3⟩ := h
  obtain ⟨W1, hW1⟩ : ∃ W1, W1 = w.alloc (.cells #[.int .i64 d, .slice a lo c, .slice b lr e] 25) := ⟨_, rfl⟩
  have hbw : Below w.heap.size w W1 := by rw [hW1]; exact alloc_b (Below.refl _ _) _
  have hc1 : W1.heap[w.heap.size]? = some (.cells #[.int .i64 d, .slice a lo c, .slice b lr e] 25) := by rw [hW1]; exact World.alloc_heap_new w _
  have hlt : w.heap.size < W1.heap.size := by rw [hW1]; simp
  have H := Lib.hid (And.intro h1 (And.intro h2 (And.intro h3 (And.intro hlr (And.intro hs (And.intro hbw (And.intro hc1 (And.intro hlt (below_trans h0 hbw)))))))))
  clear h1 h2 h3 hlr hs hbw hc1 hlt h0
  go_enter Tryz.func46, Tryz.ntmps46
  go_wp2_with fail
  try rw [← hW1]
  clear hW1
  go_loopw [3, 4] (fun v i wr => ∃ (k : Nat) (us : List Value), k ≤ lr ∧ i = .int .i64 (k : Int) ∧ Own wr W1.heap.size v 27 us ∧ RV w0 us (rs.take k).flatten ∧ us.length ≤ k * 64 ∧ Below W1.heap.size W1 wr) (fun _ i _ => lr - (intOf i).toNat)
  case atStart => exact ⟨0, [], by omega, rfl, Own.nil _ _ _, ⟨rfl, fun i u xs h => by simp at h⟩, by simp, Below.refl _ _⟩
  case round =>
    obtain ⟨k, us, hk, rfl, ho, hp, hul, hb⟩ := hrel
    obtain ⟨x0, x1, x2, _, _, _⟩ := box_cells ((hb.block _ H.out.2.2.2.2.2.2.2.1).trans H.out.2.2.2.2.2.2.1)
    have hsz := hb.size
    have HP := Lib.hid (And.intro ho (And.intro hp (And.intro hul hb)))
    clear ho hp hul hb
    by_cases hkl : k < lr
    · obtain ⟨xss, hx⟩ : ∃ x, rs[k]? = some x := ⟨_, List.getElem?_eq_getElem (by rw [H.out.2.2.2.1]; exact hkl)⟩
      obtain ⟨u, hu⟩ : ∃ x, vs[k]? = some x := ⟨_, List.getElem?_eq_getElem (by rw [H.out.2.1, H.out.2.2.2.1]; exact hkl)⟩
      obtain ⟨ra, rc, rfl, qs, r1, r2, r3⟩ := H.out.2.2.1 k u xss hu hx
      obtain ⟨hl0, hl64⟩ := H.out.2.2.2.2.1 xss (List.mem_of_getElem? hx)
      have hbw := below_trans H.out.2.2.2.2.2.2.2.2 HP.out.2.2.2
      obtain ⟨ab, ao, hae, _, hac⟩ := (H.out.1.below hbw).2 k _ hu
      subst hae
      have r1' := r1.below hbw
      obtain ⟨fb, fo, hra, _, _⟩ := r1'.2 0 _ (List.getElem?_eq_getElem (by rw [r2]; exact hl0))
      subst hra
      obtain ⟨m, hm⟩ : ∃ m, xss.length = m := ⟨_, rfl⟩
      rw [hm] at hac
      have hsrc : ∀ j y, qs[j]? = some y → wr.cell? ⟨fb, fo + j, none⟩ = some y := fun j y hy => by
        obtain ⟨b', o', e1, _, h⟩ := r1'.2 j y hy
        cases e1; exact h
      have hRV : RV w0 qs xss := ⟨r2, r3⟩
      have HQ := Lib.hid (And.intro hx (And.intro hRV (And.intro hsrc (And.intro (r2.trans hm) hRV.one_))))
      have hk1 : (k : Int) < lr := by omega
      have hm64 : m ≤ 64 := by omega
      have hul : us.length + m < 1099511627776 := by
        have := HP.out.2.2.1
        have : k * 64 ≤ 64 * 64 := Nat.mul_le_mul (by omega) (Nat.le_refl _)
        omega
      clear hx hu hsrc hRV hm hl64
      go_wp2_with (at_builtin; refine appN rfl (.tmp 12) (.tmp 17) 44 27 rfl i27 (.slice none 0 0) 24 Tryz.underlying44 I27.out.1 I27.out.2.1 I27.out.2.2.1 I27.out.2.2.2 rfl (by omega) W1.heap.size _ us qs rfl HP.out.1 fb fo m rc rfl HQ.out.2.2.2.1 HQ.out.2.2.1 HQ.out.2.2.2.2 hul hsz ?_; intro v8 w8 k1 k2 k3; have H8 := Lib.hid (And.intro k1 (And.intro k2 k3)); clear k1 k2 k3)
      refine ⟨⟨k + 1, us ++ qs, by omega, by go_num, H8.out.1, ?_, ?_, HP.out.2.2.2.grown H8.out.2.1 (by omega) (fun g hg => (HP.out.1.block_lt hg).2)⟩, by simp [intOf]; omega⟩
      · rw [List.take_add_one, HQ.out.1, Option.toList_some, List.flatten_append]
        simpa using HP.out.2.1.app HQ.out.2.1
      · rw [List.length_append, HQ.out.2.2.2.1]; have := HP.out.2.2.1; omega
    · obtain rfl : k = lr := by omega
      have hk1 : ¬ (k : Int) < k := by omega
      go_wp2_with fail
      go_ret
      have h5 := HP.out.2.1
      rw [List.take_of_length_le (by rw [H.out.2.2.2.1]; omega)] at h5
      exact ⟨_, rfl, us, HP.out.1.mono (by have := H.out.2.2.2.2.2.2.2.1; omega), h5, below_trans H.out.2.2.2.2.2.1 HP.out.2.2.2⟩
theorem strong46g {n : Nat} (hn : 0 < n ∧ n ≤ 64) {w w0 : World} {v : Value} {G : Pm n → Prop} {T : Tw n} (hG : IsG G) (hT : Of G T) (h : ChV w0 v n (orbI T n) (repI T n)) (h0 : Below w0.heap.size w0 w) :
    Calls Tryz.prog 46 #[v] w fun e w' => ∃ v us, e = .returned v ∧ Own w' w.heap.size v 27 us ∧ RV w0 us ((PlainPm.agen T).map (·.l)) ∧ us.length ≤ n * n ∧ Below w.heap.size w w' := by
  obtain ⟨a, c, b, e, rfl, h1, h2⟩ := h
  have hc := hT.chG hG
  refine (strong46o h0 h2 rfl (by simp [repI]; omega) (fun xss hx => ?_)).mono fun e' w' ⟨v, us, k1, k2, k3, k4⟩ => ?_
  · obtain ⟨i, hi, rfl⟩ := List.mem_map.1 hx
    have hi := List.mem_range.1 hi
    obtain ⟨r, hr⟩ := orbO_head hG hT hi
    have hs : (PlainPm.orbO T i).length ≤ n := hc.short hi
    have hr' : (ptsOf n (T i).orb) = i :: r := hr
    rw [List.length_map]
    have hs' : (ptsOf n (T i).orb).length ≤ n := hs
    refine ⟨by rw [hr']; simp, by omega⟩
  · rw [← PlainPm.agen_flat] at k3
    exact ⟨v, us, k1, k2, k3, by rw [k3.1, List.length_map]; exact PlainPm.agen_len hG hT, k4⟩
end Go.Proofs.YtbejhkojdiadaaaGreat
