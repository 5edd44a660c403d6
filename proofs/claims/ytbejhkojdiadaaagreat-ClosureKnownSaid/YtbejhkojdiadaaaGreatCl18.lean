/- Conjugates and commutators of permutations; the least group that contains some and is normalised by others: plain. · The reference's chain: a chain of a list by growing. · closure.Join. · All representatives of a chain generate its group; the kit's Strong as a list of them. · The reference's Join. · append of whatever row is read, also an empty one without an address. -/
import Derived.Test.YtbejhkojdiadaaaGreatCl01
import Derived.Test.YtbejhkojdiadaaaGreatCl02
import Derived.Test.YtbejhkojdiadaaaGreatCl03
import Derived.Test.YtbejhkojdiadaaaGreatCl04
import Derived.Test.YtbejhkojdiadaaaGreatCl05
import Derived.Test.YtbejhkojdiadaaaGreatCl06
import Derived.Test.YtbejhkojdiadaaaGreatCl07
import Derived.Test.YtbejhkojdiadaaaGreatCl08
import Derived.Test.YtbejhkojdiadaaaGreatCl09
import Derived.Test.YtbejhkojdiadaaaGreatCl10
import Derived.Test.YtbejhkojdiadaaaGreatCl11
import Derived.Test.YtbejhkojdiadaaaGreatCl12
import Derived.Test.YtbejhkojdiadaaaGreatCl13
import Derived.Test.YtbejhkojdiadaaaGreatCl14
import Derived.Test.YtbejhkojdiadaaaGreatCl15
import Derived.Test.YtbejhkojdiadaaaGreatCl16
import Derived.Test.YtbejhkojdiadaaaGreatCl17
import Derived.Test.YtbejhkojdiadaaaGreatProg
import Derived.Deep.AppendSrc
import Derived.WalkKit
import Derived.WalkSpells
import Derived.BigQuiet
import Derived.Deep.QuietTactic
import Derived.Deep.LoopGhost
import Derived.Lib.Hide
import Derived.Maps.AppendAt
import Derived.Deep.AppendLies
import Derived.StillTailTactics
import Derived.Laws.CopyOwn
import Derived.Deep.OwnRows
import Derived.Deep.DeepCutAuto
import Derived.Laws.Cover3
import Derived.Deep.RegionHeld3
import Derived.RangeFuncRecord
import Derived.Lib.SlicesSearch
import Derived.RangeFuncBox
import Derived.RangeFuncLeaves
import Derived.RangeFuncWrites
import Derived.RangeFuncFrom
import Derived.Shelf.Abstract
import Derived.OwnWalkIn
import Derived.TacticsInMore
import Derived.LoopNIn
import Derived.LoopIn
import Derived.Shelf.GgSortFunc.Insertion
import Derived.Shelf.SlIter.Collect
import Derived.Shelf.Sort.Plain
import Derived.Deep.RegionLaw
import Derived.ControlIn
set_option linter.unusedSimpArgs false
set_option linter.unusedVariables false
namespace Go.Proofs.YtbejhkojdiadaaaGreat.PlainPm
variable {n : Nat}
def cj (x y : Pm n) : Pm n := (y.inv.mul x).mul y
def cm (x y : Pm n) : Pm n := (x.inv.mul y.inv).mul (x.mul y)
theorem cj_one (y : Pm n) : cj (one n) y = one n := by unfold cj; rw [Pm.mul_one, Pm.inv_mul]
theorem cj_by_one (x : Pm n) : cj x (one n) = x := by unfold cj; rw [Pm.inv_one, Pm.one_mul, Pm.mul_one]
theorem Pm.mul_inv_mul (x y : Pm n) : x.mul (x.inv.mul y) = y := by rw [← Pm.mul_assoc, Pm.mul_inv, Pm.one_mul]
theorem Pm.inv_mul_mul (x y : Pm n) : x.inv.mul (x.mul y) = y := by rw [← Pm.mul_assoc, Pm.inv_mul, Pm.one_mul]
theorem cj_mul (x z y : Pm n) : cj (x.mul z) y = (cj x y).mul (cj z y) := by
  unfold cj
  simp only [Pm.mul_assoc, Pm.mul_inv_mul]
theorem cj_inv (x y : Pm n) : cj x.inv y = (cj x y).inv := by
  refine Pm.inv_unique ?_
  rw [← cj_mul, Pm.mul_inv, cj_one]
theorem cj_cj (x y z : Pm n) : cj (cj x y) z = cj x (y.mul z) := by
  unfold cj
  rw [Pm.mul_inv_rev]
  simp only [Pm.mul_assoc]
theorem cj_back (x y : Pm n) : cj (cj x y) y.inv = x := by rw [cj_cj, Pm.mul_inv, cj_by_one]
theorem cj_forth (x y : Pm n) : cj (cj x y.inv) y = x := by rw [cj_cj, Pm.inv_mul, cj_by_one]
def pw (y : Pm n) : Nat → Pm n
  | 0 => one n
  | k + 1 => (pw y k).mul y
theorem pw_add (y : Pm n) (i k : Nat) : pw y (i + k) = (pw y i).mul (pw y k) := by
  induction k with
  | zero => exact (Pm.mul_one _).symm
  | succ k ih => show (pw y (i + k)).mul y = _; rw [ih, Pm.mul_assoc]; rfl
def allL (n : Nat) : Nat → List (List Int)
  | 0 => [[]]
  | k + 1 => (allL n k).flatMap fun l => (List.range n).map fun p : Nat => (p : Int) :: l
theorem mem_allL : ∀ (k : Nat) (l : List Int), l.length = k → (∀ x ∈ l, 0 ≤ x ∧ x < n) → l ∈ allL n k
  | 0, l, h, _ => by cases l <;> simp_all [allL]
  | k + 1, [], h, _ => by simp at h
  | k + 1, x :: l, h, hx => by
    have h1 := hx x (List.mem_cons_self ..)
    refine List.mem_flatMap.2 ⟨l, mem_allL k l (by simpa using h) (fun z hz => hx z (List.mem_cons_of_mem _ hz)), List.mem_map.2 ⟨x.toNat, List.mem_range.2 (by omega), ?_⟩⟩
    rw [Int.toNat_of_nonneg h1.1]
theorem pw_order (y : Pm n) : ∃ k, y.inv = pw y k := by
  have hnd : ¬ (((List.range ((allL n n).length + 1)).map fun i => (pw y i).l).Nodup) := fun hd => by
    have := sub_len hd (m := allL n n) (fun l hl => by
      obtain ⟨i, _, rfl⟩ := List.mem_map.1 hl
      exact mem_allL n _ (pw y i).ok.1 (pw y i).ok.2.1)
    simp at this
    omega
  have hex : ∃ i k, i < k ∧ pw y i = pw y k := by
    refine Classical.byContradiction fun hno => hnd (nodup_map_on List.nodup_range fun i _ k _ he => ?_)
    rcases Nat.lt_trichotomy i k with h | h | h
    · exact absurd ⟨i, k, h, Pm.ext' he⟩ hno
    · exact h
    · exact absurd ⟨k, i, h, (Pm.ext' he).symm⟩ hno
  obtain ⟨i, k, hlt, he⟩ := hex
  obtain ⟨m, rfl⟩ : ∃ m, k = i + (m + 1) := ⟨k - i - 1, by omega⟩
  have h1 : pw y (m + 1) = one n := by
    have := congrArg (fun z => (pw y i).inv.mul z) he
    simp only [pw_add y i, Pm.inv_mul, Pm.inv_mul_mul] at this
    exact this.symm
  refine ⟨m, ?_⟩
  have h2 : (pw y m).mul y = one n := h1
  have h3 := congrArg (fun z => z.mul y.inv) h2
  simp only [Pm.mul_inv_cancel, Pm.one_mul] at h3
  exact h3.symm
def Nrm (H B : Pm n → Prop) : Prop := ∀ x, H x → ∀ y, B y → H (cj x y)
theorem Nrm.sub {H B B' : Pm n → Prop} (h : Nrm H B) (hb : ∀ y, B' y → B y) : Nrm H B' := fun x hx y hy => h x hx y (hb y hy)
theorem Nrm.pw {H B : Pm n → Prop} (h : Nrm H B) {x y : Pm n} (hx : H x) (hy : B y) : ∀ k, H (cj x (PlainPm.pw y k))
  | 0 => by show H (cj x (one n)); rw [cj_by_one]; exact hx
  | k + 1 => by show H (cj x ((PlainPm.pw y k).mul y)); rw [← cj_cj]; exact h _ (Nrm.pw h hx hy k) y hy
theorem Nrm.grp {H B : Pm n → Prop} (h : Nrm H B) : Nrm H (Grp B) := fun x hx y hy => by
  induction hy with
  | one => rw [cj_by_one]; exact hx
  | mul y s _ hs ih => rw [← cj_cj]; exact h _ ih s hs
  | inv y s _ hs ih =>
    obtain ⟨k, hk⟩ := pw_order s
    rw [← cj_cj, hk]
    exact h.pw ih hs k
theorem cj_isG {H : Pm n → Prop} (hH : IsG H) (y : Pm n) : IsG fun x => H (cj x y) :=
  ⟨by rw [cj_one]; exact hH.one, fun h k => by rw [cj_mul]; exact hH.mul h k, fun h => by rw [cj_inv]; exact hH.inv h⟩
theorem nrm_of {L H B : Pm n → Prop} (hH : IsG H) (hl : ∀ x, H x ↔ Grp L x) (h : ∀ x, L x → ∀ y, B y → H (cj x y)) : Nrm H B := fun x hx y hy =>
  Grp.sub (cj_isG hH y) (fun s hs => h s hs y hy) ((hl x).1 hx)
def NcG (L B : Pm n → Prop) (x : Pm n) : Prop := ∀ H, IsG H → (∀ y, L y → H y) → Nrm H B → H x
section
variable {L B : Pm n → Prop}
theorem NcG.isG : IsG (NcG L B) := ⟨fun H h _ _ => h.one, fun hx hy H h hl hb => h.mul (hx H h hl hb) (hy H h hl hb), fun hx H h hl hb => h.inv (hx H h hl hb)⟩
theorem NcG.base {x : Pm n} (h : L x) : NcG L B x := fun H _ hl _ => hl x h
theorem NcG.nrm : Nrm (NcG L B) B := fun x hx y hy H h hl hb => hb x (hx H h hl hb) y hy
theorem NcG.of {G : Pm n → Prop} (hG : IsG G) (hl : ∀ y, L y → G y) (hb : Nrm G B) (hs : ∀ x, G x → NcG L B x) (x : Pm n) : G x ↔ NcG L B x := ⟨hs x, fun h => h G hG hl hb⟩
theorem NcG.grp (x : Pm n) : NcG L (Grp B) x ↔ NcG L B x := ⟨fun h H hH hl hb => h H hH hl hb.grp, fun h H hH hl hb => h H hH hl (hb.sub fun y hy => Grp.base hy)⟩
theorem NcG.byG {G : Pm n → Prop} (hg : ∀ y, Grp B y ↔ G y) (x : Pm n) : NcG L B x ↔ NcG L G x :=
  ⟨fun h H hH hl hb => h H hH hl (hb.sub fun y hy => (hg y).1 (Grp.base hy)), fun h H hH hl hb => h H hH hl (hb.grp.sub fun y hy => (hg y).2 hy)⟩
end
theorem cm_mul_left (a b c : Pm n) : cm (a.mul b) c = (cj (cm a c) b).mul (cm b c) := by
  unfold cm cj
  rw [Pm.mul_inv_rev]
  simp only [Pm.mul_assoc, Pm.mul_inv_mul, Pm.inv_mul_mul]
theorem cm_mul_right (a b c : Pm n) : cm a (b.mul c) = (cm a c).mul (cj (cm a b) c) := by
  unfold cm cj
  rw [Pm.mul_inv_rev]
  simp only [Pm.mul_assoc, Pm.mul_inv_mul, Pm.inv_mul_mul]
theorem cm_one_left (c : Pm n) : cm (one n) c = one n := by unfold cm; rw [Pm.inv_one, Pm.one_mul, Pm.one_mul, Pm.inv_mul]
theorem cm_one_right (c : Pm n) : cm c (one n) = one n := by unfold cm; rw [Pm.inv_one, Pm.mul_one, Pm.mul_one, Pm.inv_mul]
theorem cm_inv (a b : Pm n) : (cm a b).inv = cm b a := by
  unfold cm
  simp only [Pm.mul_inv_rev, Pm.inv_inv, Pm.mul_assoc]
def CmG (G1 G2 : Pm n → Prop) : Pm n → Prop := Grp fun z => ∃ a b, G1 a ∧ G2 b ∧ z = cm a b
theorem CmG.comm (G1 G2 : Pm n → Prop) (x : Pm n) : CmG G1 G2 x ↔ CmG G2 G1 x := by
  have one_way : ∀ (G1 G2 : Pm n → Prop) (x : Pm n), CmG G1 G2 x → CmG G2 G1 x := fun G1 G2 x h => Grp.sub Grp.isG (by
    rintro s ⟨a, b, ha, hb, rfl⟩
    rw [← Pm.inv_inv (cm a b), cm_inv]
    exact Grp.inverse (Grp.base ⟨b, a, hb, ha, rfl⟩)) h
  exact ⟨one_way _ _ x, one_way _ _ x⟩
theorem CmG.nrm1 {G1 G2 : Pm n → Prop} (h1 : IsG G1) : Nrm (CmG G1 G2) G1 :=
  nrm_of (L := fun z => ∃ a b, G1 a ∧ G2 b ∧ z = cm a b) Grp.isG (fun _ => Iff.rfl) (by
    rintro x ⟨a, b, ha, hb, rfl⟩ g hg
    have h := cm_mul_left a g b
    have h3 : cj (cm a b) g = (cm (a.mul g) b).mul (cm g b).inv := by rw [h, Pm.mul_inv_cancel]
    rw [h3]
    exact Grp.times (Grp.base ⟨_, _, h1.mul ha hg, hb, rfl⟩) (Grp.inverse (Grp.base ⟨_, _, hg, hb, rfl⟩)))
theorem CmG.nrm2 {G1 G2 : Pm n → Prop} (h2 : IsG G2) : Nrm (CmG G1 G2) G2 := fun x hx y hy =>
  (CmG.comm _ _ _).1 (CmG.nrm1 h2 x ((CmG.comm _ _ _).1 hx) y hy)
theorem cm_nc {G1 G2 s1 s2 : Pm n → Prop} (hg1 : IsG G1) (hg2 : IsG G2) (h1 : ∀ x, Grp s1 x ↔ G1 x) (h2 : ∀ x, Grp s2 x ↔ G2 x) (x : Pm n) :
    NcG (fun z => ∃ a b, s1 a ∧ s2 b ∧ z = cm a b) (fun y => s1 y ∨ s2 y) x ↔ CmG G1 G2 x := by
  constructor
  · intro h
    refine h _ Grp.isG ?_ ?_
    · rintro y ⟨a, b, ha, hb, rfl⟩
      exact Grp.base ⟨a, b, (h1 a).1 (Grp.base ha), (h2 b).1 (Grp.base hb), rfl⟩
    · intro z hz y hy
      rcases hy with hy | hy
      · exact CmG.nrm1 hg1 z hz y ((h1 y).1 (Grp.base hy))
      · exact CmG.nrm2 hg2 z hz y ((h2 y).1 (Grp.base hy))
  · intro h H hH hl hb
    refine Grp.sub hH ?_ h
    have n1 : Nrm H G1 := fun z hz y hy => (hb.sub (fun y hy => .inl hy)).grp z hz y ((h1 y).2 hy)
    have n2 : Nrm H G2 := fun z hz y hy => (hb.sub (fun y hy => .inr hy)).grp z hz y ((h2 y).2 hy)
    -- first in the left argument, for a generator on the right
    have left : ∀ a, G1 a → ∀ b, s2 b → H (cm a b) := fun a ha b hb' => by
      have key : ∀ a, Grp s1 a → G1 a ∧ H (cm a b) := fun a ha => by
        induction ha with
        | one => exact ⟨hg1.one, by rw [cm_one_left]; exact hH.one⟩
        | mul y s _ hs ih =>
          have hs1 := (h1 s).1 (Grp.base hs)
          exact ⟨hg1.mul ih.1 hs1, by rw [cm_mul_left]; exact hH.mul (n1 _ ih.2 s hs1) (hl _ ⟨s, b, hs, hb', rfl⟩)⟩
        | inv y s _ hs ih =>
          have hs1 := (h1 s).1 (Grp.base hs)
          have hi : H (cm s.inv b) := by
            have e := cm_mul_left s s.inv b
            rw [Pm.mul_inv, cm_one_left] at e
            have e2 := Pm.inv_unique e.symm
            rw [e2]
            exact hH.inv (n1 _ (hl _ ⟨s, b, hs, hb', rfl⟩) s.inv (hg1.inv hs1))
          exact ⟨hg1.mul ih.1 (hg1.inv hs1), by rw [cm_mul_left]; exact hH.mul (n1 _ ih.2 s.inv (hg1.inv hs1)) hi⟩
      exact (key a ((h1 a).2 ha)).2
    rintro z ⟨a, b, ha, hb', rfl⟩
    have key : ∀ b, Grp s2 b → G2 b ∧ H (cm a b) := fun b hb => by
      induction hb with
      | one => exact ⟨hg2.one, by rw [cm_one_right]; exact hH.one⟩
      | mul y s _ hs ih =>
        have hs2 := (h2 s).1 (Grp.base hs)
        exact ⟨hg2.mul ih.1 hs2, by rw [cm_mul_right]; exact hH.mul (left a ha s hs) (n2 _ ih.2 s hs2)⟩
      | inv y s _ hs ih =>
        have hs2 := (h2 s).1 (Grp.base hs)
        have hi : H (cm a s.inv) := by
          have e := cm_mul_right a s s.inv
          rw [Pm.mul_inv, cm_one_right] at e
          have e2 : cm a s.inv = (cj (cm a s) s.inv).inv := by
            have e3 := Pm.inv_unique e.symm
            rw [e3, Pm.inv_inv]
          rw [e2]
          exact hH.inv (n2 _ (left a ha s hs) s.inv (hg2.inv hs2))
        exact ⟨hg2.mul ih.1 (hg2.inv hs2), by rw [cm_mul_right]; exact hH.mul hi (n2 _ ih.2 s.inv (hg2.inv hs2))⟩
    exact (key b ((h2 b).2 hb')).2
def sg (n : Nat) (O : Nat → List Nat) : Nat := ((List.range n).map fun i => if i < n then (O i).length else 0).sum
section
variable {G G' : Pm n → Prop} {O O' : Nat → List Nat} {R R' : Nat → Nat → Pm n}
theorem ChG.sub_orb (h : ChG G O R) (h' : ChG G' O' R') (hs : ∀ x, G x → G' x) {i : Nat} (hi : i < n) {p : Nat} (hp : p ∈ O i) : p ∈ O' i := by
  obtain ⟨y, h1, h2, h3⟩ := (h.mem i hi p).1 hp
  exact (h'.mem i hi p).2 ⟨y, hs y h1, h2, h3⟩
theorem ChG.of_orb (h : ChG G O R) (h' : ChG G' O' R') (hs : ∀ x, G x → G' x) (he : ∀ i, i < n → ∀ p ∈ O' i, p ∈ O i) : ∀ {f i : Nat} {x : Pm n}, i + f = n → G' x → Fx i x → G x
  | 0, i, x, hf, hx, hfx => by
    have : i = n := by omega
    subst this
    rw [Fx.all hfx]; exact h.isG.one
  | f + 1, i, x, hf, hx, hfx => by
    have hi : i < n := by omega
    have hp : x.at i ∈ O i := he i hi _ ((h'.mem i hi _).2 ⟨x, hx, hfx, rfl⟩)
    obtain ⟨r1, r2, r3⟩ := h.rep i hi _ hp
    have hfix : Fx (i + 1) (x.mul (R i (x.at i)).inv) := by
      refine Fx.succ (Fx.mul (by omega) hfx (Fx.inv (by omega) r2)) ?_
      rw [Pm.mul_at _ _ hi]
      have := (R i (x.at i)).inv_of hi
      rw [r3] at this
      exact this
    have hg := ChG.of_orb h h' hs he (f := f) (i := i + 1) (by omega) (h'.isG.mul hx (h'.isG.inv (hs _ r1))) hfix
    have := h.isG.mul hg r1
    rwa [Pm.inv_mul_cancel] at this
theorem sg_le (h : ChG G O R) : sg n O ≤ n * n := by
  have key : ∀ m, ((List.range m).map fun i => if i < n then (O i).length else 0).sum ≤ m * n := fun m => by
    induction m with
    | zero => simp
    | succ m ih =>
      rw [List.range_succ, List.map_append, List.sum_append, Nat.succ_mul]
      simp only [List.map_cons, List.map_nil, List.sum_cons, List.sum_nil, Nat.add_zero]
      refine Nat.add_le_add ih ?_
      split
      · exact h.short (by assumption)
      · omega
  exact key n
theorem sg_lt (h : ChG G O R) (h' : ChG G' O' R') (hs : ∀ x, G x → G' x) {x : Pm n} (hx : G' x) (hn : ¬ G x) : sg n O < sg n O' := by
  have hle : ∀ j, (if j < n then (O j).length else 0) ≤ (if j < n then (O' j).length else 0) := fun j => by
    split
    · rename_i hj; exact sub_len (h.nd j hj) (fun p hp => h.sub_orb h' hs hj hp)
    · omega
  have hex : ∃ i, i < n ∧ (O i).length < (O' i).length := by
    refine Classical.byContradiction fun hno => hn (h.of_orb h' hs (fun i hi => ?_) (Nat.zero_add n) hx (fun j hj => by omega))
    have h1 : (O' i).length ≤ (O i).length := by
      rcases Nat.lt_or_ge (O i).length (O' i).length with h2 | h2
      · exact absurd ⟨i, hi, h2⟩ hno
      · exact h2
    exact onto_list (h.nd i hi) (h'.nd i hi) (fun p hp => h.sub_orb h' hs hi hp) h1
  obtain ⟨i, hi, hlt⟩ := hex
  exact sum_lt n hle hi (by rw [if_pos hi, if_pos hi]; exact hlt)
end
end Go.Proofs.YtbejhkojdiadaaaGreat.PlainPm
namespace Go.Proofs.YtbejhkojdiadaaaGreat
open Go.RowKit PlainPm
theorem grp_mono {n : Nat} {s l : List (Pm n)} (h : ∀ x ∈ s, Grp (· ∈ l) x) {y : Pm n} (hy : Grp (· ∈ s) y) : Grp (· ∈ l) y := Grp.sub Grp.isG h hy
theorem grp_app {n : Nat} {l m : List (Pm n)} {y : Pm n} (hy : Grp (· ∈ l) y) : Grp (· ∈ l ++ m) y := grp_mono (fun x hx => Grp.base (List.mem_append_left _ hx)) hy
theorem grp_last {n : Nat} {l : List (Pm n)} {x : Pm n} : Grp (· ∈ l ++ [x]) x := Grp.base (List.mem_append_right _ (List.mem_singleton.2 rfl))
theorem grp_in1 {n : Nat} {s l : List (Pm n)} {x : Pm n} (h : ∀ y, Grp (· ∈ s) y ↔ Grp (· ∈ l) y) (hx : Grp (· ∈ s) x) (y : Pm n) : Grp (· ∈ s) y ↔ Grp (· ∈ l ++ [x]) y :=
  ⟨fun hy => grp_app ((h y).1 hy), fun hy => grp_mono (fun z hz => by
    rcases List.mem_append.1 hz with hz | hz
    · exact (h z).2 (Grp.base hz)
    · rw [List.mem_singleton.1 hz]; exact hx) hy⟩
theorem grp_step1 {n : Nat} {s l : List (Pm n)} (x : Pm n) (h : ∀ y, Grp (· ∈ s) y ↔ Grp (· ∈ l) y) (y : Pm n) : Grp (· ∈ s ++ [x]) y ↔ Grp (· ∈ l ++ [x]) y :=
  ⟨fun hy => grp_mono (fun z hz => by
    rcases List.mem_append.1 hz with hz | hz
    · exact grp_app ((h z).1 (Grp.base hz))
    · rw [List.mem_singleton.1 hz]; exact grp_last) hy, fun hy => grp_mono (fun z hz => by
    rcases List.mem_append.1 hz with hz | hz
    · exact grp_app ((h z).2 (Grp.base hz))
    · rw [List.mem_singleton.1 hz]; exact grp_last) hy⟩
theorem sg_pos {n : Nat} {G : Pm n → Prop} {O : Nat → List Nat} {R : Nat → Nat → Pm n} (hn : 0 < n) (h : ChG G O R) : 1 ≤ sg n O := by
  have h0 : 0 ∈ O 0 := (h.mem 0 hn 0).2 ⟨PlainPm.one n, h.isG.one, fun j hj => by omega, PlainPm.one_at hn⟩
  have h1 : 1 ≤ (O 0).length := List.length_pos_of_mem h0
  unfold sg
  obtain ⟨m, rfl⟩ : ∃ m, n = m + 1 := ⟨n - 1, by omega⟩
  rw [List.range_succ_eq_map, List.map_cons, List.sum_cons, if_pos hn]
  omega
structure Gw {n : Nat} (w WA wr : World) (X Y : Nat) (L : List (Pm n)) (k : Nat) (v : Value) (us : List Value) (M : List (Pm n)) (a b : Option Addr) (c d : Nat) : Prop where
  box : wr.heap[Y]? = some (.cells #[.int .i64 (n : Int), .slice a n c, .slice b n d] 25 (0, 0))
  grs : ∀ S, (∀ m ∈ S, m < X) → GrS wr (.agg #[.int .i64 (n : Int), .slice a n c, .slice b n d]) (Grp (n := n) (· ∈ M)) (X :: Y :: S)
  own : Own wr WA.heap.size v 27 us
  pml : PmL w [] us M
  len : M.length ≤ k ∧ ∀ O R, ChG (Grp (n := n) (· ∈ M)) O R → M.length + 1 ≤ sg n O
  iff : ∀ y, Grp (n := n) (· ∈ M) y ↔ Grp (· ∈ L.take k) y
  kep : Kept WA wr [Y]
theorem keep4c {V A B : World} {p q r s : Addr} {u0 u1 u2 u3 : Value} (h : A.cell? p = some u0 ∧ A.cell? q = some u1 ∧ A.cell? r = some u2 ∧ A.cell? s = some u3 ∧ Below V.heap.size V A) (k : Below A.heap.size A B) : B.cell? p = some u0 ∧ B.cell? q = some u1 ∧ B.cell? r = some u2 ∧ B.cell? s = some u3 ∧ Below V.heap.size V B :=
  ⟨(k.cell (block_lt_of_cell h.1)).trans h.1, (k.cell (block_lt_of_cell h.2.1)).trans h.2.1, (k.cell (block_lt_of_cell h.2.2.1)).trans h.2.2.1, (k.cell (block_lt_of_cell h.2.2.2.1)).trans h.2.2.2.1, below_trans h.2.2.2.2 k⟩
theorem keptB {A B C : World} {S : List Nat} {D : Nat} (h : Kept A B S) (k : Below D B C) (hD : A.heap.size ≤ D) : Kept A C S :=
  ⟨k.os.trans h.os, k.tape.trans h.tape, k.output.trans h.output, Nat.le_trans h.size k.size, fun i hi hs => (k.block i (Nat.lt_of_lt_of_le hi hD)).trans (h.block i hi hs)⟩
set_option maxRecDepth 100000 in
set_option maxHeartbeats 4000000 in
theorem chain75 {n : Nat} (hn : 0 < n ∧ n ≤ 64) {w : World} {v : Value} {L : List (Pm n)} (hl : L.length ≤ 8192) (hv : PmsV w [] v L) :
    Calls Tryz.prog 75 #[.int .i64 (n : Int), v] w fun e w' => ∃ a c b d, e = .returned (.agg #[.int .i64 (n : Int), .slice a n c, .slice b n d]) ∧ Below w.heap.size w w' ∧
      ∀ S, (∀ m ∈ S, m < w.heap.size) → GrS w' (.agg #[.int .i64 (n : Int), .slice a n c, .slice b n d]) (Grp (n := n) (· ∈ L)) S := by
  obtain ⟨i27, hi27, hz27, hs27, hb27⟩ := info_parts Tryz.info27
  have I27 := Lib.hid (And.intro hi27 (And.intro hz27 (And.intro hs27 hb27)))
  clear hi27 hz27 hs27 hb27
  obtain ⟨va, vc, vs, rfl, hr, hp⟩ := hv
  obtain ⟨m, hm⟩ : ∃ m, L.length = m := ⟨_, rfl⟩
  obtain ⟨X, hX⟩ : ∃ X, w.heap.size = X := ⟨_, rfl⟩
  obtain ⟨W0, hW0⟩ : ∃ W0, w.alloc (.cells #[.int .i64 0, .slice none 0 0, .slice none 0 0] 25) = W0 := ⟨_, rfl⟩
  have hb0 : Below w.heap.size w W0 := hW0 ▸ alloc_b (Below.refl _ _) _
  have hs0 : W0.heap.size = X + 1 := by rw [← hW0]; simp [hX]
  have hx0 : W0.heap[X]? = some (.cells #[.int .i64 0, .slice none 0 0, .slice none 0 0] 25) := hW0 ▸ box_al25 hX _ _ _
  have h96 := mk96 (w := W0) hn (L := ([] : List (Pm n))) (by simp) ⟨none, 0, [], rfl, Row.nil, rfl, fun k s hs => by simp at hs⟩
  simp only [List.length_nil] at h96
  have H := Lib.hid (And.intro hr (And.intro hp (And.intro hm (And.intro hb0 (And.intro hs0 (And.intro hx0 h96))))))
  rw [hm] at hl ⊢
  clear hr hp hm hb0 hs0 hx0 h96
  go_enter Tryz.func75, Tryz.ntmps75
  try rw [hX]
  go_wp2_with (go_at_call 96; (with_reducible refine H.out.2.2.2.2.2.2.mono ?_); rintro e1 w1 ⟨a, c, b, d, rfl, k1, k2⟩; have H1 := Lib.hid (And.intro k1 k2); clear k1 k2)
  obtain ⟨Y, hY⟩ : ∃ Y, w1.heap.size = Y := ⟨_, rfl⟩
  obtain ⟨WA, hWA⟩ : ∃ WA, w1.alloc (.cells #[.int .i64 (n : Int), .slice a n c, .slice b n d] 25) = WA := ⟨_, rfl⟩
  have hXY : X < Y := by have h := H1.out.1.size; rw [hY, H.out.2.2.2.2.1] at h; omega
  have hsA : WA.heap.size = Y + 1 := by rw [← hWA]; simp [hY]
  have hyA : WA.heap[Y]? = some (.cells #[.int .i64 (n : Int), .slice a n c, .slice b n d] 25) := hWA ▸ box_al25 hY _ _ _
  have hbA : Below W0.heap.size W0 WA := hWA ▸ alloc_b H1.out.1 _
  have hwA : Below w.heap.size w WA := below_trans H.out.2.2.2.1 hbA
  have hgA : ∀ S, (∀ m ∈ S, m < X) → GrS WA (.agg #[.int .i64 (n : Int), .slice a n c, .slice b n d]) (Grp (n := n) (· ∈ ([] : List (Pm n)))) (X :: Y :: S) := fun S hS => by
    refine (((H1.out.2 (X :: S) (fun q hq => ?_)).ext (S' := X :: Y :: S) (fun q hq => ?_)).below (hWA ▸ alloc_b (Below.refl _ _) _))
    · have h1 := H1.out.1.size
      rw [H.out.2.2.2.2.1] at h1 ⊢
      rcases List.mem_cons.1 hq with rfl | hq
      · omega
      · have := hS q hq; omega
    · rcases List.mem_cons.1 hq with rfl | hq
      · exact .inl (by simp)
      · rcases List.mem_cons.1 hq with rfl | hq
        · exact .inr (by rw [hY]; exact Nat.le_refl _)
        · exact .inl (List.mem_cons_of_mem _ hq)
  have hxA : WA.heap[X]? = some (.cells #[.int .i64 0, .slice none 0 0, .slice none 0 0] 25) := (hbA.block X (by rw [H.out.2.2.2.2.1]; omega)).trans H.out.2.2.2.2.2.1
  have h0 : Gw w WA WA X Y L 0 (.slice none 0 0) [] [] a b c d := ⟨hyA, hgA, Own.nil _ _ _, ⟨rfl, fun k x hx => by simp at hx⟩, ⟨Nat.zero_le _, fun O R hc => sg_pos hn.1 hc⟩, fun y => by rw [List.take_zero], Kept.refl _ _⟩
  rw [hWA, hY]
  have HA := Lib.hid (And.intro hXY (And.intro hsA (And.intro hbA (And.intro hwA (And.intro hxA (And.intro h0 hX))))))
  clear hXY hsA hyA hbA hwA hgA hxA h0 hWA hY hX hW0
  go_loopw [7, 8] (fun v i wr => ∃ (k : Nat) (us : List Value) (M : List (Pm n)) (a' b' : Option Addr) (c' d' : Nat), k ≤ m ∧ i = .int .i64 (k : Int) ∧ Gw w WA wr X Y L k v us M a' b' c' d') (fun _ i _ => m - (intOf i).toNat)
  case atStart => exact ⟨0, _, _, _, _, _, _, by omega, rfl, HA.out.2.2.2.2.2.1⟩
  case round =>
    obtain ⟨k, us, M, a', b', c', d', hk, rfl, hg⟩ := hrel
    have hlx : X < wr.heap.size := by have h1 := hg.kep.size; have h2 := HA.out.2.1; have h3 := HA.out.1; omega
    have hly : Y < wr.heap.size := by have h1 := hg.kep.size; have h2 := HA.out.2.1; omega
    have hwr : Below w.heap.size w wr := (HA.out.2.2.2.1).trans (hg.kep.below (by have := HA.out.2.2.2.1.size; exact this) (fun q hq => by
      rw [List.mem_singleton.1 hq, HA.out.2.2.2.2.2.2]; exact Nat.le_of_lt HA.out.1))
    obtain ⟨T, hT, ab, ao, c2, bb, bo, e', he', hlv⟩ := (hg.grs [] (by simp)).now.lev Grp.isG ⟨hn.1, hn.2⟩
    simp only [cv, Value.agg.injEq, Array.mk.injEq, List.cons.injEq, Value.slice.injEq, and_true, true_and] at he'
    obtain ⟨⟨rfl, rfl⟩, rfl, rfl⟩ := he'
    obtain ⟨x0, x1, x2, x3, x4, x5⟩ := box_cells hg.box
    by_cases hkm : k < m
    · obtain ⟨x, hx⟩ : ∃ x, L[k]? = some x := ⟨_, List.getElem?_eq_getElem (by rw [H.out.2.2.1]; exact hkm)⟩
      obtain ⟨u, hu, hpm⟩ := H.out.2.1.2 k x hx
      obtain ⟨rb, ro, hae, _, hrc⟩ := (H.out.1.below hwr).2 k u hu
      subst hae
      have hpr := hpm.below hwr
      have hxt : L.take (k + 1) = L.take k ++ [x] := by rw [List.take_add_one, hx]; rfl
      have h116 := fun (V : World) (hV : Below wr.heap.size wr V) => in116 (c := c') (e := d') hn.1 hn.2 (hT.chG Grp.isG) (hlv.below hV) (hpr.below hV)
      obtain ⟨xb, xo, xc, rfl, _⟩ := id hpm
      have HC := Lib.hid (And.intro h116 (And.intro hg (And.intro hpm (And.intro hxt (And.intro hwr hlv)))))
      have hk1 : (k : Int) < m := by omega
      clear h116 hg hpm hpr hxt hwr hlv hu hx
      have hx0 := And.intro x0 (And.intro x1 (And.intro x2 (And.intro hrc (Below.refl wr.heap.size wr))))
      by_cases hgx : Grp (n := n) (· ∈ M) x
      · have HG := Lib.hid hgx
        have hlen : M.length + 1 ≤ 4096 := Nat.le_trans (HC.out.2.1.len.2 _ _ (hT.chG Grp.isG)) (Nat.le_trans (sg_le (hT.chG Grp.isG)) (Nat.mul_le_mul hn.2 hn.2))
        clear hgx
        go_wp2_with fail
        go_region_held3 (fun V => V.cell? ⟨Y, 0, none⟩ = some (.int .i64 (n : Int)) ∧ V.cell? ⟨Y, 1, none⟩ = some (.slice (some ⟨ab, ao, none⟩) n c') ∧ V.cell? ⟨Y, 2, none⟩ = some (.slice (some ⟨bb, bo, none⟩) n d') ∧ V.cell? ⟨rb, ro + k, none⟩ = some (.slice (some ⟨xb, xo, none⟩) n xc) ∧ Below wr.heap.size wr V)
          (first
            | with_reducible assumption
            | with_reducible exact hx0
            | exact keep4c hx0 (below_drw (Below.refl _ _))
            | exact keep4c hx0 (below_self_drewN _ _)
            | exact keep4c hx0 b6
            | fail)
          (first
            | (go_at_call 116; (with_reducible refine (HC.out.1 _ (by first | exact Below.refl _ _ | exact below_drw (Below.refl _ _) | exact below_self_drewN _ _)).mono ?_); rintro e6 w6 ⟨h1, k2⟩; have h2 := h1.true_ HG.out; subst h2; have b6 : Below wr.heap.size wr w6 := below_trans (by first | exact Below.refl _ _ | exact below_drw (Below.refl _ _) | exact below_self_drewN _ _) k2; clear h1 k2))
        go_wp2_with fail
        refine ⟨⟨k + 1, us, M, some ⟨ab, ao, none⟩, some ⟨bb, bo, none⟩, c', d', by omega, by go_num, ?_⟩, by simp [intOf]; omega⟩
        have hg := HC.out.2.1
        exact ⟨(b6.block Y hly).trans hg.box, fun S hS => (hg.grs S hS).below b6, hg.own.below b6, hg.pml, ⟨Nat.le_succ_of_le hg.len.1, hg.len.2⟩, fun y => by rw [HC.out.2.2.2.1]; exact grp_in1 hg.iff HG.out y, hg.kep.trans (Kept.ofBelow b6)⟩
      · have HG := Lib.hid hgx
        have hlen : M.length + 1 ≤ 4096 := Nat.le_trans (HC.out.2.1.len.2 _ _ (hT.chG Grp.isG)) (Nat.le_trans (sg_le (hT.chG Grp.isG)) (Nat.mul_le_mul hn.2 hn.2))
        clear hgx
        go_wp2_with fail
        go_region_held3 (fun V => V.cell? ⟨Y, 0, none⟩ = some (.int .i64 (n : Int)) ∧ V.cell? ⟨Y, 1, none⟩ = some (.slice (some ⟨ab, ao, none⟩) n c') ∧ V.cell? ⟨Y, 2, none⟩ = some (.slice (some ⟨bb, bo, none⟩) n d') ∧ V.cell? ⟨rb, ro + k, none⟩ = some (.slice (some ⟨xb, xo, none⟩) n xc) ∧ Below wr.heap.size wr V)
          (first
            | with_reducible assumption
            | with_reducible exact hx0
            | exact keep4c hx0 (below_drw (Below.refl _ _))
            | exact keep4c hx0 (below_self_drewN _ _)
            | exact keep4c hx0 b6
            | fail)
          (first
            | (go_at_call 116; (with_reducible refine (HC.out.1 _ (by first | exact Below.refl _ _ | exact below_drw (Below.refl _ _) | exact below_self_drewN _ _)).mono ?_); rintro e6 w6 ⟨h1, k2⟩; have h2 := h1.false_ HG.out; subst h2; have b6 : Below wr.heap.size wr w6 := below_trans (by first | exact Below.refl _ _ | exact below_drw (Below.refl _ _) | exact below_self_drewN _ _) k2; clear h1 k2))
        have y3 : w6.cell? ⟨rb, ro + k, none⟩ = some (.slice (some ⟨xb, xo, none⟩) n xc) := (b6.cell (block_lt_of_cell hrc)).trans hrc
        have o6 := HC.out.2.1.own.below b6
        have hul : us.length < 1099511627776 := by have h1 := HC.out.2.1.pml.1; have h2 := HC.out.2.1.len.1; omega
        have hB6 : WA.heap.size ≤ w6.heap.size := Nat.le_trans HC.out.2.1.kep.size b6.size
        have H6 := Lib.hid (And.intro o6 (And.intro b6 hB6))
        clear o6
        have hA0 : w.heap.size ≤ WA.heap.size := HA.out.2.2.2.1.size
        have hYA : Y < WA.heap.size := by have := HA.out.2.1; omega
        have hXA : X < WA.heap.size := by have := HA.out.1; omega
        go_wp2_with (first
          | (at_builtin; refine app1 rfl (.tmp 27) (.tmp 32) 44 27 rfl i27 (.slice none 0 0) 24 Tryz.underlying44 I27.out.1 I27.out.2.1 I27.out.2.2.1 I27.out.2.2.2 rfl (by omega) WA.heap.size (.slice (some ⟨xb, xo, none⟩) n xc) _ us rfl H6.out.1 rfl rfl hul H6.out.2.2 ?_; intro v8 w8 k1 k2 k3
             have b8 : Below WA.heap.size w6 w8 := (Below.refl _ _ |>.grown k2 H6.out.2.2 (fun g hg => (H6.out.1.block_lt hg).2))
             obtain ⟨G8, cap8, rfl, hc8, -⟩ := k1.form (by simp)
             simp only [List.length_append, List.length_singleton] at k1
             have H8 := Lib.hid (And.intro k1 b8)
             clear k1 k2 k3 b8)
          | (go_at_call 96; (with_reducible refine (mk96 (L := M ++ [x]) hn ?_ (pms_own H8.out.1 ((HC.out.2.1.pml.snoc HC.out.2.2.1).below (below_trans HC.out.2.2.2.2.1 b6 |>.trans (H8.out.2.mono hA0))) ?_)).mono ?_)
             all_goals (try (rw [List.length_append, List.length_singleton]; have h1 := hlen; omega))
             rintro e9 w9 ⟨a9, c9, b9, d9, rfl, k1, k2⟩
             have h9 : w9.heap[Y]? = some (.cells #[.int .i64 (n : Int), .slice (some ⟨ab, ao, none⟩) n c', .slice (some ⟨bb, bo, none⟩) n d'] 25 (0, 0)) := (k1.block Y (Nat.lt_of_lt_of_le (Nat.lt_of_lt_of_le hYA H6.out.2.2) H8.out.2.size)).trans ((H8.out.2.block Y hYA).trans ((b6.block Y hly).trans HC.out.2.1.box))
             obtain ⟨q0, q1, q2, q3, q4, q5⟩ := box_cells h9
             have H9 := Lib.hid (And.intro k1 (And.intro k2 h9))
             clear k1 k2 h9))
        have hg := HC.out.2.1
        refine ⟨⟨k + 1, us ++ [.slice (some ⟨xb, xo, none⟩) n xc], M ++ [x], a9, b9, c9, d9, by omega, by go_num, ?_⟩, by simp [intOf]; omega⟩
        have hK : Kept w9 (set3 w9 Y (.int .i64 (n : Int)) (.slice a9 n c9) (.slice b9 n d9)) [Y] := set3_kept (by simp)
        refine ⟨set3_box H9.out.2.2, fun S hS => (H9.out.2.1 (X :: Y :: S) (fun q hq => ?_)).kept (hK.mono (by simp)), (H8.out.1.below H9.out.1).keptL hK (fun g hg => ?_), hg.pml.snoc HC.out.2.2.1, ?_, fun y => ?_, (keptB (hg.kep.trans (Kept.ofBelow b6)) H8.out.2 (Nat.le_refl _)).trans ((Kept.ofBelow H9.out.1).trans hK)⟩
        · have h1 := Nat.le_trans H6.out.2.2 H8.out.2.size
          rcases List.mem_cons.1 hq with e | hq
          · rw [e]; exact Nat.lt_of_lt_of_le hXA h1
          · rcases List.mem_cons.1 hq with e | hq
            · rw [e]; exact Nat.lt_of_lt_of_le hYA h1
            · exact Nat.lt_of_lt_of_le (Nat.lt_trans (hS q hq) hXA) h1
        · have h1 := (H8.out.1.block_lt hg).2
          intro hq
          rw [List.mem_singleton.1 hq] at h1
          omega
        · refine ⟨by rw [List.length_append, List.length_singleton]; have := hg.len.1; omega, fun O R hc => ?_⟩
          rw [List.length_append, List.length_singleton]
          have h1 := hg.len.2 _ _ (hT.chG Grp.isG)
          have h2 := sg_lt (hT.chG Grp.isG) hc (fun y hy => grp_app hy) grp_last HG.out
          omega
        · rw [HC.out.2.2.2.1]; exact grp_step1 x hg.iff y
    · have HC := Lib.hid (And.intro hg hwr)
      clear hg hwr hlv
      obtain rfl : k = m := by omega
      have hk1 : ¬ (k : Int) < k := by omega
      have r0 := (HC.out.1.kep.block X (by have := HA.out.1; have := HA.out.2.1; omega) (by have := HA.out.1; simp; omega)).trans HA.out.2.2.2.2.1
      obtain ⟨y0, y1, y2, y3, y4, y5⟩ := box_cells r0
      have hfin : (set3 wr X (.int .i64 (n : Int)) (.slice (some ⟨ab, ao, none⟩) n c') (.slice (some ⟨bb, bo, none⟩) n d')).heap[X]? = some (.cells #[.int .i64 (n : Int), .slice (some ⟨ab, ao, none⟩) n c', .slice (some ⟨bb, bo, none⟩) n d'] 25) := set3_box r0
      go_wp2_with fail
      obtain ⟨V, hV⟩ : ∃ V, set3 wr X (.int .i64 (n : Int)) (.slice (some ⟨ab, ao, none⟩) n c') (.slice (some ⟨bb, bo, none⟩) n d') = V := ⟨_, rfl⟩
      have hKp : Kept wr V [X] := hV ▸ set3_kept (by simp)
      rw [hV] at hfin
      unfold set3 at hV
      rw [hV]
      obtain ⟨f0, f1, f2, _⟩ := box_cells hfin
      refine bodyPost_ret (v := .agg #[.int .i64 (n : Int), .slice (some ⟨ab, ao, none⟩) n c', .slice (some ⟨bb, bo, none⟩) n d']) (by simp [results, Tryz.results75, go_sem, f0, f1, f2]) rfl ?_
      have hg := HC.out.1
      refine ⟨some ⟨ab, ao, none⟩, c', some ⟨bb, bo, none⟩, d', rfl, ?_, fun S hS => ?_⟩
      · have h1 := HC.out.2
        rw [HA.out.2.2.2.2.2.2] at h1
        exact h1.trans (hKp.below (Nat.le_of_lt hlx) (fun q hq => by rw [List.mem_singleton.1 hq]; exact Nat.le_refl _))
      · have hgr := ((hg.grs S hS).kept (hKp.mono (by simp))).congr hg.iff
        rw [← H.out.2.2.1, List.take_length] at hgr
        exact hgr.ext (fun q hq => .inl (List.mem_cons_of_mem _ (List.mem_cons_of_mem _ hq)))
end Go.Proofs.YtbejhkojdiadaaaGreat
namespace Go.Proofs.YtbejhkojdiadaaaGreat
open Go.RowKit PlainPm
theorem GrG.below {n : Nat} {w w' : World} {v : Value} {G : Pm n → Prop} (h : GrG w v G) (k : Below w.heap.size w w') : GrG w' v G := by
  obtain ⟨T, a, c, b, d, h1, h2, h3, h4, h5, h6⟩ := h
  have q : ∀ {a : Option Addr} {vs : List Value}, Row w a vs → vs.length = n → ∀ i, i < n → ∃ b o, a = some ⟨b, o, none⟩ ∧ b < w.heap.size := fun {a vs} hr hl i hi => by
    obtain ⟨b, o, e, hb, _⟩ := hr.2 i _ (List.getElem?_eq_getElem (by rw [hl]; exact hi))
    exact ⟨b, o, e, hb⟩
  obtain ⟨vs, r1, r2, _⟩ := id h3
  obtain ⟨vs', r1', r2', _⟩ := id h4
  exact ⟨T, a, c, b, d, h1, h2, h3.below k, h4.below k, h5.below k (q r1 (by rw [r2]; simp [orbI])), h6.below k (q r1' (by rw [r2']; simp [repI]))⟩
theorem grg_of {n : Nat} {w : World} {v : Value} {os : List (List Int)} {rs : List (List (List Int))} (h : ChV w v n os rs) (hc : CapV w v) (hv : Valid n os rs) : GrG w v (Grp (n := n) (· ∈ grpV n os rs)) := by
  obtain ⟨h1, h2, h3⟩ := valid_tw hv
  obtain ⟨a, c, b, e, rfl, h4, h5⟩ := h
  have l1 : os.length = n := by rw [h2]; simp [orbI]
  have l2 : rs.length = n := by rw [h3]; simp [repI]
  obtain ⟨k1, k2⟩ := hc _ _ _ _ _ _ _ rfl
  rw [l1] at k1 ⊢
  rw [l2] at k2 ⊢
  exact ⟨_, a, c, b, e, h1, rfl, h2 ▸ h4, h3 ▸ h5, k1, k2⟩
theorem GrG.pair0 {n : Nat} (hn : 0 < n ∧ n ≤ 64) {w : World} {v1 v2 : Value} {G1 G2 : Pm n → Prop} (g1 : IsG G1) (g2 : IsG G2) (h1 : GrG w v1 G1) (h2 : GrG w v2 G2) :
    ∃ os1 rs1 os2 rs2, ChV w v1 n os1 rs1 ∧ ChV w v2 n os2 rs2 ∧ pairE n os1 rs1 n os2 rs2 = 0 := by
  obtain ⟨T1, t1, c1, _⟩ := h1.ch
  obtain ⟨T2, t2, c2, _⟩ := h2.ch
  refine ⟨_, _, _, _, c1, c2, ?_⟩
  have z := fun {G : Pm n → Prop} {T : Tw n} (hG : IsG G) (h : Of G T) => (show chkE n (orbI T n) (repI T n) = 0 by
    unfold chkE
    rw [if_pos (by omega), Int.toNat_natCast, if_pos (valid_ofG hG h)])
  unfold pairE
  rw [z g1 t1, z g2 t2]
  simp
theorem pmsN_own {n D bk : Nat} {w1 w3 : World} {v : Value} {us : List Value} {l : List (Pm n)} (ho : Own w3 D v 27 us) (hD : bk < D) (hp : PmL w1 [] us l) (hb : Below w1.heap.size w1 w3) (hbk : w1.heap.size ≤ bk) (hl : l.length ≤ 4096) : PmsN w3 [bk] v l := by
  have hlm : us.length ≤ maxLen := by rw [hp.1]; unfold maxLen; omega
  obtain ⟨a, c, e, hr⟩ := ho.row hlm
  refine ⟨a, c, us, by rw [e, hp.1], fun W' k => ?_, ⟨hp.1, fun i x hx => by obtain ⟨u, hu, hpm⟩ := hp.2 i x hx; exact ⟨u, hu, hpm.fresh hb (fun m hm => by rw [List.mem_singleton.1 hm]; exact hbk)⟩⟩⟩
  have ho' : Own W' D v 27 us := ho.keptL k (fun g hg hm => by have h1 := (ho.block_lt hg).2; rw [List.mem_singleton.1 hm] at h1; omega)
  obtain ⟨a', c', e', hr'⟩ := ho'.row hlm
  rw [e] at e'
  cases e'
  exact hr'
theorem keep6J {X : Nat} {V A B : World} {u0 u1 u2 s0 s1 s2 : Value} (h : A.cell? ⟨X, 0, none⟩ = some u0 ∧ A.cell? ⟨X, 1, none⟩ = some u1 ∧ A.cell? ⟨X, 2, none⟩ = some u2 ∧ A.cell? ⟨X + 1, 0, none⟩ = some s0 ∧ A.cell? ⟨X + 1, 1, none⟩ = some s1 ∧ A.cell? ⟨X + 1, 2, none⟩ = some s2 ∧ Below (X + 3) V A) (k : Below (X + 3) A B) :
    B.cell? ⟨X, 0, none⟩ = some u0 ∧ B.cell? ⟨X, 1, none⟩ = some u1 ∧ B.cell? ⟨X, 2, none⟩ = some u2 ∧ B.cell? ⟨X + 1, 0, none⟩ = some s0 ∧ B.cell? ⟨X + 1, 1, none⟩ = some s1 ∧ B.cell? ⟨X + 1, 2, none⟩ = some s2 ∧ Below (X + 3) V B :=
  ⟨(k.cell (by simp)).trans h.1, (k.cell (by simp)).trans h.2.1, (k.cell (by simp)).trans h.2.2.1, (k.cell (by simp)).trans h.2.2.2.1, (k.cell (by simp)).trans h.2.2.2.2.1, (k.cell (by simp)).trans h.2.2.2.2.2.1, h.2.2.2.2.2.2.trans k⟩
theorem BldV.congr {n : Nat} {w : World} {bk : Nat} {G G' : Pm n → Prop} {S : List Nat} (h : BldV w bk G S) (e : ∀ x, G x ↔ G' x) : BldV w bk G' S := by
  obtain ⟨a, c, b, d, h1, h2⟩ := h
  exact ⟨a, c, b, d, h1, h2.congr e⟩
theorem BldV.below {n : Nat} {w w' : World} {bk : Nat} {G : Pm n → Prop} {S : List Nat} (h : BldV w bk G S) (k : Below w.heap.size w w') : BldV w' bk G S := by
  obtain ⟨a, c, b, d, h1, h2⟩ := h
  exact ⟨a, c, b, d, (k.block bk (Array.getElem?_eq_some_iff.1 h1).1).trans h1, h2.below k⟩
theorem BldV.lt {n : Nat} {w : World} {bk : Nat} {G : Pm n → Prop} {S : List Nat} (h : BldV w bk G S) : bk < w.heap.size := by
  obtain ⟨a, c, b, d, h1, h2⟩ := h
  exact (Array.getElem?_eq_some_iff.1 h1).1
theorem grp_start {n : Nat} (x : Pm n) : Grp (n := n) (· ∈ ([] : List (Pm n))) x ↔ Grp (fun x : Pm n => False ∨ x ∈ ([] : List (Pm n))) x :=
  ⟨Grp.sub Grp.isG (fun z hz => by cases hz), Grp.sub Grp.isG (fun z hz => by rcases hz with h | h; cases h; cases h)⟩
theorem grp_more {n : Nat} {G : Pm n → Prop} {l : List (Pm n)} (x : Pm n) : Grp (fun x => G x ∨ x ∈ l) x ↔ Grp (fun x => (G x ∨ x ∈ l) ∨ x ∈ ([] : List (Pm n))) x :=
  ⟨Grp.sub Grp.isG (fun z hz => Grp.base (.inl hz)), Grp.sub Grp.isG (fun z hz => by rcases hz with h | h; exact Grp.base h; cases h)⟩
theorem grp_both {n : Nat} {G1 G2 : Pm n → Prop} {l1 l2 : List (Pm n)} (h1 : ∀ x, Grp (· ∈ l1) x ↔ G1 x) (h2 : ∀ x, Grp (· ∈ l2) x ↔ G2 x) (x : Pm n) : Grp (fun x => (False ∨ x ∈ l1) ∨ x ∈ l2) x ↔ Grp (fun x => G1 x ∨ G2 x) x :=
  ⟨Grp.sub Grp.isG (fun z hz => by
    rcases hz with (h | h) | h
    · cases h
    · exact Grp.base (.inl ((h1 z).1 (Grp.base h)))
    · exact Grp.base (.inr ((h2 z).1 (Grp.base h)))), Grp.sub Grp.isG (fun z hz => by
    rcases hz with h | h
    · exact Grp.sub Grp.isG (fun y hy => Grp.base (.inl (.inr hy))) ((h1 z).2 h)
    · exact Grp.sub Grp.isG (fun y hy => Grp.base (.inr hy)) ((h2 z).2 h))⟩
theorem sgen4096 {n : Nat} {G : Pm n → Prop} {O : Nat → List Nat} {R : Nat → Nat → Pm n} (hG : ChG G O R) (hn : n ≤ 64) : (sgen n O R n).length ≤ 4096 :=
  Nat.le_trans (sgen_len hG hn n (Nat.le_refl _)) (Nat.le_trans (Nat.mul_le_mul_right 63 hn) (by decide))
theorem Kept.below1 {w w' : World} {bk D : Nat} (h : Kept w w' [bk]) (hd : D ≤ w.heap.size) (hb : D ≤ bk) : Below D w w' := h.below hd (fun q hq => by rw [List.mem_singleton.1 hq]; exact hb)
set_option maxRecDepth 100000 in
set_option maxHeartbeats 4000000 in
theorem join23 {n : Nat} (hn : 0 < n ∧ n ≤ 64) {w : World} {v1 v2 : Value} {G1 G2 : Pm n → Prop} (g1 : IsG G1) (g2 : IsG G2) (h1 : GrG w v1 G1) (h2 : GrG w v2 G2) :
    Calls Tryz.prog 23 #[v1, v2] w fun e w' => ∃ a c b d, e = .returned (.tuple #[.agg #[.int .i64 (n : Int), .slice a n c, .slice b n d], .int .i64 0]) ∧ Below w.heap.size w w' ∧
      ∀ S, (∀ m ∈ S, m < w.heap.size) → GrS w' (.agg #[.int .i64 (n : Int), .slice a n c, .slice b n d]) (Grp fun x => G1 x ∨ G2 x) S := by
  obtain ⟨os1, rs1, os2, rs2, p1, p2, p3⟩ := GrG.pair0 hn g1 g2 h1 h2
  have hpr := fun (V : World) (hV : Below w.heap.size w V) => pair70 (p1.below hV) (p2.below hV)
  rw [p3] at hpr
  obtain ⟨T1, t1, ab, ao, c, bb, bo, e, rfl, l1⟩ := h1.lev g1 ⟨hn.1, hn.2⟩
  obtain ⟨T2, t2, ab', ao', c', bb', bo', e', rfl, l2⟩ := h2.lev g2 ⟨hn.1, hn.2⟩
  have hC1 := t1.chG g1
  have hC2 := t2.chG g2
  have hs1 := sgen_grp g1 t1
  have hs2 := sgen_grp g2 t2
  obtain ⟨X, hX⟩ : ∃ X, w.heap.size = X := ⟨_, rfl⟩
  obtain ⟨W1, hW1⟩ : ∃ W1, ((w.alloc (.cells #[.int .i64 (n : Int), .slice (some ⟨ab, ao, none⟩) n c, .slice (some ⟨bb, bo, none⟩) n e] 25)).alloc (.cells #[.int .i64 (n : Int), .slice (some ⟨ab', ao', none⟩) n c', .slice (some ⟨bb', bo', none⟩) n e'] 25)).alloc (.cells #[.int .i64 0, .slice none 0 0, .slice none 0 0] 25) = W1 := ⟨_, rfl⟩
  have hsz : W1.heap.size = X + 3 := by rw [← hW1]; simp [hX]
  have hwW : Below w.heap.size w W1 := hW1 ▸ alloc_b (alloc_b (alloc_b (Below.refl _ _) _) _) _
  have k0 : W1.heap[X]? = some (.cells #[.int .i64 (n : Int), .slice (some ⟨ab, ao, none⟩) n c, .slice (some ⟨bb, bo, none⟩) n e] 25) := by
    rw [← hW1]
    exact ((alloc_b (Below.refl _ _) _).block X (by simp; omega)).trans (((alloc_b (Below.refl _ _) _).block X (by simp; omega)).trans (box_al25 hX _ _ _))
  have k1 : W1.heap[X + 1]? = some (.cells #[.int .i64 (n : Int), .slice (some ⟨ab', ao', none⟩) n c', .slice (some ⟨bb', bo', none⟩) n e'] 25) := by
    rw [← hW1]
    exact ((alloc_b (Below.refl _ _) _).block (X + 1) (by simp; omega)).trans (box_al25 (by simp [hX]) _ _ _)
  have k2 : W1.heap[X + 2]? = some (.cells #[.int .i64 0, .slice none 0 0, .slice none 0 0] 25) := by
    rw [← hW1]
    exact box_al25 (by simp [hX]) _ _ _
  obtain ⟨x0, x1, x2, _⟩ := box_cells k0
  obtain ⟨y0, y1, y2, _⟩ := box_cells k1
  have HB := Lib.hid (And.intro k0 (And.intro k1 (And.intro k2 (And.intro hsz (And.intro hwW hX)))))
  have HC := Lib.hid (And.intro hpr (And.intro l1 (And.intro l2 (And.intro hC1 (And.intro hC2 (And.intro hs1 hs2))))))
  clear hpr l1 l2 hC1 hC2 hs1 hs2 k0 k1 k2 hsz hwW h1 h2 p1 p2 p3 t1 t2
  go_enter Tryz.func23, Tryz.ntmps23
  try rw [hX]
  go_wp2_with (go_at_call 70; (with_reducible refine (HC.out.1 _ HB.out.2.2.2.2.1).mono ?_); rintro e0 w2 ⟨rfl, k1⟩; have H2 := Lib.hid k1; clear k1)
  obtain ⟨z0, z1, z2, _⟩ := box_cells ((H2.out.block X (by rw [HB.out.2.2.2.1]; omega)).trans HB.out.1)
  obtain ⟨z3, z4, z5, _⟩ := box_cells ((H2.out.block (X + 1) (by rw [HB.out.2.2.2.1]; omega)).trans HB.out.2.1)
  have hx0 := And.intro z0 (And.intro z1 (And.intro z2 (And.intro z3 (And.intro z4 (And.intro z5 (Below.refl (X + 3) w2))))))
  have hX3 : X + 3 ≤ w2.heap.size := by have := H2.out.size; rw [HB.out.2.2.2.1] at this; exact this
  have hw2 : Below w.heap.size w w2 := below_trans HB.out.2.2.2.2.1 H2.out
  have hR : ∀ m ∈ List.range (X + 3), m < w2.heap.size := fun m hm => Nat.lt_of_lt_of_le (List.mem_range.1 hm) hX3
  have HXX := Lib.hid (show w.heap.size ≤ X + 3 by rw [HB.out.2.2.2.2.2]; omega)
  have HR := Lib.hid (And.intro hX3 (And.intro hw2 hR))
  clear hw2 hR
  go_region_law
    (first
      | (go_simp; go_at_call 72; (with_reducible refine (with72 hn H6.out.2.2.2 (sgen4096 HC.out.2.2.2.2.1 hn.2) (pmsN_own H6.out.1 H5.out.1.lt H6.out.2.1 H6.out.2.2.1 HK.out (sgen4096 HC.out.2.2.2.2.1 hn.2)) (fun m hm => Nat.lt_of_lt_of_le (List.mem_range.1 hm) ?_)).mono ?_)
         exact Nat.le_trans hX3 b6.size
         rintro e7 w7 ⟨rfl, k1, k2⟩
         have b7 : Below (X + 3) w2 w7 := b6.trans (k2.below1 (Nat.le_trans hX3 b6.size) HK3.out)
         obtain ⟨a7, c7, b7', d7, hb7, hg7⟩ := k1
         obtain ⟨q0, q1, q2, _⟩ := b81_cells hb7
         have hr7 := (b7.block (X + 2) (by omega)).trans ((H2.out.block (X + 2) (by rw [HB.out.2.2.2.1]; omega)).trans HB.out.2.2.1)
         obtain ⟨r0, r1, r2, r3, r4, r5⟩ := box_cells hr7
         have H7 := Lib.hid (And.intro hg7 hr7)
         clear k2 hb7 hg7 hr7)
      | (go_simp; go_at_call 73; (with_reducible refine (strong73 (c := c') (e := e') hn HC.out.2.2.2.2.1 HC.out.2.2.1 H5.out.2).mono ?_)
         rintro e6 w6 ⟨v6, us6, rfl, k1, k2, k3, k4⟩
         have b6 : Below (X + 3) w2 w6 := b5.trans (k4.mono (Nat.le_trans hX3 b5.size))
         have H6 := Lib.hid (And.intro k1 (And.intro k2 (And.intro (below_trans H5.out.2 k4) (H5.out.1.below k4))))
         clear k1 k2 k3 k4)
      | (go_simp; go_at_call 72; (with_reducible refine (with72 hn H4.out.2.2.2 (sgen4096 HC.out.2.2.2.1 hn.2) (pmsN_own H4.out.1 H3.out.2.1.lt H4.out.2.1 H4.out.2.2.1 HK.out (sgen4096 HC.out.2.2.2.1 hn.2)) (fun m hm => Nat.lt_of_lt_of_le (List.mem_range.1 hm) ?_)).mono ?_)
         exact Nat.le_trans hX3 b4.size
         rintro e5 w5 ⟨rfl, k1, k2⟩
         have b5 : Below (X + 3) w2 w5 := b4.trans (k2.below1 (Nat.le_trans hX3 b4.size) HK3.out)
         obtain ⟨j0, j1, j2, j3, j4, j5, _⟩ := keep6J hx0 b5
         have H5 := Lib.hid (And.intro (k1.congr grp_more) (show Below w.heap.size w w5 from HR.out.2.1.trans (b5.mono HXX.out)))
         clear k1 k2)
      | (go_simp; go_at_call 73; (with_reducible refine (strong73 (c := c) (e := e) hn HC.out.2.2.2.1 HC.out.2.1 (below_trans HR.out.2.1 H3.out.2.2)).mono ?_)
         rintro e4 w4 ⟨v4, us4, rfl, k1, k2, k3, k4⟩
         have b4 : Below (X + 3) w2 w4 := (below_trans H3.out.2.2 k4).mono hX3
         obtain ⟨i0, i1, i2, i3, i4, i5, _⟩ := keep6J hx0 b4
         have H4 := Lib.hid (And.intro k1 (And.intro k2 (And.intro (below_trans HR.out.2.1 (below_trans H3.out.2.2 k4)) (H3.out.2.1.below k4))))
         clear k1 k2 k3 k4)
      | (go_simp; go_at_call 71; (with_reducible refine (from71 hn).mono ?_)
         rintro e3 w3 ⟨bk, rfl, k1, k2, k3⟩
         have b3' : Below w2.heap.size w2 w3 := below_trans (by first | exact Below.refl _ _ | exact below_drw (Below.refl _ _)) k2
         have b3 : Below (X + 3) w2 w3 := b3'.mono hX3
         have hbk : w2.heap.size ≤ bk := k1
         obtain ⟨gg0, gg1, gg2, gg3, gg4, gg5, _⟩ := keep6J hx0 b3
         have HK3 := Lib.hid (show X + 3 ≤ bk from Nat.le_trans hX3 hbk)
         have HK := Lib.hid (show w.heap.size ≤ bk from by rw [HB.out.2.2.2.2.2]; have := HK3.out; omega)
         have H3 := Lib.hid (And.intro hbk (And.intro ((k3 (List.range (X + 3)) (fun m hm => HR.out.2.2 m hm)).congr grp_start) b3'))
         clear k1 k2 k3 b3' hbk))
  all_goals
    go_wp2_with fail
    have hfin : (set3 w7 (X + 1 + 1) (.int .i64 (n : Int)) (.slice a7 n c7) (.slice b7' n d7)).heap[X + 1 + 1]? = some (.cells #[.int .i64 (n : Int), .slice a7 n c7, .slice b7' n d7] 25) := set3_box H7.out.2
    obtain ⟨V, hV⟩ : ∃ V, set3 w7 (X + 1 + 1) (.int .i64 (n : Int)) (.slice a7 n c7) (.slice b7' n d7) = V := ⟨_, rfl⟩
    have hKp : Kept w7 V [X + 1 + 1] := hV ▸ set3_kept (by simp)
    rw [hV] at hfin
    unfold set3 at hV
    rw [hV]
    obtain ⟨f0, f1, f2, _⟩ := box_cells hfin
    refine bodyPost_ret (v := .tuple #[.agg #[.int .i64 (n : Int), .slice a7 n c7, .slice b7' n d7], .int .i64 0]) (by simp [results, Tryz.results23, go_sem, f0, f1, f2]) rfl ?_
    refine ⟨a7, c7, b7', d7, rfl, ?_, fun S hS => ?_⟩
    · have h1 := HR.out.2.1.trans (b7.mono HXX.out)
      rw [HB.out.2.2.2.2.2] at h1
      have h2 := h1.size
      exact h1.trans (hKp.below1 (by have := b7.size; omega) (by omega))
    · refine ((H7.out.1.kept (hKp.mono (fun q hq => ?_))).congr (grp_both HC.out.2.2.2.2.2.1 HC.out.2.2.2.2.2.2)).ext (fun q hq => .inl (List.mem_cons_of_mem _ (List.mem_range.2 ?_)))
      · rw [List.mem_singleton.1 hq]
        exact List.mem_cons_of_mem _ (List.mem_range.2 (by omega))
      · have := hS q hq; omega
end Go.Proofs.YtbejhkojdiadaaaGreat
namespace Go.Proofs.YtbejhkojdiadaaaGreat
open Go.RowKit PlainPm
namespace PlainPm
section
variable {n : Nat} {G : Pm n → Prop} {T : Tw n}
def agen (T : Tw n) : List (Pm n) := (List.range n).flatMap fun i => (orbO T i).map (PlainPm.repT T i)
theorem agen_grp (hG : IsG G) (h : Of G T) (x : Pm n) : Grp (· ∈ agen T) x ↔ G x := by
  have hc := h.chG hG
  constructor
  · refine Grp.sub hG fun s hs => ?_
    obtain ⟨i, hi, hs⟩ := List.mem_flatMap.1 hs
    obtain ⟨p, hp, rfl⟩ := List.mem_map.1 hs
    exact (hc.rep i (List.mem_range.1 hi) p hp).1
  · intro hx
    exact hc.gen (M := fun y => y ∈ agen T) (fun i hi p hp => List.mem_flatMap.2 ⟨i, List.mem_range.2 hi, List.mem_map.2 ⟨p, hp, rfl⟩⟩) (f := n) (i := 0) (by omega) (fun j hj => by omega) hx
theorem agen_flat (T : Tw n) : (agen T).map (·.l) = (repI T n).flatten := by
  unfold agen repI
  rw [List.map_flatMap, List.flatMap_def]
  congr 1
  simp [Function.comp_def]
  exact fun a _ => rfl
theorem agen_len (hG : IsG G) (h : Of G T) : (agen T).length ≤ n * n := by
  have hc := h.chG hG
  have key : ∀ k, k ≤ n → ((List.range k).flatMap fun i => (orbO T i).map (PlainPm.repT T i)).length ≤ k * n := by
    intro k
    induction k with
    | zero => intro _; simp
    | succ k ih =>
      intro hk
      have h1 := ih (by omega)
      have h2 := hc.short (i := k) (by omega)
      rw [List.range_succ, List.flatMap_append, List.length_append, Nat.succ_mul]
      simp only [List.flatMap_cons, List.flatMap_nil, List.append_nil, List.length_map]
      have h2 : (orbO T k).length ≤ n := h2
      omega
  exact key n (Nat.le_refl _)
end
end PlainPm
set_option maxRecDepth 100000 in
set_option maxHeartbeats 1000000 in
theorem strong46o {w w0 : World} {d : Int} {a b : Option Addr} {lo lr c e : Nat} {rs : List (List (List Int))} (h0 : Below w0.heap.size w0 w) (h : Rows2 w0 b rs) (hlr : rs.length = lr) (hl : lr ≤ 64) (hs : ∀ xss ∈ rs, 0 < xss.length ∧ xss.length ≤ 64) :
    Calls Tryz.prog 46 #[.agg #[.int .i64 d, .slice a lo c, .slice b lr e]] w fun e w' => ∃ v us, e = .returned v ∧ Own w' w.heap.size v 27 us ∧ RV w0 us rs.flatten ∧ Below w.heap.size w w' := by
  obtain ⟨i27, hi27, hz27, hs27, hb27⟩ := info_parts Tryz.info27
  have I27 := Lib.hid (And.intro hi27 (And.intro hz27 (And.intro hs27 hb27)))
  clear hi27 hz27 hs27 hb27
  obtain ⟨vs, h1, h2, h3⟩ := h
  obtain ⟨W1, hW1⟩ : ∃ W1, W1 = w.alloc (.cells #[.int .i64 d, .slice a lo c, .slice b lr e] 25) := ⟨_, rfl⟩
  have hbw : Below w.heap.size w W1 := by rw [hW1]; exact alloc_b (Below.refl _ _) _
  have hc1 : W1.heap[w.heap.size]? = some (.cells #[.int .i64 d, .slice a lo c, .slice b lr e] 25) := by rw [hW1]; exact World.alloc_heap_new w _
  have hlt : w.heap.size < W1.heap.size := by rw [hW1]; simp
  have H := Lib.hid (And.intro h1 (And.intro h2 (And.intro h3 (And.intro hlr (And.intro hs (And.intro hbw (And.intro hc1 (And.intro hlt (below_trans h0 hbw)))))))))
  clear h1 h2 h3 hlr hs hbw hc1 hlt h0
  go_enter Tryz.func46, Tryz.ntmps46
  go_wp2_with fail
  try rw [← hW1]
  clear hW1
  go_loopw [3, 4] (fun v i wr => ∃ (k : Nat) (us : List Value), k ≤ lr ∧ i = .int .i64 (k : Int) ∧ Own wr W1.heap.size v 27 us ∧ RV w0 us (rs.take k).flatten ∧ us.length ≤ k * 64 ∧ Below W1.heap.size W1 wr) (fun _ i _ => lr - (intOf i).toNat)
  case atStart => exact ⟨0, [], by omega, rfl, Own.nil _ _ _, ⟨rfl, fun i u xs h => by simp at h⟩, by simp, Below.refl _ _⟩
  case round =>
    obtain ⟨k, us, hk, rfl, ho, hp, hul, hb⟩ := hrel
    obtain ⟨x0, x1, x2, _, _, _⟩ := box_cells ((hb.block _ H.out.2.2.2.2.2.2.2.1).trans H.out.2.2.2.2.2.2.1)
    have hsz := hb.size
    have HP := Lib.hid (And.intro ho (And.intro hp (And.intro hul hb)))
    clear ho hp hul hb
    by_cases hkl : k < lr
    · obtain ⟨xss, hx⟩ : ∃ x, rs[k]? = some x := ⟨_, List.getElem?_eq_getElem (by rw [H.out.2.2.2.1]; exact hkl)⟩
      obtain ⟨u, hu⟩ : ∃ x, vs[k]? = some x := ⟨_, List.getElem?_eq_getElem (by rw [H.out.2.1, H.out.2.2.2.1]; exact hkl)⟩
      obtain ⟨ra, rc, rfl, qs, r1, r2, r3⟩ := H.out.2.2.1 k u xss hu hx
      obtain ⟨hl0, hl64⟩ := H.out.2.2.2.2.1 xss (List.mem_of_getElem? hx)
      have hbw := below_trans H.out.2.2.2.2.2.2.2.2 HP.out.2.2.2
      obtain ⟨ab, ao, hae, _, hac⟩ := (H.out.1.below hbw).2 k _ hu
      subst hae
      have r1' := r1.below hbw
      obtain ⟨fb, fo, hra, _, _⟩ := r1'.2 0 _ (List.getElem?_eq_getElem (by rw [r2]; exact hl0))
      subst hra
      obtain ⟨m, hm⟩ : ∃ m, xss.length = m := ⟨_, rfl⟩
      rw [hm] at hac
      have hsrc : ∀ j y, qs[j]? = some y → wr.cell? ⟨fb, fo + j, none⟩ = some y := fun j y hy => by
        obtain ⟨b', o', e1, _, h⟩ := r1'.2 j y hy
        cases e1; exact h
      have hRV : RV w0 qs xss := ⟨r2, r3⟩
      have HQ := Lib.hid (And.intro hx (And.intro hRV (And.intro hsrc (And.intro (r2.trans hm) hRV.one_))))
      have hk1 : (k : Int) < lr := by omega
      have hm64 : m ≤ 64 := by omega
      have hul : us.length + m < 1099511627776 := by
        have := HP.out.2.2.1
        have : k * 64 ≤ 64 * 64 := Nat.mul_le_mul (by omega) (Nat.le_refl _)
        omega
      clear hx hu hsrc hRV hm hl64
      go_wp2_with (at_builtin; refine appN rfl (.tmp 12) (.tmp 17) 44 27 rfl i27 (.slice none 0 0) 24 Tryz.underlying44 I27.out.1 I27.out.2.1 I27.out.2.2.1 I27.out.2.2.2 rfl (by omega) W1.heap.size _ us qs rfl HP.out.1 fb fo m rc rfl HQ.out.2.2.2.1 HQ.out.2.2.1 HQ.out.2.2.2.2 hul hsz ?_; intro v8 w8 k1 k2 k3; have H8 := Lib.hid (And.intro k1 (And.intro k2 k3)); clear k1 k2 k3)
      refine ⟨⟨k + 1, us ++ qs, by omega, by go_num, H8.out.1, ?_, ?_, HP.out.2.2.2.grown H8.out.2.1 (by omega) (fun g hg => (HP.out.1.block_lt hg).2)⟩, by simp [intOf]; omega⟩
      · rw [List.take_add_one, HQ.out.1, Option.toList_some, List.flatten_append]
        simpa using HP.out.2.1.app HQ.out.2.1
      · rw [List.length_append, HQ.out.2.2.2.1]; have := HP.out.2.2.1; omega
    · obtain rfl : k = lr := by omega
      have hk1 : ¬ (k : Int) < k := by omega
      go_wp2_with fail
      go_ret
      have h5 := HP.out.2.1
      rw [List.take_of_length_le (by rw [H.out.2.2.2.1]; omega)] at h5
      exact ⟨_, rfl, us, HP.out.1.mono (by have := H.out.2.2.2.2.2.2.2.1; omega), h5, below_trans H.out.2.2.2.2.2.1 HP.out.2.2.2⟩
theorem strong46g {n : Nat} (hn : 0 < n ∧ n ≤ 64) {w w0 : World} {v : Value} {G : Pm n → Prop} {T : Tw n} (hG : IsG G) (hT : Of G T) (h : ChV w0 v n (orbI T n) (repI T n)) (h0 : Below w0.heap.size w0 w) :
    Calls Tryz.prog 46 #[v] w fun e w' => ∃ v us, e = .returned v ∧ Own w' w.heap.size v 27 us ∧ RV w0 us ((PlainPm.agen T).map (·.l)) ∧ us.length ≤ n * n ∧ Below w.heap.size w w' := by
  obtain ⟨a, c, b, e, rfl, h1, h2⟩ := h
  have hc := hT.chG hG
  refine (strong46o h0 h2 rfl (by simp [repI]; omega) (fun xss hx => ?_)).mono fun e' w' ⟨v, us, k1, k2, k3, k4⟩ => ?_
  · obtain ⟨i, hi, rfl⟩ := List.mem_map.1 hx
    have hi := List.mem_range.1 hi
    obtain ⟨r, hr⟩ := orbO_head hG hT hi
    have hs : (PlainPm.orbO T i).length ≤ n := hc.short hi
    have hr' : (ptsOf n (T i).orb) = i :: r := hr
    rw [List.length_map]
    have hs' : (ptsOf n (T i).orb).length ≤ n := hs
    refine ⟨by rw [hr']; simp, by omega⟩
  · rw [← PlainPm.agen_flat] at k3
    exact ⟨v, us, k1, k2, k3, by rw [k3.1, List.length_map]; exact PlainPm.agen_len hG hT, k4⟩
end Go.Proofs.YtbejhkojdiadaaaGreat
namespace Go.Proofs.YtbejhkojdiadaaaGreat
open Go.RowKit PlainPm
theorem grp_two {n : Nat} {G1 G2 : Pm n → Prop} {l1 l2 : List (Pm n)} (h1 : ∀ x, Grp (· ∈ l1) x ↔ G1 x) (h2 : ∀ x, Grp (· ∈ l2) x ↔ G2 x) (x : Pm n) : Grp (· ∈ l1 ++ l2) x ↔ Grp (fun x => G1 x ∨ G2 x) x :=
  ⟨Grp.sub Grp.isG (fun z hz => by
    rcases List.mem_append.1 hz with h | h
    · exact Grp.base (.inl ((h1 z).1 (Grp.base h)))
    · exact Grp.base (.inr ((h2 z).1 (Grp.base h)))), Grp.sub Grp.isG (fun z hz => by
    rcases hz with h | h
    · exact Grp.sub Grp.isG (fun y hy => Grp.base (List.mem_append_left _ hy)) ((h1 z).2 h)
    · exact Grp.sub Grp.isG (fun y hy => Grp.base (List.mem_append_right _ hy)) ((h2 z).2 h))⟩
theorem agen_pos {n : Nat} {G : Pm n → Prop} {T : Tw n} (hG : IsG G) (h : Of G T) (hn : 0 < n) : 0 < (agen T).length := by
  obtain ⟨r, hr⟩ := orbO_head hG h hn
  have hm : PlainPm.repT T 0 0 ∈ agen T := List.mem_flatMap.2 ⟨0, List.mem_range.2 hn, List.mem_map.2 ⟨0, by rw [hr]; simp, rfl⟩⟩
  exact List.length_pos_of_mem hm
theorem step_appN {w : World} {ops : Array Oper} {o : Oper} {a : Act} {K : Act → World → Prop} {Q : Exit → Act → World → Prop} {E : Prop} (hgd : o.guard = none) (s x : Operand) (T e : TypeId)
    (ho : o.op = .call { callee := .builtin .append, args := #[s, x], argTypes := #[T, T] })
    (i : TypeInfo) (z : Value) (bytes : Nat) (ht : Tryz.prog.underlying T = some (.slice e)) (hi : Tryz.prog.info? e = some i) (hz : i.zero = some z) (hs1 : i.size = 1) (hby : i.bytes = bytes) (hzs : z.cells.size = 1) (hb64 : bytes ≤ 64)
    (B : Nat) (v : Value) (xs ys : List Value) (hs : a.eval s = v) (h : Own w B v e xs) (g m c : Nat) (hx : a.eval x = .slice (some ⟨g, 0, none⟩) m c) (hm : ys.length = m)
    (hsrc : ∀ j y, ys[j]? = some y → w.cell? ⟨g, j, none⟩ = some y) (h1 : ∀ y ∈ ys, y.oneCell' = true) (hl : xs.length + m < 1000000) (hB : B ≤ w.heap.size)
    (hK : ∀ v' w', Own w' B v' e (xs ++ ys) → w.grownBy w' v.ownBlock → K (a.put o.dst v') w') :
    if Region.wanted o (yielded ops a.tmps) = true then Oper.wp Tryz.prog o a w K Q else E := by
  have hw : Region.wanted o (yielded ops a.tmps) = true := by simp [Region.wanted, hgd]
  rw [if_pos hw]
  have hown : w.ownsRow B e 1 v xs.length xs := h
  obtain ⟨v', w', hr, h2, h3, _, h5⟩ := run_append_own_at (P := Tryz.prog) w B T o.type e i z 1 bytes ht hi hz hs1 hby hzs (by omega) v xs.length xs hown ⟨g, 0, none⟩ m c ys (by omega) (by
    intro j y hj
    rw [add_zero_addr, Nat.zero_add]; exact hsrc j y hj) h1 (by unfold maxLen; omega) (Nat.le_trans (Nat.mul_le_mul_left _ hb64) (by omega)) hB
  unfold Oper.wp execOp
  simp only [ho, resolve, invoke, builtin, Sem.run_bind, Sem.run_pure, Result.andThen_ok, List.map_toArray, List.map_cons, List.map_nil, hs, hx, hr]
  exact hK v' w' (by unfold Own; rw [List.length_append, hm]; exact h2) h3
set_option maxRecDepth 100000 in
set_option maxHeartbeats 4000000 in
theorem join24 {n : Nat} (hn' : 0 < n ∧ n ≤ 32) {w : World} {v1 v2 : Value} {G1 G2 : Pm n → Prop} (g1 : IsG G1) (g2 : IsG G2) (h1 : GrG w v1 G1) (h2 : GrG w v2 G2) :
    Calls Tryz.prog 24 #[v1, v2] w fun e w' => ∃ a c b d, e = .returned (.tuple #[.agg #[.int .i64 (n : Int), .slice a n c, .slice b n d], .int .i64 0]) ∧ Below w.heap.size w w' ∧
      ∀ S, (∀ m ∈ S, m < w.heap.size) → GrS w' (.agg #[.int .i64 (n : Int), .slice a n c, .slice b n d]) (Grp fun x => G1 x ∨ G2 x) S := by
  have hn : 0 < n ∧ n ≤ 64 := ⟨hn'.1, by omega⟩
  obtain ⟨i27, hi27, hz27, hs27, hb27⟩ := info_parts Tryz.info27
  have I27 := Lib.hid (And.intro hi27 (And.intro hz27 (And.intro hs27 hb27)))
  clear hi27 hz27 hs27 hb27
  obtain ⟨os1, rs1, os2, rs2, p1, p2, p3⟩ := GrG.pair0 hn g1 g2 h1 h2
  have hpr := fun (V : World) (hV : Below w.heap.size w V) => pair74 (p1.below hV) (p2.below hV)
  rw [p3] at hpr
  obtain ⟨_, _, ab, ao, c, bb, bo, e, hv1, _⟩ := h1.lev g1 ⟨hn.1, hn.2⟩
  obtain ⟨_, _, ab', ao', c', bb', bo', e', hv2, _⟩ := h2.lev g2 ⟨hn.1, hn.2⟩
  subst hv1
  subst hv2
  obtain ⟨T1, t1, ch1, _⟩ := h1.ch
  obtain ⟨T2, t2, ch2, _⟩ := h2.ch
  have l1 := fun (V : World) (hV : Below w.heap.size w V) => strong46g hn g1 t1 ch1 hV
  have l2 := fun (V : World) (hV : Below w.heap.size w V) => strong46g hn g2 t2 ch2 hV
  have hC1 := agen_grp g1 t1
  have hC2 := agen_grp g2 t2
  have hs1 := agen_len g1 t1
  have hs2 := agen_len g2 t2
  have HP2 := Lib.hid (agen_pos g2 t2 hn.1)
  obtain ⟨X, hX⟩ : ∃ X, w.heap.size = X := ⟨_, rfl⟩
  obtain ⟨W1, hW1⟩ : ∃ W1, ((w.alloc (.cells #[.int .i64 (n : Int), .slice (some ⟨ab, ao, none⟩) n c, .slice (some ⟨bb, bo, none⟩) n e] 25)).alloc (.cells #[.int .i64 (n : Int), .slice (some ⟨ab', ao', none⟩) n c', .slice (some ⟨bb', bo', none⟩) n e'] 25)).alloc (.cells #[.int .i64 0, .slice none 0 0, .slice none 0 0] 25) = W1 := ⟨_, rfl⟩
  have hsz : W1.heap.size = X + 3 := by rw [← hW1]; simp [hX]
  have hwW : Below w.heap.size w W1 := hW1 ▸ alloc_b (alloc_b (alloc_b (Below.refl _ _) _) _) _
  have k0 : W1.heap[X]? = some (.cells #[.int .i64 (n : Int), .slice (some ⟨ab, ao, none⟩) n c, .slice (some ⟨bb, bo, none⟩) n e] 25) := by
    rw [← hW1]
    exact ((alloc_b (Below.refl _ _) _).block X (by simp; omega)).trans (((alloc_b (Below.refl _ _) _).block X (by simp; omega)).trans (box_al25 hX _ _ _))
  have k1 : W1.heap[X + 1]? = some (.cells #[.int .i64 (n : Int), .slice (some ⟨ab', ao', none⟩) n c', .slice (some ⟨bb', bo', none⟩) n e'] 25) := by
    rw [← hW1]
    exact ((alloc_b (Below.refl _ _) _).block (X + 1) (by simp; omega)).trans (box_al25 (by simp [hX]) _ _ _)
  have k2 : W1.heap[X + 2]? = some (.cells #[.int .i64 0, .slice none 0 0, .slice none 0 0] 25) := by
    rw [← hW1]
    exact box_al25 (by simp [hX]) _ _ _
  obtain ⟨x0, x1, x2, _⟩ := box_cells k0
  obtain ⟨y0, y1, y2, _⟩ := box_cells k1
  have HB := Lib.hid (And.intro k0 (And.intro k1 (And.intro k2 (And.intro hsz (And.intro hwW hX)))))
  have HC := Lib.hid (And.intro hpr (And.intro l1 (And.intro l2 (And.intro hC1 (And.intro hC2 (And.intro hs1 hs2))))))
  clear hpr l1 l2 hC1 hC2 hs1 hs2 k0 k1 k2 hsz hwW h1 h2 p1 p2 p3 t1 t2 ch1 ch2
  go_enter Tryz.func24, Tryz.ntmps24
  try rw [hX]
  go_wp2_with (go_at_call 74; (with_reducible refine (HC.out.1 _ HB.out.2.2.2.2.1).mono ?_); rintro e0 w2 ⟨rfl, k1⟩; have H2 := Lib.hid k1; clear k1)
  obtain ⟨z0, z1, z2, _⟩ := box_cells ((H2.out.block X (by rw [HB.out.2.2.2.1]; omega)).trans HB.out.1)
  obtain ⟨z3, z4, z5, _⟩ := box_cells ((H2.out.block (X + 1) (by rw [HB.out.2.2.2.1]; omega)).trans HB.out.2.1)
  have hx0 := And.intro z0 (And.intro z1 (And.intro z2 (And.intro z3 (And.intro z4 (And.intro z5 (Below.refl (X + 3) w2))))))
  have hX3 : X + 3 ≤ w2.heap.size := by have := H2.out.size; rw [HB.out.2.2.2.1] at this; exact this
  have hw2 : Below w.heap.size w w2 := below_trans HB.out.2.2.2.2.1 H2.out
  have HXX := Lib.hid (show w.heap.size ≤ X + 3 by rw [HB.out.2.2.2.2.2]; omega)
  have hlen : (agen T1 ++ agen T2).length ≤ 4096 := by
    have q1 := HC.out.2.2.2.2.2.1
    have q2 := HC.out.2.2.2.2.2.2
    have q3 : n * n ≤ 32 * 32 := Nat.mul_le_mul hn'.2 hn'.2
    rw [List.length_append]; omega
  have HR := Lib.hid (And.intro hX3 (And.intro hw2 hlen))
  have hr2 := (H2.out.block (X + 2) (by rw [HB.out.2.2.2.1]; omega)).trans HB.out.2.2.1
  have HR2 := Lib.hid hr2
  clear hw2 hlen hr2
  go_region_law
    (first
      | (go_simp; go_at_call 46; (with_reducible refine (HC.out.2.2.1 _ (below_trans HR.out.2.1 H4.out.2.2.2)).mono ?_)
         rintro e5 w5 ⟨v5, us5, rfl, k1, k2, k3, k4⟩
         have b5 : Below (X + 3) w2 w5 := b4.trans (k4.mono (Nat.le_trans hX3 b4.size))
         obtain ⟨j0, j1, j2, j3, j4, j5, _⟩ := keep6J hx0 b5
         obtain ⟨g5, c5, rfl, hg5, -, -, -⟩ := k1.form (by rw [k2.1, List.length_map]; exact HP2.out)
         have hl5 : us4.length + us5.length < 1000000 := by
           have q3 : n * n ≤ 32 * 32 := Nat.mul_le_mul hn'.2 hn'.2
           have q4 := H4.out.2.2.1
           omega
         have hB5 : w2.heap.size ≤ w5.heap.size := Nat.le_trans H4.out.2.2.2.size k4.size
         have B5 := Lib.hid (below_trans H4.out.2.2.2 k4)
         have H5 := Lib.hid (And.intro k1 (And.intro k2 (And.intro (H4.out.1.below k4) k4)))
         clear k1 k2 k3 k4)
      | (refine step_appN ?_ (.tmp 17) (.tmp 19) 44 27 ?_ i27 (.slice none 0 0) 24 Tryz.underlying44 I27.out.1 I27.out.2.1 I27.out.2.2.1 I27.out.2.2.2 ?_ ?_ w2.heap.size v4 us4 us5 ?_ H5.out.2.2.1 g5 us5.length c5 ?_ ?_ ?_ H5.out.2.1.one_ hl5 hB5 ?_
         rfl
         rfl
         rfl
         omega
         rfl
         rfl
         rfl
         exact fun j y hy => (H5.out.1.cell j (List.getElem?_eq_some_iff.1 hy).1).trans hy
         intro v6 w6 k1 k2
         have b6' : Below w2.heap.size w2 w6 := B5.out.grown k2 hB5 (fun g hg => (H5.out.2.2.1.block_lt hg).2)
         have b6 : Below (X + 3) w2 w6 := b6'.mono hX3
         obtain ⟨o0, o1, o2, o3, o4, o5, _⟩ := keep6J hx0 b6
         have H6 := Lib.hid (And.intro k1 (And.intro (below_trans HR.out.2.1 b6') b6'))
         clear k1 k2 b6')
      | (go_simp; go_at_call 75; (with_reducible refine (chain75 (L := agen T1 ++ agen T2) hn (Nat.le_trans HR.out.2.2 (by decide)) (pms_rv hn.1 H6.out.1 (RV.app (H4.out.2.1.below H6.out.2.1) (H5.out.2.1.below H6.out.2.1)) (List.map_append ..) ?_)).mono ?_)
         rw [List.length_append]; omega
         rintro e7 w7 ⟨a7, c7, b7', d7, rfl, k1, k2⟩
         have b7 : Below (X + 3) w2 w7 := b6.trans (k1.mono (Nat.le_trans hX3 b6.size))
         have hr7 := (b7.block (X + 2) (by omega)).trans HR2.out
         obtain ⟨r0, r1, r2, r3, r4, r5⟩ := box_cells hr7
         have hg7 := k2 (List.range (X + 3)) (fun m hm => Nat.lt_of_lt_of_le (List.mem_range.1 hm) (Nat.le_trans hX3 b6.size))
         have H7 := Lib.hid (And.intro hg7 hr7)
         clear k1 k2 hg7 hr7)
      | (go_simp; go_at_call 46; (with_reducible refine (HC.out.2.1 _ (below_trans HR.out.2.1 ?_)).mono ?_)
         first | exact Below.refl _ _ | exact below_drw (Below.refl _ _)
         rintro e4 w4 ⟨v4, us4, rfl, k1, k2, k3, k4⟩
         have b4' : Below w2.heap.size w2 w4 := below_trans (by first | exact Below.refl _ _ | exact below_drw (Below.refl _ _)) k4
         have b4 : Below (X + 3) w2 w4 := b4'.mono hX3
         obtain ⟨i0, i1, i2, i3, i4, i5, _⟩ := keep6J hx0 b4
         have H4 := Lib.hid (And.intro (show Own w4 w2.heap.size v4 27 us4 from k1) (And.intro k2 (And.intro k3 b4')))
         clear k1 k2 k3 k4 b4'))
  all_goals
    go_wp2_with fail
    have hfin : (set3 w7 (X + 1 + 1) (.int .i64 (n : Int)) (.slice a7 n c7) (.slice b7' n d7)).heap[X + 1 + 1]? = some (.cells #[.int .i64 (n : Int), .slice a7 n c7, .slice b7' n d7] 25) := set3_box H7.out.2
    obtain ⟨V, hV⟩ : ∃ V, set3 w7 (X + 1 + 1) (.int .i64 (n : Int)) (.slice a7 n c7) (.slice b7' n d7) = V := ⟨_, rfl⟩
    have hKp : Kept w7 V [X + 1 + 1] := hV ▸ set3_kept (by simp)
    rw [hV] at hfin
    unfold set3 at hV
    rw [hV]
    obtain ⟨f0, f1, f2, _⟩ := box_cells hfin
    refine bodyPost_ret (v := .tuple #[.agg #[.int .i64 (n : Int), .slice a7 n c7, .slice b7' n d7], .int .i64 0]) (by simp [results, Tryz.results24, go_sem, f0, f1, f2]) rfl ?_
    refine ⟨a7, c7, b7', d7, rfl, ?_, fun S hS => ?_⟩
    · have h1 := HR.out.2.1.trans (b7.mono HXX.out)
      rw [HB.out.2.2.2.2.2] at h1
      have h2 := h1.size
      exact h1.trans (hKp.below1 (by have := b7.size; omega) (by omega))
    · refine ((H7.out.1.kept (hKp.mono (fun q hq => ?_))).congr (grp_two HC.out.2.2.2.1 HC.out.2.2.2.2.1)).ext (fun q hq => .inl (List.mem_range.2 ?_))
      · rw [List.mem_singleton.1 hq]
        exact List.mem_range.2 (by omega)
      · have := hS q hq; omega
end Go.Proofs.YtbejhkojdiadaaaGreat
namespace Go.Proofs.YtbejhkojdiadaaaGreat
open Go.RowKit PlainPm
theorem run_app_row {P : Program} {w : World} {B : Nat} (T ty e : TypeId) (i : TypeInfo) (z : Value) (bytes : Nat) (ht : P.underlying T = some (.slice e)) (hi : P.info? e = some i) (hz : i.zero = some z) (hs1 : i.size = 1) (hby : i.bytes = bytes) (hzs : z.cells.size = 1) (hb64 : bytes ≤ 64)
    {v : Value} {xs ys : List Value} (h : Own w B v e xs) {a : Option Addr} {m c : Nat} (hr : Row w a ys) (hm : ys.length = m) (h1 : ∀ y ∈ ys, y.oneCell' = true) (hl : xs.length + m < 1000000) (hB : B ≤ w.heap.size) :
    ∃ v' w', (Builtin.append_ #[T, T] ty #[v, .slice a m c]).run P w = .ok v' w' ∧ Own w' B v' e (xs ++ ys) ∧ w.grownBy w' v.ownBlock ∧ (v'.ownBlock = v.ownBlock ∨ ∃ g, v'.ownBlock = some g ∧ w.heap.size ≤ g) := by
  cases a with
  | some ad =>
    obtain ⟨v', w', hr', h2, h3, _, h5⟩ := run_append_own_at (P := P) w B T ty e i z 1 bytes ht hi hz hs1 hby hzs (by omega) v xs.length xs h ad m c ys (by omega) (by
      intro j y hj
      obtain ⟨b, o, ea, _, hc⟩ := hr.2 j y hj
      cases ea
      rw [add_zero_addr]; exact hc) h1 (by unfold maxLen; omega) (Nat.le_trans (Nat.mul_le_mul_left _ hb64) (by omega)) hB
    refine ⟨v', w', hr', by unfold Own; rw [List.length_append, hm]; exact h2, h3, ?_⟩
    rcases h5 with h5 | h5
    · exact .inl h5
    · exact .inr ⟨_, h5, Nat.le_refl _⟩
  | none =>
    have hy : ys = [] := by
      cases ys with
      | nil => rfl
      | cons y r => obtain ⟨b, o, ea, _⟩ := hr.2 0 y rfl; cases ea
    subst hy
    have hm0 : m = 0 := by rw [← hm]; rfl
    subst hm0
    rw [List.append_nil]
    obtain ⟨hlen, hv⟩ := (show w.ownsRow B e 1 v xs.length xs from h)
    rcases hv with ⟨hv, hx⟩ | ⟨g, cap, cur, hv, hg, hcur, hle, hcap, h3, h4⟩
    · subst hv
      refine ⟨_, w, ?_, h, grown_below (Below.refl _ _) _, .inl rfl⟩
      simp [Builtin.append_, run_underlying ht, sizeOf, typeInfo, hi, Builtin.lenOf, Builtin.firstCells]
    · subst hv
      refine ⟨_, w, ?_, h, grown_below (Below.refl _ _) _, .inl rfl⟩
      have := run_append_room_src (P := P) w T T ty e i ht hi g 0 xs.length cap (.slice none 0 c) 0 [] (Src.ofNil w ht c) (by omega) (fun j hj => by simp at hj) (fun j hj => by simp at hj)
      simpa [World.setCells] using this
theorem step_appR {w : World} {ops : Array Oper} {o : Oper} {a : Act} {K : Act → World → Prop} {Q : Exit → Act → World → Prop} {E : Prop} (hgd : o.guard = none) (s x : Operand) (T e : TypeId)
    (ho : o.op = .call { callee := .builtin .append, args := #[s, x], argTypes := #[T, T] })
    (i : TypeInfo) (z : Value) (bytes : Nat) (ht : Tryz.prog.underlying T = some (.slice e)) (hi : Tryz.prog.info? e = some i) (hz : i.zero = some z) (hs1 : i.size = 1) (hby : i.bytes = bytes) (hzs : z.cells.size = 1) (hb64 : bytes ≤ 64)
    (B : Nat) (v : Value) (xs ys : List Value) (hs : a.eval s = v) (Wb : World) (h : Own Wb B v e xs) (sa : Option Addr) (m c : Nat) (hx : a.eval x = .slice sa m c) (hr : Row Wb sa ys) (hm : ys.length = m)
    (h1 : ∀ y ∈ ys, y.oneCell' = true) (hl : xs.length + m < 1000000) (hB : B ≤ Wb.heap.size) (hb : Below Wb.heap.size Wb w)
    (hK : ∀ v' w', Own w' B v' e (xs ++ ys) → Wb.grownBy w' v.ownBlock → K (a.put o.dst v') w') :
    if Region.wanted o (yielded ops a.tmps) = true then Oper.wp Tryz.prog o a w K Q else E := by
  have hw : Region.wanted o (yielded ops a.tmps) = true := by simp [Region.wanted, hgd]
  rw [if_pos hw]
  obtain ⟨v', w', hrr, h2, h3, _⟩ := run_app_row (P := Tryz.prog) T o.type e i z bytes ht hi hz hs1 hby hzs hb64 (h.below hb) (hr.below hb) hm h1 hl (Nat.le_trans hB hb.size) (c := c)
  unfold Oper.wp execOp
  simp only [ho, resolve, invoke, builtin, Sem.run_bind, Sem.run_pure, Result.andThen_ok, List.map_toArray, List.map_cons, List.map_nil, hs, hx, hrr]
  exact hK v' w' h2 ((grown_below hb _).trans h3)
end Go.Proofs.YtbejhkojdiadaaaGreat
