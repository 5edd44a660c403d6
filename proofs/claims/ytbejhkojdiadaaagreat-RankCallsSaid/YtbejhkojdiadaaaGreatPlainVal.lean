/- What a chain says, as functions of its lists: the error, the tower, the sizes, the ranks. -/
import Derived.Test.YtbejhkojdiadaaaGreatMembW
import Derived.Test.YtbejhkojdiadaaaGreatPlainRank
set_option linter.unusedSimpArgs false
set_option linter.unusedVariables false
namespace Go.Proofs.YtbejhkojdiadaaaGreat
open Go.RowKit PlainPm
open Classical in
/-- The error of a chain. -/
noncomputable def chkE (d : Int) (os : List (List Int)) (rs : List (List (List Int))) : Int :=
  if 1 ≤ d ∧ d ≤ 64 then (if Valid d.toNat os rs then 0 else 3) else 2
theorem chkR_iff {d : Int} {os : List (List Int)} {rs : List (List (List Int))} {E : Int} : ChkR d os rs E ↔ E = chkE d os rs := by
  have h : ChkR d os rs (chkE d os rs) := by
    unfold chkE
    by_cases h1 : 1 ≤ d ∧ d ≤ 64
    · rw [if_pos h1]
      by_cases hv : Valid d.toNat os rs
      · rw [if_pos hv]; exact .inr ⟨h1.1, h1.2, .inr ⟨rfl, hv⟩⟩
      · rw [if_neg hv]; exact .inr ⟨h1.1, h1.2, .inl ⟨rfl, hv⟩⟩
    · rw [if_neg h1]; exact .inl ⟨by omega, rfl⟩
  exact ⟨fun k => k.uniq h, fun e => e ▸ h⟩
theorem chkE_zero {d : Int} {os : List (List Int)} {rs : List (List (List Int))} (h : chkE d os rs = 0) : 1 ≤ d ∧ d ≤ 64 ∧ Valid d.toNat os rs := by
  rcases chkR_iff.2 h.symm with ⟨_, e⟩ | ⟨h1, h2, ⟨e, _⟩ | ⟨_, hv⟩⟩
  · cases e
  · cases e
  · exact ⟨h1, h2, hv⟩
noncomputable def memE (d : Int) (os : List (List Int)) (rs : List (List (List Int))) (p : List Int) : Int :=
  if chkE d os rs ≠ 0 then chkE d os rs else if chkPerm p ≠ 0 then chkPerm p else if (p.length : Int) ≠ d then 10 else 0
theorem memR_iff {d : Int} {os : List (List Int)} {rs : List (List (List Int))} {p : List Int} {E : Int} : MemR d os rs p E ↔ E = memE d os rs p := by
  constructor
  · rintro ⟨E0, h1, rfl⟩
    rw [chkR_iff] at h1
    subst h1; rfl
  · rintro rfl
    exact ⟨_, chkR_iff.2 rfl, rfl⟩
theorem memE_zero {d : Int} {os : List (List Int)} {rs : List (List (List Int))} {p : List Int} (h : memE d os rs p = 0) : chkE d os rs = 0 ∧ chkPerm p = 0 ∧ (p.length : Int) = d := by
  unfold memE at h
  by_cases h1 : chkE d os rs ≠ 0
  · rw [if_pos h1] at h; exact absurd h h1
  rw [if_neg h1] at h
  by_cases h2 : chkPerm p ≠ 0
  · rw [if_pos h2] at h; exact absurd h h2
  rw [if_neg h2] at h
  by_cases h3 : (p.length : Int) ≠ d
  · rw [if_pos h3] at h; cases h
  exact ⟨by omega, by omega, by omega⟩
open Classical in
noncomputable def grpV (n : Nat) (os : List (List Int)) (rs : List (List (List Int))) : List (Pm n) :=
  if h : Valid n os rs then Classical.choose h else []
open Classical in
noncomputable def twV (n : Nat) (os : List (List Int)) (rs : List (List (List Int))) : Tw n :=
  if h : Valid n os rs then Classical.choose (Classical.choose_spec h) else tower0 n
theorem valid_tw {n : Nat} {os : List (List Int)} {rs : List (List (List Int))} (h : Valid n os rs) : Of (Grp (· ∈ grpV n os rs)) (twV n os rs) ∧ os = orbI (twV n os rs) n ∧ rs = repI (twV n os rs) n := by
  have := Classical.choose_spec (Classical.choose_spec h)
  unfold grpV twV
  rw [dif_pos h, dif_pos h]
  exact ⟨this.1, this.2.2.1, this.2.2.2⟩
noncomputable def orbV (n : Nat) (os : List (List Int)) (rs : List (List (List Int))) (i : Nat) : List Nat := ptsOf n (twV n os rs i).orb
noncomputable def repV (n : Nat) (os : List (List Int)) (rs : List (List (List Int))) (i p : Nat) : Pm n := repT (twV n os rs) i p
section
variable {n : Nat} {os : List (List Int)} {rs : List (List (List Int))}
theorem Valid.chG (h : Valid n os rs) : ChG (Grp (· ∈ grpV n os rs)) (orbV n os rs) (repV n os rs) := (valid_tw h).1.chG Grp.isG
theorem Valid.orbAt (h : Valid n os rs) {i : Nat} (hi : i < n) : os[i]? = some (nts (orbV n os rs i)) := by
  obtain ⟨_, e, _⟩ := valid_tw h
  have : (orbI (twV n os rs) n)[i]? = some (nts (orbV n os rs i)) := by
    unfold orbI; rw [List.getElem?_map, List.getElem?_range hi]; rfl
  rw [← this, ← e]
theorem Valid.repAt (h : Valid n os rs) {i : Nat} (hi : i < n) : rs[i]? = some ((orbV n os rs i).map fun p => (repV n os rs i p).l) := by
  obtain ⟨_, _, e⟩ := valid_tw h
  have : (repI (twV n os rs) n)[i]? = some ((orbV n os rs i).map fun p => (repV n os rs i p).l) := by
    unfold repI; rw [List.getElem?_map, List.getElem?_range hi]; rfl
  rw [← this, ← e]
end
/-- A list as a permutation. -/
noncomputable def toPm (n : Nat) (p : List Int) : Pm n := open Classical in if h : IsPm n p then ⟨p, h⟩ else PlainPm.one n
theorem toPm_l {n : Nat} {p : List Int} (h : IsPm n p) : (toPm n p).l = p := by unfold toPm; rw [dif_pos h]
theorem mem_pm {d : Int} {os : List (List Int)} {rs : List (List (List Int))} {p : List Int} (h : memE d os rs p = 0) : (toPm d.toNat p).l = p ∧ p.length = d.toNat := by
  obtain ⟨h1, h2, h3⟩ := memE_zero h
  obtain ⟨h4, h5, _⟩ := chkE_zero h1
  have hl : p.length = d.toNat := by omega
  exact ⟨toPm_l ((chk_iff hl (by omega) (by omega)).1 h2), hl⟩
/-- What Size returns. -/
noncomputable def sizeN (d : Int) (os : List (List Int)) (rs : List (List (List Int))) : Nat := if chkE d os rs = 0 then szF (orbV d.toNat os rs) d.toNat 0 else 0
/-- What Rank returns. -/
noncomputable def rankO (d : Int) (os : List (List Int)) (rs : List (List (List Int))) (p : List Int) : Option Nat :=
  rkF (orbV d.toNat os rs) (repV d.toNat os rs) (toPm d.toNat p) d.toNat 0 (PlainPm.one d.toNat) 0
noncomputable def rankN (d : Int) (os : List (List Int)) (rs : List (List (List Int))) (p : List Int) : Nat := if memE d os rs p = 0 then (rankO d os rs p).getD 0 else 0
noncomputable def rankE (d : Int) (os : List (List Int)) (rs : List (List (List Int))) (p : List Int) : Int :=
  if memE d os rs p = 0 then (if (rankO d os rs p).isSome then 0 else 18) else memE d os rs p
/-- What Unrank returns. -/
noncomputable def unrL (d : Int) (os : List (List Int)) (rs : List (List (List Int))) (k : Int) : List Int :=
  if chkE d os rs = 0 ∧ 0 ≤ k ∧ k < (sizeN d os rs : Nat) then (unF (orbV d.toNat os rs) (repV d.toNat os rs) d.toNat 0 (PlainPm.one d.toNat) k.toNat).l else []
noncomputable def unrE (d : Int) (os : List (List Int)) (rs : List (List (List Int))) (k : Int) : Int :=
  if chkE d os rs = 0 then (if 0 ≤ k ∧ k < (sizeN d os rs : Nat) then 0 else 2) else chkE d os rs
/-- What Least returns. -/
noncomputable def lstL (d : Int) (os : List (List Int)) (rs : List (List (List Int))) (p : List Int) : List Int :=
  if memE d os rs p = 0 then (lstF (orbV d.toNat os rs) (repV d.toNat os rs) d.toNat 0 (toPm d.toNat p)).l else []
end Go.Proofs.YtbejhkojdiadaaaGreat
