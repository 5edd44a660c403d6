/- The chain of a group is valid, and says what the group's towers say: plain. -/
import Derived.Test.YtbejhkojdiadaaaGreatPlainVal
import Derived.Test.YtbejhkojdiadaaaGreatPlainEx
set_option linter.unusedSimpArgs false
set_option linter.unusedVariables false
namespace Go.Proofs.YtbejhkojdiadaaaGreat
open Go.RowKit PlainPm
namespace PlainPm
/-- The representatives generate the group. -/
theorem ChG.gen {n : Nat} {G : Pm n → Prop} {O : Nat → List Nat} {R : Nat → Nat → Pm n} (h : ChG G O R) {M : Pm n → Prop} (hM : ∀ i, i < n → ∀ p ∈ O i, M (R i p)) : ∀ {f i : Nat} {x : Pm n}, i + f = n → Fx i x → G x → Grp M x
  | 0, i, x, hf, hx, _ => by
    have hi : i = n := by omega
    subst hi
    rw [Fx.all hx]; exact .one
  | f + 1, i, x, hf, hx, hg => by
    have hi : i < n := by omega
    have hm : x.at i ∈ O i := (h.mem i hi _).2 ⟨x, hg, hx, rfl⟩
    obtain ⟨h1, h2, h3⟩ := h.rep i hi _ hm
    have hx' : Fx (i + 1) (x.mul (R i (x.at i)).inv) := by
      refine (hx.mul (by omega) (h2.inv (by omega))).succ ?_
      have := (R i (x.at i)).inv_of (i := i) hi
      rw [h3] at this
      rw [Pm.mul_at _ _ hi, this]
    have ih := h.gen hM (f := f) (i := i + 1) (by omega) hx' (h.isG.mul hg (h.isG.inv h1))
    have := ih.times (Grp.base (hM i hi _ hm))
    rwa [Pm.inv_mul_cancel] at this
end PlainPm
theorem nts_inj {l m : List Nat} (h : nts l = nts m) : l = m := by
  refine List.ext_getElem? fun i => ?_
  have := congrArg (fun x : List Int => x[i]?) h
  simp only [nts, List.getElem?_map] at this
  cases h1 : l[i]? <;> cases h2 : m[i]? <;> rw [h1, h2] at this <;> simp at this ⊢
  omega
section
variable {n : Nat} {L : List (Pm n)} {T : Tw n}
theorem valid_of (h : Of (Grp (· ∈ L)) T) : Valid n (orbI T n) (repI T n) := by
  have hG := h.chG Grp.isG
  obtain ⟨L', hL'⟩ : ∃ L' : List (Pm n), L' = (repsT T).flatten := ⟨_, rfl⟩
  have hmem : ∀ y, y ∈ L' ↔ ∃ i, i < n ∧ ∃ p ∈ ptsOf n (T i).orb, y = PlainPm.repT T i p := fun y => by
    rw [hL']
    unfold repsT
    rw [List.mem_flatten]
    constructor
    · rintro ⟨l, hl, hy⟩
      obtain ⟨i, hi, rfl⟩ := List.mem_map.1 hl
      obtain ⟨p, hp, rfl⟩ := List.mem_map.1 hy
      exact ⟨i, List.mem_range.1 hi, p, hp, rfl⟩
    · rintro ⟨i, hi, p, hp, rfl⟩
      exact ⟨_, List.mem_map.2 ⟨i, List.mem_range.2 hi, rfl⟩, List.mem_map.2 ⟨p, hp, rfl⟩⟩
  refine ⟨L', T, h.congr fun x => ⟨fun hx => ?_, fun hx => ?_⟩, ?_, rfl, rfl⟩
  · exact hG.gen (fun i hi p hp => (hmem _).2 ⟨i, hi, p, hp, rfl⟩) (f := n) (i := 0) (by omega) (fun j hj => by omega) hx
  · refine Grp.sub Grp.isG (fun s hs => ?_) hx
    obtain ⟨i, hi, p, hp, rfl⟩ := (hmem s).1 hs
    exact (hG.rep i hi p hp).1
  · rw [hL', repI_eq, List.map_flatten]
theorem vals_of (h : Of (Grp (· ∈ L)) T) {i : Nat} (hi : i < n) : orbV n (orbI T n) (repI T n) i = orbO T i ∧ ∀ p ∈ orbO T i, repV n (orbI T n) (repI T n) i p = PlainPm.repT T i p := by
  obtain ⟨_, h1, h2⟩ := valid_tw (valid_of h)
  have e1 : nts (orbO T i) = nts (orbV n (orbI T n) (repI T n) i) := by
    have := congrArg (fun x : List (List Int) => x[i]?) h1
    simp only [orbI, List.getElem?_map, List.getElem?_range hi, Option.map_some] at this
    exact Option.some.inj this
  have e2 : (orbO T i).map (fun p => (PlainPm.repT T i p).l) = (orbV n (orbI T n) (repI T n) i).map fun p => (repV n (orbI T n) (repI T n) i p).l := by
    have := congrArg (fun x : List (List (List Int)) => x[i]?) h2
    simp only [repI, List.getElem?_map, List.getElem?_range hi, Option.map_some] at this
    exact Option.some.inj this
  have e3 := (nts_inj e1).symm
  refine ⟨e3, fun p hp => ?_⟩
  rw [e3] at e2
  exact (Pm.ext' (List.map_inj_left.1 e2 p hp)).symm
theorem chk_of (h : Of (Grp (· ∈ L)) T) (h0 : 1 ≤ n) (h64 : n ≤ 64) : chkE n (orbI T n) (repI T n) = 0 := by
  unfold chkE
  rw [if_pos (by omega), Int.toNat_natCast, if_pos (valid_of h)]
theorem size_of (h : Of (Grp (· ∈ L)) T) (h0 : 1 ≤ n) (h64 : n ≤ 64) : sizeN n (orbI T n) (repI T n) = szF (orbO T) n 0 := by
  unfold sizeN
  rw [if_pos (chk_of h h0 h64), Int.toNat_natCast]
  exact szF_congr (fun i hi => (vals_of h hi).1) (by omega)
theorem mem_of (h : Of (Grp (· ∈ L)) T) (h0 : 1 ≤ n) (h64 : n ≤ 64) (x : Pm n) : memE n (orbI T n) (repI T n) x.l = 0 := by
  unfold memE
  have := x.ok.1
  rw [if_neg (by rw [chk_of h h0 h64]; simp), if_neg (by rw [(chk_iff this h0 h64).2 x.ok]; simp), if_neg (by rw [this]; simp)]
theorem rank_of (h : Of (Grp (· ∈ L)) T) (h0 : 1 ≤ n) (h64 : n ≤ 64) (x : Pm n) {r : Nat} (hr : rkF (orbO T) (PlainPm.repT T) x n 0 (PlainPm.one n) 0 = some r) :
    rankN n (orbI T n) (repI T n) x.l = r ∧ rankE n (orbI T n) (repI T n) x.l = 0 := by
  have hx : toPm n x.l = x := Pm.ext' (toPm_l x.ok)
  have ho : rankO n (orbI T n) (repI T n) x.l = some r := by
    unfold rankO
    rw [Int.toNat_natCast, hx, ← hr]
    exact (rkF_congr (fun i hi => ((vals_of h hi).1).symm) (fun i hi p hp => ((vals_of h hi).2 p hp).symm) x (by omega)).symm
  unfold rankN rankE
  rw [mem_of h h0 h64, ho]
  exact ⟨rfl, rfl⟩
end
end Go.Proofs.YtbejhkojdiadaaaGreat
