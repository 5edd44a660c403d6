/- A permutation moves one graph to another one exactly if it is an isomorphism; how many do; forms and permutations: plain. -/
import Derived.Test.YtjjjohmppehejaaGreatPlainPerm
set_option linter.unusedSimpArgs false
set_option linter.unusedVariables false
namespace Go.Proofs.YtjjjohmppehejaaGreat.PlainX
open Go.Proofs.YtjjjohmppehejaaGreat Plain PlainG PlainT
def ntz (p : List Nat) : List Int := p.map Int.ofNat
theorem perm_of {n : Nat} {p : List Nat} (h : isPermB n p = true) : ∃ t, PermOf n (fun i => p[i]?.getD 0) t := by
  obtain ⟨hl, hr, hd⟩ := isPermB_iff.1 h
  exact Iso.perm (A := fun _ _ => true) (B := fun _ _ => true) (cg := []) (ch := []) ⟨hl, hr, hd, fun _ _ _ _ => rfl, fun _ _ => by simp⟩
theorem ntz_permL {n : Nat} {p : List Nat} (h : p.length = n) : ntz p = permL n fun i => p[i]?.getD 0 := by
  apply List.ext_getElem?
  intro i
  by_cases hi : i < n
  · rw [permL_get hi, ntz, List.getElem?_map, List.getElem?_eq_getElem (by omega)]; rfl
  · rw [List.getElem?_eq_none (by simp [ntz]; omega), List.getElem?_eq_none (by rw [permL_len]; omega)]
theorem mv_iso {n : Nat} {g h : Gr} (hg : Vg n g) (hh : Vg n h) {p : List Nat} (hp : isPermB n p = true) : movedG n (ntz p) g.es g.cs = h ↔ Iso (adj g.es) (adj h.es) g.cs h.cs n p := by
  obtain ⟨hl, hr, hd⟩ := isPermB_iff.1 hp
  obtain ⟨t, ht⟩ := perm_of hp
  rw [ntz_permL hl]
  constructor
  · intro e
    subst e
    refine ⟨hl, hr, hd, fun i k hk hi => ?_, fun i hi => ?_⟩
    · rw [adj_mv ht hg.ed (ht.lt i hi) (ht.lt k (by omega)), ht.left i hi, ht.left k (by omega)]
    · rw [mv_cs ht (ht.lt i hi), ht.left i hi]; rfl
  · intro hi
    refine gr_ext (n := n) (hg.mv ht).chk hh.chk rfl hh.num (fun i k hik hk => ?_) (fun v hv => ?_)
    · rw [adj_mv ht hg.ed (by omega) hk]
      have := iso_adj hg hh hi (ht.lt' i (by omega)) (ht.lt' k hk)
      rw [this]
      have e1 := ht.right i (by omega)
      have e2 := ht.right k hk
      rw [e1, e2]
    · rw [mv_cs ht hv]
      have := hi.col (t v) (ht.lt' v hv)
      rw [this]
      have e1 := ht.right v hv
      rw [e1, List.getElem?_eq_getElem (by rw [hh.cl]; exact hv)]; rfl
/-- Does p move g to h? -/
def hits (n : Nat) (g h : Gr) (p : List Nat) : Bool := preOK (adj g.es) (adj h.es) g.cs h.cs p
theorem hits_iff {n : Nat} {g h : Gr} (hg : Vg n g) (hh : Vg n h) {p : List Nat} (hp : isPermB n p = true) : hits n g h p = true ↔ movedG n (ntz p) g.es g.cs = h := by
  rw [mv_iso hg hh hp]; exact iso_iff hp
/-- How many of all permutations move g to h; the first one. -/
def manyP (n : Nat) (g h : Gr) : Nat := ((seqP n).filter (hits n g h)).length
def firstP (n : Nat) (g h : Gr) : Option (List Nat) := (seqP n).find? (hits n g h)
theorem first_ext {n : Nat} (hn : n ≤ 5) (g h : Gr) : extA (adj g.es) (adj h.es) g.cs h.cs n [] = firstP n g h := ext_find hn
theorem many_first {n : Nat} {g h : Gr} : 0 < manyP n g h ↔ (firstP n g h).isSome = true := by
  unfold manyP firstP
  rw [List.length_pos_iff_exists_mem, List.find?_isSome]
  constructor
  · rintro ⟨p, hp⟩; exact ⟨p, (List.mem_filter.1 hp).1, (List.mem_filter.1 hp).2⟩
  · rintro ⟨p, h1, h2⟩; exact ⟨p, List.mem_filter.2 ⟨h1, h2⟩⟩
theorem permB_range {n : Nat} {s t : Nat → Nat} (hp : PermOf n s t) : isPermB n ((List.range n).map s) = true := by
  have := iso_of_perm (A := fun _ _ => true) (B := fun _ _ => true) (cg := []) (ch := []) hp (fun _ _ _ _ => rfl) (fun _ _ => by simp)
  exact iso_permB this
/-- Two graphs have the same form exactly if one of all permutations moves one to the other one. -/
theorem form_many {n : Nat} (hn : n ≤ 5) {g h : Gr} (hg : Vg n g) (hh : Vg n h) : formT n g = formT n h ↔ 0 < manyP n g h := by
  rw [form_iff hg hh, manyP, List.length_pos_iff_exists_mem]
  constructor
  · rintro ⟨s, t, hp, e⟩
    have hb := permB_range hp
    refine ⟨(List.range n).map s, List.mem_filter.2 ⟨(seq_mem hn).2 hb, (hits_iff hg hh hb).2 ?_⟩⟩
    have : ntz ((List.range n).map s) = permL n s := by simp [ntz, permL, Function.comp_def]
    rw [this]; exact e
  · rintro ⟨p, hp⟩
    obtain ⟨h1, h2⟩ := List.mem_filter.1 hp
    have hb := (seq_mem hn).1 h1
    obtain ⟨t, ht⟩ := perm_of hb
    refine ⟨_, t, ht, ?_⟩
    rw [← ntz_permL (isPermB_iff.1 hb).1]
    exact (hits_iff hg hh hb).1 h2
end Go.Proofs.YtjjjohmppehejaaGreat.PlainX
