/- What the law's calls answer for two valid graphs of at most five vertices: plain. -/
import Derived.Test.YtjjjohmppehejaaGreatPlainSeq
import Derived.Test.YtjjjohmppehejaaGreatMapP
import Derived.Test.YtjjjohmppehejaaGreatFormP
import Derived.Test.YtjjjohmppehejaaGreatSameG
set_option linter.unusedSimpArgs false
set_option linter.unusedVariables false
namespace Go.Proofs.YtjjjohmppehejaaGreat
open Plain PlainG PlainX PlainT
theorem ck_vg {n : Nat} {g : Gr} (h : Vg n g) (hn : n ≤ 10) : ckA [g] = 0 := by
  rw [ckA_one, if_neg (by rw [h.chk]; simp), if_neg (by rw [h.num]; omega)]
theorem ck_vg2 {n : Nat} {g h : Gr} (hg : Vg n g) (hh : Vg n h) (hn : n ≤ 10) : ckA [g, h] = 0 := by
  have e1 : chkL [g, h] = 0 := by simp [chkL, hg.chk, hh.chk]
  have e2 : bigL [g, h] = false := by simp [bigL, hg.num, hh.num]; omega
  unfold ckA
  rw [if_neg (by rw [e1]; simp), e2]; rfl
theorem form_vgG {n : Nat} {g : Gr} (h : Vg n g) (hn : n ≤ 10) : formG g = (formT n g, 0) := by
  unfold formG
  rw [if_neg (by rw [ck_vg h hn]; simp), h.num, Int.toNat_natCast]
theorem map_vg {n : Nat} {g h : Gr} (hg : Vg n g) (hh : Vg n h) (hn : n ≤ 5) : mapA g h = optN (firstP n g h) := by
  unfold mapA
  rw [if_neg (by rw [ck_vg2 hg hh (by omega)]; simp)]
  by_cases he : g.n = h.n ∧ g.es.length = h.es.length
  · rw [if_pos he, hg.num, Int.toNat_natCast, first_ext hn]
  · rw [if_neg he]
    cases hf : firstP n g h with
    | none => rfl
    | some q =>
      exfalso
      have hm := List.mem_of_find?_eq_some hf
      have hp := List.find?_some hf
      have hi := (iso_iff ((seq_mem hn).1 hm)).1 hp
      exact he ⟨by rw [hg.num, hh.num], iso_edges hg hh hi⟩
theorem same_form {n : Nat} {g h : Gr} (hg : Vg n g) (hh : Vg n h) (hn : n ≤ 5) : sameG (formT n g) (formT n h) = decide (0 < manyP n g h) := by
  rw [Bool.eq_iff_iff, sameG_iff, decide_eq_true_iff]
  exact form_many hn hg hh
theorem first_many {n : Nat} {g h : Gr} : firstP n g h = none ↔ manyP n g h = 0 := by
  have := many_first (n := n) (g := g) (h := h)
  cases hf : firstP n g h with
  | none => rw [hf] at this; simp at this; simp [this]
  | some q => rw [hf] at this; simp at this; simp; omega
theorem grp_vg {n : Nat} {g : Gr} (h : Vg n g) (hn : n ≤ 10) : grpA g = (⟨n, orbsA (adj g.es) g.cs n n, repsA (adj g.es) g.cs n n⟩, 0) := by
  unfold grpA
  rw [if_neg (by rw [ck_vg h hn]; simp), h.num, Int.toNat_natCast]
theorem prod_orbs (A : Adj) (c : List Int) (n : Nat) : ∀ k, prodN (orbsA A c n k) = prodF A c n k
  | 0 => rfl
  | k + 1 => by
    unfold orbsA
    rw [List.range_succ, List.map_append]
    have := prod_orbs A c n k
    unfold orbsA at this
    show prodN (_ ++ [_]) = _
    rw [prodN_snoc, this, prodF, nts_len]
theorem many_vg {n : Nat} {g : Gr} (h : Vg n g) (hn : n ≤ 5) : manyA g = ((manyP n g g : Int), 0) := by
  unfold manyA
  rw [if_neg (by rw [ck_vg h (by omega)]; simp), h.num, Int.toNat_natCast, prod_orbs, many_prod hn h]
end Go.Proofs.YtjjjohmppehejaaGreat
