/- The labels of a partition, as a plain function. -/
import Derived.Test.YtifkieopaoooeaaDoorPlain
set_option linter.unusedSimpArgs false
set_option linter.unusedVariables false
namespace Go.Proofs.YtifkieopaoooeaaDoor.Plain
def putCell (out : List Int) (i : Int) : List Int → List Int
  | [] => out
  | p :: r => putCell (out.set p.toNat i) i r
def putCells (out : List Int) (i : Nat) : List (List Int) → List Int
  | [] => out
  | c :: r => putCells (putCell out i c) (i + 1) r
/-- The label of each point. -/
def labelsL (n : Nat) (l : List (List Int)) : List Int := putCells (List.replicate n 0) 0 l
theorem putCell_len (i : Int) : ∀ (c out : List Int), (putCell out i c).length = out.length
  | [], out => rfl
  | p :: r, out => by rw [putCell, putCell_len i r]; simp
theorem putCells_len : ∀ (l : List (List Int)) (i : Nat) (out : List Int), (putCells out i l).length = out.length
  | [], i, out => rfl
  | c :: r, i, out => by rw [putCells, putCells_len r, putCell_len]
theorem labelsL_len (n : Nat) (l : List (List Int)) : (labelsL n l).length = n := by rw [labelsL, putCells_len]; simp
theorem putCell_next {out c : List Int} {i : Int} {j : Nat} (h : j < c.length) : putCell out i (c.drop j) = putCell (out.set (c[j]?.getD 0).toNat i) i (c.drop (j + 1)) := by
  rw [drop_cons (d := 0) h, putCell]
theorem putCell_end {out c : List Int} {i : Int} {j : Nat} (h : c.length ≤ j) : putCell out i (c.drop j) = out := by rw [drop_all h, putCell]
theorem putCells_next {out : List Int} {l : List (List Int)} {k : Nat} (h : k < l.length) : putCells out k (l.drop k) = putCells (putCell out k (l[k]?.getD [])) (k + 1) (l.drop (k + 1)) := by
  rw [drop_cons (d := []) h, putCells]
theorem putCells_end {out : List Int} {l : List (List Int)} {k : Nat} (h : l.length ≤ k) : putCells out k (l.drop k) = out := by rw [drop_all h, putCells]

/-- All points are in range. -/
def InRange (n : Nat) (l : List (List Int)) : Prop := ∀ c ∈ l, ∀ p ∈ c, 0 ≤ p ∧ p < n
theorem InRange.at_ {n : Nat} {l : List (List Int)} (h : InRange n l) {k j : Nat} (hk : k < l.length) (hj : j < (l[k]?.getD []).length) : ∃ q : Nat, (l[k]?.getD [])[j]?.getD 0 = (q : Int) ∧ q < n := by
  rw [List.getElem?_eq_getElem hk] at hj ⊢
  simp only [Option.getD_some] at hj ⊢
  rw [List.getElem?_eq_getElem hj]
  simp only [Option.getD_some]
  have := h l[k] (List.getElem_mem hk) _ (List.getElem_mem hj)
  exact ⟨(l[k][j]).toNat, by omega, by omega⟩

theorem chkCell_in {n : Int} : ∀ {c s s' : List Int} {p : Option Int}, chkCell n s p c = .inr s' → ∀ q ∈ c, 0 ≤ q ∧ q < n
  | [], _, _, _, _, q, hq => by simp at hq
  | x :: r, s, s', p, h, q, hq => by
    rw [chkCell] at h
    split at h
    · cases h
    · split at h
      · cases h
      · split at h
        · cases h
        · rcases List.mem_cons.1 hq with rfl | hq
          · omega
          · exact chkCell_in h q hq
theorem chkCells_in {n : Int} : ∀ {l : List (List Int)} {s s' : List Int}, chkCells n s l = .inr s' → ∀ c ∈ l, ∀ q ∈ c, 0 ≤ q ∧ q < n
  | [], _, _, _, c, hc => by simp at hc
  | x :: r, s, s', h, c, hc => by
    rw [chkCells] at h
    split at h
    · cases h
    · split at h
      · cases h
      · rename_i s2 hs
        rcases List.mem_cons.1 hc with rfl | hc
        · exact chkCell_in hs
        · exact chkCells_in h c hc
theorem chk_zero {n : Int} {l : List (List Int)} (h : chk n l = 0) : 0 ≤ n ∧ n ≤ 64 ∧ ∃ s, chkCells n [] l = .inr s ∧ n ≤ s.length := by
  rw [chk] at h
  split at h
  · cases h
  · rename_i hn
    split at h
    · rename_i e he
      subst h
      exfalso
      have key : ∀ (l : List (List Int)) (s : List Int), chkCells n s l ≠ .inl 0 := by
        intro l
        induction l with
        | nil => intro s; simp [chkCells]
        | cons c r ih =>
          intro s
          rw [chkCells]
          split
          · simp
          · split
            · rename_i e he
              have k2 : ∀ (c s : List Int) (p : Option Int), chkCell n s p c ≠ .inl 0 := by
                intro c
                induction c with
                | nil => intro s p; simp [chkCell]
                | cons q r ih =>
                  intro s p
                  rw [chkCell]
                  split
                  · simp
                  · split
                    · simp
                    · split
                      · simp
                      · exact ih _ _
              intro hc
              injection hc with hc
              subst hc
              exact k2 _ _ _ he
            · exact ih _
      exact key _ _ he
    · rename_i s hs
      refine ⟨by omega, by omega, s, hs, ?_⟩
      split at h
      · cases h
      · omega
theorem chk_in {n : Nat} {l : List (List Int)} (h : chk n l = 0) : InRange n l := by
  obtain ⟨_, _, s, hs, _⟩ := chk_zero h
  exact chkCells_in hs
end Go.Proofs.YtifkieopaoooeaaDoor.Plain
