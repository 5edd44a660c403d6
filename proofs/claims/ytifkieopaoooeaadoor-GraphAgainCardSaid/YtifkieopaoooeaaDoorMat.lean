/- A matrix of the call's own: rows that lie apart, entries that are read and written. -/
import Derived.Test.YtifkieopaoooeaaDoorGChk
import Derived.Test.YtifkieopaoooeaaDoorPlainKey
set_option linter.unusedSimpArgs false
set_option linter.unusedVariables false
namespace Go.Proofs.YtifkieopaoooeaaDoor
open Go.RowKit Plain

structure OwnMat (w : World) (B g n : Nat) (cs : List Value) (m : List (List Int)) : Prop where
  top : Own w B (.slice (some ⟨g, 0, none⟩) n n) 22 cs
  rows : OwnRows w B 3 cs m
  apart : ∀ (i j : Nat) u v, i ≠ j → cs[i]? = some u → cs[j]? = some v → u.ownBlock = none ∨ u.ownBlock ≠ v.ownBlock

section
variable {w w' : World} {B g n : Nat} {cs : List Value} {m : List (List Int)}
theorem OwnMat.len (h : OwnMat w B g n cs m) : cs.length = n := h.top.lit.symm
theorem OwnMat.mlen (h : OwnMat w B g n cs m) : m.length = n := by rw [← h.rows.1, h.len]
theorem OwnMat.kept (h : OwnMat w B g n cs m) (hg : w.grownBy w' none) : OwnMat w' B g n cs m :=
  ⟨h.top.kept hg (by right; exact fun e => by cases e), h.rows.kept hg (fun u xs hu => by rcases hu.blk with e | ⟨g, _, e, _⟩ <;> rw [e] <;> simp), h.apart⟩
theorem OwnMat.drewN (h : OwnMat w B g n cs m) (q : Nat) : OwnMat (w.drewN q) B g n cs m := ⟨h.top, h.rows, h.apart⟩
theorem OwnMat.drew (h : OwnMat w B g n cs m) : OwnMat w.drew B g n cs m := ⟨h.top, h.rows, h.apart⟩
theorem OwnMat.new (h : Own w B (.slice (some ⟨g, 0, none⟩) n n) 22 (List.replicate n (.slice none 0 0))) : OwnMat w B g n (List.replicate n (.slice none 0 0)) (List.replicate n []) := by
  refine ⟨h, ⟨by simp, fun i u xs hu hx => ?_⟩, fun i j u v _ hu _ => ?_⟩
  · have h1 := List.mem_replicate.1 (List.mem_of_getElem? hu)
    have h2 := List.mem_replicate.1 (List.mem_of_getElem? hx)
    rw [h1.2, h2.2]; exact Own.nil _ _ _
  · have h1 := List.mem_replicate.1 (List.mem_of_getElem? hu)
    rw [h1.2]; exact .inl rfl
/-- A row that has just been made is laid at its place. -/
theorem OwnMat.row (h : OwnMat w B g n cs m) (hg : w.grownBy w' none) {K c : Nat} (hK : w.heap.size ≤ K) {xs : List Int} {k : Nat} (hu : Own w' B (.slice (some ⟨K, 0, none⟩) k c) 3 (ints xs)) (i : Nat) :
    OwnMat (w'.setCell ⟨g, i, none⟩ (.slice (some ⟨K, 0, none⟩) k c)) B g n (cs.set i (.slice (some ⟨K, 0, none⟩) k c)) (m.set i xs) := by
  have h1 := h.kept hg
  have hgp := grown_put (w := w') (g := g) i (.slice (some ⟨K, 0, none⟩) k c)
  have hne : ∀ (u : Value) (xs : List Value), Own w' B u 3 xs → u.ownBlock = none ∨ u.ownBlock ≠ some g := fun u xs hu => hu.ne_type h1.top (by decide)
  refine ⟨h1.top.put i _, ⟨by simp [h.rows.1], fun j u ys hj hy => ?_⟩, fun a b u v hab ha hb => ?_⟩
  · rw [List.getElem?_set] at hj hy
    by_cases e : i = j
    · rw [if_pos e] at hj hy
      split at hj
      · rename_i hl
        rw [← h.rows.1] at hy
        rw [if_pos hl] at hy
        cases hj; cases hy
        exact hu.kept hgp (hne _ _ hu)
      · cases hj
    · rw [if_neg e] at hj hy
      have := h1.rows.2 j u ys hj hy
      exact this.kept hgp (hne _ _ this)
  · rw [List.getElem?_set] at ha hb
    have old : ∀ {x : Nat} {z : Value}, cs[x]? = some z → ∀ q, z.ownBlock = some q → q < w.heap.size := fun {x z} hz q hq => by
      have hx : x < m.length := by rw [← h.rows.1]; exact (List.getElem?_eq_some_iff.1 hz).1
      rcases (h.rows.2 x z _ hz (List.getElem?_eq_getElem hx)).blk with e | ⟨q', _, e, _, hl, _⟩
      · rw [e] at hq; cases hq
      · rw [e] at hq; cases hq; exact hl
    by_cases e1 : i = a
    · rw [if_neg (by omega : ¬ i = b)] at hb
      rw [if_pos e1] at ha
      split at ha
      · cases ha
        right
        intro he
        have := old hb K he.symm
        omega
      · cases ha
    · rw [if_neg e1] at ha
      by_cases e2 : i = b
      · rw [if_pos e2] at hb
        split at hb
        · cases hb
          cases hz : u.ownBlock with
          | none => exact .inl rfl
          | some q =>
            right
            intro he
            have := old ha q hz
            have h2 := old ha q hz
            cases he
            exact absurd h2 (by simp; omega)
        · cases hb
      · rw [if_neg e2] at hb
        exact h.apart a b u v hab ha hb
/-- A row's value. -/
theorem OwnMat.at_ (h : OwnMat w B g n cs m) {i : Nat} (hi : i < n) (hl : 0 < (m[i]?.getD []).length) :
    ∃ q c, cs[i]? = some (.slice (some ⟨q, 0, none⟩) (m[i]?.getD []).length c) ∧ Own w B (.slice (some ⟨q, 0, none⟩) (m[i]?.getD []).length c) 3 (ints (m[i]?.getD [])) ∧
      w.cell? ⟨g, i, none⟩ = some (.slice (some ⟨q, 0, none⟩) (m[i]?.getD []).length c) ∧ w.frozen? ⟨g, i, none⟩ = false ∧ B ≤ q := by
  obtain ⟨u, hu, ho⟩ := h.rows.at_ (k := i) (by rw [h.mlen]; exact hi)
  obtain ⟨q, c, rfl, hB, _⟩ := ho.form (by rw [ints_len]; exact hl)
  rw [ints_len] at hu ho
  refine ⟨q, c, hu, ho, ?_, h.top.frozen i, hB⟩
  rw [h.top.cell i (by rw [h.len]; exact hi), hu]
/-- An entry is written. -/
theorem OwnMat.put (h : OwnMat w B g n cs m) {i q k c : Nat} (hi : cs[i]? = some (.slice (some ⟨q, 0, none⟩) k c)) (j : Nat) (x : Int) :
    OwnMat (w.setCell ⟨q, j, none⟩ (.int .i64 x)) B g n cs (m.set i ((m[i]?.getD []).set j x)) := by
  have hin : i < m.length := by rw [← h.rows.1]; exact (List.getElem?_eq_some_iff.1 hi).1
  have ho := h.rows.2 i _ _ hi (List.getElem?_eq_getElem hin)
  have hgp := grown_put (w := w) (g := q) j (.int .i64 x)
  refine ⟨h.top.kept hgp (h.top.ne_type ho (by decide)), ⟨by simp [h.rows.1], fun a u ys ha hy => ?_⟩, h.apart⟩
  rw [List.getElem?_set] at hy
  by_cases e : i = a
  · subst e
    rw [if_pos rfl, if_pos hin] at hy
    cases hy
    rw [hi] at ha
    cases ha
    rw [List.getElem?_eq_getElem hin, Option.getD_some, ← ints_set]
    exact ho.put j _
  · rw [if_neg e] at hy
    refine (h.rows.2 a u ys ha hy).kept hgp ?_
    exact h.apart a i u _ (fun e' => e e'.symm) ha hi
theorem OwnMat.rows_ (h : OwnMat w B g n cs m) (hl : n ≤ maxLen) (hs : ∀ xs ∈ m, xs.length ≤ maxLen) : Rows w (some ⟨g, 0, none⟩) m := by
  obtain ⟨a, c, e, hr⟩ := h.rows.rows h.top (by rw [h.len]; exact hl) hs
  injection e with e1 e2 e3
  subst e1
  exact hr
theorem OwnMat.block (h : OwnMat w B g n cs m) : B ≤ g := by
  rcases h.top.blk with e | ⟨q, _, e, hB, _⟩
  · cases e
  · cases e; exact hB
end

/-- A matrix as a function of its places. -/
def matF (n : Nat) (f : Nat → Nat → Int) : List (List Int) := (List.range n).map fun i => (List.range n).map (f i)
theorem matF_row {n : Nat} {f : Nat → Nat → Int} {i : Nat} (h : i < n) : (matF n f)[i]?.getD [] = (List.range n).map (f i) := by simp [matF, h]
theorem matF_isMat (n : Nat) (f : Nat → Nat → Int) : IsMat n (matF n f) := ⟨by simp [matF], fun r hr => by obtain ⟨i, _, rfl⟩ := List.mem_map.1 hr; simp⟩
theorem matF_mat {n : Nat} {f : Nat → Nat → Int} {i k : Nat} (hi : i < n) (hk : k < n) : mat (matF n f) i k = f i k := by rw [mat, matF_row hi]; simp [hk]
theorem matF_set {n : Nat} {f : Nat → Nat → Int} {i k : Nat} (hi : i < n) (x : Int) :
    (matF n f).set i (((matF n f)[i]?.getD []).set k x) = matF n (fun a b => if a = i ∧ b = k then x else f a b) := by
  rw [matF_row hi]
  apply List.ext_getElem?
  intro a
  rw [List.getElem?_set]
  by_cases e : i = a
  · subst e
    rw [if_pos rfl, if_pos (by simpa [matF] using hi)]
    simp only [matF, List.getElem?_map, List.getElem?_range hi, Option.map_some, Option.some.injEq]
    apply List.ext_getElem?
    intro b
    rw [List.getElem?_set]
    by_cases e2 : k = b
    · subst e2
      by_cases hk : k < n
      · simp [hk]
      · simp [hk]
    · rw [if_neg e2]
      by_cases hb : b < n
      · simp only [List.getElem?_map, List.getElem?_range hb, Option.map_some, Option.some.injEq]
        rw [if_neg (by rintro ⟨_, h⟩; exact e2 h.symm)]
      · simp [hb]
  · rw [if_neg e]
    by_cases ha : a < n
    · simp only [matF, List.getElem?_map, List.getElem?_range ha, Option.map_some, Option.some.injEq]
      apply List.map_congr_left
      intro b _
      rw [if_neg (by rintro ⟨h, _⟩; exact e h.symm)]
    · simp [matF, ha]
/-- The rows that have been made. -/
def begun (n i : Nat) : List (List Int) := (List.range n).map fun a => if a < i then List.replicate n 0 else []
theorem begun_zero (n : Nat) : List.replicate n [] = begun n 0 := by
  apply List.ext_getElem?
  intro a
  by_cases h : a < n <;> simp [begun, h, List.getElem?_replicate]
theorem begun_set {n i : Nat} (h : i < n) : (begun n i).set i (List.replicate n 0) = begun n (i + 1) := by
  apply List.ext_getElem?
  intro a
  rw [List.getElem?_set]
  by_cases e : i = a
  · subst e; simp [begun, h]
  · rw [if_neg e]
    by_cases ha : a < n
    · have : (a < i) = (a < i + 1) := by apply propext; omega
      simp [begun, ha, this]
    · simp [begun, ha]
theorem begun_all (n : Nat) : begun n n = matF n (fun _ _ => 0) := by
  apply List.ext_getElem?
  intro a
  by_cases ha : a < n
  · simp only [begun, matF, List.getElem?_map, List.getElem?_range ha, Option.map_some, if_pos ha, Option.some.injEq]
    apply List.ext_getElem?
    intro b
    by_cases hb : b < n <;> simp [hb, List.getElem?_replicate]
  · simp [begun, matF, ha]
end Go.Proofs.YtifkieopaoooeaaDoor
namespace Go.Proofs.YtifkieopaoooeaaDoor
open Go.RowKit Plain
theorem OwnMat.entry {w : World} {B g n : Nat} {cs : List Value} {f : Nat → Nat → Int} (h : OwnMat w B g n cs (matF n f)) {i k : Nat} (hi : i < n) (hk : k < n) :
    ∃ q c, cs[i]? = some (.slice (some ⟨q, 0, none⟩) n c) ∧ w.cell? ⟨g, i, none⟩ = some (.slice (some ⟨q, 0, none⟩) n c) ∧ w.cell? ⟨q, k, none⟩ = some (.int .i64 (f i k)) ∧ w.frozen? ⟨q, k, none⟩ = false ∧ B ≤ q := by
  have hl : ((matF n f)[i]?.getD []).length = n := by rw [matF_row hi]; simp
  obtain ⟨q, c, h1, h2, h3, _, h5⟩ := h.at_ hi (by omega)
  rw [hl] at h1 h2 h3
  refine ⟨q, c, h1, h3, ?_, h2.frozen k, h5⟩
  rw [h2.cell k (by rw [ints_len, hl]; exact hk), ints_get (by rw [hl]; exact hk)]
  have := matF_mat (f := f) hi hk
  rw [mat] at this
  rw [this]
theorem OwnMat.setF {w : World} {B g n : Nat} {cs : List Value} {f : Nat → Nat → Int} (h : OwnMat w B g n cs (matF n f)) {i q c : Nat} (hi : i < n) (hu : cs[i]? = some (.slice (some ⟨q, 0, none⟩) n c)) (k : Nat) (x : Int) :
    OwnMat (w.setCell ⟨q, k, none⟩ (.int .i64 x)) B g n cs (matF n fun a b => if a = i ∧ b = k then x else f a b) := by
  rw [← matF_set hi]; exact h.put hu k x
end Go.Proofs.YtifkieopaoooeaaDoor
