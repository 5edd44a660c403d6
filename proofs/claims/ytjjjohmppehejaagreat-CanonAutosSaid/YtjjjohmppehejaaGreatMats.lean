/- A matrix of the call's own: rows that lie apart, entries that are read and written. · The matrix of a graph, the program's. · The matrix of a graph, the reference's. -/
import Derived.Test.YtjjjohmppehejaaGreatVerts
import Derived.Test.YtjjjohmppehejaaGreatPlainC
import Derived.Test.YtjjjohmppehejaaGreatPlainG
import Derived.StillTailTactics
set_option linter.unusedSimpArgs false
set_option linter.unusedVariables false
namespace Go.Proofs.YtjjjohmppehejaaGreat
open Go.RowKit Plain

structure OwnMat (w : World) (B g n : Nat) (cs : List Value) (m : List (List Int)) : Prop where
  top : Own w B (.slice (some ⟨g, 0, none⟩) n n) 23 cs
  rows : OwnRows w B 3 cs m
  apart : ∀ (i j : Nat) u v, i ≠ j → cs[i]? = some u → cs[j]? = some v → u.ownBlock = none ∨ u.ownBlock ≠ v.ownBlock

section
variable {w w' : World} {B g n : Nat} {cs : List Value} {m : List (List Int)}
theorem OwnMat.len (h : OwnMat w B g n cs m) : cs.length = n := h.top.lit.symm
theorem OwnMat.mlen (h : OwnMat w B g n cs m) : m.length = n := by rw [← h.rows.1, h.len]
theorem OwnMat.kept (h : OwnMat w B g n cs m) (hg : w.grownBy w' none) : OwnMat w' B g n cs m :=
  ⟨h.top.kept hg (by right; exact fun e => by cases e), h.rows.kept hg (fun u xs hu => by rcases hu.blk with e | ⟨g, _, e, _⟩ <;> rw [e] <;> simp), h.apart⟩
theorem OwnMat.drewN (h : OwnMat w B g n cs m) (q : Nat) : OwnMat (w.drewN q) B g n cs m := ⟨h.top, h.rows, h.apart⟩
theorem OwnMat.drew (h : OwnMat w B g n cs m) : OwnMat w.drew B g n cs m := ⟨h.top, h.rows, h.apart⟩
theorem OwnMat.new (h : Own w B (.slice (some ⟨g, 0, none⟩) n n) 23 (List.replicate n (.slice none 0 0))) : OwnMat w B g n (List.replicate n (.slice none 0 0)) (List.replicate n []) := by
  refine ⟨h, ⟨by simp, fun i u xs hu hx => ?_⟩, fun i j u v _ hu _ => ?_⟩
  · have h1 := List.mem_replicate.1 (List.mem_of_getElem? hu)
    have h2 := List.mem_replicate.1 (List.mem_of_getElem? hx)
    rw [h1.2, h2.2]; exact Own.nil _ _ _
  · have h1 := List.mem_replicate.1 (List.mem_of_getElem? hu)
    rw [h1.2]; exact .inl rfl
/-- A row that has just been made is laid at its place. -/
theorem OwnMat.row (h : OwnMat w B g n cs m) (hg : w.grownBy w' none) {K c : Nat} (hK : w.heap.size ≤ K) {xs : List Int} {k : Nat} (hu : Own w' B (.slice (some ⟨K, 0, none⟩) k c) 3 (ints xs)) (i : Nat) :
    OwnMat (w'.setCell ⟨g, i, none⟩ (.slice (some ⟨K, 0, none⟩) k c)) B g n (cs.set i (.slice (some ⟨K, 0, none⟩) k c)) (m.set i xs) := by
  have h1 := h.kept hg
  have hgp := grown_put (w := w') (g := g) i (.slice (some ⟨K, 0, none⟩) k c)
  have hne : ∀ (u : Value) (xs : List Value), Own w' B u 3 xs → u.ownBlock = none ∨ u.ownBlock ≠ some g := fun u xs hu => hu.ne_type h1.top (by decide)
  refine ⟨h1.top.put i _, ⟨by simp [h.rows.1], fun j u ys hj hy => ?_⟩, fun a b u v hab ha hb => ?_⟩
  · rw [List.getElem?_set] at hj hy
    by_cases e : i = j
    · rw [if_pos e] at hj hy
      split at hj
      · rename_i hl
        rw [← h.rows.1] at hy
        rw [if_pos hl] at hy
        cases hj; cases hy
        exact hu.kept hgp (hne _ _ hu)
      · cases hj
    · rw [if_neg e] at hj hy
      have := h1.rows.2 j u ys hj hy
      exact this.kept hgp (hne _ _ this)
  · rw [List.getElem?_set] at ha hb
    have old : ∀ {x : Nat} {z : Value}, cs[x]? = some z → ∀ q, z.ownBlock = some q → q < w.heap.size := fun {x z} hz q hq => by
      have hx : x < m.length := by rw [← h.rows.1]; exact (List.getElem?_eq_some_iff.1 hz).1
      rcases (h.rows.2 x z _ hz (List.getElem?_eq_getElem hx)).blk with e | ⟨q', _, e, _, hl, _⟩
      · rw [e] at hq; cases hq
      · rw [e] at hq; cases hq; exact hl
    by_cases e1 : i = a
    · rw [if_neg (by omega : ¬ i = b)] at hb
      rw [if_pos e1] at ha
      split at ha
      · cases ha
        right
        intro he
        have := old hb K he.symm
        omega
      · cases ha
    · rw [if_neg e1] at ha
      by_cases e2 : i = b
      · rw [if_pos e2] at hb
        split at hb
        · cases hb
          cases hz : u.ownBlock with
          | none => exact .inl rfl
          | some q =>
            right
            intro he
            have := old ha q hz
            have h2 := old ha q hz
            cases he
            exact absurd h2 (by simp; omega)
        · cases hb
      · rw [if_neg e2] at hb
        exact h.apart a b u v hab ha hb
/-- A row's value. -/
theorem OwnMat.at_ (h : OwnMat w B g n cs m) {i : Nat} (hi : i < n) (hl : 0 < (m[i]?.getD []).length) :
    ∃ q c, cs[i]? = some (.slice (some ⟨q, 0, none⟩) (m[i]?.getD []).length c) ∧ Own w B (.slice (some ⟨q, 0, none⟩) (m[i]?.getD []).length c) 3 (ints (m[i]?.getD [])) ∧
      w.cell? ⟨g, i, none⟩ = some (.slice (some ⟨q, 0, none⟩) (m[i]?.getD []).length c) ∧ w.frozen? ⟨g, i, none⟩ = false ∧ B ≤ q := by
  obtain ⟨u, hu, ho⟩ := h.rows.at_ (k := i) (by rw [h.mlen]; exact hi)
  obtain ⟨q, c, rfl, hB, _⟩ := ho.form (by rw [ints_len]; exact hl)
  rw [ints_len] at hu ho
  refine ⟨q, c, hu, ho, ?_, h.top.frozen i, hB⟩
  rw [h.top.cell i (by rw [h.len]; exact hi), hu]
/-- An entry is written. -/
theorem OwnMat.put (h : OwnMat w B g n cs m) {i q k c : Nat} (hi : cs[i]? = some (.slice (some ⟨q, 0, none⟩) k c)) (j : Nat) (x : Int) :
    OwnMat (w.setCell ⟨q, j, none⟩ (.int .i64 x)) B g n cs (m.set i ((m[i]?.getD []).set j x)) := by
  have hin : i < m.length := by rw [← h.rows.1]; exact (List.getElem?_eq_some_iff.1 hi).1
  have ho := h.rows.2 i _ _ hi (List.getElem?_eq_getElem hin)
  have hgp := grown_put (w := w) (g := q) j (.int .i64 x)
  refine ⟨h.top.kept hgp (h.top.ne_type ho (by decide)), ⟨by simp [h.rows.1], fun a u ys ha hy => ?_⟩, h.apart⟩
  rw [List.getElem?_set] at hy
  by_cases e : i = a
  · subst e
    rw [if_pos rfl, if_pos hin] at hy
    cases hy
    rw [hi] at ha
    cases ha
    rw [List.getElem?_eq_getElem hin, Option.getD_some, ← ints_set]
    exact ho.put j _
  · rw [if_neg e] at hy
    refine (h.rows.2 a u ys ha hy).kept hgp ?_
    exact h.apart a i u _ (fun e' => e e'.symm) ha hi
theorem OwnMat.rows_ (h : OwnMat w B g n cs m) (hl : n ≤ maxLen) (hs : ∀ xs ∈ m, xs.length ≤ maxLen) : Rows w (some ⟨g, 0, none⟩) m := by
  obtain ⟨a, c, e, hr⟩ := h.rows.rows h.top (by rw [h.len]; exact hl) hs
  injection e with e1 e2 e3
  subst e1
  exact hr
theorem OwnMat.block (h : OwnMat w B g n cs m) : B ≤ g := by
  rcases h.top.blk with e | ⟨q, _, e, hB, _⟩
  · cases e
  · cases e; exact hB
end

/-- A matrix as a function of its places. -/
def matF (n : Nat) (f : Nat → Nat → Int) : List (List Int) := (List.range n).map fun i => (List.range n).map (f i)
theorem matF_row {n : Nat} {f : Nat → Nat → Int} {i : Nat} (h : i < n) : (matF n f)[i]?.getD [] = (List.range n).map (f i) := by simp [matF, h]
theorem matF_isMat (n : Nat) (f : Nat → Nat → Int) : IsMat n (matF n f) := ⟨by simp [matF], fun r hr => by obtain ⟨i, _, rfl⟩ := List.mem_map.1 hr; simp⟩
theorem matF_mat {n : Nat} {f : Nat → Nat → Int} {i k : Nat} (hi : i < n) (hk : k < n) : mat (matF n f) i k = f i k := by rw [mat, matF_row hi]; simp [hk]
theorem matF_set {n : Nat} {f : Nat → Nat → Int} {i k : Nat} (hi : i < n) (x : Int) :
    (matF n f).set i (((matF n f)[i]?.getD []).set k x) = matF n (fun a b => if a = i ∧ b = k then x else f a b) := by
  rw [matF_row hi]
  apply List.ext_getElem?
  intro a
  rw [List.getElem?_set]
  by_cases e : i = a
  · subst e
    rw [if_pos rfl, if_pos (by simpa [matF] using hi)]
    simp only [matF, List.getElem?_map, List.getElem?_range hi, Option.map_some, Option.some.injEq]
    apply List.ext_getElem?
    intro b
    rw [List.getElem?_set]
    by_cases e2 : k = b
    · subst e2
      by_cases hk : k < n
      · simp [hk]
      · simp [hk]
    · rw [if_neg e2]
      by_cases hb : b < n
      · simp only [List.getElem?_map, List.getElem?_range hb, Option.map_some, Option.some.injEq]
        rw [if_neg (by rintro ⟨_, h⟩; exact e2 h.symm)]
      · simp [hb]
  · rw [if_neg e]
    by_cases ha : a < n
    · simp only [matF, List.getElem?_map, List.getElem?_range ha, Option.map_some, Option.some.injEq]
      apply List.map_congr_left
      intro b _
      rw [if_neg (by rintro ⟨h, _⟩; exact e h.symm)]
    · simp [matF, ha]
/-- The rows that have been made. -/
def begun (n i : Nat) : List (List Int) := (List.range n).map fun a => if a < i then List.replicate n 0 else []
theorem begun_zero (n : Nat) : List.replicate n [] = begun n 0 := by
  apply List.ext_getElem?
  intro a
  by_cases h : a < n <;> simp [begun, h, List.getElem?_replicate]
theorem begun_set {n i : Nat} (h : i < n) : (begun n i).set i (List.replicate n 0) = begun n (i + 1) := by
  apply List.ext_getElem?
  intro a
  rw [List.getElem?_set]
  by_cases e : i = a
  · subst e; simp [begun, h]
  · rw [if_neg e]
    by_cases ha : a < n
    · have : (a < i) = (a < i + 1) := by apply propext; omega
      simp [begun, ha, this]
    · simp [begun, ha]
theorem begun_all (n : Nat) : begun n n = matF n (fun _ _ => 0) := by
  apply List.ext_getElem?
  intro a
  by_cases ha : a < n
  · simp only [begun, matF, List.getElem?_map, List.getElem?_range ha, Option.map_some, if_pos ha, Option.some.injEq]
    apply List.ext_getElem?
    intro b
    by_cases hb : b < n <;> simp [hb, List.getElem?_replicate]
  · simp [begun, matF, ha]
end Go.Proofs.YtjjjohmppehejaaGreat
namespace Go.Proofs.YtjjjohmppehejaaGreat
open Go.RowKit Plain
theorem OwnMat.entry {w : World} {B g n : Nat} {cs : List Value} {f : Nat → Nat → Int} (h : OwnMat w B g n cs (matF n f)) {i k : Nat} (hi : i < n) (hk : k < n) :
    ∃ q c, cs[i]? = some (.slice (some ⟨q, 0, none⟩) n c) ∧ w.cell? ⟨g, i, none⟩ = some (.slice (some ⟨q, 0, none⟩) n c) ∧ w.cell? ⟨q, k, none⟩ = some (.int .i64 (f i k)) ∧ w.frozen? ⟨q, k, none⟩ = false ∧ B ≤ q := by
  have hl : ((matF n f)[i]?.getD []).length = n := by rw [matF_row hi]; simp
  obtain ⟨q, c, h1, h2, h3, _, h5⟩ := h.at_ hi (by omega)
  rw [hl] at h1 h2 h3
  refine ⟨q, c, h1, h3, ?_, h2.frozen k, h5⟩
  rw [h2.cell k (by rw [ints_len, hl]; exact hk), ints_get (by rw [hl]; exact hk)]
  have := matF_mat (f := f) hi hk
  rw [mat] at this
  rw [this]
theorem OwnMat.setF {w : World} {B g n : Nat} {cs : List Value} {f : Nat → Nat → Int} (h : OwnMat w B g n cs (matF n f)) {i q c : Nat} (hi : i < n) (hu : cs[i]? = some (.slice (some ⟨q, 0, none⟩) n c)) (k : Nat) (x : Int) :
    OwnMat (w.setCell ⟨q, k, none⟩ (.int .i64 x)) B g n cs (matF n fun a b => if a = i ∧ b = k then x else f a b) := by
  rw [← matF_set hi]; exact h.put hu k x
end Go.Proofs.YtjjjohmppehejaaGreat

namespace Go.Proofs.YtjjjohmppehejaaGreat
open Go.RowKit Plain PlainG
/-- The matrix of edges. -/
def adjF (es : List (Int × Int)) (i k : Nat) : Int := if adj es i k = true then 1 else 0
theorem adjF_nil : adjF [] = fun _ _ => 0 := by funext i k; simp [adjF, adj]
theorem adjF_app (es : List (Int × Int)) (x y : Nat) : (fun a b => if a = y ∧ b = x then (1 : Int) else if a = x ∧ b = y then 1 else adjF es a b) = adjF (es ++ [((x : Int), (y : Int))]) := by
  funext a b
  unfold adjF
  have : adj (es ++ [((x : Int), (y : Int))]) a b = (adj es a b || ((a == x && b == y) || (a == y && b == x))) := by
    unfold adj
    rw [List.any_append]
    congr 1
    rw [Bool.eq_iff_iff]
    simp
    omega
  rw [this]
  by_cases h1 : a = y ∧ b = x
  · rw [if_pos h1, if_pos (by simp [h1])]
  · rw [if_neg h1]
    by_cases h2 : a = x ∧ b = y
    · rw [if_pos h2, if_pos (by simp [h2])]
    · rw [if_neg h2]
      have : ((a == x && b == y) || (a == y && b == x)) = false := by
        rw [Bool.eq_false_iff]
        intro h
        simp at h
        rcases h with h | h
        · exact h2 h
        · exact h1 h
      rw [this, Bool.or_false]
theorem adjF_app' (es : List (Int × Int)) (x y : Nat) : (fun a b => if a = x ∧ b = y then (1 : Int) else if a = y ∧ b = x then 1 else adjF es a b) = adjF (es ++ [((x : Int), (y : Int))]) := by
  rw [← adjF_app]
  funext a b
  by_cases h1 : a = y ∧ b = x <;> by_cases h2 : a = x ∧ b = y <;> simp [h1, h2]
set_option maxRecDepth 100000 in
set_option maxHeartbeats 4000000 in
theorem gmatrix_calls {w : World} {a b : Option Addr} {c d L M : Nat} {n : Nat} {es : List (Int × Int)} (he : Edg w a es) (hL : es.length = L) (hn : n ≤ 100) (hev : ∀ x ∈ es, 0 ≤ x.1 ∧ x.1 < n ∧ 0 ≤ x.2 ∧ x.2 < n) :
    Calls Tryz.prog 64 #[.agg #[.int .i64 (n : Int), .slice a L c, .slice b M d]] w fun e w' => ∃ G cs, e = .returned (.slice (some ⟨G, 0, none⟩) n n) ∧ OwnMat w' w.heap.size G n cs (matF n (adjF es)) ∧ Below w.heap.size w w' := by
  obtain ⟨i3, hi3, hz3, hs3, hb3⟩ := info_parts Tryz.info3
  obtain ⟨i29, hi29, hz29, hs29, hb29⟩ := info_parts Tryz.info23
  have I3 := Lib.hid (And.intro hi3 (And.intro hz3 (And.intro hs3 hb3)))
  have I29 := Lib.hid (And.intro hi29 (And.intro hz29 (And.intro hs29 hb29)))
  clear hi3 hz3 hs3 hb3 hi29 hz29 hs29 hb29
  have hmax := he.len
  rw [hL] at hmax
  obtain ⟨D, hD⟩ : ∃ D, w.heap.size = D := ⟨_, rfl⟩
  have hx0 : Below D w (w.alloc (.cells #[.int .i64 (n : Int), .slice a L c, .slice b M d] 25)) := by rw [← hD]; exact (Below.refl _ w).alloc (Nat.le_refl _) _
  have hbox : ∀ w2, Below (D + 1) (w.alloc (.cells #[.int .i64 (n : Int), .slice a L c, .slice b M d] 25)) w2 → w2.cell? ⟨D, 0, none⟩ = some (.int .i64 (n : Int)) ∧ w2.cell? ⟨D, 1, none⟩ = some (.slice a L c) := fun w2 h => by
    rw [← hD] at h ⊢
    exact ⟨(h.cell (p := ⟨w.heap.size, 0, none⟩) (Nat.lt_succ_self _)).trans (by simp), (h.cell (p := ⟨w.heap.size, 1, none⟩) (Nat.lt_succ_self _)).trans (by simp)⟩
  have hs1 : (w.alloc (.cells #[.int .i64 (n : Int), .slice a L c, .slice b M d] 25)).heap.size = D + 1 := by rw [← hD]; simp
  have H := Lib.hid (And.intro he (And.intro hL (And.intro hev (And.intro hx0 (And.intro hbox (And.intro hs1 hD))))))
  clear he hev hL hx0 hbox hs1
  go_enter Tryz.func64, Tryz.ntmps64
  go_wp2_with (at_make; refine mk1 rfl _ _ 28 23 rfl i29 (.slice none 0 0) 24 Tryz.underlying28 I29.out.1 I29.out.2.1 I29.out.2.2.1 I29.out.2.2.2 rfl (by omega) (D + 1) n rfl rfl (by omega) (by simp; omega) ?_; intro w1 hd hg hz1; have H1 := Lib.hid (And.intro hd hg); clear hd hg hz1)
  rw [H.out.2.2.2.2.2.1] at H1
  obtain ⟨W0, hW0⟩ : ∃ W0, W0 = w.alloc (.cells #[.int .i64 (n : Int), .slice a L c, .slice b M d] 25) := ⟨_, rfl⟩
  rw [← hW0] at H H1
  clear hW0
  obtain ⟨E, hE⟩ : ∃ E, D + 1 = E := ⟨_, rfl⟩
  rw [hE] at H H1 ⊢
  have hbl : Below E W0 w1 := (Below.refl _ _).grown H1.out.2 (by rw [H.out.2.2.2.2.2.1]; exact Nat.le_refl _) (fun k hk => by cases hk)
  have hm0 : OwnMat w1 E E n (List.replicate n (.slice none 0 0)) (begun n 0) := by rw [← begun_zero]; exact OwnMat.new H1.out.1
  have H2 := Lib.hid (And.intro hm0 hbl)
  have HE := Lib.hid (And.intro hE hD)
  clear hm0 hbl H1 hE hD
  go_loopw [12] (fun i wr => ∃ (k : Nat) (cs : List Value), k ≤ n ∧ i = .int .i64 k ∧ OwnMat wr E E n cs (begun n k) ∧ Below E W0 wr) (fun i _ => n - (intOf i).toNat)
  case atStart => exact ⟨0, _, by omega, rfl, H2.out.1, H2.out.2⟩
  case round =>
    clear H2
    obtain ⟨k, cs, hk, rfl, hm, hbl⟩ := hrel
    have hDr : E ≤ wr.heap.size := by have := hbl.size; have := H.out.2.2.2.2.2.1; omega
    obtain ⟨g0, g1⟩ := H.out.2.2.2.2.1 _ hbl
    by_cases hlt : k < n
    · obtain ⟨u0, hu0⟩ : ∃ u, cs[k]? = some u := ⟨_, List.getElem?_eq_getElem (by rw [hm.len]; exact hlt)⟩
      have Hu := Lib.hid hu0
      have H3 := Lib.hid (And.intro hm (And.intro hbl hDr))
      clear hm hbl hu0
      go_wp2_with (at_make; refine mk1 rfl _ _ 23 3 rfl i3 (.int .i64 0) 8 Tryz.underlying23 I3.out.1 I3.out.2.1 I3.out.2.2.1 I3.out.2.2.2 rfl (by omega) E n rfl rfl (by omega) H3.out.2.2 ?_; intro w2 hd hg hz1; have hm2 := H3.out.1.kept hg; have hcl := (hm2.top.cell k (by rw [hm2.len]; exact hlt)).trans Hu.out; have hfz := hm2.top.frozen k; rw [ints_zero] at hd; have H2 := Lib.hid (And.intro hd hg); clear hd hg hm2 hz1)
      refine ⟨⟨k + 1, cs.set k (.slice (some ⟨wr.heap.size, 0, none⟩) n n), by omega, by go_num, ?_, ?_⟩, by simp [intOf]; omega⟩
      · rw [← begun_set hlt]
        exact H3.out.1.row H2.out.2 (Nat.le_refl _) H2.out.1 k
      · exact (H3.out.2.1.grown H2.out.2 H3.out.2.2 (fun k hk => by cases hk)).setCell (Nat.le_refl _) _
    · obtain rfl : k = n := by omega
      have hm0 : OwnMat wr E E k cs (matF k (adjF (es.take 0))) := by rw [List.take_zero, adjF_nil, ← begun_all]; exact hm
      have H3 := Lib.hid (And.intro hm0 (And.intro hbl hDr))
      clear hm hm0 hbl hDr
      go_wp2
      go_loopw [25] (fun i wr => ∃ x : Nat, x ≤ L ∧ i = .int .i64 x ∧ OwnMat wr E E k cs (matF k (adjF (es.take x))) ∧ Below E W0 wr ∧ E ≤ wr.heap.size) (fun i _ => L - (intOf i).toNat)
      case atStart => exact ⟨0, Nat.zero_le _, rfl, H3.out.1, H3.out.2.1, H3.out.2.2⟩
      case round =>
        clear H3
        obtain ⟨j, hj, rfl, hm, hbl, hEr⟩ := hrel
        by_cases hjl : j < L
        · have hjn : j < es.length := by rw [H.out.2.1]; exact hjl
          obtain ⟨x, hx⟩ : ∃ x, es[j]? = some x := ⟨_, List.getElem?_eq_getElem hjn⟩
          have hxv := H.out.2.2.1 x (List.mem_of_getElem? hx)
          obtain ⟨x1, x2⟩ := x
          obtain ⟨x, rfl⟩ : ∃ i : Nat, x1 = i := ⟨x1.toNat, by simp only at hxv; omega⟩
          obtain ⟨y, rfl⟩ : ∃ j : Nat, x2 = j := ⟨x2.toNat, by simp only at hxv; omega⟩
          have hwb : Below w.heap.size w wr := by
            have h1 := H.out.2.2.2.1
            have h2 := HE.out
            rw [h2.2]
            exact h1.trans (hbl.mono (by omega))
          obtain ⟨B, o, rfl, hBl, c1, c2⟩ := (H.out.1.below hwb).at_ j _ hx
          simp only at c1 c2 hxv
          have hxn : x < k := by omega
          have hyn : y < k := by omega
          have htk : es.take (j + 1) = es.take j ++ [((x : Int), (y : Int))] := by rw [List.take_add_one, hx]; rfl
          obtain ⟨wx, hwx⟩ : ∃ wx, wx = wr.alloc (.cells #[.int .i64 (x : Int), .int .i64 (y : Int)] 58) := ⟨_, rfl⟩
          have x1 : wx.cell? ⟨wr.heap.size, 0, none⟩ = some (.int .i64 (x : Int)) := by rw [hwx]; simp
          have x2 : wx.cell? ⟨wr.heap.size, 1, none⟩ = some (.int .i64 (y : Int)) := by rw [hwx]; simp
          have hmx : OwnMat wx E E k cs (matF k (adjF (es.take j))) := by rw [hwx]; exact hm.kept (grown_alloc _ _ none)
          have hblx : Below E W0 wx := by rw [hwx]; exact hbl.alloc hEr _
          have hEx : E ≤ wx.heap.size := by rw [hwx]; simp; omega
          obtain ⟨q1, d1, u1, e11, e12, e13, e14⟩ := hmx.entry hxn hyn
          obtain ⟨q2, d2, u2, e21, e22, e23, e24⟩ := hmx.entry hyn hxn
          have hm2 := hmx.setF hxn u1 y 1
          obtain ⟨q3, d3, u3, e31, e32, e33, e34⟩ := hm2.entry hyn hxn
          rw [u2] at u3
          cases u3
          have HS := Lib.hid (And.intro hmx (And.intro hblx (And.intro hEx (And.intro htk (And.intro u1 (And.intro u2 (And.intro e14 (And.intro e24 hm2))))))))
          have HW := Lib.hid hwx
          have HN := Lib.hid (show wr.heap.size ≠ q1 ∧ wr.heap.size ≠ q2 ∧ E ≠ q1 ∧ E ≠ q2 from by
            have h1 := hm.rows.2 x _ _ u1 (List.getElem?_eq_getElem (by rw [hm.mlen]; exact hxn))
            have h2 := hm.rows.2 y _ _ u2 (List.getElem?_eq_getElem (by rw [hm.mlen]; exact hyn))
            have b1 := (h1.block_lt (g := q1) rfl).1
            have b2 := (h2.block_lt (g := q2) rfl).1
            refine ⟨by omega, by omega, ?_, ?_⟩
            · intro e; rcases h1.ne_type hm.top (by decide) with h | h
              · cases h
              · exact h (by rw [← e]; rfl)
            · intro e; rcases h2.ne_type hm.top (by decide) with h | h
              · cases h
              · exact h (by rw [← e]; rfl))
          clear hm hbl hmx hblx hx hwb htk u1 u2 hwx hm2
          go_wp2
          rw [← HW.out]
          clear HW
          have n1 : wr.heap.size ≠ q1 := HN.out.1
          have n2 : wr.heap.size ≠ q2 := HN.out.2.1
          have n3 : E ≠ q1 := HN.out.2.2.1
          have n4 : E ≠ q2 := HN.out.2.2.2
          go_region
          go_wp2
          have hm3 := (HS.out.2.2.2.2.2.2.2.2.setF hyn HS.out.2.2.2.2.2.1 x 1).drew
          have hf : (fun a b => if a = y ∧ b = x then (1 : Int) else if a = x ∧ b = y then 1 else adjF (es.take j) a b) = adjF (es.take (j + 1)) := by rw [adjF_app, HS.out.2.2.2.1]
          rw [hf] at hm3
          refine ⟨⟨j + 1, by omega, by go_num, hm3, ?_, ?_⟩, by simp [intOf]; omega⟩
          · exact ((HS.out.2.1.setCell (by simpa using HS.out.2.2.2.2.2.2.1) _).setCell (by simpa using HS.out.2.2.2.2.2.2.2.1) _).drew
          · simpa [World.setCell] using HS.out.2.2.1
        · obtain rfl : j = L := by omega
          have htk : es.take j = es := List.take_of_length_le (by rw [H.out.2.1]; omega)
          rw [htk] at hm
          have HS := Lib.hid (And.intro hm hbl)
          clear hm hbl
          go_wp2
          go_ret
          have h2 := HE.out
          refine ⟨E, cs, rfl, ?_, ?_⟩
          · have h3 := HS.out.1
            rw [h2.2]
            exact ⟨h3.top.mono (by omega), h3.rows.mono (by omega), h3.apart⟩
          · rw [h2.2]
            exact H.out.2.2.2.1.trans (HS.out.2.mono (by omega))
end Go.Proofs.YtjjjohmppehejaaGreat

namespace Go.Proofs.YtjjjohmppehejaaGreat
open Go.RowKit Plain PlainG
set_option maxRecDepth 100000 in
set_option maxHeartbeats 4000000 in
theorem gmatrixR_calls {w : World} {a b : Option Addr} {c d L M : Nat} {n : Nat} {es : List (Int × Int)} (he : Edg w a es) (hL : es.length = L) (hn : n ≤ 100) (hev : ∀ x ∈ es, 0 ≤ x.1 ∧ x.1 < n ∧ 0 ≤ x.2 ∧ x.2 < n) :
    Calls Tryz.prog 50 #[.agg #[.int .i64 (n : Int), .slice a L c, .slice b M d]] w fun e w' => ∃ G cs, e = .returned (.slice (some ⟨G, 0, none⟩) n n) ∧ OwnMat w' w.heap.size G n cs (matF n (adjF es)) ∧ Below w.heap.size w w' := by
  obtain ⟨i3, hi3, hz3, hs3, hb3⟩ := info_parts Tryz.info3
  obtain ⟨i29, hi29, hz29, hs29, hb29⟩ := info_parts Tryz.info23
  have I3 := Lib.hid (And.intro hi3 (And.intro hz3 (And.intro hs3 hb3)))
  have I29 := Lib.hid (And.intro hi29 (And.intro hz29 (And.intro hs29 hb29)))
  clear hi3 hz3 hs3 hb3 hi29 hz29 hs29 hb29
  have hmax := he.len
  rw [hL] at hmax
  obtain ⟨D, hD⟩ : ∃ D, w.heap.size = D := ⟨_, rfl⟩
  have hx0 : Below D w (w.alloc (.cells #[.int .i64 (n : Int), .slice a L c, .slice b M d] 25)) := by rw [← hD]; exact (Below.refl _ w).alloc (Nat.le_refl _) _
  have hbox : ∀ w2, Below (D + 1) (w.alloc (.cells #[.int .i64 (n : Int), .slice a L c, .slice b M d] 25)) w2 → w2.cell? ⟨D, 0, none⟩ = some (.int .i64 (n : Int)) ∧ w2.cell? ⟨D, 1, none⟩ = some (.slice a L c) := fun w2 h => by
    rw [← hD] at h ⊢
    exact ⟨(h.cell (p := ⟨w.heap.size, 0, none⟩) (Nat.lt_succ_self _)).trans (by simp), (h.cell (p := ⟨w.heap.size, 1, none⟩) (Nat.lt_succ_self _)).trans (by simp)⟩
  have hs1 : (w.alloc (.cells #[.int .i64 (n : Int), .slice a L c, .slice b M d] 25)).heap.size = D + 1 := by rw [← hD]; simp
  have H := Lib.hid (And.intro he (And.intro hL (And.intro hev (And.intro hx0 (And.intro hbox (And.intro hs1 hD))))))
  clear he hev hL hx0 hbox hs1
  go_enter Tryz.func50, Tryz.ntmps50
  go_wp2_with (at_make; refine mk1 rfl _ _ 28 23 rfl i29 (.slice none 0 0) 24 Tryz.underlying28 I29.out.1 I29.out.2.1 I29.out.2.2.1 I29.out.2.2.2 rfl (by omega) (D + 1) n rfl rfl (by omega) (by simp; omega) ?_; intro w1 hd hg hz1; have H1 := Lib.hid (And.intro hd hg); clear hd hg hz1)
  rw [H.out.2.2.2.2.2.1] at H1
  obtain ⟨W0, hW0⟩ : ∃ W0, W0 = w.alloc (.cells #[.int .i64 (n : Int), .slice a L c, .slice b M d] 25) := ⟨_, rfl⟩
  rw [← hW0] at H H1
  clear hW0
  obtain ⟨E, hE⟩ : ∃ E, D + 1 = E := ⟨_, rfl⟩
  rw [hE] at H H1 ⊢
  have hbl : Below E W0 w1 := (Below.refl _ _).grown H1.out.2 (by rw [H.out.2.2.2.2.2.1]; exact Nat.le_refl _) (fun k hk => by cases hk)
  have hm0 : OwnMat w1 E E n (List.replicate n (.slice none 0 0)) (begun n 0) := by rw [← begun_zero]; exact OwnMat.new H1.out.1
  have H2 := Lib.hid (And.intro hm0 hbl)
  have HE := Lib.hid (And.intro hE hD)
  clear hm0 hbl H1 hE hD
  go_loopw [4] (fun i wr => ∃ (k : Nat) (cs : List Value), k ≤ n ∧ i = .int .i64 k ∧ OwnMat wr E E n cs (begun n k) ∧ Below E W0 wr) (fun i _ => n - (intOf i).toNat)
  case atStart => exact ⟨0, _, by omega, rfl, H2.out.1, H2.out.2⟩
  case round =>
    clear H2
    obtain ⟨k, cs, hk, rfl, hm, hbl⟩ := hrel
    have hDr : E ≤ wr.heap.size := by have := hbl.size; have := H.out.2.2.2.2.2.1; omega
    obtain ⟨g0, g1⟩ := H.out.2.2.2.2.1 _ hbl
    by_cases hlt : k < n
    · obtain ⟨u0, hu0⟩ : ∃ u, cs[k]? = some u := ⟨_, List.getElem?_eq_getElem (by rw [hm.len]; exact hlt)⟩
      have Hu := Lib.hid hu0
      have H3 := Lib.hid (And.intro hm (And.intro hbl hDr))
      clear hm hbl hu0
      go_wp2_with (at_make; refine mk1 rfl _ _ 23 3 rfl i3 (.int .i64 0) 8 Tryz.underlying23 I3.out.1 I3.out.2.1 I3.out.2.2.1 I3.out.2.2.2 rfl (by omega) E n rfl rfl (by omega) H3.out.2.2 ?_; intro w2 hd hg hz1; have hm2 := H3.out.1.kept hg; have hcl := (hm2.top.cell k (by rw [hm2.len]; exact hlt)).trans Hu.out; have hfz := hm2.top.frozen k; rw [ints_zero] at hd; have H2 := Lib.hid (And.intro hd hg); clear hd hg hm2 hz1)
      refine ⟨⟨k + 1, cs.set k (.slice (some ⟨wr.heap.size, 0, none⟩) n n), by omega, by go_num, ?_, ?_⟩, by simp [intOf]; omega⟩
      · rw [← begun_set hlt]
        exact H3.out.1.row H2.out.2 (Nat.le_refl _) H2.out.1 k
      · exact (H3.out.2.1.grown H2.out.2 H3.out.2.2 (fun k hk => by cases hk)).setCell (Nat.le_refl _) _
    · obtain rfl : k = n := by omega
      have hm0 : OwnMat wr E E k cs (matF k (adjF (es.take 0))) := by rw [List.take_zero, adjF_nil, ← begun_all]; exact hm
      have H3 := Lib.hid (And.intro hm0 (And.intro hbl hDr))
      clear hm hm0 hbl hDr
      go_wp2
      go_loopw [5] (fun i wr => ∃ x : Nat, x ≤ L ∧ i = .int .i64 x ∧ OwnMat wr E E k cs (matF k (adjF (es.take x))) ∧ Below E W0 wr ∧ E ≤ wr.heap.size) (fun i _ => L - (intOf i).toNat)
      case atStart => exact ⟨0, Nat.zero_le _, rfl, H3.out.1, H3.out.2.1, H3.out.2.2⟩
      case round =>
        clear H3
        obtain ⟨j, hj, rfl, hm, hbl, hEr⟩ := hrel
        obtain ⟨h0', h1'⟩ := H.out.2.2.2.2.1 _ hbl
        by_cases hjl : j < L
        · have hjn : j < es.length := by rw [H.out.2.1]; exact hjl
          obtain ⟨x, hx⟩ : ∃ x, es[j]? = some x := ⟨_, List.getElem?_eq_getElem hjn⟩
          have hxv := H.out.2.2.1 x (List.mem_of_getElem? hx)
          obtain ⟨x1, x2⟩ := x
          obtain ⟨x, rfl⟩ : ∃ i : Nat, x1 = i := ⟨x1.toNat, by simp only at hxv; omega⟩
          obtain ⟨y, rfl⟩ : ∃ j : Nat, x2 = j := ⟨x2.toNat, by simp only at hxv; omega⟩
          have hwb : Below w.heap.size w wr := by
            have h1 := H.out.2.2.2.1
            have h2 := HE.out
            rw [h2.2]
            exact h1.trans (hbl.mono (by omega))
          obtain ⟨B, o, rfl, hBl, c1, c2⟩ := (H.out.1.below hwb).at_ j _ hx
          simp only at c1 c2 hxv
          have hxn : x < k := by omega
          have hyn : y < k := by omega
          have htk : es.take (j + 1) = es.take j ++ [((x : Int), (y : Int))] := by rw [List.take_add_one, hx]; rfl
          obtain ⟨q1, d1, u1, e11, e12, e13, e14⟩ := hm.entry hxn hyn
          have hm2 := (hm.setF hxn u1 y 1).drew
          obtain ⟨q2, d2, u2, e21, e22, e23, e24⟩ := hm2.entry hyn hxn
          have hbl2 : Below E W0 (wr.setCell ⟨q1, y, none⟩ (.int .i64 1)).drew := (hbl.setCell (by simpa using e14) _).drew
          obtain ⟨f0, f1⟩ := H.out.2.2.2.2.1 _ hbl2
          have hwb2 : Below w.heap.size w (wr.setCell ⟨q1, y, none⟩ (.int .i64 1)).drew := by
            have h1 := H.out.2.2.2.1
            have h2 := HE.out
            rw [h2.2]
            exact h1.trans (hbl2.mono (by omega))
          obtain ⟨B', o', eb, _, c3, c4⟩ := (H.out.1.below hwb2).at_ j _ hx
          cases eb
          simp only at c3 c4
          have hEr2 : E ≤ (wr.setCell ⟨q1, y, none⟩ (.int .i64 1)).drew.heap.size := by simpa [World.setCell] using hEr
          have HS := Lib.hid (And.intro hm2 (And.intro hbl2 (And.intro hEr2 (And.intro htk (And.intro u2 e24)))))
          clear hm hbl hx hwb htk u1 u2 hm2 hbl2 hwb2 hEr2
          go_wp2
          go_region
          obtain ⟨wy, hwy⟩ : ∃ wy, wy = (wr.setCell ⟨q1, y, none⟩ (.int .i64 1)).drew := ⟨_, rfl⟩
          rw [← hwy] at HS f0 f1 c3 c4 e21 e22 e23 ⊢
          clear hwy
          go_wp2
          go_region
          go_wp2
          have hm3 := (HS.out.1.setF hyn HS.out.2.2.2.2.1 x 1).drew
          have hf : (fun a b => if a = y ∧ b = x then (1 : Int) else if a = x ∧ b = y then 1 else adjF (es.take j) a b) = adjF (es.take (j + 1)) := by rw [adjF_app, HS.out.2.2.2.1]
          rw [hf] at hm3
          refine ⟨⟨j + 1, by omega, by go_num, hm3, ?_, ?_⟩, by simp [intOf]; omega⟩
          · exact (HS.out.2.1.setCell (by simpa using HS.out.2.2.2.2.2) _).drew
          · simpa [World.setCell] using HS.out.2.2.1
        · obtain rfl : j = L := by omega
          have htk : es.take j = es := List.take_of_length_le (by rw [H.out.2.1]; omega)
          rw [htk] at hm
          have HS := Lib.hid (And.intro hm hbl)
          clear hm hbl
          go_wp2
          go_ret
          have h2 := HE.out
          refine ⟨E, cs, rfl, ?_, ?_⟩
          · have h3 := HS.out.1
            rw [h2.2]
            exact ⟨h3.top.mono (by omega), h3.rows.mono (by omega), h3.apart⟩
          · rw [h2.2]
            exact H.out.2.2.2.1.trans (HS.out.2.mono (by omega))
end Go.Proofs.YtjjjohmppehejaaGreat
