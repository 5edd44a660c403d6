/- The rows of triples that Refine builds: what lies in memory while it does. -/
import Derived.Test.YtifkieopaoooeaaDoorSortT
import Derived.Test.YtifkieopaoooeaaDoorPlainSort
set_option linter.unusedSimpArgs false
set_option linter.unusedVariables false
namespace Go.Proofs.YtifkieopaoooeaaDoor
open Go.RowKit Go.Sort Go.Shelf Plain

def tri (lab : List Int) (m : List (List Int)) (v u : Nat) : T3 := (lab[u]?.getD 0, mat m v u, mat m u v)
def triTo (lab : List Int) (m : List (List Int)) (v u : Nat) : List T3 := (List.range u).map (tri lab m v)
theorem triTo_succ (lab : List Int) (m : List (List Int)) (v u : Nat) : triTo lab m v (u + 1) = triTo lab m v u ++ [tri lab m v u] := by
  simp [triTo, List.range_succ]
theorem triTo_len (lab : List Int) (m : List (List Int)) (v u : Nat) : (triTo lab m v u).length = u := by simp [triTo]

theorem Own.ne3 {w : World} {B B' : Nat} {v v' : Value} {e : TypeId} {xs : List Value} {ts : List T3} (h : Own w B v e xs) (h' : Own3 w B' v' ts) (hne : e ≠ 85) : v.ownBlock = none ∨ v.ownBlock ≠ v'.ownBlock := by
  rcases h.blk with h1 | ⟨g, cur, h1, _, _, h2⟩
  · exact .inl h1
  · right
    rcases h'.blk with h3 | ⟨g', cur', h3, _, _, h4⟩
    · rw [h1, h3]; simp
    · rw [h1, h3]
      intro he
      injection he with he
      subst he
      rw [h2] at h4
      injection h4 with h4
      injection h4 with _ h5
      exact hne h5
theorem Own3.ne {w : World} {B B' : Nat} {v v' : Value} {e : TypeId} {xs : List Value} {ts : List T3} (h' : Own3 w B' v' ts) (h : Own w B v e xs) (hne : e ≠ 85) : v'.ownBlock = none ∨ v'.ownBlock ≠ v.ownBlock := by
  rcases h'.blk with h3 | ⟨g', cur', h3, _, _, h4⟩
  · exact .inl h3
  · right
    rcases h.ne3 h' hne with h1 | h1
    · rw [h1, h3]; simp
    · exact fun e => h1 e.symm

/-- The boxes of a round, and the rows of triples that are done. -/
structure KeyS (w1 w : World) (D n B2 B3 B4 gk : Nat) (al : Option Addr) (cl : Nat) (lab : List Int) (m : List (List Int)) (v : Nat) (cs : List Value) (ks : List (List T3)) (K : Nat) : Prop where
  x2 : Own w D (.slice (some ⟨B2, 0, none⟩) 1 1) 22 [.slice al n cl]
  x3 : Own w D (.slice (some ⟨B3, 0, none⟩) 1 1) 84 [.slice (some ⟨gk, 0, none⟩) n n]
  x4 : Own w D (.slice (some ⟨B4, 0, none⟩) 1 1) 86 [.func (.func 43) #[] #[]]
  xl : Own w D (.slice al n cl) 3 (ints lab)
  dk : D ≤ K
  k2 : B2 < K
  k3 : B3 < K
  k4 : B4 < K
  kl : ∀ g, (Value.slice al n cl).ownBlock = some g → g < K
  lc : cs.length = v
  lk : ks.length = v
  row : ∀ (i : Nat) (u : Value) (ts : List T3), cs[i]? = some u → ks[i]? = some ts → Own3 w D u ts ∧ ∀ g, u.ownBlock = some g → g < K
  key : ∀ (i : Nat) (ts : List T3), ks[i]? = some ts → ts.Perm (triTo lab m i n) ∧ ts.Pairwise leT
  bel : Below D w1 w
section
variable {w1 w w' : World} {D n B2 B3 B4 gk : Nat} {al : Option Addr} {cl : Nat} {lab : List Int} {m : List (List Int)} {v : Nat} {cs : List Value} {ks : List (List T3)} {K : Nat}
theorem own1_ne {g K : Nat} (h : g < K) {row : Option Nat} (hr : ∀ g, row = some g → K ≤ g) {n c : Nat} : (Value.slice (some ⟨g, 0, none⟩) n c).ownBlock = none ∨ (Value.slice (some ⟨g, 0, none⟩) n c).ownBlock ≠ row := by
  right
  intro e
  have := hr g e.symm
  omega
theorem lt_ne {o : Option Nat} {K : Nat} (h : ∀ g, o = some g → g < K) {row : Option Nat} (hr : ∀ g, row = some g → K ≤ g) : o = none ∨ o ≠ row := by
  cases o with
  | none => exact .inl rfl
  | some g => right; intro e; have := hr g e.symm; have := h g rfl; omega
theorem KeyS.kept (h : KeyS w1 w D n B2 B3 B4 gk al cl lab m v cs ks K) {row : Option Nat} (hg : w.grownBy w' row) (hr : ∀ g, row = some g → K ≤ g) (hD : D ≤ w.heap.size) : KeyS w1 w' D n B2 B3 B4 gk al cl lab m v cs ks K where
  x2 := h.x2.kept hg (own1_ne h.k2 hr)
  x3 := h.x3.kept hg (own1_ne h.k3 hr)
  x4 := h.x4.kept hg (own1_ne h.k4 hr)
  xl := h.xl.kept hg (lt_ne h.kl hr)
  dk := h.dk
  k2 := h.k2
  k3 := h.k3
  k4 := h.k4
  kl := h.kl
  lc := h.lc
  lk := h.lk
  row := fun i u ts hu ht => by
    obtain ⟨h1, h2⟩ := h.row i u ts hu ht
    exact ⟨h1.kept hg (lt_ne h2 hr), h2⟩
  key := h.key
  bel := h.bel.grown hg hD (fun k hk => Nat.le_trans h.dk (hr k hk))
theorem KeyS.put (h : KeyS w1 w D n B2 B3 B4 gk al cl lab m v cs ks K) {c : Nat} {xs : List Value} (hk : Own w D (.slice (some ⟨gk, 0, none⟩) n c) 87 xs) (hD : D ≤ gk) (i : Nat) (u : Value) : KeyS w1 (w.setCell ⟨gk, i, none⟩ u) D n B2 B3 B4 gk al cl lab m v cs ks K where
  x2 := h.x2.kept (grown_put i u) (h.x2.ne_type hk (by decide))
  x3 := h.x3.kept (grown_put i u) (h.x3.ne_type hk (by decide))
  x4 := h.x4.kept (grown_put i u) (h.x4.ne_type hk (by decide))
  xl := h.xl.kept (grown_put i u) (h.xl.ne_type hk (by decide))
  dk := h.dk
  k2 := h.k2
  k3 := h.k3
  k4 := h.k4
  kl := h.kl
  lc := h.lc
  lk := h.lk
  row := fun i' u' ts hu ht => by
    obtain ⟨h1, h2⟩ := h.row i' u' ts hu ht
    exact ⟨h1.kept (grown_put i u) (h1.ne hk (by decide)), h2⟩
  key := h.key
  bel := h.bel.setCell hD u
theorem KeyS.drewN (h : KeyS w1 w D n B2 B3 B4 gk al cl lab m v cs ks K) (q : Nat) : KeyS w1 (w.drewN q) D n B2 B3 B4 gk al cl lab m v cs ks K :=
  { h with bel := below_drewN h.bel q }
/-- A later bound serves too. -/
theorem KeyS.up (h : KeyS w1 w D n B2 B3 B4 gk al cl lab m v cs ks K) {K' : Nat} (hK : K ≤ K') : KeyS w1 w D n B2 B3 B4 gk al cl lab m v cs ks K' :=
  { h with
    dk := Nat.le_trans h.dk hK
    k2 := Nat.lt_of_lt_of_le h.k2 hK
    k3 := Nat.lt_of_lt_of_le h.k3 hK
    k4 := Nat.lt_of_lt_of_le h.k4 hK
    kl := fun g hg => Nat.lt_of_lt_of_le (h.kl g hg) hK
    row := fun i u ts hu ht => by
      obtain ⟨h1, h2⟩ := h.row i u ts hu ht
      exact ⟨h1, fun g hg => Nat.lt_of_lt_of_le (h2 g hg) hK⟩ }
/-- One row more is done. -/
theorem KeyS.next (h : KeyS w1 w D n B2 B3 B4 gk al cl lab m v cs ks K) {u : Value} {ts : List T3} (ho : Own3 w D u ts) (hp : ts.Perm (triTo lab m v n)) (hs : ts.Pairwise leT) {K' : Nat} (hK : K ≤ K') (hu : ∀ g, u.ownBlock = some g → g < K') :
    KeyS w1 w D n B2 B3 B4 gk al cl lab m (v + 1) (cs ++ [u]) (ks ++ [ts]) K' :=
  { x2 := h.x2, x3 := h.x3, x4 := h.x4, xl := h.xl, dk := (h.up hK).dk, k2 := (h.up hK).k2, k3 := (h.up hK).k3, k4 := (h.up hK).k4, kl := (h.up hK).kl, bel := h.bel,
    lc := by simp [h.lc]
    lk := by simp [h.lk]
    row := fun i u' ts' hu' ht' => by
      rcases Nat.lt_or_ge i v with hi | hi
      · rw [List.getElem?_append_left (by rw [h.lc]; exact hi)] at hu'
        rw [List.getElem?_append_left (by rw [h.lk]; exact hi)] at ht'
        exact (h.up hK).row i u' ts' hu' ht'
      · rw [List.getElem?_append_right (by rw [h.lc]; exact hi), h.lc] at hu'
        rw [List.getElem?_append_right (by rw [h.lk]; exact hi), h.lk] at ht'
        obtain ⟨q, hq⟩ : ∃ q, i - v = q := ⟨_, rfl⟩
        rw [hq] at hu' ht'
        cases q with
        | zero => simp at hu' ht'; subst hu'; subst ht'; exact ⟨ho, hu⟩
        | succ q => simp at hu'
    key := fun i ts' ht' => by
      rcases Nat.lt_or_ge i v with hi | hi
      · rw [List.getElem?_append_left (by rw [h.lk]; exact hi)] at ht'
        exact h.key i ts' ht'
      · rw [List.getElem?_append_right (by rw [h.lk]; exact hi), h.lk] at ht'
        obtain ⟨q, hq⟩ : ∃ q, i - v = q := ⟨_, rfl⟩
        rw [hq] at ht'
        cases q with
        | zero => simp at ht'; subst ht'; have : i = v := by omega
                  subst this; exact ⟨hp, hs⟩
        | succ q => simp at ht' }
theorem KeyS.boxes (h : KeyS w1 w D n B2 B3 B4 gk al cl lab m n cs ks K) (hk : Own w D (.slice (some ⟨gk, 0, none⟩) n n) 87 cs) (hl : lab.length = n) (hb : ∀ x ∈ lab, 0 ≤ x ∧ x ≤ 1000000) (hn : n ≤ 1000) :
    Boxes w B2 B3 B4 n lab ks al cl (some ⟨gk, 0, none⟩) n where
  b2 := by obtain ⟨g, e, _, hl, _⟩ := h.x2.at_form (by omega); cases e; exact hl
  b3 := by obtain ⟨g, e, _, hl, _⟩ := h.x3.at_form (by omega); cases e; exact hl
  b4 := by obtain ⟨g, e, _, hl, _⟩ := h.x4.at_form (by omega); cases e; exact hl
  c2 := by rw [h.x2.cell 0 (by simp)]; rfl
  c3 := by rw [h.x3.cell 0 (by simp)]; rfl
  c4 := by rw [h.x4.cell 0 (by simp)]; rfl
  rl := h.xl.toInts (by unfold maxLen; omega)
  ln := hl
  lb := hb
  kn := h.lk
  row := fun i ts ht => by
    have hin : i < n := by have := (List.getElem?_eq_some_iff.1 ht).1; rw [h.lk] at this; exact this
    have hic : i < cs.length := by rw [h.lc]; exact hin
    obtain ⟨h1, h2⟩ := h.row i cs[i] ts (List.getElem?_eq_getElem hic) ht
    obtain ⟨hp, _⟩ := h.key i ts ht
    have htl : ts.length = n := by rw [hp.length_eq, triTo_len]
    obtain ⟨a, c, e⟩ := h1.any_form
    obtain ⟨g, e9, _, hlt, _⟩ := hk.at_form (by omega)
    cases e9
    rw [e] at h1
    refine ⟨gk, a, c, rfl, hlt, ?_, h1.tri (by omega), htl⟩
    rw [hk.cell i hic, List.getElem?_eq_getElem hic, e, htl]
theorem tl_tri (lab : List Int) (m : List (List Int)) (v u : Nat) : tl (tri lab m v u) = Plain.triple lab m v u := rfl
theorem KeyS.rowR (h : KeyS w1 w D n B2 B3 B4 gk al cl lab m n cs ks K) {x : Nat} (hx : x < n) : rowR lab ks x = keyL n lab m x := by
  have hxk : x < ks.length := by rw [h.lk]; exact hx
  obtain ⟨hp, hs⟩ := h.key x ks[x] (List.getElem?_eq_getElem hxk)
  have h1 : ks[x].map tl = sortTo (Plain.triple lab m x) n := by
    refine sortTo_unique ?_ ?_
    · have := hp.map tl
      rw [triTo, List.map_map] at this
      exact this
    · rw [List.pairwise_map]; exact hs
  unfold YtifkieopaoooeaaDoor.rowR keyL
  rw [List.getElem?_eq_getElem hxk, Option.getD_some, ← h1]
  rfl
end
theorem KeyS.begin_ {w1 w3 w5 : World} {E n gk : Nat} {al : Option Addr} {cl : Nat} {lab : List Int} (m : List (List Int)) (ho : Own w3 E (.slice al n cl) 3 (ints lab)) (hb : Below E w1 w3) (hE : E ≤ w3.heap.size)
    (hk : Own w5 E (.slice (some ⟨gk, 0, none⟩) n n) 87 (List.replicate n (.slice none 0 0))) (hg : (w3.alloc (.cells #[.slice al n cl] 22)).grownBy w5 none) :
    KeyS w1 ((w5.alloc (.cells #[.slice (some ⟨gk, 0, none⟩) n n] 84)).alloc (.cells #[.func (.func 43) #[] #[]] 86)) E n w3.heap.size w5.heap.size (w5.heap.size + 1) gk al cl lab m 0 [] [] (w5.heap.size + 2) ∧
    Own ((w5.alloc (.cells #[.slice (some ⟨gk, 0, none⟩) n n] 84)).alloc (.cells #[.func (.func 43) #[] #[]] 86)) E (.slice (some ⟨gk, 0, none⟩) n n) 87 (List.replicate n (.slice none 0 0)) := by
  have hs : w3.heap.size + 1 ≤ w5.heap.size := by have := hg.size; simpa using this
  have h2 : Own (w3.alloc (.cells #[.slice al n cl] 22)) E (.slice (some ⟨w3.heap.size, 0, none⟩) 1 1) 22 [.slice al n cl] := Own.new 22 [.slice al n cl] hE (by unfold maxLen; simp)
  have h3 : Own (w5.alloc (.cells #[.slice (some ⟨gk, 0, none⟩) n n] 84)) E (.slice (some ⟨w5.heap.size, 0, none⟩) 1 1) 84 [.slice (some ⟨gk, 0, none⟩) n n] := Own.new 84 [.slice (some ⟨gk, 0, none⟩) n n] (by omega) (by unfold maxLen; simp)
  have h4 : Own ((w5.alloc (.cells #[.slice (some ⟨gk, 0, none⟩) n n] 84)).alloc (.cells #[.func (.func 43) #[] #[]] 86)) E (.slice (some ⟨(w5.alloc (.cells #[.slice (some ⟨gk, 0, none⟩) n n] 84)).heap.size, 0, none⟩) 1 1) 86 [.func (.func 43) #[] #[]] := Own.new 86 [.func (.func 43) #[] #[]] (by simp; omega) (by unfold maxLen; simp)
  have hsz : (w5.alloc (.cells #[.slice (some ⟨gk, 0, none⟩) n n] 84)).heap.size = w5.heap.size + 1 := by simp
  rw [hsz] at h4
  have nn : ∀ o : Option Nat, o = none ∨ o ≠ none := fun o => by cases o <;> simp
  refine ⟨⟨((h2.kept hg (nn _)).alloc _).alloc _, h3.alloc _, h4, (((ho.alloc _).kept hg (nn _)).alloc _).alloc _, by omega, by omega, by omega, by omega, fun g hg' => ?_, rfl, rfl, fun i u ts hu => by simp at hu, fun i ts ht => by simp at ht, ?_⟩, (hk.alloc _).alloc _⟩
  · rcases ho.blk with e | ⟨g', _, e, _, hl, _⟩
    · rw [e] at hg'; cases hg'
    · rw [e] at hg'; cases hg'; omega
  · have h1 : Below E w1 w5 := (hb.alloc hE _).grown hg (by simp; omega) (fun k hk => by cases hk)
    exact (h1.alloc (by omega) _).alloc (by simp; omega) _
theorem Plain.IsPart.congr {R R' : Nat → List Int} {S : Nat → Prop} {P : List (List Nat)} (h : IsPart R S P) (he : ∀ i, S i → R i = R' i) : IsPart R' S P where
  asc := h.asc
  cover := h.cover
  same := fun c hc i hi j hj => by
    rw [← he i ((h.cover i).1 ⟨c, hc, hi⟩), ← he j ((h.cover j).1 ⟨c, hc, hj⟩)]
    exact h.same c hc i hi j hj
  ord := by
    have := h.ord
    rw [List.pairwise_iff_getElem] at this ⊢
    intro a b ha hb hab i hi j hj
    rw [← he i ((h.cover i).1 ⟨_, List.getElem_mem _, hi⟩), ← he j ((h.cover j).1 ⟨_, List.getElem_mem _, hj⟩)]
    exact this a b ha hb hab i hi j hj
/-- What grouped answers is what the reference's round answers. -/
theorem round_eq {n : Nat} {l m : List (List Int)} {R : Nat → List Int} (hR : ∀ x, x < n → R x = keyL n (labelsL n l) m x) {P : List (List Nat)} (hP : IsPart R (· < n) P) : P.map (·.map Int.ofNat) = roundL n l m := by
  obtain ⟨Q, hQ, hp⟩ := round_part n l m
  have h2 : IsPart R (· < n) Q := hp.congr fun i hi => by rw [rowsL_at hi, hR i hi]
  rw [hQ, IsPart.unique hP h2]
end Go.Proofs.YtifkieopaoooeaaDoor
