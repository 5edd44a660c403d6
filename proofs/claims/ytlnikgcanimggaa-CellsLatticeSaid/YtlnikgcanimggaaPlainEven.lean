/- The result of refining is stable, equitable, finer, and the coarsest such: plain. -/
import Derived.Test.YtlnikgcanimggaaPlainMoves
import Derived.Test.YtlnikgcanimggaaEqui
import Derived.Test.YtlnikgcanimggaaFiner
set_option linter.unusedSimpArgs false
set_option linter.unusedVariables false
namespace Go.Proofs.Ytlnikgcanimggaa
open Plain
theorem append_of_mem' {α : Type} {a : α} : ∀ {l : List α}, a ∈ l → ∃ s t, l = s ++ a :: t
  | [], h => by simp at h
  | b :: l, h => by
    rcases List.mem_cons.1 h with rfl | h
    · exact ⟨[], l, rfl⟩
    · obtain ⟨s, t, rfl⟩ := append_of_mem' h
      exact ⟨b :: s, t, rfl⟩

/-- The label of a point. -/
def lab (n : Nat) (l : List (List Int)) (v : Nat) : Int := (labelsL n l)[v]?.getD 0
theorem Plain.Good.lab_at {n : Nat} {l : List (List Int)} (h : Good n l) {k q : Nat} {c : List Int} (hc : l[k]? = some c) (hq : (q : Int) ∈ c) : lab n l q = k := by
  rw [lab, h.label hc hq]; rfl
theorem Plain.Good.cell_lab {n : Nat} {l : List (List Int)} (h : Good n l) {q : Nat} (hq : q < n) : ∃ (k : Nat) (c : List Int), k < l.length ∧ l[k]? = some c ∧ (q : Int) ∈ c ∧ lab n l q = k := by
  obtain ⟨k, c, h1, h2, h3, h4⟩ := h.cell hq
  exact ⟨k, c, h1, h2, h3, by rw [lab, h4]; rfl⟩
/-- Points with one label lie in one cell. -/
theorem Plain.Good.mem_of_lab {n : Nat} {l : List (List Int)} (h : Good n l) {k q : Nat} {c : List Int} (hc : l[k]? = some c) (hq : q < n) (he : lab n l q = k) : (q : Int) ∈ c := by
  obtain ⟨k', c', _, h2, h3, h4⟩ := h.cell_lab hq
  have : k' = k := by rw [h4] at he; exact_mod_cast he
  subst this
  rw [hc] at h2; cases h2; exact h3
theorem part_lab {n : Nat} {R : Nat → List Int} {P : List (List Nat)} (h : IsPart R (· < n) P) {v w : Nat} (hv : v < n) (hw : w < n) (he : lab n (P.map (·.map Int.ofNat)) v = lab n (P.map (·.map Int.ofNat)) w) : R v = R w := by
  have hg := part_good h
  obtain ⟨k, c, _, h2, h3, h4⟩ := hg.cell_lab hv
  have h5 := hg.mem_of_lab h2 hw (by rw [← he, h4])
  rw [List.getElem?_map, Option.map_eq_some_iff] at h2
  obtain ⟨d, hd, rfl⟩ := h2
  obtain ⟨a, ha, e1⟩ := List.mem_map.1 h3
  obtain ⟨b, hb, e2⟩ := List.mem_map.1 h5
  have e1 : a = v := Int.ofNat.inj e1
  have e2 : b = w := Int.ofNat.inj e2
  subst e1; subst e2
  exact h.same d (List.mem_of_getElem? hd) _ ha _ hb
theorem round_key {n : Nat} {l m : List (List Int)} {v w : Nat} (hv : v < n) (hw : w < n) (he : lab n (roundL n l m) v = lab n (roundL n l m) w) : keyL n (labelsL n l) m v = keyL n (labelsL n l) m w := by
  obtain ⟨P, h1, h2⟩ := round_part n l m
  rw [h1] at he
  have := part_lab h2 hv hw he
  simpa only [rowsL_at hv, rowsL_at hw] using this
theorem key_lab {n : Nat} {l m : List (List Int)} {v w : Nat} (he : keyL n (labelsL n l) m v = keyL n (labelsL n l) m w) : lab n l v = lab n l w := by
  unfold keyL at he
  injection he with he _
/-- One round is finer. -/
theorem round_finer {n : Nat} {l m : List (List Int)} {v w : Nat} (hv : v < n) (hw : w < n) (he : lab n (roundL n l m) v = lab n (roundL n l m) w) : lab n l v = lab n l w := key_lab (round_key hv hw he)
theorem refL_finer {n : Nat} {m : List (List Int)} : ∀ {f : Nat} {l : List (List Int)} {v w : Nat}, v < n → w < n → lab n (refL n m f l) v = lab n (refL n m f l) w → lab n l v = lab n l w
  | 0, l, v, w, hv, hw, h => h
  | f + 1, l, v, w, hv, hw, h => by
    rw [refL] at h
    split at h
    · exact round_finer hv hw h
    · exact round_finer hv hw (refL_finer hv hw h)

/-- Where the number of cells stays, the points of a cell have one key. -/
theorem stay_key {n : Nat} {l m : List (List Int)} (h : Plain.Good n l) (hs : (roundL n l m).length = l.length) {v w : Nat} (hv : v < n) (hw : w < n) (he : lab n l v = lab n l w) :
    keyL n (labelsL n l) m v = keyL n (labelsL n l) m w := by
  obtain ⟨P, h1, h2⟩ := round_part n l m
  rw [h1, List.length_map] at hs
  have hR : ∀ x, x < n → (rowsL n m (labelsL n l))[x]?.getD [] = keyL n (labelsL n l) m x := fun x hx => rowsL_at hx
  obtain ⟨c, hc, hvc⟩ := (h2.cover v).2 hv
  obtain ⟨d, hd, hwd⟩ := (h2.cover w).2 hw
  have hcl : ∀ e ∈ P, ∀ x ∈ e, ∀ y ∈ e, lab n l x = lab n l y := fun e he x hx y hy => by
    have hx' := (h2.cover x).1 ⟨e, he, hx⟩
    have hy' := (h2.cover y).1 ⟨e, he, hy⟩
    have := h2.same e he x hx y hy
    simp only [hR x hx', hR y hy'] at this
    exact key_lab this
  by_cases hcd : c = d
  · subst hcd
    have := h2.same c hc v hvc w hwd
    simp only [hR v hv, hR w hw] at this
    exact this
  · exfalso
    obtain ⟨A, B, rfl⟩ := append_of_mem' hd
    have hcm : c ∈ A ++ B := by
      rcases List.mem_append.1 hc with h | h
      · exact List.mem_append_left _ h
      · rcases List.mem_cons.1 h with h | h
        · exact absurd h hcd
        · exact List.mem_append_right _ h
    have := range_le l.length ((A ++ B).map fun e => (lab n l (e.headD 0)).toNat) (fun k hk => by
      obtain ⟨p, hp⟩ : ∃ p, p ∈ l[k] := by
        obtain ⟨a, t, e⟩ := List.exists_cons_of_ne_nil (h.ne l[k] (List.getElem_mem hk))
        exact ⟨a, by rw [e]; simp⟩
      have hr := h.inr l[k] (List.getElem_mem hk) p hp
      obtain ⟨q, rfl⟩ := Int.eq_ofNat_of_zero_le hr.1
      have hqn : q < n := by omega
      have hql := h.lab_at (List.getElem?_eq_getElem hk) hp
      obtain ⟨e, hep, hqe⟩ := (h2.cover q).2 hqn
      have fin : ∀ e ∈ A ++ d :: B, ∀ x ∈ e, lab n l x = k → (lab n l (e.headD 0)).toNat = k := fun e he x hx hxk => by
        obtain ⟨a, t, rfl⟩ := List.exists_cons_of_ne_nil (h2.asc e he).2
        rw [List.headD_cons, ← hcl _ he x hx a (by simp), hxk]; simp
      by_cases hed : e = d
      · subst hed
        refine List.mem_map.2 ⟨c, hcm, fin c hc v hvc ?_⟩
        rw [he, hcl e hd w hwd q hqe, hql]
      · refine List.mem_map.2 ⟨e, ?_, fin e hep q hqe hql⟩
        rcases List.mem_append.1 hep with h | h
        · exact List.mem_append_left _ h
        · rcases List.mem_cons.1 h with h | h
          · exact absurd h hed
          · exact List.mem_append_right _ h)
    simp only [List.length_map, List.length_append, List.length_cons] at this hs
    omega
/-- .. and the round changes nothing. -/
theorem stay {n : Nat} {l m : List (List Int)} (h : GoodA n l) (hs : (roundL n l m).length = l.length) : roundL n l m = l := by
  obtain ⟨P, h1, h2⟩ := round_part n l m
  have hl : l = (l.map (·.map Int.toNat)).map (·.map Int.ofNat) := by
    rw [List.map_map]
    conv => lhs; rw [← List.map_id l]
    apply List.map_congr_left
    intro c hc
    simp only [id, Function.comp, List.map_map]
    conv => lhs; rw [← List.map_id c]
    apply List.map_congr_left
    intro p hp
    have := h.good.inr c hc p hp
    simp only [id, Function.comp]
    exact (Int.toNat_of_nonneg this.1).symm
  have hQ : IsPart (fun k => (rowsL n m (labelsL n l))[k]?.getD []) (· < n) (l.map (·.map Int.toNat)) := by
    have hmem : ∀ {c : List Int}, c ∈ l → ∀ {x : Nat}, x ∈ c.map Int.toNat → x < n ∧ (x : Int) ∈ c := fun {c} hc {x} hx => by
      obtain ⟨p, hp, rfl⟩ := List.mem_map.1 hx
      have := h.good.inr c hc p hp
      rw [Int.toNat_of_nonneg this.1]
      exact ⟨by omega, hp⟩
    refine ⟨?_, ?_, ?_, ?_⟩
    · intro c hc
      obtain ⟨d, hd, rfl⟩ := List.mem_map.1 hc
      refine ⟨?_, by simpa using h.good.ne d hd⟩
      rw [List.pairwise_map]
      have hh := h.asc d hd
      refine List.Pairwise.imp_of_mem ?_ hh
      intro a b ha hb hab
      have := h.good.inr d hd a ha
      have := h.good.inr d hd b hb
      omega
    · intro i
      constructor
      · rintro ⟨c, hc, hi⟩
        obtain ⟨d, hd, rfl⟩ := List.mem_map.1 hc
        exact (hmem hd hi).1
      · intro hi
        obtain ⟨k, c, _, h2, h3, _⟩ := h.good.cell_lab hi
        exact ⟨_, List.mem_map.2 ⟨c, List.mem_of_getElem? h2, rfl⟩, List.mem_map.2 ⟨_, h3, by simp⟩⟩
    · intro c hc i hi j hj
      obtain ⟨d, hd, rfl⟩ := List.mem_map.1 hc
      obtain ⟨k, hk⟩ := List.getElem?_of_mem hd
      have h1 := hmem hd hi
      have h2 := hmem hd hj
      simp only [rowsL_at h1.1, rowsL_at h2.1]
      exact stay_key h.good hs h1.1 h2.1 (by rw [h.good.lab_at hk h1.2, h.good.lab_at hk h2.2])
    · rw [List.pairwise_map, List.pairwise_iff_getElem]
      intro a b ha hb hab i hi j hj
      have h1 := hmem (List.getElem_mem ha) hi
      have h2 := hmem (List.getElem_mem hb) hj
      simp only [rowsL_at h1.1, rowsL_at h2.1, keyL]
      have e1 := h.good.lab_at (List.getElem?_eq_getElem ha) h1.2
      have e2 := h.good.lab_at (List.getElem?_eq_getElem hb) h2.2
      simp only [lab] at e1 e2
      rw [e1, e2, cmpL_lt (by omega)]; omega
  rw [h1, h2.unique hQ]
  exact hl.symm
theorem refL_stable {n : Nat} {m : List (List Int)} : ∀ {f : Nat} {l : List (List Int)}, GoodA n l → n < f + l.length → roundL n (refL n m f l) m = refL n m f l
  | 0, l, h, hf => by have := h.good.len_le; omega
  | f + 1, l, h, hf => by
    have hg := round_grows (m := m) h.good
    rw [refL]
    split
    · rename_i hs
      have := stay h hs
      rw [this, this]
    · exact refL_stable (round_goodA n l m) (by omega)
end Go.Proofs.Ytlnikgcanimggaa
