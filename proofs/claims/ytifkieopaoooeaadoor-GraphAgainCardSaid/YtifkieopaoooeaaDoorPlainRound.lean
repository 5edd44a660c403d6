/- One round of refining, and the rounds: plain. -/
import Derived.Test.YtifkieopaoooeaaDoorPlainPart
import Derived.Test.YtifkieopaoooeaaDoorPlainKey
import Derived.Test.YtifkieopaoooeaaDoorPlainLabels
set_option linter.unusedSimpArgs false
set_option linter.unusedVariables false
namespace Go.Proofs.YtifkieopaoooeaaDoor.Plain

/-- A partition of n points, as lists of ints. -/
structure Good (n : Nat) (l : List (List Int)) : Prop where
  ne : ∀ c ∈ l, c ≠ []
  inr : InRange n l
  nodup : l.flatten.Nodup
  all : ∀ p : Nat, p < n → (p : Int) ∈ l.flatten

theorem putCell_not {q : Nat} {i : Int} : ∀ {c out : List Int}, (∀ p ∈ c, 0 ≤ p) → (q : Int) ∉ c → (putCell out i c)[q]? = out[q]?
  | [], _, _, _ => rfl
  | p :: r, out, h, hq => by
    rw [putCell, putCell_not (fun x hx => h x (List.mem_cons_of_mem _ hx)) (fun hx => hq (List.mem_cons_of_mem _ hx))]
    have hp := h p (by simp)
    have : p.toNat ≠ q := fun e => hq (by have : p = (q : Int) := by omega
                                          rw [this]; simp)
    rw [List.getElem?_set_ne this]
theorem putCell_mem {q : Nat} {i : Int} : ∀ {c out : List Int}, (∀ p ∈ c, 0 ≤ p) → (q : Int) ∈ c → q < out.length → (putCell out i c)[q]? = some i
  | [], _, _, hq, _ => by simp at hq
  | p :: r, out, h, hq, hl => by
    rw [putCell]
    by_cases hr : (q : Int) ∈ r
    · exact putCell_mem (fun x hx => h x (List.mem_cons_of_mem _ hx)) hr (by simpa using hl)
    · have e : p = (q : Int) := by
        rcases List.mem_cons.1 hq with e | e
        · exact e.symm
        · exact absurd e hr
      rw [putCell_not (fun x hx => h x (List.mem_cons_of_mem _ hx)) hr, e, Int.toNat_natCast, List.getElem?_set_self hl]
theorem putCells_not {q : Nat} : ∀ {l : List (List Int)} {i : Nat} {out : List Int}, (∀ c ∈ l, ∀ p ∈ c, 0 ≤ p) → (q : Int) ∉ l.flatten → (putCells out i l)[q]? = out[q]?
  | [], _, _, _, _ => rfl
  | c :: r, i, out, h, hq => by
    rw [List.flatten_cons, List.mem_append] at hq
    rw [putCells, putCells_not (fun x hx => h x (List.mem_cons_of_mem _ hx)) (fun hx => hq (.inr hx)), putCell_not (h c (by simp)) (fun hx => hq (.inl hx))]
theorem putCells_at {q : Nat} : ∀ {l : List (List Int)} {i k : Nat} {out c : List Int}, (∀ c ∈ l, ∀ p ∈ c, 0 ≤ p) → l.flatten.Nodup → q < out.length → l[k]? = some c → (q : Int) ∈ c →
    (putCells out i l)[q]? = some ((i + k : Nat) : Int)
  | [], _, _, _, _, _, _, _, h, _ => by simp at h
  | c0 :: r, i, 0, out, c, h, hd, hl, hc, hq => by
    simp at hc; subst hc
    rw [List.flatten_cons, List.nodup_append] at hd
    rw [putCells, putCells_not (fun x hx => h x (List.mem_cons_of_mem _ hx)) (fun hx => hd.2.2 _ hq _ hx rfl), putCell_mem (h c0 (by simp)) hq hl]
    rfl
  | c0 :: r, i, k + 1, out, c, h, hd, hl, hc, hq => by
    rw [List.flatten_cons, List.nodup_append] at hd
    rw [putCells, putCells_at (i := i + 1) (k := k) (fun x hx => h x (List.mem_cons_of_mem _ hx)) hd.2.1 (by rw [putCell_len]; exact hl) (by simpa using hc) hq]
    congr 2; omega
theorem Good.pos {n : Nat} {l : List (List Int)} (h : Good n l) : ∀ c ∈ l, ∀ p ∈ c, 0 ≤ p := fun c hc p hp => (h.inr c hc p hp).1
theorem Good.label {n : Nat} {l : List (List Int)} (h : Good n l) {k q : Nat} {c : List Int} (hc : l[k]? = some c) (hq : (q : Int) ∈ c) : (labelsL n l)[q]? = some (k : Int) := by
  have hqn : q < n := by have := h.inr c (List.mem_of_getElem? hc) _ hq; omega
  have := putCells_at (i := 0) (out := List.replicate n 0) h.pos h.nodup (by simpa using hqn) hc hq
  rw [labelsL, this]; simp
theorem Good.cell {n : Nat} {l : List (List Int)} (h : Good n l) {q : Nat} (hq : q < n) : ∃ (k : Nat) (c : List Int), k < l.length ∧ l[k]? = some c ∧ (q : Int) ∈ c ∧ (labelsL n l)[q]? = some (k : Int) := by
  obtain ⟨c, hc, hqc⟩ := List.mem_flatten.1 (h.all q hq)
  obtain ⟨k, hk⟩ := List.mem_iff_getElem?.1 hc
  exact ⟨k, c, (List.getElem?_eq_some_iff.1 hk).1, hk, hqc, h.label hk hqc⟩

theorem range_le : ∀ (L : Nat) (xs : List Nat), (∀ k, k < L → k ∈ xs) → L ≤ xs.length
  | 0, _, _ => Nat.zero_le _
  | L + 1, xs, h => by
    have hm := h L (by omega)
    have := range_le L (xs.erase L) (fun k hk => (List.mem_erase_of_ne (by omega)).2 (h k (by omega)))
    rw [List.length_erase_of_mem hm] at this
    have := List.length_pos_of_mem hm
    omega

theorem nodup_map_on {α β : Type} {f : α → β} {xs : List α} (h : xs.Nodup) (hf : ∀ x ∈ xs, ∀ y ∈ xs, f x = f y → x = y) : (xs.map f).Nodup := by
  unfold List.Nodup at *
  rw [List.pairwise_map]
  exact h.imp_of_mem (fun hx hy hne he => hne (hf _ hx _ hy he))
/-- The partition by rows is one. -/
theorem part_good {R : Nat → List Int} {n : Nat} {P : List (List Nat)} (h : IsPart R (· < n) P) : Good n (P.map (·.map Int.ofNat)) where
  ne c hc := by
    obtain ⟨d, hd, rfl⟩ := List.mem_map.1 hc
    have := (h.asc d hd).2
    simpa using this
  inr c hc p hp := by
    obtain ⟨d, hd, rfl⟩ := List.mem_map.1 hc
    obtain ⟨q, hq, rfl⟩ := List.mem_map.1 hp
    have := (h.cover q).1 ⟨d, hd, hq⟩
    exact ⟨Int.natCast_nonneg _, by simpa using this⟩
  nodup := by
    rw [← List.map_flatten]
    refine nodup_map_on ?_ (fun a _ b _ e => Int.ofNat.inj e)
    have key : ∀ (Q : List (List Nat)), (∀ c ∈ Q, c.Pairwise (· < ·)) → Q.Pairwise (fun c d => ∀ i ∈ c, ∀ j ∈ d, cmpL (R i) (R j) < 0) → Q.flatten.Nodup := by
      intro Q
      induction Q with
      | nil => intro _ _; simp
      | cons c Q ih =>
        intro h1 h2
        rw [List.pairwise_cons] at h2
        rw [List.flatten_cons, List.nodup_append]
        refine ⟨(h1 c (by simp)).imp (fun h => by omega), ih (fun c hc => h1 c (List.mem_cons_of_mem _ hc)) h2.2, fun a ha b hb e => ?_⟩
        subst e
        obtain ⟨d, hd, had⟩ := List.mem_flatten.1 hb
        have := h2.1 d hd a ha a had
        rw [cmpL_self] at this; omega
    exact key P (fun c hc => (h.asc c hc).1) h.ord
  all p hp := by
    obtain ⟨c, hc, hpc⟩ := (h.cover p).2 hp
    rw [List.mem_flatten]
    exact ⟨c.map Int.ofNat, List.mem_map.2 ⟨c, hc, rfl⟩, List.mem_map.2 ⟨p, hpc, rfl⟩⟩

theorem Good.len_le {n : Nat} {l : List (List Int)} (h : Good n l) : l.length ≤ n := by
  have h1 : l.flatten.length ≤ n := nodup_len n _ h.nodup (fun p hp => by
    obtain ⟨c, hc, hpc⟩ := List.mem_flatten.1 hp
    exact h.inr c hc p hpc)
  have key : ∀ (l : List (List Int)), (∀ c ∈ l, c ≠ []) → l.length ≤ l.flatten.length := by
    intro l
    induction l with
    | nil => intro _; simp
    | cons c l ih =>
      intro h
      have := ih (fun c hc => h c (List.mem_cons_of_mem _ hc))
      have hc := h c (by simp)
      have : 0 < c.length := List.length_pos_iff.2 hc
      simp only [List.flatten_cons, List.length_append, List.length_cons]; omega
  have := key l h.ne
  omega

/-- One round. -/
def roundL (n : Nat) (l m : List (List Int)) : List (List Int) := collect (rowsL n m (labelsL n l))
theorem rowsL_len (n : Nat) (m : List (List Int)) (x : List Int) : (rowsL n m x).length = n := by simp [rowsL]
theorem rowsL_at {n : Nat} {m : List (List Int)} {x : List Int} {k : Nat} (h : k < n) : (rowsL n m x)[k]?.getD [] = keyL n x m k := by
  simp [rowsL, List.getElem?_map, List.getElem?_range, h]
theorem round_part (n : Nat) (l m : List (List Int)) : ∃ P : List (List Nat), roundL n l m = P.map (·.map Int.ofNat) ∧ IsPart (fun k => (rowsL n m (labelsL n l))[k]?.getD []) (· < n) P := by
  obtain ⟨P, h1, h2⟩ := collect_part (rowsL n m (labelsL n l))
  rw [rowsL_len] at h2
  exact ⟨P, h1, h2⟩
theorem round_good (n : Nat) (l m : List (List Int)) : Good n (roundL n l m) := by
  obtain ⟨P, h1, h2⟩ := round_part n l m
  rw [h1]; exact part_good h2
theorem round_grows {n : Nat} {l m : List (List Int)} (h : Good n l) : l.length ≤ (roundL n l m).length := by
  obtain ⟨P, h1, h2⟩ := round_part n l m
  rw [h1, List.length_map]
  have := range_le l.length (P.map fun c => ((labelsL n l)[c.headD 0]?.getD 0).toNat) (fun k hk => by
    obtain ⟨p, hp⟩ : ∃ p, p ∈ l[k] := by
      have := h.ne l[k] (List.getElem_mem hk)
      obtain ⟨a, t, e⟩ := List.exists_cons_of_ne_nil this
      exact ⟨a, by rw [e]; simp⟩
    have hr := h.inr l[k] (List.getElem_mem hk) p hp
    obtain ⟨q, rfl⟩ := Int.eq_ofNat_of_zero_le hr.1
    have hlab := h.label (List.getElem?_eq_getElem hk) hp
    have hqn : q < n := by omega
    obtain ⟨c, hc, hqc⟩ := (h2.cover q).2 hqn
    refine List.mem_map.2 ⟨c, hc, ?_⟩
    obtain ⟨a, t, rfl⟩ := List.exists_cons_of_ne_nil (h2.asc c hc).2
    have han : a < n := (h2.cover a).1 ⟨_, hc, by simp⟩
    have hs := h2.same _ hc q hqc a (by simp)
    simp only [rowsL_at hqn, rowsL_at han, keyL] at hs
    injection hs with hs _
    rw [hlab] at hs
    simp only [List.headD_cons, ← hs, Option.getD_some, Int.toNat_natCast])
  simpa using this
/-- The rounds, as long as the number of cells changes. -/
def refL (n : Nat) (m : List (List Int)) : Nat → List (List Int) → List (List Int)
  | 0, l => l
  | f + 1, l => if (roundL n l m).length = l.length then roundL n l m else refL n m f (roundL n l m)
def refineL (n : Nat) (l m : List (List Int)) : List (List Int) := refL n m (n + 1) l

theorem chkCell_fine {n : Int} : ∀ {c s s' : List Int} {p : Option Int}, Fine n s → chkCell n s p c = .inr s' → Fine n s' ∧ ∃ t, s' = t ++ s ∧ t.Perm c
  | [], s, s', p, h, e => by
    simp [chkCell] at e; subst e; exact ⟨h, [], rfl, .refl _⟩
  | x :: r, s, s', p, h, e => by
    rw [chkCell] at e
    split at e
    · cases e
    · rename_i h1
      split at e
      · cases e
      · rename_i h2
        split at e
        · cases e
        · obtain ⟨h3, t, h4, h5⟩ := chkCell_fine (h.cons h1 h2) e
          refine ⟨h3, t ++ [x], by rw [h4]; simp, ?_⟩
          exact (List.perm_append_singleton x t).trans (h5.cons x)
theorem chkCells_fine {n : Int} : ∀ {l : List (List Int)} {s s' : List Int}, Fine n s → chkCells n s l = .inr s' → Fine n s' ∧ (∀ c ∈ l, c ≠ []) ∧ ∃ t, s' = t ++ s ∧ t.Perm l.flatten
  | [], s, s', h, e => by
    simp [chkCells] at e; subst e; exact ⟨h, by simp, [], rfl, .refl _⟩
  | x :: r, s, s', h, e => by
    rw [chkCells] at e
    split at e
    · cases e
    · rename_i hx
      split at e
      · cases e
      · rename_i s2 hs
        obtain ⟨h3, t, h4, h5⟩ := chkCell_fine h hs
        obtain ⟨h6, h7, t2, h8, h9⟩ := chkCells_fine h3 e
        refine ⟨h6, fun c hc => ?_, t2 ++ t, by rw [h8, h4]; simp, ?_⟩
        · rcases List.mem_cons.1 hc with rfl | hc
          · exact hx
          · exact h7 c hc
        · rw [List.flatten_cons]
          exact (List.perm_append_comm).trans (h5.append h9)
theorem mem_of_full : ∀ (n : Nat) (s : List Int), s.Nodup → (∀ p ∈ s, 0 ≤ p ∧ p < n) → n ≤ s.length → ∀ p : Nat, p < n → (p : Int) ∈ s
  | 0, _, _, _, _, p, hp => by omega
  | n + 1, s, hd, hr, hl, p, hp => by
    by_cases hm : (p : Int) ∈ s
    · exact hm
    · exfalso
      -- put n in p's place
      have h1 : (s.map fun x => if x = (n : Int) then (p : Int) else x).Nodup := by
        refine nodup_map_on hd (fun x hx y hy e => ?_)
        have hxp : x ≠ p := fun e => hm (e ▸ hx)
        have hyp : y ≠ p := fun e => hm (e ▸ hy)
        by_cases e1 : x = (n : Int) <;> by_cases e2 : y = (n : Int)
        · omega
        · rw [if_pos e1, if_neg e2] at e; exact absurd e.symm hyp
        · rw [if_neg e1, if_pos e2] at e; exact absurd e hxp
        · rw [if_neg e1, if_neg e2] at e; exact e
      have h2 := nodup_len n _ h1 (fun x hx => by
        obtain ⟨y, hy, rfl⟩ := List.mem_map.1 hx
        have := hr y hy
        by_cases e : y = (n : Int)
        · subst e
          have : (p : Int) ≠ n := fun e => hm (by rw [e]; exact hy)
          simp; omega
        · simp only [e, if_false]; omega)
      rw [List.length_map] at h2
      omega
theorem chk_good {n : Nat} {l : List (List Int)} (h : chk n l = 0) : Good n l := by
  obtain ⟨_, _, s, hs, hl⟩ := chk_zero h
  obtain ⟨hf, hne, t, ht, hp⟩ := chkCells_fine (Fine.nil _) hs
  rw [List.append_nil] at ht
  subst ht
  exact ⟨hne, chk_in h, hp.nodup_iff.1 hf.1, fun p hpn => hp.mem_iff.1 (mem_of_full n s hf.1 hf.2 (by omega) p hpn)⟩
end Go.Proofs.YtifkieopaoooeaaDoor.Plain
namespace Go.Proofs.YtifkieopaoooeaaDoor.Plain
instance (n : Nat) (m : List (List Int)) : Decidable (IsMat n m) := by unfold IsMat; exact inferInstance
/-- What refining answers: a partition and an error's number. -/
def refineA (n : Int) (l m : List (List Int)) : List (List Int) × Int :=
  if chk n l ≠ 0 then ([], chk n l) else if IsMat n.toNat m then (refineL n.toNat l m, 0) else ([], 3)
theorem refineA_bad {n : Int} {l m : List (List Int)} (h : chk n l ≠ 0) : refineA n l m = ([], chk n l) := by rw [refineA, if_pos h]
theorem refineA_mat {n : Nat} {l m : List (List Int)} (h : chk n l = 0) (hm : ¬ IsMat n m) : refineA n l m = ([], 3) := by rw [refineA, if_neg (by simp [h]), if_neg (by simpa using hm)]
theorem refineA_ok {n : Nat} {l m : List (List Int)} (h : chk n l = 0) (hm : IsMat n m) : refineA n l m = (refineL n l m, 0) := by rw [refineA, if_neg (by simp [h]), if_pos (by simpa using hm)]; simp
theorem refL_end {n f : Nat} {l m : List (List Int)} (h : (roundL n l m).length = l.length) : refL n m (f + 1) l = roundL n l m := by rw [refL, if_pos h]
theorem refL_next {n f : Nat} {l m : List (List Int)} (h : (roundL n l m).length ≠ l.length) : refL n m (f + 1) l = refL n m f (roundL n l m) := by rw [refL, if_neg h]
end Go.Proofs.YtifkieopaoooeaaDoor.Plain
