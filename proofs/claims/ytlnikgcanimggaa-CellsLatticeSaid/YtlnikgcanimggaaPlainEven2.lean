/- The result of refining is equitable, and the coarsest such: plain. -/
import Derived.Test.YtlnikgcanimggaaPlainEven
set_option linter.unusedSimpArgs false
set_option linter.unusedVariables false
namespace Go.Proofs.Ytlnikgcanimggaa
open Plain

def pr (m : List (List Int)) (v : Nat) (x y : Int) (p : Int) : Bool := decide (mat m v p.toNat = x ∧ mat m p.toNat v = y)
theorem cntTo_eq (m : List (List Int)) (c : List Int) (v : Nat) (x y : Int) : ∀ j, j ≤ c.length → cntTo m c v x y j = (c.take j).countP (pr m v x y)
  | 0, _ => by simp [cntTo]
  | j + 1, h => by
    have ih := cntTo_eq m c v x y j (by omega)
    rw [cntTo, ih, List.take_add_one, List.getElem?_eq_getElem (by omega), List.countP_append]
    simp only [Option.getD_some, Option.toList_some, List.countP_cons, List.countP_nil, pr, decide_eq_true_eq]
    split <;> simp
theorem cell_perm {n : Nat} {l : List (List Int)} (h : Plain.Good n l) {k : Nat} {c : List Int} (hc : l[k]? = some c) : c.Perm (((List.range n).filter fun u => decide (lab n l u = k)).map Int.ofNat) := by
  have hcm := List.mem_of_getElem? hc
  rw [List.perm_ext_iff_of_nodup (h.nodup.sublist (List.sublist_flatten_of_mem hcm)) (nodup_map_on ((List.nodup_range).sublist List.filter_sublist) (fun a _ b _ e => Int.ofNat.inj e))]
  intro p
  rw [List.mem_map]
  constructor
  · intro hp
    have hr := h.inr c hcm p hp
    obtain ⟨q, rfl⟩ := Int.eq_ofNat_of_zero_le hr.1
    refine ⟨q, ?_, rfl⟩
    rw [List.mem_filter, List.mem_range, decide_eq_true_eq]
    exact ⟨by omega, h.lab_at hc hp⟩
  · rintro ⟨q, hq, rfl⟩
    rw [List.mem_filter, List.mem_range, decide_eq_true_eq] at hq
    exact h.mem_of_lab hc hq.1 hq.2
/-- A count is a count of triples. -/
theorem cnt_triple {n : Nat} {l m : List (List Int)} (h : Plain.Good n l) {k : Nat} {c : List Int} (hc : l[k]? = some c) (v : Nat) (x y : Int) :
    cntTo m c v x y c.length = ((List.range n).map (triple (labelsL n l) m v)).count [(k : Int), x, y] := by
  rw [cntTo_eq m c v x y _ (Nat.le_refl _), List.take_length, (cell_perm h hc).countP_eq, List.countP_map, List.countP_filter, List.count, List.countP_map]
  apply List.countP_congr
  intro u _
  simp only [Function.comp, pr, triple, lab, Bool.and_eq_true, decide_eq_true_eq, beq_iff_eq, List.cons.injEq, and_true, Int.ofNat_eq_natCast, Int.toNat_natCast]
  constructor
  · rintro ⟨⟨h1, h2⟩, h3⟩; exact ⟨of_decide_eq_true h3, h1, h2⟩
  · rintro ⟨h1, h2, h3⟩; exact ⟨⟨h2, h3⟩, decide_eq_true h1⟩
theorem key_perm {n : Nat} {x : List Int} {m : List (List Int)} {v w : Nat} (he : keyL n x m v = keyL n x m w) : ((List.range n).map (triple x m v)).Perm ((List.range n).map (triple x m w)) := by
  unfold keyL at he
  injection he with _ he
  have h3 : ∀ v, ∀ t ∈ sortTo (triple x m v) n, t.length = 3 := fun v t ht => by
    obtain ⟨k, _, rfl⟩ := mem_sortTo ht; rfl
  have hs : sortTo (triple x m v) n = sortTo (triple x m w) n := by
    have key : ∀ (a b : List (List Int)), (∀ t ∈ a, t.length = 3) → (∀ t ∈ b, t.length = 3) → a.flatten = b.flatten → a = b := by
      intro a
      induction a with
      | nil =>
        intro b _ hb e
        cases b with
        | nil => rfl
        | cons t b =>
          have := hb t (by simp)
          have e2 := congrArg List.length e
          simp only [List.flatten_nil, List.flatten_cons, List.length_nil, List.length_append] at e2; omega
      | cons s a ih =>
        intro b ha hb e
        cases b with
        | nil =>
          have := ha s (by simp)
          have e2 := congrArg List.length e
          simp only [List.flatten_nil, List.flatten_cons, List.length_nil, List.length_append] at e2; omega
        | cons t b =>
          rw [List.flatten_cons, List.flatten_cons] at e
          obtain ⟨e1, e2⟩ := List.append_inj e (by rw [ha s (by simp), hb t (by simp)])
          rw [e1, ih b (fun t ht => ha t (by simp [ht])) (fun t ht => hb t (by simp [ht])) e2]
    exact key _ _ (h3 v) (h3 w) he
  exact (sortTo_perm _ n).symm.trans (hs ▸ sortTo_perm _ n)
theorem perm_key {n : Nat} {x : List Int} {m : List (List Int)} {v w : Nat} (hx : x[v]?.getD 0 = x[w]?.getD 0) (hp : ((List.range n).map (triple x m v)).Perm ((List.range n).map (triple x m w))) : keyL n x m v = keyL n x m w := by
  unfold keyL
  rw [hx]
  congr 2
  exact sortTo_unique ((sortTo_perm _ n).trans hp) (sortTo_sorted _ n)

section
variable {n : Nat} {a m : List (List Int)}
theorem at_pt (h : Plain.Good n a) {i k : Nat} (hi : i < a.length) (hk : k < (a[i]?.getD []).length) : ∃ q : Nat, (a[i]?.getD [])[k]?.getD 0 = q ∧ q < n ∧ lab n a q = i := by
  obtain ⟨q, hq, hqn⟩ := h.inr.at_ hi hk
  refine ⟨q, hq, hqn, h.lab_at (List.getElem?_eq_getElem hi) ?_⟩
  rw [List.getElem?_eq_getElem hi, Option.getD_some] at hq hk
  rw [← hq, List.getElem?_eq_getElem hk]
  exact List.getElem_mem _
/-- What is stable is equitable. -/
theorem stable_equit (h : Plain.Good n a) (hs : roundL n a m = a) : Equit a m := by
  intro i hi k hk1 hk c hc x hx
  obtain ⟨p, hp, hpn, hpl⟩ := at_pt h hi (k := 0) (by omega)
  obtain ⟨q, hq, hqn, hql⟩ := at_pt h hi hk
  have hkey : keyL n (labelsL n a) m p = keyL n (labelsL n a) m q := round_key hpn hqn (by rw [hs, hpl, hql])
  unfold Eq4
  rw [hp, hq, Int.toNat_natCast, Int.toNat_natCast]
  have hcc := List.getElem?_eq_getElem hc
  rw [hcc, Option.getD_some, cnt_triple h hcc, cnt_triple h hcc, (key_perm hkey).count_eq]
theorem equit_perm (h : Plain.Good n a) (hm : ∀ i k, i < n → k < n → 0 ≤ mat m i k ∧ mat m i k ≤ 2) (he : Equit a m) {v w : Nat} (hv : v < n) (hw : w < n) (hl : lab n a v = lab n a w) :
    ((List.range n).map (triple (labelsL n a) m v)).Perm ((List.range n).map (triple (labelsL n a) m w)) := by
  rw [List.perm_iff_count]
  have shape : ∀ v, v < n → ∀ t, t ∈ (List.range n).map (triple (labelsL n a) m v) → ∃ (k x y : Nat), t = [(k : Int), (x : Int), (y : Int)] ∧ k < a.length ∧ x ≤ 2 ∧ y ≤ 2 := by
    intro v hv t ht
    obtain ⟨u, hu, rfl⟩ := List.mem_map.1 ht
    have hu := List.mem_range.1 hu
    obtain ⟨k, c, hk, _, _, hlu⟩ := h.cell_lab hu
    have h1 := hm v u hv hu
    have h2 := hm u v hu hv
    refine ⟨k, (mat m v u).toNat, (mat m u v).toNat, ?_, hk, by omega, by omega⟩
    simp only [triple]
    simp only [lab] at hlu
    rw [hlu, Int.toNat_of_nonneg h1.1, Int.toNat_of_nonneg h2.1]
  have first : ∀ (k x y : Nat), k < a.length → x ≤ 2 → y ≤ 2 → ∀ v : Nat, v < n → ∀ (i : Nat) (c : List Int), a[i]? = some c → (v : Int) ∈ c → ((List.range n).map (triple (labelsL n a) m v)).count [(k : Int), (x : Int), (y : Int)] = cntTo m (a[k]?.getD []) ((c[0]?.getD 0).toNat) x y (a[k]?.getD []).length := by
    intro k x y hk hx hy v hv i c hc hvc
    have hi : i < a.length := (List.getElem?_eq_some_iff.1 hc).1
    obtain ⟨j, hj, ej⟩ := List.getElem_of_mem hvc
    have hkk := List.getElem?_eq_getElem hk
    rw [hkk, Option.getD_some, ← cnt_triple h hkk]
    have hgi : a[i]?.getD [] = c := by rw [hc]; rfl
    by_cases hj0 : j = 0
    · subst hj0
      rw [List.getElem?_eq_getElem hj, Option.getD_some, ej, Int.toNat_natCast]
    · have := he i hi j (by omega) (by rw [hgi]; exact hj) k hk (3 * x + y) (by omega)
      unfold Eq4 at this
      rw [hgi, hkk, Option.getD_some, List.getElem?_eq_getElem hj, Option.getD_some, ej, Int.toNat_natCast, show (3 * x + y) / 3 = x by omega, show (3 * x + y) % 3 = y by omega] at this
      exact this.symm
  intro t
  obtain ⟨i, c, _, hc, hvc, hlv⟩ := h.cell_lab hv
  have hwc := h.mem_of_lab hc hw (by rw [← hl, hlv])
  by_cases hsh : ∃ (k x y : Nat), t = [(k : Int), (x : Int), (y : Int)] ∧ k < a.length ∧ x ≤ 2 ∧ y ≤ 2
  · obtain ⟨k, x, y, rfl, hk, hx, hy⟩ := hsh
    rw [first k x y hk hx hy v hv i c hc hvc, first k x y hk hx hy w hw i c hc hwc]
  · rw [List.count_eq_zero.2 (fun ht => hsh (shape v hv t ht)), List.count_eq_zero.2 (fun ht => hsh (shape w hw t ht))]
/-- What is equitable and finer than a partition is finer than its round. -/
theorem equit_round {l : List (List Int)} (h : Plain.Good n a) (hm : ∀ i k, i < n → k < n → 0 ≤ mat m i k ∧ mat m i k ≤ 2) (he : Equit a m)
    (hf : ∀ v w, v < n → w < n → lab n a v = lab n a w → lab n l v = lab n l w) {v w : Nat} (hv : v < n) (hw : w < n) (hl : lab n a v = lab n a w) : lab n (roundL n l m) v = lab n (roundL n l m) w := by
  have hp := equit_perm h hm he hv hw hl
  have hmap : ∀ v, (List.range n).map (triple (labelsL n l) m v) = ((List.range n).map (triple (labelsL n a) m v)).map (fun t => lab n l (((a[(t.headD 0).toNat]?.getD [])[0]?.getD 0).toNat) :: t.tail) := by
    intro v
    rw [List.map_map]
    apply List.map_congr_left
    intro u hu
    have hu := List.mem_range.1 hu
    simp only [Function.comp, triple, List.headD_cons, List.tail_cons]
    congr 1
    obtain ⟨k, c, hk, hc, huc, hlu⟩ := h.cell_lab hu
    have e : (labelsL n a)[u]?.getD 0 = k := hlu
    have hne : 0 < (a[k]?.getD []).length := by rw [hc, Option.getD_some]; exact List.length_pos_of_mem huc
    obtain ⟨q, hq, hqn, hql⟩ := at_pt h hk (k := 0) hne
    rw [e, Int.toNat_natCast, hq, Int.toNat_natCast]
    exact hf u q hu hqn (by rw [hlu, hql])
  have hk := perm_key (x := labelsL n l) (m := m) (v := v) (w := w) (hf v w hv hw hl) (by rw [hmap v, hmap w]; exact hp.map _)
  obtain ⟨P, h1, h2⟩ := round_part n l m
  rw [h1]
  have hg := part_good h2
  obtain ⟨c, hc, hvc⟩ := (h2.cover v).2 hv
  obtain ⟨d, hd, hwd⟩ := (h2.cover w).2 hw
  have hRv : (rowsL n m (labelsL n l))[v]?.getD [] = (rowsL n m (labelsL n l))[w]?.getD [] := by rw [rowsL_at hv, rowsL_at hw, hk]
  have hcd : c = d := by
    have key : ∀ (Q : List (List Nat)), Q.Pairwise (fun c d => ∀ i ∈ c, ∀ j ∈ d, cmpL ((rowsL n m (labelsL n l))[i]?.getD []) ((rowsL n m (labelsL n l))[j]?.getD []) < 0) → c ∈ Q → d ∈ Q → c = d := by
      intro Q
      induction Q with
      | nil => intro _ h _; simp at h
      | cons e Q ih =>
        intro hQ h1 h2
        rw [List.pairwise_cons] at hQ
        rcases List.mem_cons.1 h1 with g1 | g1
        · rcases List.mem_cons.1 h2 with g2 | g2
          · rw [g1, g2]
          · have := hQ.1 d g2 v (by rw [← g1]; exact hvc) w hwd
            rw [hRv, cmpL_self] at this; omega
        · rcases List.mem_cons.1 h2 with g2 | g2
          · have := hQ.1 c g1 w (by rw [← g2]; exact hwd) v hvc
            rw [hRv, cmpL_self] at this; omega
          · exact ih hQ.2 g1 g2
    exact key P h2.ord hc hd
  subst hcd
  obtain ⟨k, hk⟩ := List.getElem?_of_mem hc
  have hk2 : (P.map (·.map Int.ofNat))[k]? = some (c.map Int.ofNat) := by rw [List.getElem?_map, hk]; rfl
  rw [hg.lab_at hk2 (List.mem_map.2 ⟨v, hvc, rfl⟩), hg.lab_at hk2 (List.mem_map.2 ⟨w, hwd, rfl⟩)]
theorem equit_refL (h : Plain.Good n a) (hm : ∀ i k, i < n → k < n → 0 ≤ mat m i k ∧ mat m i k ≤ 2) (he : Equit a m) : ∀ {f : Nat} {l : List (List Int)},
    (∀ v w, v < n → w < n → lab n a v = lab n a w → lab n l v = lab n l w) → ∀ {v w : Nat}, v < n → w < n → lab n a v = lab n a w → lab n (refL n m f l) v = lab n (refL n m f l) w
  | 0, l, hf, v, w, hv, hw, hl => hf v w hv hw hl
  | f + 1, l, hf, v, w, hv, hw, hl => by
    rw [refL]
    split
    · exact equit_round h hm he hf hv hw hl
    · exact equit_refL h hm he (fun v w hv hw hl => equit_round h hm he hf hv hw hl) hv hw hl
/-- What is finer, by labels, is finer by cells. -/
theorem oneLabel_of {l : List (List Int)} (h : Plain.Good n a) (hf : ∀ v w, v < n → w < n → lab n a v = lab n a w → lab n l v = lab n l w) : OneLabel (labelsL n l) a := by
  intro i hi k hk
  obtain ⟨p, hp, hpn, hpl⟩ := at_pt h hi (k := 0) (by omega)
  obtain ⟨q, hq, hqn, hql⟩ := at_pt h hi hk
  rw [hp, hq, Int.toNat_natCast, Int.toNat_natCast]
  exact hf q p hqn hpn (by rw [hpl, hql])
end
end Go.Proofs.Ytlnikgcanimggaa
