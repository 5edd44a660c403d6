/- A chain of automorphisms: the orbits' sizes multiply to the number of all; each representative is the least: plain. -/
import Derived.Test.YtjjjohmppehejaaGreatPlainAp
set_option linter.unusedSimpArgs false
set_option linter.unusedVariables false
namespace Go.Proofs.YtjjjohmppehejaaGreat.PlainX
open Go.Proofs.YtjjjohmppehejaaGreat Plain PlainG PlainT
/-- An automorphism. -/
abbrev Aut (n : Nat) (g : Gr) (q : List Nat) : Prop := Iso (adj g.es) (adj g.es) g.cs g.cs n q
theorem at_lt {q : List Nat} {i : Nat} (h : i < q.length) : at_ q i = q[i] := by unfold at_; rw [List.getElem?_eq_getElem h]; rfl
theorem range_at {n i : Nat} (h : i < n) : at_ (List.range n) i = i := by unfold at_; simp [h]
theorem list_ext_at {p q : List Nat} (hl : p.length = q.length) (h : ∀ i, i < p.length → at_ p i = at_ q i) : p = q := by
  apply List.ext_getElem hl
  intro i h1 h2
  have := h i h1
  rwa [at_lt h1, at_lt h2] at this
theorem aut_id {n : Nat} (g : Gr) : Aut n g (List.range n) := by
  have e : ∀ i, i < n → (List.range n)[i]?.getD 0 = i := fun i hi => by simp [hi]
  exact ⟨by simp, fun x hx => List.mem_range.1 hx, List.nodup_range, fun i k hk hi => by rw [e i hi, e k (by omega)], fun i hi => by rw [e i hi]⟩
/-- q after h. -/
def compN (q h : List Nat) : List Nat := h.map (at_ q)
theorem comp_at {q h : List Nat} {i : Nat} (hi : i < h.length) : at_ (compN q h) i = at_ q (at_ h i) := by
  unfold compN at_; rw [List.getElem?_map, List.getElem?_eq_getElem hi]; rfl
theorem range_map_at {n : Nat} {p : List Nat} (h : p.length = n) : (List.range n).map (at_ p) = p := by
  apply list_ext_at (by simp [h])
  intro i hi
  have hi2 : i < n := by simpa using hi
  have := comp_at (q := p) (h := List.range n) (i := i) (by simpa using hi2)
  unfold compN at this
  rw [this, range_at hi2]
theorem aut_perm {n : Nat} {g : Gr} {q : List Nat} (h : Aut n g q) : ∃ t, PermOf n (at_ q) t := h.perm
theorem aut_of {n : Nat} {g : Gr} {s t : Nat → Nat} (hp : PermOf n s t) (ha : ∀ i k, i < n → k < n → adj g.es i k = adj g.es (s i) (s k)) (hc : ∀ i, i < n → g.cs[i]?.getD 0 = g.cs[s i]?.getD 0) : Aut n g ((List.range n).map s) :=
  iso_of_perm hp (fun i k hk hi => ha i k hi (by omega)) hc
theorem aut_adj {n : Nat} {g : Gr} (hg : Vg n g) {q : List Nat} (h : Aut n g q) {i k : Nat} (hi : i < n) (hk : k < n) : adj g.es i k = adj g.es (at_ q i) (at_ q k) := iso_adj hg hg h hi hk
theorem aut_comp {n : Nat} {g : Gr} (hg : Vg n g) {q h : List Nat} (hq : Aut n g q) (hh : Aut n g h) : Aut n g (compN q h) := by
  obtain ⟨t, ht⟩ := aut_perm hq
  obtain ⟨u, hu⟩ := aut_perm hh
  have e : compN q h = (List.range n).map fun i => at_ q (at_ h i) := by
    apply list_ext_at (by simp [compN, hh.len])
    intro i hi
    have hi2 : i < h.length := by simpa [compN] using hi
    rw [comp_at hi2]
    unfold at_
    rw [List.getElem?_map, List.getElem?_range (by rw [← hh.len]; exact hi2)]; rfl
  rw [e]
  exact aut_of (hu.comp ht) (fun i k hi hk => (aut_adj hg hh hi hk).trans (aut_adj hg hq (hu.lt i hi) (hu.lt k hk))) (fun i hi => (hh.col i hi).trans (hq.col _ (hu.lt i hi)))
theorem aut_inv {n : Nat} {g : Gr} (hg : Vg n g) {q : List Nat} {t : Nat → Nat} (hq : Aut n g q) (ht : PermOf n (at_ q) t) : Aut n g ((List.range n).map t) := by
  refine aut_of ht.inv (fun i k hi hk => ?_) (fun i hi => ?_)
  · rw [aut_adj hg hq (ht.lt' i hi) (ht.lt' k hk), ht.right i hi, ht.right k hk]
  · have := hq.col _ (ht.lt' i hi)
    have e := ht.right i hi
    unfold at_ at e
    rw [e] at this
    exact this.symm
/-- The automorphisms that fix the points below i. -/
def fixB (i : Nat) (p : List Nat) : Bool := (List.range i).all fun v => at_ p v == v
theorem fixB_iff {i : Nat} {p : List Nat} : fixB i p = true ↔ ∀ v, v < i → at_ p v = v := by simp [fixB]
def autL (n : Nat) (g : Gr) (i : Nat) : List (List Nat) := ((seqP n).filter (hits n g g)).filter (fixB i)
theorem mem_autL {n : Nat} (hn : n ≤ 5) {g : Gr} {i : Nat} {p : List Nat} : p ∈ autL n g i ↔ Aut n g p ∧ ∀ v, v < i → at_ p v = v := by
  unfold autL
  rw [List.mem_filter, List.mem_filter, fixB_iff]
  constructor
  · rintro ⟨⟨h1, h2⟩, h3⟩
    exact ⟨(iso_iff ((seq_mem hn).1 h1)).1 h2, h3⟩
  · rintro ⟨h1, h2⟩
    exact ⟨⟨(seq_mem hn).2 (iso_permB h1), (iso_iff (iso_permB h1)).2 h1⟩, h2⟩
theorem seq_nodup {n : Nat} (hn : n ≤ 5) : (seqP n).Nodup := (seq_facts hn).2.1.imp fun {a b} h e => by subst e; exact ltL_asymm h h
theorem autL_nodup {n : Nat} (hn : n ≤ 5) (g : Gr) (i : Nat) : (autL n g i).Nodup := ((seq_nodup hn).filter _).filter _
theorem autL_zero {n : Nat} (g : Gr) : (autL n g 0).length = manyP n g g := by
  unfold autL manyP
  rw [List.filter_eq_self.2]
  intro p hp
  simp [fixB]
theorem autL_end {n : Nat} (hn : n ≤ 5) (g : Gr) : (autL n g n).length = 1 := by
  have h1 : (autL n g n).length ≤ [List.range n].length := length_le_of_nodup (autL_nodup hn g n) fun p hp => by
    obtain ⟨ha, hf⟩ := (mem_autL hn).1 hp
    rw [List.mem_singleton]
    refine list_ext_at (by rw [ha.len]; simp) fun i hi => ?_
    rw [ha.len] at hi
    rw [hf i hi, range_at hi]
  have h2 : List.range n ∈ autL n g n := (mem_autL hn).2 ⟨aut_id g, fun v hv => range_at hv⟩
  have := List.length_pos_of_mem h2
  simp at h1
  omega
/-- A representative of the chain. -/
theorem lev_mem {n : Nat} {g : Gr} {i v : Nat} {q : List Nat} (h : (v, q) ∈ levA (adj g.es) g.cs n i) : v < n ∧ extA (adj g.es) (adj g.es) g.cs g.cs n (List.range i ++ [v]) = some q := by
  unfold levA at h
  obtain ⟨u, hu, e⟩ := List.mem_filterMap.1 h
  cases hx : extA (adj g.es) (adj g.es) g.cs g.cs n (List.range i ++ [u]) with
  | none => rw [hx] at e; simp at e
  | some r =>
    rw [hx] at e
    simp at e
    obtain ⟨rfl, rfl⟩ := e
    exact ⟨List.mem_range.1 hu, hx⟩
theorem mem_lev {n : Nat} {g : Gr} {i v : Nat} {q : List Nat} (hv : v < n) (h : extA (adj g.es) (adj g.es) g.cs g.cs n (List.range i ++ [v]) = some q) : (v, q) ∈ levA (adj g.es) g.cs n i := by
  unfold levA
  exact List.mem_filterMap.2 ⟨v, List.mem_range.2 hv, by rw [h]; rfl⟩
theorem ext_aut {n : Nat} {g : Gr} {i v : Nat} {q : List Nat} (hi : i < n) (hv : v < n) (h : extA (adj g.es) (adj g.es) g.cs g.cs n (List.range i ++ [v]) = some q) : Aut n g q ∧ (∀ u, u < i → at_ q u = u) ∧ at_ q i = v := by
  have ha : Aut n g q := ext_iso (fun x hx => by
    rcases List.mem_append.1 hx with h1 | h1
    · have := List.mem_range.1 h1; omega
    · rw [List.mem_singleton.1 h1]; exact hv) (by simp; omega) h
  have ht : q.take (i + 1) = List.range i ++ [v] := by
    unfold extA at h
    split at h
    · have := (tryF_len h).2
      simpa using this
    · cases h
  have hl := ha.len
  have hg : ∀ u, u < i + 1 → at_ q u = at_ (List.range i ++ [v]) u := fun u hu => by
    rw [← ht]; unfold at_; rw [List.getElem?_take, if_pos hu]
  refine ⟨ha, fun u hu => ?_, ?_⟩
  · rw [hg u (by omega)]; unfold at_; rw [List.getElem?_append_left (by simpa using hu)]; simp [hu]
  · rw [hg i (by omega)]; unfold at_; rw [List.getElem?_append_right (by simp)]; simp
/-- Where an automorphism leads there is a representative, and it is not greater. -/
theorem ext_has {n : Nat} {g : Gr} {i : Nat} {p : List Nat} (hi : i < n) (hp : Aut n g p) (hf : ∀ u, u < i → at_ p u = u) : ∃ q, extA (adj g.es) (adj g.es) g.cs g.cs n (List.range i ++ [at_ p i]) = some q ∧ (q = p ∨ ltL q p = true) := by
  have hl := hp.len
  have ht : p.take (i + 1) = List.range i ++ [at_ p i] := by
    apply list_ext_at (by simp; omega)
    intro u hu
    have hu2 : u < i + 1 := by simp at hu; omega
    have e : at_ (p.take (i + 1)) u = at_ p u := by unfold at_; rw [List.getElem?_take, if_pos hu2]
    rw [e]
    rcases Nat.lt_or_ge u i with h1 | h1
    · rw [hf u h1]; unfold at_; rw [List.getElem?_append_left (by simpa using h1)]; simp [h1]
    · obtain rfl : u = i := by omega
      unfold at_; rw [List.getElem?_append_right (by simp)]; simp
  have hpre : preOK (adj g.es) (adj g.es) g.cs g.cs (List.range i ++ [at_ p i]) = true := by
    unfold preOK
    refine List.all_eq_true.2 fun u hu => ?_
    have hu2 : u < i + 1 := by have := List.mem_range.1 hu; simpa using this
    have := hp.pre.ok u (by omega)
    rw [← ht, List.take_take, List.getElem?_take, if_pos hu2, Nat.min_eq_left (by omega)]
    exact this
  unfold extA
  rw [if_pos hpre]
  refine tryF_least hp _ _ ?_ ?_
  · simp; omega
  · simpa using ht
theorem aut_at_lt {n : Nat} {g : Gr} {p : List Nat} (hp : Aut n g p) {i : Nat} (hi : i < n) : at_ p i < n := by
  rw [at_lt (by rw [hp.len]; exact hi)]; exact hp.lt _ (List.getElem_mem _)
theorem len_flatMap_const {α β : Type} {f : α → List β} {m : Nat} : ∀ {l : List α}, (∀ a ∈ l, (f a).length = m) → (l.flatMap f).length = l.length * m
  | [], _ => by simp
  | a :: l, h => by
    rw [List.flatMap_cons, List.length_append, h a (by simp), len_flatMap_const (fun b hb => h b (by simp [hb])), List.length_cons, Nat.succ_mul]
    omega
theorem nodup_flatMap_of {α β : Type} {f : α → List β} : ∀ {l : List α}, l.Pairwise (fun a b => ∀ x ∈ f a, x ∉ f b) → (∀ a ∈ l, (f a).Nodup) → (l.flatMap f).Nodup
  | [], _, _ => by simp
  | a :: l, hp, hn => by
    rw [List.flatMap_cons]
    obtain ⟨h1, h2⟩ := List.pairwise_cons.1 hp
    refine List.nodup_append.2 ⟨hn a (by simp), nodup_flatMap_of h2 (fun b hb => hn b (by simp [hb])), fun x hx y hy e => ?_⟩
    subst e
    obtain ⟨b, hb, hxb⟩ := List.mem_flatMap.1 hy
    exact h1 b hb x hx hxb
theorem lev_pair {n : Nat} (A : Adj) (c : List Int) (i : Nat) : (levA A c n i).Pairwise (fun a b => a.1 < b.1) := by
  unfold levA
  rw [List.pairwise_filterMap]
  refine (List.pairwise_lt_range (n := n)).imp ?_
  intro a b hab x hx y hy
  rw [Option.map_eq_some_iff] at hx hy
  obtain ⟨q, _, rfl⟩ := hx
  obtain ⟨r, _, rfl⟩ := hy
  exact hab
theorem comp_inj {n : Nat} {g : Gr} {q h k : List Nat} (hq : Aut n g q) (hh : Aut n g h) (hk : Aut n g k) (e : compN q h = compN q k) : h = k := by
  obtain ⟨t, ht⟩ := aut_perm hq
  refine list_ext_at (by rw [hh.len, hk.len]) fun i hi => ?_
  rw [hh.len] at hi
  have e2 : at_ (compN q h) i = at_ (compN q k) i := by rw [e]
  rw [comp_at (by rw [hh.len]; exact hi), comp_at (by rw [hk.len]; exact hi)] at e2
  rw [← ht.left _ (aut_at_lt hh hi), e2, ht.left _ (aut_at_lt hk hi)]
/-- One level: an automorphism is a representative after one that fixes one more point. -/
theorem aut_level {n : Nat} (hn : n ≤ 5) {g : Gr} (hg : Vg n g) {i : Nat} (hi : i < n) : (autL n g i).length = (orbA (adj g.es) g.cs n i).length * (autL n g (i + 1)).length := by
  obtain ⟨L, hL⟩ : ∃ L, L = (levA (adj g.es) g.cs n i).flatMap fun x => (autL n g (i + 1)).map (compN x.2) := ⟨_, rfl⟩
  have hlen : L.length = (orbA (adj g.es) g.cs n i).length * (autL n g (i + 1)).length := by
    rw [hL, len_flatMap_const (m := (autL n g (i + 1)).length) (fun a _ => by simp), orbA, List.length_map]
  have hm : ∀ p, p ∈ L ↔ p ∈ autL n g i := by
    intro p
    rw [hL, List.mem_flatMap, mem_autL hn]
    constructor
    · rintro ⟨⟨v, q⟩, hx, hp⟩
      obtain ⟨h, hh, rfl⟩ := List.mem_map.1 hp
      obtain ⟨hv, he⟩ := lev_mem hx
      obtain ⟨ha, hf, _⟩ := ext_aut hi hv he
      obtain ⟨hb, hf2⟩ := (mem_autL hn).1 hh
      refine ⟨aut_comp hg ha hb, fun u hu => ?_⟩
      rw [comp_at (by rw [hb.len]; omega), hf2 u (by omega), hf u hu]
    · rintro ⟨ha, hf⟩
      obtain ⟨q, hq, _⟩ := ext_has hi ha hf
      have hv := aut_at_lt ha hi
      obtain ⟨hqa, hqf, hqi⟩ := ext_aut hi hv hq
      obtain ⟨t, ht⟩ := aut_perm hqa
      have hti := aut_inv hg hqa ht
      refine ⟨(at_ p i, q), mem_lev hv hq, List.mem_map.2 ⟨compN ((List.range n).map t) p, (mem_autL hn).2 ⟨aut_comp hg hti ha, fun u hu => ?_⟩, ?_⟩⟩
      · have hat : ∀ x, x < n → at_ ((List.range n).map t) x = t x := fun x hx => by unfold at_; rw [List.getElem?_map, List.getElem?_range hx]; rfl
        rw [comp_at (by rw [ha.len]; omega), hat _ (aut_at_lt ha (by omega))]
        rcases Nat.lt_or_ge u i with h1 | h1
        · rw [hf u h1]
          have := ht.left u (by omega)
          rwa [hqf u h1] at this
        · obtain rfl : u = i := by omega
          rw [← hqi]
          exact ht.left u hi
      · have hat : ∀ x, x < n → at_ ((List.range n).map t) x = t x := fun x hx => by unfold at_; rw [List.getElem?_map, List.getElem?_range hx]; rfl
        refine list_ext_at (by simp [compN]) fun u hu => ?_
        have hu2 : u < n := by simpa [compN, ha.len] using hu
        rw [comp_at (by simpa [compN, ha.len] using hu2), comp_at (by rw [ha.len]; exact hu2), hat _ (aut_at_lt ha hu2)]
        exact ht.right _ (aut_at_lt ha hu2)
  have hd : L.Nodup := by
    rw [hL]
    refine nodup_flatMap_of ((lev_pair _ _ i).imp_of_mem ?_) (fun x hx => ?_)
    · rintro ⟨v, q⟩ ⟨u, r⟩ hx hy hvu p hp hp2
      obtain ⟨h, hh, rfl⟩ := List.mem_map.1 hp
      obtain ⟨k, hk, e⟩ := List.mem_map.1 hp2
      obtain ⟨hv, he⟩ := lev_mem hx
      obtain ⟨hu, he2⟩ := lev_mem hy
      obtain ⟨_, _, hqi⟩ := ext_aut hi hv he
      obtain ⟨_, _, hri⟩ := ext_aut hi hu he2
      obtain ⟨hb, hf2⟩ := (mem_autL hn).1 hh
      obtain ⟨hb3, hf3⟩ := (mem_autL hn).1 hk
      have e2 : at_ (compN r k) i = at_ (compN q h) i := by rw [e]
      rw [comp_at (by rw [hb3.len]; exact hi), comp_at (by rw [hb.len]; exact hi), hf2 i (by omega), hf3 i (by omega), hqi, hri] at e2
      simp only at hvu
      omega
    · obtain ⟨v, q⟩ := x
      obtain ⟨hv, he⟩ := lev_mem hx
      obtain ⟨ha, _, _⟩ := ext_aut hi hv he
      refine List.pairwise_map.2 ((autL_nodup hn g (i + 1)).imp_of_mem ?_)
      intro h k hh hk hne e
      exact hne (comp_inj ha ((mem_autL hn).1 hh).1 ((mem_autL hn).1 hk).1 e)
  rw [← hlen]
  exact Nat.le_antisymm (length_le_of_nodup (autL_nodup hn g i) fun p hp => (hm p).2 hp) (length_le_of_nodup hd fun p hp => (hm p).1 hp)
/-- The product of the orbits' sizes from level i on. -/
def prodF (A : Adj) (c : List Int) (n : Nat) : Nat → Nat
  | 0 => 1
  | k + 1 => prodF A c n k * (orbA A c n k).length
theorem aut_prod {n : Nat} (hn : n ≤ 5) {g : Gr} (hg : Vg n g) : ∀ i, i ≤ n → manyP n g g = prodF (adj g.es) g.cs n i * (autL n g i).length
  | 0, _ => by rw [prodF, Nat.one_mul, autL_zero]
  | i + 1, h => by
    rw [aut_prod hn hg i (by omega), aut_level hn hg (by omega), prodF, Nat.mul_assoc]
theorem many_prod {n : Nat} (hn : n ≤ 5) {g : Gr} (hg : Vg n g) : manyP n g g = prodF (adj g.es) g.cs n n := by
  rw [aut_prod hn hg n (Nat.le_refl n), autL_end hn, Nat.mul_one]
theorem seq_head {n : Nat} : (seqP n).head? = some (List.range n) := by
  show (match nextF (List.range n) with | none => [List.range n] | some q => List.range n :: goF 129 q).head? = _
  cases nextF (List.range n) <;> rfl
theorem range_first {n : Nat} (hn : n ≤ 5) {q : List Nat} (hq : isPermB n q = true) : ltL q (List.range n) = false := by
  have hm := (seq_mem hn).2 hq
  have hs := (seq_facts hn).2.1
  have hh := seq_head (n := n)
  rw [Bool.eq_false_iff]
  intro h
  cases hl : seqP n with
  | nil => rw [hl] at hm; simp at hm
  | cons a l =>
    rw [hl] at hh hm hs
    simp at hh
    subst hh
    rcases List.mem_cons.1 hm with rfl | h2
    · exact ltL_asymm h h
    · exact ltL_asymm h ((List.pairwise_cons.1 hs).1 q h2)
/-- The representative of a point itself is the identity. -/
theorem rep_self {n : Nat} (hn : n ≤ 5) {g : Gr} {i : Nat} {q : List Nat} (hi : i < n) (h : extA (adj g.es) (adj g.es) g.cs g.cs n (List.range i ++ [i]) = some q) : q = List.range n := by
  obtain ⟨r, h2, h3⟩ := ext_has (p := List.range n) hi (aut_id g) (fun u hu => range_at (by omega))
  rw [range_at hi, h] at h2
  cases h2
  rcases h3 with rfl | h3
  · rfl
  · rw [range_first hn (iso_permB (ext_aut hi hi h).1)] at h3; cases h3
/-- Comparing as the program does: at the first place where they differ. -/
def cmpF (q p : List Nat) : Nat → Nat → Bool
  | 0, _ => true
  | f + 1, v => if at_ q v ≠ at_ p v then decide (at_ q v < at_ p v) else cmpF q p f (v + 1)
theorem ltL_cmp : ∀ {q p : List Nat} (pre r : List Nat), q.length = p.length → (q = p ∨ ltL q p = true) → ∀ f, f = q.length → cmpF (pre ++ q) (r ++ p) f pre.length = true ∨ pre.length ≠ r.length
  | [], p, pre, r, hl, h, f, hf => by subst hf; left; rfl
  | a :: q, b :: p, pre, r, hl, h, f, hf => by
    by_cases hpr : pre.length = r.length
    · left
      subst hf
      have e1 : at_ (pre ++ a :: q) pre.length = a := by unfold at_; rw [List.getElem?_append_right (Nat.le_refl _)]; simp
      have e2 : at_ (r ++ b :: p) pre.length = b := by unfold at_; rw [hpr, List.getElem?_append_right (Nat.le_refl _)]; simp
      rw [List.length_cons, cmpF, e1, e2]
      by_cases hab : a = b
      · subst hab
        rw [if_neg (by simp)]
        have h2 : q = p ∨ ltL q p = true := by
          rcases h with h | h
          · left; exact (List.cons.inj h).2
          · simp only [ltL, Bool.or_eq_true, Bool.and_eq_true, decide_eq_true_eq, beq_iff_eq] at h
            rcases h with h | h
            · omega
            · exact .inr h.2
        have := ltL_cmp (pre ++ [a]) (r ++ [a]) (by simpa using hl) h2 q.length rfl
        rw [List.append_assoc, List.append_assoc] at this
        simp only [List.length_append, List.length_singleton, List.singleton_append] at this
        rcases this with h | h
        · exact h
        · omega
      · rw [if_pos hab]
        rcases h with h | h
        · exact absurd (List.cons.inj h).1 hab
        · simp only [ltL, Bool.or_eq_true, Bool.and_eq_true, decide_eq_true_eq, beq_iff_eq] at h
          rcases h with h | h
          · simp [h]
          · exact absurd h.1 hab
    · exact .inr hpr
  | a :: q, [], pre, r, hl, h, f, hf => by simp at hl
theorem le_cmp {q p : List Nat} (hl : q.length = p.length) (h : q = p ∨ ltL q p = true) : cmpF q p q.length 0 = true := by
  rcases ltL_cmp [] [] hl h q.length rfl with h | h
  · exact h
  · simp at h
theorem cmpF_stop {q p : List Nat} {f v : Nat} (h : at_ q v ≠ at_ p v) : cmpF q p (f + 1) v = decide (at_ q v < at_ p v) := by rw [cmpF, if_pos h]
theorem cmpF_go {q p : List Nat} {f v : Nat} (h : at_ q v = at_ p v) : cmpF q p (f + 1) v = cmpF q p f (v + 1) := by rw [cmpF, if_neg (by simp [h])]
/-- For the first point that an automorphism moves there is a representative that is not greater. -/
theorem lev_has {n : Nat} {g : Gr} {i : Nat} {p : List Nat} (hi : i < n) (hp : Aut n g p) (hf : ∀ u, u < i → at_ p u = u) : ∃ k, k < (orbA (adj g.es) g.cs n i).length ∧ (orbA (adj g.es) g.cs n i)[k]?.getD 0 = at_ p i ∧ cmpF ((repA (adj g.es) g.cs n i)[k]?.getD []) p n 0 = true := by
  obtain ⟨q, h1, h2⟩ := ext_has hi hp hf
  obtain ⟨k, hk, e⟩ := List.mem_iff_getElem.1 (mem_lev (aut_at_lt hp hi) h1)
  have ha := ext_aut hi (aut_at_lt hp hi) h1
  refine ⟨k, by simpa [orbA] using hk, ?_, ?_⟩
  · unfold orbA; rw [List.getElem?_map, List.getElem?_eq_getElem hk, e]; rfl
  · unfold repA; rw [List.getElem?_map, List.getElem?_eq_getElem hk, e]
    simp only [Option.map_some, Option.getD_some]
    have := le_cmp (by rw [ha.1.len, hp.len]) h2
    rwa [ha.1.len] at this
/-- What the law asks of a representative. -/
theorem rep_facts {n : Nat} (hn : n ≤ 5) {g : Gr} (hg : Vg n g) {i k : Nat} (hi : i < n) (hk : k < (orbA (adj g.es) g.cs n i).length) :
    isPermB n ((repA (adj g.es) g.cs n i)[k]?.getD []) = true ∧ movedG n (ntz ((repA (adj g.es) g.cs n i)[k]?.getD [])) g.es g.cs = g ∧
    at_ ((repA (adj g.es) g.cs n i)[k]?.getD []) i = (orbA (adj g.es) g.cs n i)[k]?.getD 0 ∧ (orbA (adj g.es) g.cs n i)[k]?.getD 0 < n ∧
    (at_ ((repA (adj g.es) g.cs n i)[k]?.getD []) i = i → (repA (adj g.es) g.cs n i)[k]?.getD [] = List.range n) ∧ ∀ u, u < i → at_ ((repA (adj g.es) g.cs n i)[k]?.getD []) u = u := by
  have hk2 : k < (levA (adj g.es) g.cs n i).length := by simpa [orbA] using hk
  obtain ⟨v, q, hvq⟩ : ∃ v q, (levA (adj g.es) g.cs n i)[k] = (v, q) := ⟨_, _, rfl⟩
  have e1 : (repA (adj g.es) g.cs n i)[k]?.getD [] = q := by unfold repA; rw [List.getElem?_map, List.getElem?_eq_getElem hk2, hvq]; rfl
  have e2 : (orbA (adj g.es) g.cs n i)[k]?.getD 0 = v := by unfold orbA; rw [List.getElem?_map, List.getElem?_eq_getElem hk2, hvq]; rfl
  obtain ⟨hv, he⟩ := lev_mem (hvq ▸ List.getElem_mem hk2)
  obtain ⟨ha, hf, hqi⟩ := ext_aut hi hv he
  rw [e1, e2]
  refine ⟨iso_permB ha, (mv_iso hg hg (iso_permB ha)).2 ha, hqi, hv, fun h => ?_, hf⟩
  have hvi : v = i := hqi.symm.trans h
  subst hvi
  exact rep_self hn hi he
theorem orb_asc (A : Adj) (c : List Int) (n i : Nat) : (orbA A c n i).Pairwise (· < ·) := by
  unfold orbA
  exact List.pairwise_map.2 (lev_pair A c i)
theorem orb_rep_len (A : Adj) (c : List Int) (n i : Nat) : (repA A c n i).length = (orbA A c n i).length := by simp [orbA, repA]
end Go.Proofs.YtjjjohmppehejaaGreat.PlainX
set_option linter.unusedSimpArgs false
set_option linter.unusedVariables false
namespace Go.Proofs.YtjjjohmppehejaaGreat.PlainX
open Go.Proofs.YtjjjohmppehejaaGreat Plain PlainG PlainT
def chainB (l : List (List Nat)) : Bool := (List.range l.length).all fun k => nextF (l[k]?.getD []) == l[k + 1]?
theorem chain0 : chainB (seqP 0) = true ∧ (seqP 0).length ≤ 120 := by decide +kernel
theorem chain1 : chainB (seqP 1) = true ∧ (seqP 1).length ≤ 120 := by decide +kernel
theorem chain2 : chainB (seqP 2) = true ∧ (seqP 2).length ≤ 120 := by decide +kernel
theorem chain3 : chainB (seqP 3) = true ∧ (seqP 3).length ≤ 120 := by decide +kernel
theorem chain4 : chainB (seqP 4) = true ∧ (seqP 4).length ≤ 120 := by decide +kernel
theorem chain5 : chainB (seqP 5) = true ∧ (seqP 5).length ≤ 120 := by decide +kernel
theorem chain_facts {n : Nat} (hn : n ≤ 5) : chainB (seqP n) = true ∧ (seqP n).length ≤ 120 := by
  match n, hn with
  | 0, _ => exact chain0
  | 1, _ => exact chain1
  | 2, _ => exact chain2
  | 3, _ => exact chain3
  | 4, _ => exact chain4
  | 5, _ => exact chain5
theorem seq_next {n : Nat} (hn : n ≤ 5) {k : Nat} {p : List Nat} (h : (seqP n)[k]? = some p) : nextF p = (seqP n)[k + 1]? := by
  have hk : k < (seqP n).length := (List.getElem?_eq_some_iff.1 h).1
  have := List.all_eq_true.1 (chain_facts hn).1 k (List.mem_range.2 hk)
  rw [h] at this
  simpa using this
theorem seq_first {n : Nat} : (seqP n)[0]? = some (List.range n) := by
  rw [← List.head?_eq_getElem?]; exact seq_head
theorem seq_permB {n : Nat} (hn : n ≤ 5) {k : Nat} {p : List Nat} (h : (seqP n)[k]? = some p) : isPermB n p = true := (seq_mem hn).1 (List.mem_of_getElem? h)
/-- How many of the first k move g to h; the first of these. -/
def cntK (n : Nat) (g h : Gr) (k : Nat) : Nat := (((seqP n).take k).filter (hits n g h)).length
def fstK (n : Nat) (g h : Gr) (k : Nat) : Option (List Nat) := ((seqP n).take k).find? (hits n g h)
theorem cntK_zero {n : Nat} {g h : Gr} : cntK n g h 0 = 0 := by simp [cntK]
theorem fstK_zero {n : Nat} {g h : Gr} : fstK n g h 0 = none := by simp [fstK]
theorem cntK_step {n : Nat} {g h : Gr} {k : Nat} {p : List Nat} (hk : (seqP n)[k]? = some p) : cntK n g h (k + 1) = cntK n g h k + (if hits n g h p = true then 1 else 0) := by
  unfold cntK
  rw [List.take_add_one, hk, List.filter_append, List.length_append]
  by_cases hh : hits n g h p = true
  · simp [hh]
  · simp [hh]
theorem cntK_yes {n : Nat} {g h : Gr} {k : Nat} {p : List Nat} (hk : (seqP n)[k]? = some p) (hh : hits n g h p = true) : cntK n g h (k + 1) = cntK n g h k + 1 := by rw [cntK_step hk, if_pos hh]
theorem cntK_no {n : Nat} {g h : Gr} {k : Nat} {p : List Nat} (hk : (seqP n)[k]? = some p) (hh : hits n g h p = false) : cntK n g h (k + 1) = cntK n g h k := by rw [cntK_step hk, if_neg (by simp [hh]), Nat.add_zero]
theorem fstK_step {n : Nat} {g h : Gr} {k : Nat} {p : List Nat} (hk : (seqP n)[k]? = some p) : fstK n g h (k + 1) = (fstK n g h k).or (if hits n g h p = true then some p else none) := by
  unfold fstK
  rw [List.take_add_one, hk, List.find?_append]
  by_cases hh : hits n g h p = true
  · simp [hh]
  · simp [hh]
theorem fstK_no {n : Nat} {g h : Gr} {k : Nat} {p : List Nat} (hk : (seqP n)[k]? = some p) (hh : hits n g h p = false) : fstK n g h (k + 1) = fstK n g h k := by rw [fstK_step hk, if_neg (by simp [hh])]; simp
theorem fst_cnt {n : Nat} {g h : Gr} {k : Nat} : fstK n g h k = none ↔ cntK n g h k = 0 := by
  unfold fstK cntK
  rw [List.find?_eq_none, List.length_eq_zero_iff, List.filter_eq_nil_iff]
theorem fstK_yes {n : Nat} {g h : Gr} {k : Nat} {p : List Nat} (hk : (seqP n)[k]? = some p) (hh : hits n g h p = true) (h0 : cntK n g h k = 0) : fstK n g h (k + 1) = some p := by
  rw [fstK_step hk, fst_cnt.2 h0, if_pos hh]; rfl
theorem fstK_keep {n : Nat} {g h : Gr} {k : Nat} {p : List Nat} (hk : (seqP n)[k]? = some p) (h0 : cntK n g h k ≠ 0) : fstK n g h (k + 1) = fstK n g h k := by
  rw [fstK_step hk]
  cases e : fstK n g h k with
  | none => exact absurd (fst_cnt.1 e) h0
  | some q => rfl
theorem cntK_le {n : Nat} (hn : n ≤ 5) (g h : Gr) (k : Nat) : cntK n g h k ≤ 120 := by
  unfold cntK
  have h1 := List.length_filter_le (hits n g h) ((seqP n).take k)
  have h2 : ((seqP n).take k).length ≤ (seqP n).length := by simp; omega
  have := (chain_facts hn).2
  omega
theorem all_end {n k : Nat} {p : List Nat} (hn : n ≤ 5) (hk : (seqP n)[k]? = some p) (h : nextF p = none) (g h' : Gr) : cntK n g h' (k + 1) = manyP n g h' ∧ fstK n g h' (k + 1) = firstP n g h' := by
  have e := seq_next hn hk
  rw [h] at e
  have hl : (seqP n).length ≤ k + 1 := by
    rcases Nat.lt_or_ge (k + 1) (seqP n).length with h1 | h1
    · rw [List.getElem?_eq_getElem h1] at e; cases e
    · exact h1
  unfold cntK fstK manyP firstP
  rw [List.take_of_length_le hl]
  exact ⟨rfl, rfl⟩
theorem seq_more {n k : Nat} {p q : List Nat} (hn : n ≤ 5) (hk : (seqP n)[k]? = some p) (h : nextF p = some q) : (seqP n)[k + 1]? = some q := by rw [← seq_next hn hk, h]
theorem rep_len_at {n : Nat} {g : Gr} {i k : Nat} (hi : i < n) (hk : k < (orbA (adj g.es) g.cs n i).length) : ((repA (adj g.es) g.cs n i)[k]?.getD []).length = n := by
  have hk2 : k < (levA (adj g.es) g.cs n i).length := by simpa [orbA] using hk
  obtain ⟨v, q, hvq⟩ : ∃ v q, (levA (adj g.es) g.cs n i)[k] = (v, q) := ⟨_, _, rfl⟩
  have e1 : (repA (adj g.es) g.cs n i)[k]?.getD [] = q := by unfold repA; rw [List.getElem?_map, List.getElem?_eq_getElem hk2, hvq]; rfl
  obtain ⟨hv, he⟩ := lev_mem (hvq ▸ List.getElem_mem hk2)
  rw [e1]
  exact (ext_aut hi hv he).1.len
end Go.Proofs.YtjjjohmppehejaaGreat.PlainX
