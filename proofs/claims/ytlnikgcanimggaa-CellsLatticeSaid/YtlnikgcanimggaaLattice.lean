/- CellsLattice: Meet and Join are bounds (plain); the walk; the row. -/
import Derived.Test.YtlnikgcanimggaaRows
import Derived.Test.YtlnikgcanimggaaOpenInts
import Derived.Test.YtlnikgcanimggaaJoin
import Derived.Test.YtlnikgcanimggaaPlainEven2
import Derived.Test.YtlnikgcanimggaaKitB
import Derived.Test.YtlnikgcanimggaaPlainPartN
import Derived.Test.YtlnikgcanimggaaAwake
import Derived.Test.YtlnikgcanimggaaTarget
import Derived.Carry
import Derived.RowKit
import Derived.RowKit2
import Derived.RowKit3
import Derived.ProofKit
import Derived.JoinedFifth
import Derived.OpenShut
set_option linter.unusedSimpArgs false
set_option linter.unusedVariables false
namespace Go.Proofs.Ytlnikgcanimggaa
open Plain

def Fn (n : Nat) (xs ys : List (List Int)) : Prop := ∀ v w, v < n → w < n → lab n xs v = lab n xs w → lab n ys v = lab n ys w

/-- The points of one cell, as naturals with their places. -/
theorem Plain.Good.cell_at {n : Nat} {l : List (List Int)} (h : Good n l) {v : Nat} (hv : v < n) : ∃ k i : Nat, k < l.length ∧ i < (l[k]?.getD []).length ∧ (l[k]?.getD [])[i]?.getD 0 = (v : Int) ∧ lab n l v = k := by
  obtain ⟨k, c, hk, h2, h3, h4⟩ := h.cell_lab hv
  obtain ⟨i, hi, e⟩ := List.mem_iff_getElem.1 h3
  refine ⟨k, i, hk, ?_, ?_, h4⟩
  · rw [h2]; exact hi
  · rw [h2, Option.getD_some, List.getElem?_eq_getElem hi, e]; rfl

theorem oneLabel_iff {n : Nat} {xs ys : List (List Int)} (h : Plain.Good n xs) : OneLabel (labelsL n ys) xs ↔ Fn n xs ys := by
  constructor
  · intro ho v w hv hw he
    obtain ⟨k, i, hk, hi, e1, l1⟩ := h.cell_at hv
    obtain ⟨k', j, hk', hj, e2, l2⟩ := h.cell_at hw
    have : k' = k := by rw [l1, l2] at he; exact_mod_cast he.symm
    subst this
    have h1 := ho k' hk i hi
    have h2 := ho k' hk j hj
    rw [e1, Int.toNat_natCast] at h1
    rw [e2, Int.toNat_natCast] at h2
    rw [lab, lab, h1, h2]
  · exact oneLabel_of h

theorem lab_part {n : Nat} {R : Nat → List Int} {P : List (List Nat)} (h : IsPart R (· < n) P) {v w : Nat} (hv : v < n) (hw : w < n) (he : R v = R w) : lab n (P.map (·.map Int.ofNat)) v = lab n (P.map (·.map Int.ofNat)) w := by
  have hg := part_good h
  obtain ⟨k, c, hk, h2, h3, h4⟩ := hg.cell_lab hv
  obtain ⟨k', c', hk', h2', h3', h4'⟩ := hg.cell_lab hw
  rw [h4, h4']
  rw [List.length_map] at hk hk'
  rw [List.getElem?_map, List.getElem?_eq_getElem hk, Option.map_some, Option.some.injEq] at h2
  rw [List.getElem?_map, List.getElem?_eq_getElem hk', Option.map_some, Option.some.injEq] at h2'
  subst h2; subst h2'
  obtain ⟨a, ha, e1⟩ := List.mem_map.1 h3
  obtain ⟨b, hb, e2⟩ := List.mem_map.1 h3'
  have e1 : a = v := Int.ofNat.inj e1
  have e2 : b = w := Int.ofNat.inj e2
  subst e1; subst e2
  have ho := List.pairwise_iff_getElem.1 h.ord
  rcases Nat.lt_trichotomy k k' with h | h | h
  · have := ho k k' hk hk' h _ ha _ hb
    rw [he, cmpL_self] at this; omega
  · rw [h]
  · have := ho k' k hk' hk h _ hb _ ha
    rw [he, cmpL_self] at this; omega

/-! Join -/
theorem uniteR_keep {r : Nat → Nat} {x y : Nat} (p q : Nat) (h : r x = r y) : uniteR r p q x = uniteR r p q y := by
  unfold uniteR; rw [h]
theorem uniteR_one (r : Nat → Nat) (p q : Nat) : uniteR r p q p = uniteR r p q q := by
  unfold uniteR
  generalize r p = a
  generalize r q = b
  split <;> split <;> omega
theorem uniC_keep {c : List Int} {x y : Nat} : ∀ {j : Nat} {r : Nat → Nat}, r x = r y → uniC r c j x = uniC r c j y
  | 0, _, h => h
  | j + 1, r, h => uniteR_keep _ _ (uniC_keep (j := j) h)
theorem uniC_one {c : List Int} {r : Nat → Nat} : ∀ {j i : Nat}, i < j → uniC r c j (c[i]?.getD 0).toNat = uniC r c j (c[0]?.getD 0).toNat
  | j + 1, i, h => by
    by_cases e : i = j
    · subst e; exact (uniteR_one _ _ _).symm
    · exact uniteR_keep _ _ (uniC_one (j := j) (by omega))
theorem uniL_keep {l : List (List Int)} {x y : Nat} {k : Nat} (h : uniL l k x = uniL l k y) : ∀ {m : Nat}, k ≤ m → uniL l m x = uniL l m y
  | 0, hm => by obtain rfl : k = 0 := by omega
                exact h
  | m + 1, hm => by
    by_cases e : k = m + 1
    · subst e; exact h
    · exact uniC_keep (uniL_keep h (m := m) (by omega))
/-- The points of a cell get one root. -/
theorem uniL_cell {l : List (List Int)} {m k i j : Nat} (hk : k < m) (hi : i < (l[k]?.getD []).length) (hj : j < (l[k]?.getD []).length) :
    uniL l m ((l[k]?.getD [])[i]?.getD 0).toNat = uniL l m ((l[k]?.getD [])[j]?.getD 0).toNat := by
  refine uniL_keep (k := k + 1) ?_ (by omega)
  rw [uniL, uniC_one hi, uniC_one hj]
theorem uniteR_in {n : Nat} {f : Nat → Int} {r : Nat → Nat} (h : ∀ x, x < n → r x < n ∧ f (r x) = f x) {p q : Nat} (hp : p < n) (hq : q < n) (he : f p = f q) : ∀ x, x < n → uniteR r p q x < n ∧ f (uniteR r p q x) = f x := by
  intro x hx
  have h1 := h p hp
  have h2 := h q hq
  have h3 := h x hx
  unfold uniteR
  split
  · rename_i e
    rcases Nat.le_total (r p) (r q) with hle | hle
    · rw [Nat.max_eq_right hle] at e
      rw [Nat.min_eq_left hle]
      exact ⟨h1.1, by rw [h1.2, he, ← h2.2, ← e, h3.2]⟩
    · rw [Nat.max_eq_left hle] at e
      rw [Nat.min_eq_right hle]
      exact ⟨h2.1, by rw [h2.2, ← he, ← h1.2, ← e, h3.2]⟩
  · exact h3
theorem uniC_in {n : Nat} {f : Nat → Int} {c : List Int} (hc : ∀ j, j < c.length → ∃ q : Nat, c[j]?.getD 0 = (q : Int) ∧ q < n) (hf : ∀ j, j < c.length → f (c[j]?.getD 0).toNat = f (c[0]?.getD 0).toNat) : ∀ {j : Nat} {r : Nat → Nat}, j ≤ c.length → (∀ x, x < n → r x < n ∧ f (r x) = f x) → ∀ x, x < n → uniC r c j x < n ∧ f (uniC r c j x) = f x
  | 0, r, _, h => h
  | j + 1, r, hj, h => by
    obtain ⟨q0, e0, h0⟩ := hc 0 (by omega)
    obtain ⟨q1, e1, h1⟩ := hc j (by omega)
    have := hf j (by omega)
    rw [e0, e1] at this
    rw [uniC, e0, e1]
    exact uniteR_in (uniC_in hc hf (j := j) (by omega) h) (by omega) (by omega) this.symm
theorem uniL_in {n : Nat} {f : Nat → Int} {l : List (List Int)} (hin : InRange n l) (hf : ∀ k, k < l.length → ∀ j, j < (l[k]?.getD []).length → f ((l[k]?.getD [])[j]?.getD 0).toNat = f ((l[k]?.getD [])[0]?.getD 0).toNat) : ∀ {k : Nat}, k ≤ l.length → ∀ x, x < n → uniL l k x < n ∧ f (uniL l k x) = f x
  | 0, _ => fun x hx => ⟨hx, rfl⟩
  | k + 1, hk => by
    rw [uniL]
    exact uniC_in (fun j hj => hin.at_ (by omega) hj) (hf k (by omega)) (Nat.le_refl _) (uniL_in hin hf (by omega))

theorem getD_left {xs ys : List (List Int)} {k : Nat} (h : k < xs.length) : (xs ++ ys)[k]?.getD [] = xs[k]?.getD [] := by
  rw [List.getElem?_append_left h]
theorem getD_right {xs ys : List (List Int)} {k : Nat} : (xs ++ ys)[xs.length + k]?.getD [] = ys[k]?.getD [] := by
  rw [List.getElem?_append_right (by omega), Nat.add_sub_cancel_left]

section
variable {n : Nat} {xs ys : List (List Int)} (hx : Plain.Good n xs) (hy : Plain.Good n ys)
include hx in
theorem join_left {v w : Nat} (hv : v < n) (hw : w < n) (he : lab n xs v = lab n xs w) : uniL (xs ++ ys) (xs ++ ys).length v = uniL (xs ++ ys) (xs ++ ys).length w := by
  obtain ⟨k, i, hk, hi, e1, l1⟩ := hx.cell_at hv
  obtain ⟨k', j, hk', hj, e2, l2⟩ := hx.cell_at hw
  have : k' = k := by rw [l1, l2] at he; exact_mod_cast he.symm
  subst this
  have := uniL_cell (l := xs ++ ys) (m := (xs ++ ys).length) (k := k') (i := i) (j := j) (by rw [List.length_append]; omega) (by rw [getD_left hk]; exact hi) (by rw [getD_left hk]; exact hj)
  rw [getD_left hk, e1, e2] at this
  simpa using this
include hy in
theorem join_right {v w : Nat} (hv : v < n) (hw : w < n) (he : lab n ys v = lab n ys w) : uniL (xs ++ ys) (xs ++ ys).length v = uniL (xs ++ ys) (xs ++ ys).length w := by
  obtain ⟨k, i, hk, hi, e1, l1⟩ := hy.cell_at hv
  obtain ⟨k', j, hk', hj, e2, l2⟩ := hy.cell_at hw
  have : k' = k := by rw [l1, l2] at he; exact_mod_cast he.symm
  subst this
  have := uniL_cell (l := xs ++ ys) (m := (xs ++ ys).length) (k := xs.length + k') (i := i) (j := j) (by rw [List.length_append]; omega) (by rw [getD_right]; exact hi) (by rw [getD_right]; exact hj)
  rw [getD_right, e1, e2] at this
  simpa using this
include hx hy in
theorem join_least {zs : List (List Int)} (h1 : Fn n xs zs) (h2 : Fn n ys zs) {v w : Nat} (hv : v < n) (hw : w < n) (he : uniL (xs ++ ys) (xs ++ ys).length v = uniL (xs ++ ys) (xs ++ ys).length w) : lab n zs v = lab n zs w := by
  have hin : InRange n (xs ++ ys) := by
    intro c hc p hp
    rcases List.mem_append.1 hc with h | h
    · exact hx.inr c h p hp
    · exact hy.inr c h p hp
  have o1 := (oneLabel_iff hx).2 h1
  have o2 := (oneLabel_iff hy).2 h2
  have key := uniL_in (n := n) (f := lab n zs) (l := xs ++ ys) hin (fun k hk j hj => by
    by_cases h : k < xs.length
    · rw [getD_left h] at hj ⊢
      exact o1 k h j hj
    · obtain ⟨k', rfl⟩ : ∃ k', k = xs.length + k' := ⟨k - xs.length, by omega⟩
      rw [List.length_append] at hk
      rw [getD_right] at hj ⊢
      exact o2 k' (by omega) j hj) (Nat.le_refl _)
  rw [← (key v hv).2, ← (key w hw).2, he]
end

theorem fn_meet {n : Nat} {xs ys : List (List Int)} {P : List (List Nat)} (h : IsPart (fun x => [(labelsL n xs)[x]?.getD 0, (labelsL n ys)[x]?.getD 0]) (· < n) P) :
    Fn n (P.map (·.map Int.ofNat)) xs ∧ Fn n (P.map (·.map Int.ofNat)) ys ∧ ∀ zs, Fn n zs xs → Fn n zs ys → Fn n zs (P.map (·.map Int.ofNat)) := by
  refine ⟨fun v w hv hw he => ?_, fun v w hv hw he => ?_, fun zs h1 h2 v w hv hw he => ?_⟩
  · have := part_lab h hv hw he
    simp only [List.cons.injEq] at this
    exact this.1
  · have := part_lab h hv hw he
    simp only [List.cons.injEq] at this
    exact this.2.1
  · refine lab_part h hv hw ?_
    have e1 := h1 v w hv hw he
    have e2 := h2 v w hv hw he
    simp only [lab] at e1 e2
    rw [e1, e2]
theorem fn_join {n : Nat} {xs ys : List (List Int)} (hx : Plain.Good n xs) (hy : Plain.Good n ys) {P : List (List Nat)} (h : IsPart (fun x => [(uniL (xs ++ ys) (xs ++ ys).length x : Int)]) (· < n) P) :
    Fn n xs (P.map (·.map Int.ofNat)) ∧ Fn n ys (P.map (·.map Int.ofNat)) ∧ ∀ zs, Fn n xs zs → Fn n ys zs → Fn n (P.map (·.map Int.ofNat)) zs := by
  refine ⟨fun v w hv hw he => lab_part h hv hw ?_, fun v w hv hw he => lab_part h hv hw ?_, fun zs h1 h2 v w hv hw he => ?_⟩
  · simp only [join_left hx hv hw he]
  · simp only [join_right hy hv hw he]
  · have := part_lab h hv hw he
    simp only [List.cons.injEq, and_true] at this
    exact join_least hx hy h1 h2 hv hw (by exact_mod_cast this)

/-- A partition by its own labels is the partition. -/
theorem of_labels {n : Nat} {xs : List (List Int)} (h : GoodA n xs) {P : List (List Nat)} (hp : IsPart (fun x => [(labelsL n xs)[x]?.getD 0]) (· < n) P) : P.map (·.map Int.ofNat) = xs := by
  have hl : xs = (xs.map (·.map Int.toNat)).map (·.map Int.ofNat) := by
    rw [List.map_map]
    conv => lhs; rw [← List.map_id xs]
    apply List.map_congr_left
    intro c hc
    simp only [id, Function.comp, List.map_map]
    conv => lhs; rw [← List.map_id c]
    apply List.map_congr_left
    intro p hp
    have := h.good.inr c hc p hp
    simp only [id, Function.comp]
    exact (Int.toNat_of_nonneg this.1).symm
  have hQ : IsPart (fun x => [(labelsL n xs)[x]?.getD 0]) (· < n) (xs.map (·.map Int.toNat)) := by
    have hmem : ∀ {c : List Int}, c ∈ xs → ∀ {x : Nat}, x ∈ c.map Int.toNat → x < n ∧ (x : Int) ∈ c := fun {c} hc {x} hx => by
      obtain ⟨p, hp, rfl⟩ := List.mem_map.1 hx
      have := h.good.inr c hc p hp
      rw [Int.toNat_of_nonneg this.1]
      exact ⟨by omega, hp⟩
    refine ⟨?_, ?_, ?_, ?_⟩
    · intro c hc
      obtain ⟨d, hd, rfl⟩ := List.mem_map.1 hc
      refine ⟨?_, by simpa using h.good.ne d hd⟩
      rw [List.pairwise_map]
      refine List.Pairwise.imp_of_mem ?_ (h.asc d hd)
      intro a b ha hb hab
      have := h.good.inr d hd a ha
      have := h.good.inr d hd b hb
      omega
    · intro i
      constructor
      · rintro ⟨c, hc, hi⟩
        obtain ⟨d, hd, rfl⟩ := List.mem_map.1 hc
        exact (hmem hd hi).1
      · intro hi
        obtain ⟨k, c, _, h2, h3, _⟩ := h.good.cell_lab hi
        exact ⟨_, List.mem_map.2 ⟨c, List.mem_of_getElem? h2, rfl⟩, List.mem_map.2 ⟨_, h3, by simp⟩⟩
    · intro c hc i hi j hj
      obtain ⟨d, hd, rfl⟩ := List.mem_map.1 hc
      obtain ⟨k, hk⟩ := List.getElem?_of_mem hd
      have h1 := h.good.lab_at hk (hmem hd hi).2
      have h2 := h.good.lab_at hk (hmem hd hj).2
      simp only [lab] at h1 h2
      rw [h1, h2]
    · rw [List.pairwise_map, List.pairwise_iff_getElem]
      intro a b ha hb hab i hi j hj
      have e1 := h.good.lab_at (List.getElem?_eq_getElem ha) (hmem (List.getElem_mem ha) hi).2
      have e2 := h.good.lab_at (List.getElem?_eq_getElem hb) (hmem (List.getElem_mem hb) hj).2
      simp only [lab] at e1 e2
      rw [e1, e2, cmpL_lt (by omega)]; omega
  rw [hp.unique hQ]
  exact hl.symm
end Go.Proofs.Ytlnikgcanimggaa
namespace Go.Proofs.Ytlnikgcanimggaa
open Go.RowKit Plain

open Classical in
theorem fin_calls (n : Nat) (hn : n ≤ 64) (a b : Option Addr) (c d : Nat) (xs ys : List (List Int)) (w : World) (ha : Rows w a xs) (hb : Rows w b ys) (hx : GoodA n xs) (hy : GoodA n ys) :
    Calls Try.prog 42 #[.int .i64 n, .slice a xs.length c, .slice b ys.length d] w fun e w' => e = .returned (.bool (decide (Fn n xs ys))) ∧ Below w.heap.size w w' := by
  have hf := finer_calls (n : Int) a b c d xs ys w ha hb
  rw [hx.chk hn, hy.chk hn, show orL [(0 : Int), 0] = 0 by simp [orL], show ((n : Int)).toNat = n by omega, oneLabel_iff hx.good] at hf
  obtain ⟨F, hF⟩ : ∃ F : Prop, Fn n xs ys = F := ⟨_, rfl⟩
  rw [hF] at hf ⊢
  have Hf := Lib.hid hf
  obtain ⟨L, hL⟩ : ∃ L, L = xs.length := ⟨_, rfl⟩
  obtain ⟨M, hM⟩ : ∃ M, M = ys.length := ⟨_, rfl⟩
  rw [← hL, ← hM] at Hf ⊢
  clear hf hF hL hM ha hb hx hy
  go_enter Try.func42, Try.ntmps42
  go_wp2_with fail
  refine Hf.out.mono ?_
  rintro e w1 ⟨r, rfl, -, hr, hb1⟩
  have hrF : r = decide F := by
    have := hr trivial
    by_cases h : F
    · rw [decide_eq_true h]; exact this.2 h
    · rw [decide_eq_false h]; cases r; · rfl
      exact absurd (this.1 rfl) h
  have H1 := Lib.hid (And.intro hrF hb1)
  clear hr hb1 hrF
  cases r with
  | true =>
    go_wp2
    go_ret
    exact ⟨by rw [← H1.out.1]; rfl, H1.out.2⟩
  | false =>
    go_wp2
    go_ret
    exact ⟨by rw [← H1.out.1]; rfl, H1.out.2⟩

open Classical in
set_option maxRecDepth 100000 in
set_option maxHeartbeats 4000000 in
theorem cellsLattice_calls (n : Int) (ax ay az : Option Addr) (cx cy cz : Nat) (x y z : List Int) (w : World) (hx : Ints w ax x) (hy : Ints w ay y) (hz : Ints w az z) :
    Calls Try.prog 8 #[.int .i64 n, .slice ax x.length cx, .slice ay y.length cy, .slice az z.length cz] w fun e w' => e = .returned (.bool true) ∧ Below w.heap.size w w' := by
  have hbel := below_calls n 13 w (by omega)
  have hbr := bel_range (n := n) (k := 13) (by omega)
  obtain ⟨N, hN⟩ : ∃ N : Nat, bel n 13 = N := ⟨(bel n 13).toNat, by omega⟩
  rw [hN] at hbel hbr
  have hN12 : N ≤ 12 := by omega
  obtain ⟨A, hA⟩ : ∃ P, P = (partN N x).map (·.map Int.ofNat) := ⟨_, rfl⟩
  obtain ⟨B, hB⟩ : ∃ P, P = (partN N y).map (·.map Int.ofNat) := ⟨_, rfl⟩
  obtain ⟨C, hC⟩ : ∃ P, P = (partN N z).map (·.map Int.ofNat) := ⟨_, rfl⟩
  have gA : GoodA N A := by rw [hA]; exact partN_goodA N x
  have gB : GoodA N B := by rw [hB]; exact partN_goodA N y
  have gC : GoodA N C := by rw [hC]; exact partN_goodA N z
  have hpA := fun (w1 : World) (h : Below w.heap.size w w1) => partition_calls N ax cx x w1 (hx.below h) (by omega)
  have hpB := fun (w1 : World) (h : Below w.heap.size w w1) => partition_calls N ay cy y w1 (hy.below h) (by omega)
  have hpC := fun (w1 : World) (h : Below w.heap.size w w1) => partition_calls N az cz z w1 (hz.below h) (by omega)
  rw [← hA] at hpA
  rw [← hB] at hpB
  rw [← hC] at hpC
  have kA := gA.chk (by omega)
  have kB := gB.chk (by omega)
  have hme := fun w1 a b c d ha hb => meet_calls N a b c d A B w1 ha hb kA kB
  have hjo := fun w1 a b c d ha hb => join_calls N hN12 a b c d A B w1 ha hb kA kB
  have hla := fun w1 a c ha => labelsE_calls (N : Int) a c A w1 ha
  rw [kA, labA, if_neg (by omega), show ((N : Int)).toNat = N by omega] at hla
  have hll := labelsL_len N A
  have hof := fun w1 a c ha => of_calls N (by omega) a c (labelsL N A) w1 ha hll
  rw [hll] at hla
  have hfi := fun X Y (hX : GoodA N X) (hY : GoodA N Y) a b c d w1 ha hb => fin_calls N (by omega) a b c d X Y w1 ha hb hX hY
  have hsa := fun a b c d w1 ha hb => sameCells_calls a b c d A A w1 ha hb
  simp only [decide_eq_true rfl] at hsa
  have Hb := Lib.hid hbel
  have HpA := Lib.hid hpA
  have HpB := Lib.hid hpB
  have HpC := Lib.hid hpC
  have Hme := Lib.hid hme
  have Hjo := Lib.hid hjo
  have Hla := Lib.hid hla
  have Hof := Lib.hid hof
  have Hfi := Lib.hid hfi
  have Haw := Lib.hid awake_calls
  have HG := Lib.hid (And.intro gA (And.intro gB gC))
  obtain ⟨X, hX⟩ : ∃ L, L = x.length := ⟨_, rfl⟩
  obtain ⟨Y, hY⟩ : ∃ L, L = y.length := ⟨_, rfl⟩
  obtain ⟨Z, hZ⟩ : ∃ L, L = z.length := ⟨_, rfl⟩
  obtain ⟨LA, hLA⟩ : ∃ L, L = A.length := ⟨_, rfl⟩
  obtain ⟨LB, hLB⟩ : ∃ L, L = B.length := ⟨_, rfl⟩
  obtain ⟨LC, hLC⟩ : ∃ L, L = C.length := ⟨_, rfl⟩
  simp only [← hX, ← hY, ← hZ, ← hLA, ← hLB, ← hLC] at HpA HpB HpC Hme Hjo Hla hsa ⊢
  have Hsa := Lib.hid hsa
  have HL := Lib.hid (And.intro hLA (And.intro hLB hLC))
  obtain ⟨D, hD⟩ : ∃ D, D = w.heap.size := ⟨_, rfl⟩
  rw [← hD] at HpA HpB HpC ⊢
  have HZ := Lib.hid (fun (w' : World) (h : Below D w w') => (by have := h.size; omega : D ≤ w'.heap.size))
  have HD := Lib.hid hD
  clear hbel hbr hN hA hB hC gA gB gC hpA hpB hpC kA kB hme hjo hla hof hfi hsa hX hY hZ hx hy hz hll hLA hLB hLC hD
  go_enter Try.func8, Try.ntmps8
  go_wp2_with fail
  refine Hb.out.mono ?_
  rintro e w1 ⟨rfl, hw⟩
  replace hw := hw.symm
  subst hw
  go_wp2_with fail
  refine (HpA.out w (Below.refl _ _)).mono ?_
  rintro e w2 ⟨a1, c1, rfl, hr, hb⟩
  have H2 := Lib.hid (And.intro hr (by rw [HD.out]; exact hb : Below D w w2))
  clear hr hb
  go_wp2_with fail
  refine (HpB.out w2 H2.out.2).mono ?_
  rintro e w3 ⟨a2, c2, rfl, hr, hb⟩
  have H3 := Lib.hid (And.intro (H2.out.1.below hb) (And.intro hr (H2.out.2.trans (hb.mono (HZ.out _ H2.out.2)))))
  clear hr hb H2
  go_wp2_with fail
  refine (HpC.out w3 H3.out.2.2).mono ?_
  rintro e w4 ⟨a3, c3, rfl, hr, hb⟩
  have H4 := Lib.hid (And.intro (H3.out.1.below hb) (And.intro (H3.out.2.1.below hb) (And.intro hr (H3.out.2.2.trans (hb.mono (HZ.out _ H3.out.2.2))))))
  clear hr hb H3
  go_wp2_with fail
  refine (Hme.out w4 a1 a2 c1 c2 H4.out.1 H4.out.2.1).mono ?_
  rintro e w5 ⟨a4, c4, P, rfl, hr, hp, hb⟩
  have hm := fn_meet hp
  have gM := part_goodA hp
  obtain ⟨M, hM⟩ : ∃ M, P.map (·.map Int.ofNat) = M := ⟨_, rfl⟩
  rw [hM] at hr hm gM ⊢
  have HM := Lib.hid (And.intro hm gM)
  have H5 := Lib.hid (And.intro (H4.out.1.below hb) (And.intro (H4.out.2.1.below hb) (And.intro (H4.out.2.2.1.below hb) (And.intro hr (H4.out.2.2.2.trans (hb.mono (HZ.out _ H4.out.2.2.2)))))))
  clear hr hp hb hM H4 hm gM
  obtain ⟨LM, hLM⟩ : ∃ L, L = M.length := ⟨_, rfl⟩
  rw [← hLM]
  have HLM := Lib.hid hLM
  clear hLM
  go_wp2_with fail
  refine (Hjo.out w5 a1 a2 c1 c2 H5.out.1 H5.out.2.1).mono ?_
  rintro e w6 ⟨a5, c5, P2, rfl, hr, hp, hb⟩
  have hm := fn_join HG.out.1.good HG.out.2.1.good hp
  have gM := part_goodA hp
  obtain ⟨J, hJ⟩ : ∃ M, P2.map (·.map Int.ofNat) = M := ⟨_, rfl⟩
  rw [hJ] at hr hm gM ⊢
  have HJ := Lib.hid (And.intro hm gM)
  have H6 := Lib.hid (And.intro (H5.out.1.below hb) (And.intro (H5.out.2.1.below hb) (And.intro (H5.out.2.2.1.below hb) (And.intro (H5.out.2.2.2.1.below hb) (And.intro hr (H5.out.2.2.2.2.trans (hb.mono (HZ.out _ H5.out.2.2.2.2))))))))
  clear hr hp hb hJ H5 hm gM
  obtain ⟨LJ, hLJ⟩ : ∃ L, L = J.length := ⟨_, rfl⟩
  rw [← hLJ]
  have HLJ := Lib.hid hLJ
  clear hLJ
  go_wp2_with fail
  refine (Hla.out w6 a1 c1 H6.out.1).mono ?_
  rintro e w7 ⟨a6, c6, rfl, hr, hb⟩
  have H7 := Lib.hid (And.intro (H6.out.1.below hb) (And.intro (H6.out.2.1.below hb) (And.intro (H6.out.2.2.1.below hb) (And.intro (H6.out.2.2.2.1.below hb) (And.intro (H6.out.2.2.2.2.1.below hb) (And.intro hr (H6.out.2.2.2.2.2.trans (hb.mono (HZ.out _ H6.out.2.2.2.2.2)))))))))
  clear hr hb H6
  go_wp2_with fail
  refine (Hof.out w7 a6 c6 H7.out.2.2.2.2.2.1).mono ?_
  rintro e w8 ⟨a7, c7, P3, rfl, hr, hp, hb⟩
  rw [of_labels HG.out.1 hp] at hr ⊢
  rw [← HL.out.1]
  have H8 := Lib.hid (And.intro (H7.out.1.below hb) (And.intro (H7.out.2.1.below hb) (And.intro (H7.out.2.2.1.below hb) (And.intro (H7.out.2.2.2.1.below hb) (And.intro (H7.out.2.2.2.2.1.below hb) (And.intro hr (H7.out.2.2.2.2.2.2.trans (hb.mono (HZ.out _ H7.out.2.2.2.2.2.2)))))))))
  clear hr hp hb H7
  go_wp2_with fail
  refine (Hsa.out a7 a1 c7 c1 w8 H8.out.2.2.2.2.2.1 H8.out.1).mono ?_
  rintro e w9 ⟨rfl, q, rfl⟩
  obtain ⟨v, hv⟩ : ∃ v, v = w8.drewN q := ⟨_, rfl⟩
  rw [← hv]
  have H9 : Rows v a1 A ∧ Rows v a2 B ∧ Rows v a3 C ∧ Rows v a4 M ∧ Rows v a5 J ∧ Below D w v := by
    rw [hv]
    exact ⟨H8.out.1.drewN q, H8.out.2.1.drewN q, H8.out.2.2.1.drewN q, H8.out.2.2.2.1.drewN q, H8.out.2.2.2.2.1.drewN q, below_drewN H8.out.2.2.2.2.2.2 q⟩
  clear hv H8 Hsa Hla Hof Hme Hjo HpA HpB HpC Hb
  obtain ⟨E, hE⟩ : ∃ E, E = v.heap.size := ⟨_, rfl⟩
  have fin : ∀ X Y (hX : GoodA N X) (hY : GoodA N Y) a b c d, Rows v a X → Rows v b Y → ∀ w1, Below E v w1 → Calls Try.prog 42 #[.int .i64 N, .slice a X.length c, .slice b Y.length d] w1 fun e w' => e = .returned (.bool (decide (Fn N X Y))) ∧ Below E v w' := by
    intro X Y hX hY a b c d ha hb w1 h
    rw [hE] at h ⊢
    exact (Hfi.out X Y hX hY a b c d w1 (ha.below h) (hb.below h)).mono fun e w' ⟨h1, h2⟩ => ⟨h1, h.trans (h2.mono h.size)⟩
  have fMA := fin M A HM.out.2 HG.out.1 a4 a1 c4 c1 H9.2.2.2.1 H9.1
  have fMB := fin M B HM.out.2 HG.out.2.1 a4 a2 c4 c2 H9.2.2.2.1 H9.2.1
  have fAJ := fin A J HG.out.1 HJ.out.2 a1 a5 c1 c5 H9.1 H9.2.2.2.2.1
  have fBJ := fin B J HG.out.2.1 HJ.out.2 a2 a5 c2 c5 H9.2.1 H9.2.2.2.2.1
  have fCA := fin C A HG.out.2.2 HG.out.1 a3 a1 c3 c1 H9.2.2.1 H9.1
  have fCB := fin C B HG.out.2.2 HG.out.2.1 a3 a2 c3 c2 H9.2.2.1 H9.2.1
  have fCM := fin C M HG.out.2.2 HM.out.2 a3 a4 c3 c4 H9.2.2.1 H9.2.2.2.1
  have fAC := fin A C HG.out.1 HG.out.2.2 a1 a3 c1 c3 H9.1 H9.2.2.1
  have fBC := fin B C HG.out.2.1 HG.out.2.2 a2 a3 c2 c3 H9.2.1 H9.2.2.1
  have fJC := fin J C HJ.out.2 HG.out.2.2 a5 a3 c5 c3 H9.2.2.2.2.1 H9.2.2.1
  rw [decide_eq_true HM.out.1.1] at fMA
  rw [decide_eq_true HM.out.1.2.1] at fMB
  rw [decide_eq_true HJ.out.1.1] at fAJ
  rw [decide_eq_true HJ.out.1.2.1] at fBJ
  simp only [← HL.out.1, ← HL.out.2.1, ← HL.out.2.2, ← HLM.out, ← HLJ.out] at fMA fMB fAJ fBJ fCA fCB fCM fAC fBC fJC
  have hlow : Fn N C A → Fn N C B → Fn N C M := HM.out.1.2.2 C
  have hup : Fn N A C → Fn N B C → Fn N J C := HJ.out.1.2.2 C
  have H0 := Lib.hid (And.intro H9.2.2.2.2.2 hE)
  obtain ⟨p1, hp1⟩ : ∃ p, decide (Fn N C A) = p := ⟨_, rfl⟩
  obtain ⟨p2, hp2⟩ : ∃ p, decide (Fn N C B) = p := ⟨_, rfl⟩
  obtain ⟨p3, hp3⟩ : ∃ p, decide (Fn N C M) = p := ⟨_, rfl⟩
  obtain ⟨q1, hq1⟩ : ∃ p, decide (Fn N A C) = p := ⟨_, rfl⟩
  obtain ⟨q2, hq2⟩ : ∃ p, decide (Fn N B C) = p := ⟨_, rfl⟩
  obtain ⟨q3, hq3⟩ : ∃ p, decide (Fn N J C) = p := ⟨_, rfl⟩
  have hpp : p1 = true → p2 = true → p3 = true := by
    rw [← hp1, ← hp2, ← hp3, decide_eq_true_eq, decide_eq_true_eq, decide_eq_true_eq]; exact hlow
  have hqq : q1 = true → q2 = true → q3 = true := by
    rw [← hq1, ← hq2, ← hq3, decide_eq_true_eq, decide_eq_true_eq, decide_eq_true_eq]; exact hup
  rw [hp1] at fCA
  rw [hp2] at fCB
  rw [hp3] at fCM
  rw [hq1] at fAC
  rw [hq2] at fBC
  rw [hq3] at fJC
  have FMA := Lib.hid fMA
  have FMB := Lib.hid fMB
  have FAJ := Lib.hid fAJ
  have FBJ := Lib.hid fBJ
  have FCA := Lib.hid fCA
  have FCB := Lib.hid fCB
  have FCM := Lib.hid fCM
  have FAC := Lib.hid fAC
  have FBC := Lib.hid fBC
  have FJC := Lib.hid fJC
  clear fMA fMB fAJ fBJ fCA fCB fCM fAC fBC fJC hp1 hp2 hp3 hq1 hq2 hq3 hlow hup fin H9 hE HM HJ HLM HLJ HL HG Hfi
  go_wp2_with fail
  refine (FMA.out v (Below.refl _ _)).mono ?_
  rintro e v1 ⟨rfl, hb⟩
  have V1 := Lib.hid hb
  clear hb
  go_wp2_with fail
  refine (FMB.out v1 V1.out).mono ?_
  rintro e v2 ⟨rfl, hb⟩
  have V2 := Lib.hid hb
  clear hb V1
  go_wp2_with fail
  refine (FAJ.out v2 V2.out).mono ?_
  rintro e v3 ⟨rfl, hb⟩
  have V3 := Lib.hid hb
  clear hb V2
  go_wp2_with fail
  refine (FBJ.out v3 V3.out).mono ?_
  rintro e v4 ⟨rfl, hb⟩
  have V4 := Lib.hid hb
  clear hb V3
  cases p1 with
  | false =>
    go_wp2_with fail
    refine (FCA.out v4 V4.out).mono ?_
    rintro e v5 ⟨rfl, hb⟩
    have V5 := Lib.hid hb
    clear hb
    cases q1 with
    | false =>
      go_wp2_with fail
      refine (FAC.out v5 V5.out).mono ?_
      rintro e v8 ⟨rfl, hb⟩
      have V8 := Lib.hid hb
      clear hb
      go_wp2_with fail
      refine (Haw.out v8).mono ?_
      rintro e w9 ⟨rfl, hb⟩
      have W9 := Lib.hid (H0.out.1.trans ((V8.out.mono (by have := HZ.out _ H0.out.1; have := H0.out.2; omega)).trans (hb.mono (by have := HZ.out _ H0.out.1; have := V8.out.size; have := H0.out.2; omega))))
      clear hb
      go_wp2
      go_ret
      exact ⟨rfl, W9.out⟩
    | true =>
      go_wp2_with fail
      refine (FAC.out v5 V5.out).mono ?_
      rintro e v8 ⟨rfl, hb⟩
      have V8 := Lib.hid hb
      clear hb
      cases q2 with
      | false =>
        go_wp2_with fail
        refine (FBC.out v8 V8.out).mono ?_
        rintro e v9 ⟨rfl, hb⟩
        have V9 := Lib.hid hb
        clear hb
        go_wp2_with fail
        refine (Haw.out v9).mono ?_
        rintro e w9 ⟨rfl, hb⟩
        have W9 := Lib.hid (H0.out.1.trans ((V9.out.mono (by have := HZ.out _ H0.out.1; have := H0.out.2; omega)).trans (hb.mono (by have := HZ.out _ H0.out.1; have := V9.out.size; have := H0.out.2; omega))))
        clear hb
        go_wp2
        go_ret
        exact ⟨rfl, W9.out⟩
      | true =>
        have e3 := hqq (by first | rfl | trivial) (by first | rfl | trivial)
        subst e3
        go_wp2_with fail
        refine (FBC.out v8 V8.out).mono ?_
        rintro e v9 ⟨rfl, hb⟩
        have V9 := Lib.hid hb
        clear hb
        go_wp2_with fail
        refine (FJC.out v9 V9.out).mono ?_
        rintro e v10 ⟨rfl, hb⟩
        have V10 := Lib.hid hb
        clear hb
        go_wp2_with fail
        refine (Haw.out v10).mono ?_
        rintro e w9 ⟨rfl, hb⟩
        have W9 := Lib.hid (H0.out.1.trans ((V10.out.mono (by have := HZ.out _ H0.out.1; have := H0.out.2; omega)).trans (hb.mono (by have := HZ.out _ H0.out.1; have := V10.out.size; have := H0.out.2; omega))))
        clear hb
        go_wp2
        go_ret
        exact ⟨rfl, W9.out⟩
  | true =>
    go_wp2_with fail
    refine (FCA.out v4 V4.out).mono ?_
    rintro e v5 ⟨rfl, hb⟩
    have V5 := Lib.hid hb
    clear hb
    cases p2 with
    | false =>
      go_wp2_with fail
      refine (FCB.out v5 V5.out).mono ?_
      rintro e v6 ⟨rfl, hb⟩
      have V6 := Lib.hid hb
      clear hb
      cases q1 with
      | false =>
        go_wp2_with fail
        refine (FAC.out v6 V6.out).mono ?_
        rintro e v8 ⟨rfl, hb⟩
        have V8 := Lib.hid hb
        clear hb
        go_wp2_with fail
        refine (Haw.out v8).mono ?_
        rintro e w9 ⟨rfl, hb⟩
        have W9 := Lib.hid (H0.out.1.trans ((V8.out.mono (by have := HZ.out _ H0.out.1; have := H0.out.2; omega)).trans (hb.mono (by have := HZ.out _ H0.out.1; have := V8.out.size; have := H0.out.2; omega))))
        clear hb
        go_wp2
        go_ret
        exact ⟨rfl, W9.out⟩
      | true =>
        go_wp2_with fail
        refine (FAC.out v6 V6.out).mono ?_
        rintro e v8 ⟨rfl, hb⟩
        have V8 := Lib.hid hb
        clear hb
        cases q2 with
        | false =>
          go_wp2_with fail
          refine (FBC.out v8 V8.out).mono ?_
          rintro e v9 ⟨rfl, hb⟩
          have V9 := Lib.hid hb
          clear hb
          go_wp2_with fail
          refine (Haw.out v9).mono ?_
          rintro e w9 ⟨rfl, hb⟩
          have W9 := Lib.hid (H0.out.1.trans ((V9.out.mono (by have := HZ.out _ H0.out.1; have := H0.out.2; omega)).trans (hb.mono (by have := HZ.out _ H0.out.1; have := V9.out.size; have := H0.out.2; omega))))
          clear hb
          go_wp2
          go_ret
          exact ⟨rfl, W9.out⟩
        | true =>
          have e3 := hqq (by first | rfl | trivial) (by first | rfl | trivial)
          subst e3
          go_wp2_with fail
          refine (FBC.out v8 V8.out).mono ?_
          rintro e v9 ⟨rfl, hb⟩
          have V9 := Lib.hid hb
          clear hb
          go_wp2_with fail
          refine (FJC.out v9 V9.out).mono ?_
          rintro e v10 ⟨rfl, hb⟩
          have V10 := Lib.hid hb
          clear hb
          go_wp2_with fail
          refine (Haw.out v10).mono ?_
          rintro e w9 ⟨rfl, hb⟩
          have W9 := Lib.hid (H0.out.1.trans ((V10.out.mono (by have := HZ.out _ H0.out.1; have := H0.out.2; omega)).trans (hb.mono (by have := HZ.out _ H0.out.1; have := V10.out.size; have := H0.out.2; omega))))
          clear hb
          go_wp2
          go_ret
          exact ⟨rfl, W9.out⟩
    | true =>
      have e4 := hpp (by first | rfl | trivial) (by first | rfl | trivial)
      subst e4
      go_wp2_with fail
      refine (FCB.out v5 V5.out).mono ?_
      rintro e v6 ⟨rfl, hb⟩
      have V6 := Lib.hid hb
      clear hb
      go_wp2_with fail
      refine (FCM.out v6 V6.out).mono ?_
      rintro e v7 ⟨rfl, hb⟩
      have V7 := Lib.hid hb
      clear hb
      cases q1 with
      | false =>
        go_wp2_with fail
        refine (FAC.out v7 V7.out).mono ?_
        rintro e v8 ⟨rfl, hb⟩
        have V8 := Lib.hid hb
        clear hb
        go_wp2_with fail
        refine (Haw.out v8).mono ?_
        rintro e w9 ⟨rfl, hb⟩
        have W9 := Lib.hid (H0.out.1.trans ((V8.out.mono (by have := HZ.out _ H0.out.1; have := H0.out.2; omega)).trans (hb.mono (by have := HZ.out _ H0.out.1; have := V8.out.size; have := H0.out.2; omega))))
        clear hb
        go_wp2
        go_ret
        exact ⟨rfl, W9.out⟩
      | true =>
        go_wp2_with fail
        refine (FAC.out v7 V7.out).mono ?_
        rintro e v8 ⟨rfl, hb⟩
        have V8 := Lib.hid hb
        clear hb
        cases q2 with
        | false =>
          go_wp2_with fail
          refine (FBC.out v8 V8.out).mono ?_
          rintro e v9 ⟨rfl, hb⟩
          have V9 := Lib.hid hb
          clear hb
          go_wp2_with fail
          refine (Haw.out v9).mono ?_
          rintro e w9 ⟨rfl, hb⟩
          have W9 := Lib.hid (H0.out.1.trans ((V9.out.mono (by have := HZ.out _ H0.out.1; have := H0.out.2; omega)).trans (hb.mono (by have := HZ.out _ H0.out.1; have := V9.out.size; have := H0.out.2; omega))))
          clear hb
          go_wp2
          go_ret
          exact ⟨rfl, W9.out⟩
        | true =>
          have e3 := hqq (by first | rfl | trivial) (by first | rfl | trivial)
          subst e3
          go_wp2_with fail
          refine (FBC.out v8 V8.out).mono ?_
          rintro e v9 ⟨rfl, hb⟩
          have V9 := Lib.hid hb
          clear hb
          go_wp2_with fail
          refine (FJC.out v9 V9.out).mono ?_
          rintro e v10 ⟨rfl, hb⟩
          have V10 := Lib.hid hb
          clear hb
          go_wp2_with fail
          refine (Haw.out v10).mono ?_
          rintro e w9 ⟨rfl, hb⟩
          have W9 := Lib.hid (H0.out.1.trans ((V10.out.mono (by have := HZ.out _ H0.out.1; have := H0.out.2; omega)).trans (hb.mono (by have := HZ.out _ H0.out.1; have := V10.out.size; have := H0.out.2; omega))))
          clear hb
          go_wp2
          go_ret
          exact ⟨rfl, W9.out⟩
end Go.Proofs.Ytlnikgcanimggaa
namespace Go.Proofs.Ytlnikgcanimggaa
open Go.ChangeShapes Go.WideShapes Go.ChangeAt Go.RowKit
namespace LawCellsLattice
theorem own : ownKnob Try.prog.godebug = none := by kernel_rfl
theorem laidOut : laidOutB Try.prog = true := by kernel_rfl
theorem params : Try.f8.params = #[3, 29, 29, 29] := by kernel_rfl
theorem results : Try.f8.resultTypes = #[4] := by kernel_rfl

set_option maxRecDepth 100000 in
theorem lifted (os : Os) (started : os.Started) (H : Type) (enc : TypeId × Value → H) :
    ReturnsInHanded {} Try.checked os 8 .any (Rows.cellsLatticeSpec.pre6 enc Try.prog Try.f8 Rows.cellsLatticeRow.domain false) (Rows.cellsLatticeSpec.post enc Try.prog Try.f8 false true false false) := by
  refine returnsInHanded_of_change (C := Try.checked) own started (by kernel_rfl) Try.func8
    (ChangeSpec.witness6 (enc := enc) (C := Try.checked) false ⟨#[], #[.int .i64 0, .slice none 0 0, .slice none 0 0, .slice none 0 0], []⟩ 8 (by kernel_rfl) (by kernel_rfl) (by kernel_rfl) (by kernel_rfl)) ?_
  intro W base args ds gs before hval0 hW hcnd _
  have hval : ∀ (j : Nat) t v, Try.f8.params[j]? = some t → args[j]? = some v → Value.okWide Try.prog W .any base t v := hval0
  have hW' := hW
  obtain ⟨p, q, hA0, hV, rfl, hfz, hnd⟩ := hW
  have hA : DataW.TrodAll enc Try.prog W 0 (fun _ => true) true Try.f8.params.toList args.toList ds p := hA0
  have hV0 : DataW.TrodVars enc Try.prog W (fun _ => true) [] gs q := hV
  obtain ⟨rfl, rfl⟩ := trodVars_none hV0
  rw [params] at hA hval
  obtain ⟨v0, v1, v2, v3, d0, d1, d2, d3, p0, p1, p2, p3, rfl, rfl, rfl, h0, h1, h2, h3⟩ := trodAll_four hA
  have hlt : ∀ x ∈ (p0 ++ p1 ++ p2 ++ p3) ++ [], x.block < W.heap.size := fun x hx => hW'.lt x hx
  obtain ⟨n0, rfl, rfl, rfl, wn0⟩ := open_int Try.underlying3 (hval 0 3 v0 rfl rfl) h0
  obtain ⟨a1, c1, l1, rfl, hr1⟩ := open_ints1 Try.underlying29 (hval 1 29 v1 rfl rfl) h1
  obtain ⟨a2, c2, l2, rfl, hr2⟩ := open_ints1 Try.underlying29 (hval 2 29 v2 rfl rfl) h2
  obtain ⟨a3, c3, l3, rfl, hr3⟩ := open_ints1 Try.underlying29 (hval 3 29 v3 rfl rfl) h3
  refine (cellsLattice_calls n0 a1 a2 a3 c1 c2 c3 l1 l2 l3 W hr1 hr2 hr3).mono fun e W' ⟨he, hb⟩ => ?_
  subst he
  refine ⟨_, rfl, _, _, _, [], [] ++ (p1 ++ (p2 ++ (p3))), [], hW', ?_, ?_, ?_, ?_, fun h => by cases h⟩
  · rw [results]
    exact trodAll_mk1 (shut_bool Try.underlying4 _)
  · rw [params]
    exact trodAll_mk4 (shut_int Try.underlying3 wn0) (Below.trod laidOut (by kernel_rfl) (of_decide_eq_true (by kernel_rfl)) h1 hb (fun x hx => hlt x (by simp [hx]))) (Below.trod laidOut (by kernel_rfl) (of_decide_eq_true (by kernel_rfl)) h2 hb (fun x hx => hlt x (by simp [hx]))) (Below.trod laidOut (by kernel_rfl) (of_decide_eq_true (by kernel_rfl)) h3 hb (fun x hx => hlt x (by simp [hx])))
  · exact rfl
  · exact hb.frame _
end LawCellsLattice

theorem lattice_true : Rows.CellsLatticeSaid :=
  OpenClaim.holds_of_wide 8 Try.f8 rfl rfl rfl rfl rfl rfl rfl ⟨rfl, rfl, rfl, rfl, rfl⟩ rfl rfl rfl rfl rfl (by kernel_rfl) Try.func8 (by kernel_rfl)
    (of_decide_eq_true (by kernel_rfl)) (by unfold Func.isWrapper; first | (rw [if_pos (by decide +kernel)]; kernel_rfl) | (rw [if_neg (by decide +kernel)]; exact ⟨rfl, rfl⟩))
    (fun os started H enc _ => LawCellsLattice.lifted os started H enc)
#print axioms lattice_true
end Go.Proofs.Ytlnikgcanimggaa
