/- A chain in memory, level by level; the sizes of its levels. -/
import Derived.Test.YtbejhkojdiadaaaGreatPermChk
import Derived.Test.YtbejhkojdiadaaaGreatPlainRank
import Derived.Deep.RegionHeld3
import Derived.RangeFuncRecord
set_option linter.unusedSimpArgs false
set_option linter.unusedVariables false
namespace Go.Proofs.YtbejhkojdiadaaaGreat
open Go.RowKit PlainPm
/-- The value of a chain. -/
abbrev cv (n ab ao c bb bo e : Nat) : Value := .agg #[.int .i64 (n : Int), .slice (some ⟨ab, ao, none⟩) n c, .slice (some ⟨bb, bo, none⟩) n e]
/-- A slice at an address that holds points. -/
def PtsW (w : World) (v : Value) (l : List Nat) : Prop :=
  ∃ g o c, v = .slice (some ⟨g, o, none⟩) l.length c ∧ g < w.heap.size ∧ l.length ≤ 64 ∧ l.length ≤ c ∧ ∀ (k q : Nat), l[k]? = some q → w.cell? ⟨g, o + k, none⟩ = some (.int .i64 (q : Int))
/-- .. that holds permutations. -/
def RepsW {n : Nat} (w : World) (v : Value) (l : List (Pm n)) : Prop :=
  ∃ g o c, v = .slice (some ⟨g, o, none⟩) l.length c ∧ g < w.heap.size ∧ l.length ≤ 64 ∧ l.length ≤ c ∧ ∀ (k : Nat) (x : Pm n), l[k]? = some x → ∃ u, w.cell? ⟨g, o + k, none⟩ = some u ∧ PmV w [] u x
/-- The levels of a chain in memory. -/
structure LvW (n : Nat) (w : World) (O : Nat → List Nat) (R : Nat → Nat → Pm n) (ab ao bb bo : Nat) : Prop where
  orb : ∀ i, i < n → ∃ v, w.cell? ⟨ab, ao + i, none⟩ = some v ∧ PtsW w v (O i)
  rep : ∀ i, i < n → ∃ v, w.cell? ⟨bb, bo + i, none⟩ = some v ∧ RepsW w v ((O i).map (R i))
section
variable {n ab ao bb bo : Nat} {w w' : World} {O : Nat → List Nat} {R : Nat → Nat → Pm n}
theorem PtsW.below {v : Value} {l : List Nat} (h : PtsW w v l) (k : Below w.heap.size w w') : PtsW w' v l := by
  obtain ⟨g, o, c, rfl, h1, h2, h4, h3⟩ := h
  exact ⟨g, o, c, rfl, Nat.lt_of_lt_of_le h1 k.size, h2, h4, fun i q hq => (k.cell (p := ⟨g, o + i, none⟩) h1).trans (h3 i q hq)⟩
theorem RepsW.below {v : Value} {l : List (Pm n)} (h : RepsW w v l) (k : Below w.heap.size w w') : RepsW w' v l := by
  obtain ⟨g, o, c, rfl, h1, h2, h6, h3⟩ := h
  refine ⟨g, o, c, rfl, Nat.lt_of_lt_of_le h1 k.size, h2, h6, fun i x hx => ?_⟩
  obtain ⟨u, h4, h5⟩ := h3 i x hx
  exact ⟨u, (k.cell (p := ⟨g, o + i, none⟩) h1).trans h4, h5.below k⟩
theorem LvW.below (h : LvW n w O R ab ao bb bo) (k : Below w.heap.size w w') : LvW n w' O R ab ao bb bo := by
  refine ⟨fun i hi => ?_, fun i hi => ?_⟩
  · obtain ⟨v, h1, h2⟩ := h.orb i hi
    exact ⟨v, (k.cell (block_lt_of_cell h1)).trans h1, h2.below k⟩
  · obtain ⟨v, h1, h2⟩ := h.rep i hi
    exact ⟨v, (k.cell (block_lt_of_cell h1)).trans h1, h2.below k⟩
end
theorem box3a (w : World) (u0 u1 u2 : Value) (X : Nat) (hX : w.heap.size = X) : (w.alloc (.cells #[u0, u1, u2] 25)).cell? ⟨X, 0, none⟩ = some u0 ∧ (w.alloc (.cells #[u0, u1, u2] 25)).cell? ⟨X, 1, none⟩ = some u1 ∧ (w.alloc (.cells #[u0, u1, u2] 25)).cell? ⟨X, 2, none⟩ = some u2 := by
  subst hX
  have : (w.alloc (.cells #[u0, u1, u2] 25)).heap[w.heap.size]? = some (.cells #[u0, u1, u2] 25) := World.alloc_heap_new w _
  refine ⟨?_, ?_, ?_⟩ <;> (simp only [World.cell?, this]; rfl)
/-- A chain's value in a box, and what lies below it. -/
structure BoxW (w0 : World) (X n ab ao c bb bo e : Nat) (W : World) : Prop where
  bel : Below X w0 W
  c0 : W.cell? ⟨X, 0, none⟩ = some (.int .i64 (n : Int))
  c1 : W.cell? ⟨X, 1, none⟩ = some (.slice (some ⟨ab, ao, none⟩) n c)
  c2 : W.cell? ⟨X, 2, none⟩ = some (.slice (some ⟨bb, bo, none⟩) n e)
  lt : X < W.heap.size
theorem BoxW.below {w0 W W' : World} {X n ab ao c bb bo e : Nat} (h : BoxW w0 X n ab ao c bb bo e W) (k : Below (X + 1) W W') : BoxW w0 X n ab ao c bb bo e W' :=
  ⟨h.bel.trans (k.mono (by omega)), (k.cell (p := ⟨X, 0, none⟩) (by simp)).trans h.c0, (k.cell (p := ⟨X, 1, none⟩) (by simp)).trans h.c1, (k.cell (p := ⟨X, 2, none⟩) (by simp)).trans h.c2, Nat.lt_of_lt_of_le h.lt k.size⟩
theorem BoxW.start (w : World) (X n ab ao c bb bo e : Nat) (hX : w.heap.size = X) : BoxW w X n ab ao c bb bo e (w.alloc (.cells #[.int .i64 (n : Int), .slice (some ⟨ab, ao, none⟩) n c, .slice (some ⟨bb, bo, none⟩) n e] 25)) := by
  obtain ⟨h0, h1, h2⟩ := box3a w (.int .i64 (n : Int)) (.slice (some ⟨ab, ao, none⟩) n c) (.slice (some ⟨bb, bo, none⟩) n e) X hX
  exact ⟨by rw [← hX]; exact alloc_b (Below.refl _ _) _, h0, h1, h2, by simp; omega⟩
/-- The sizes, from level m on. -/
def szP (O : Nat → List Nat) (n m : Nat) : List Int := (List.range (n + 1)).map fun t => if m ≤ t then (szF O (n - t) t : Int) else 0
theorem szP_len (O : Nat → List Nat) (n m : Nat) : (szP O n m).length = n + 1 := by simp [szP]
theorem szP_set {O : Nat → List Nat} {n m : Nat} : (szP O n (m + 1)).set m (szF O (n - m) m : Int) = szP O n m := by
  refine List.ext_getElem? fun t => ?_
  unfold szP
  by_cases ht : t < n + 1
  · rw [List.getElem?_set, List.getElem?_map, List.getElem?_range ht]
    by_cases e : m = t
    · subst e; simp [ht]
    · rw [if_neg e, List.getElem?_map, List.getElem?_range ht]
      simp only [Option.map_some]
      by_cases h : m ≤ t
      · rw [if_pos (by omega), if_pos h]
      · rw [if_neg (by omega), if_neg h]
  · rw [List.getElem?_eq_none (by simp; omega), List.getElem?_eq_none (by simp; omega)]
theorem szP_zero {O : Nat → List Nat} {n : Nat} : (List.replicate (n + 1) (0 : Int)).set n 1 = szP O n n := by
  refine List.ext_getElem? fun t => ?_
  unfold szP
  by_cases ht : t < n + 1
  · rw [List.getElem?_set, List.getElem?_replicate, if_pos ht]
    rw [List.getElem?_map, List.getElem?_range ht]
    simp only [Option.map_some]
    by_cases e : n = t
    · subst e; simp [szF]
    · rw [if_neg e, if_neg (by omega)]
  · rw [List.getElem?_eq_none (by simp; omega), List.getElem?_eq_none (by simp; omega)]
theorem szP_get {O : Nat → List Nat} {n m t : Nat} (ht : t ≤ n) (hm : m ≤ t) : (szP O n m)[t]?.getD 0 = (szF O (n - t) t : Int) := by
  unfold szP
  rw [List.getElem?_map, List.getElem?_range (by omega)]
  simp [hm]
set_option maxRecDepth 100000 in
set_option maxHeartbeats 1000000 in
theorem sizes55 {n ab ao c bb bo e : Nat} (hn0 : 0 < n) (hn : n ≤ 8) {G : Pm n → Prop} {O : Nat → List Nat} {R : Nat → Nat → Pm n} (hG : ChG G O R) {w : World} (h : LvW n w O R ab ao bb bo) :
    Calls Tryz.prog 55 #[cv n ab ao c bb bo e] w fun e w' => ∃ v, e = .returned (.tuple #[v, .bool true]) ∧ Own w' w.heap.size v 3 (ints (szP O n 0)) ∧ Below w.heap.size w w' := by
  obtain ⟨i3, hi3, hz3, hs3, hb3⟩ := info_parts Tryz.info3
  have I3 := Lib.hid (And.intro hi3 (And.intro hz3 (And.intro hs3 hb3)))
  clear hi3 hz3 hs3 hb3
  obtain ⟨X, hX⟩ : ∃ X, w.heap.size = X := ⟨_, rfl⟩
  have hB0 := BoxW.start w X n ab ao c bb bo e hX
  obtain ⟨W1, hW1⟩ : ∃ W1, W1 = w.alloc (.cells #[.int .i64 (n : Int), .slice (some ⟨ab, ao, none⟩) n c, .slice (some ⟨bb, bo, none⟩) n e] 25) := ⟨_, rfl⟩
  rw [← hW1] at hB0
  have hs1 : W1.heap.size = X + 1 := by rw [hW1, ← hX]; simp
  have H := Lib.hid (And.intro h (And.intro hG (And.intro hB0 (And.intro hs1 hX))))
  obtain ⟨z0, z1, z2⟩ : W1.cell? ⟨X, 0, none⟩ = some (.int .i64 (n : Int)) ∧ W1.cell? ⟨X, 1, none⟩ = some (.slice (some ⟨ab, ao, none⟩) n c) ∧ W1.cell? ⟨X, 2, none⟩ = some (.slice (some ⟨bb, bo, none⟩) n e) := ⟨hB0.c0, hB0.c1, hB0.c2⟩
  clear h hG hB0 hs1
  go_enter Tryz.func55, Tryz.ntmps55
  try rw [hX]
  go_wp2_with (at_make; (try rw [← hW1]); refine mk1 rfl _ _ 26 3 rfl i3 (.int .i64 0) 8 Tryz.underlying26 I3.out.1 I3.out.2.1 I3.out.2.2.1 I3.out.2.2.2 rfl (by omega) W1.heap.size (n + 1) rfl rfl (by omega) (Nat.le_refl _) ?_; intro w1 hd hg hz1; rw [H.out.2.2.2.1] at hd hz1 ⊢; have hB1 := H.out.2.2.1.below (Below.refl _ _ |>.grown hg (by have := H.out.2.2.2.1; omega) (by simp)); have b0 := hB1.c0; have b1 := hB1.c1; have b2 := hB1.c2; have f1 := hd.frozen n; have d1 := hd.cell n (by simp); rw [List.getElem?_replicate, if_pos (by omega)] at d1; have H1 := Lib.hid (And.intro hd (And.intro hB1 hz1)); clear hd hg hz1 hB1)
  obtain ⟨W2, hW2⟩ : ∃ W2, W2 = w1.setCell ⟨X + 1, n, none⟩ (.int .i64 1) := ⟨_, rfl⟩
  have hO2 : Own W2 (X + 1) (.slice (some ⟨X + 1, 0, none⟩) (n + 1) (n + 1)) 3 (ints (szP O n n)) := by
    have := H1.out.1.put n (.int .i64 1)
    rw [hW2, ← szP_zero]
    rw [ints_zero, ints_set] at this
    exact this
  have hB2 : BoxW w X n ab ao c bb bo e W2 := by rw [hW2]; exact H1.out.2.1.below ((Below.refl _ _).setCell (p := ⟨X + 1, n, none⟩) (Nat.le_refl _) _)
  have H2 := Lib.hid (And.intro hO2 hB2)
  try rw [← hW2]
  clear hO2 hB2 hW2 z0 z1 z2 hW1
  go_loopw [5, 6] (fun i _ wr => ∃ (m : Nat), m ≤ n ∧ i = .int .i64 ((m : Int) - 1) ∧ Own wr (X + 1) (.slice (some ⟨X + 1, 0, none⟩) (n + 1) (n + 1)) 3 (ints (szP O n m)) ∧ BoxW w X n ab ao c bb bo e wr) (fun i _ _ => (intOf i + 1).toNat)
  case atStart => exact ⟨n, Nat.le_refl _, rfl, H2.out.1, H2.out.2⟩
  case round =>
    obtain ⟨m, hm, rfl, ho, hb⟩ := hrel
    match m, hm, ho with
    | 0, hm, ho =>
      have HP := Lib.hid (And.intro ho hb)
      clear ho hb
      go_wp2_with fail
      refine bodyPost_ret (v := .tuple #[.slice (some ⟨X + 1, 0, none⟩) (n + 1) (n + 1), .bool true]) (by simp [results, Tryz.results55, go_sem]) rfl ?_
      exact ⟨_, rfl, HP.out.1.mono (by have := H.out.2.2.2.2; omega), HP.out.2.bel⟩
    | m + 1, hm, ho =>
      have hmn : m < n := by omega
      have hmm : (((m + 1 : Nat) : Int)) - 1 = (m : Int) := by omega
      rw [hmm]
      obtain ⟨Z, hZ⟩ : ∃ Z, szF O (n - (m + 1)) (m + 1) = Z := ⟨_, rfl⟩
      obtain ⟨N, hN⟩ : ∃ N, (O m).length = N := ⟨_, rfl⟩
      have hNZ : szF O (n - m) m = N * Z := by rw [show n - m = n - (m + 1) + 1 by omega, szF, hN, hZ]
      have hZle : Z ≤ 16777216 := by
        have h1 := H.out.2.1.sz_le (m := 8) hn (f := n - (m + 1)) (i := m + 1) (by omega)
        rw [hZ] at h1
        exact Nat.le_trans h1 (Nat.le_trans (Nat.pow_le_pow_right (by omega) (show n - (m + 1) ≤ 8 by omega)) (by decide))
      have hN0 : 0 < N := by rw [← hN]; exact H.out.2.1.pos hmn
      have hN8 : N ≤ 8 := by rw [← hN]; exact Nat.le_trans (H.out.2.1.short hmn) hn
      have hW : Below w.heap.size w wr := by rw [H.out.2.2.2.2]; exact hb.bel
      obtain ⟨vo, y1, gp, go, gc, rfl, _, _, _, _⟩ := (H.out.1.below hW).orb m hmn
      rw [hN] at y1
      have d1 := (ho.cell (m + 1) (by rw [ints_len, szP_len]; omega)).trans (ints_get (by rw [szP_len]; omega))
      rw [szP_get (by omega) (Nat.le_refl _), hZ] at d1
      have f1 := ho.frozen m
      have d2 := (ho.cell m (by rw [ints_len, szP_len]; omega)).trans (ints_get (by rw [szP_len]; omega))
      have x0 := hb.c0
      have x1 := hb.c1
      have hq : (Z : Int) ≤ 1000000000000000000 / (N : Int) := by
        refine (Int.le_ediv_iff_mul_le (by omega)).2 ?_
        have : (Z : Int) * N ≤ 16777216 * 8 := Int.mul_le_mul (by omega) (by omega) (by omega) (by omega)
        omega
      have hq2 : ¬ (1000000000000000000 / (N : Int) < (Z : Int)) := by omega
      have hq3 : decide (1000000000000000000 / (N : Int) < (Z : Int)) = false := by simp; omega
      have hNn : ¬ (N : Int) = 0 := by omega
      have hmul : (Z : Int) * N ≤ 16777216 * 8 := Int.mul_le_mul (by omega) (by omega) (by omega) (by omega)
      have hmul0 : 0 ≤ (Z : Int) * N := by rw [← Int.natCast_mul]; omega
      have hmul' : (N : Int) * Z ≤ 16777216 * 8 := by rw [Int.mul_comm]; exact hmul
      have hmul0' : 0 ≤ (N : Int) * Z := by rw [Int.mul_comm]; exact hmul0
      have hw1 : IntKind.i64.wrap ((N : Int) * (Z : Int)) = (N : Int) * (Z : Int) := IntWalk.i64_in _ (by omega)
      have hw2 : IntKind.i64.wrap ((Z : Int) * (N : Int)) = (Z : Int) * (N : Int) := IntWalk.i64_in _ (by omega)
      have HP := Lib.hid (And.intro ho (And.intro hb hNZ))
      clear ho hb hNZ hZ hN hq hW hmul hmul0 hmul' hmul0' hN8 hZle
      go_wp2_with fail
      go_quiet (fail)
      go_wp2_with fail
      have hval : (N : Int) * (Z : Int) = (szF O (n - m) m : Int) := by rw [HP.out.2.2, Int.natCast_mul]
      have ho9 := (HP.out.1.drewN nq).put m (.int .i64 ((N : Int) * (Z : Int)))
      rw [ints_set] at ho9
      have he : (szP O n (m + 1)).set m ((N : Int) * (Z : Int)) = szP O n m := by rw [hval]; exact szP_set
      rw [he] at ho9
      have hbd : Below (X + 1) wr ((wr.drewN nq).setCell ⟨X + 1, m, none⟩ (.int .i64 ((N : Int) * (Z : Int)))) := (below_self_drewN wr nq).setCell (p := ⟨X + 1, m, none⟩) (Nat.le_refl _) _
      exact ⟨⟨m, by omega, rfl, ho9, HP.out.2.1.below hbd⟩, by simp [intOf]⟩
set_option maxRecDepth 100000 in
set_option maxHeartbeats 1000000 in
theorem sizes57 {n ab ao c bb bo e : Nat} (hn0 : 0 < n) (hn : n ≤ 8) {G : Pm n → Prop} {O : Nat → List Nat} {R : Nat → Nat → Pm n} (hG : ChG G O R) {w : World} (h : LvW n w O R ab ao bb bo) :
    Calls Tryz.prog 57 #[cv n ab ao c bb bo e] w fun e w' => ∃ v, e = .returned (.tuple #[v, .bool true]) ∧ Own w' w.heap.size v 3 (ints (szP O n 0)) ∧ Below w.heap.size w w' := by
  obtain ⟨i3, hi3, hz3, hs3, hb3⟩ := info_parts Tryz.info3
  have I3 := Lib.hid (And.intro hi3 (And.intro hz3 (And.intro hs3 hb3)))
  clear hi3 hz3 hs3 hb3
  obtain ⟨X, hX⟩ : ∃ X, w.heap.size = X := ⟨_, rfl⟩
  have hB0 := BoxW.start w X n ab ao c bb bo e hX
  obtain ⟨W1, hW1⟩ : ∃ W1, W1 = w.alloc (.cells #[.int .i64 (n : Int), .slice (some ⟨ab, ao, none⟩) n c, .slice (some ⟨bb, bo, none⟩) n e] 25) := ⟨_, rfl⟩
  rw [← hW1] at hB0
  have hs1 : W1.heap.size = X + 1 := by rw [hW1, ← hX]; simp
  have H := Lib.hid (And.intro h (And.intro hG (And.intro hB0 (And.intro hs1 hX))))
  obtain ⟨z0, z1, z2⟩ : W1.cell? ⟨X, 0, none⟩ = some (.int .i64 (n : Int)) ∧ W1.cell? ⟨X, 1, none⟩ = some (.slice (some ⟨ab, ao, none⟩) n c) ∧ W1.cell? ⟨X, 2, none⟩ = some (.slice (some ⟨bb, bo, none⟩) n e) := ⟨hB0.c0, hB0.c1, hB0.c2⟩
  clear h hG hB0 hs1
  go_enter Tryz.func57, Tryz.ntmps57
  try rw [hX]
  go_wp2_with (at_make; (try rw [← hW1]); refine mk1 rfl _ _ 26 3 rfl i3 (.int .i64 0) 8 Tryz.underlying26 I3.out.1 I3.out.2.1 I3.out.2.2.1 I3.out.2.2.2 rfl (by omega) W1.heap.size (n + 1) rfl rfl (by omega) (Nat.le_refl _) ?_; intro w1 hd hg hz1; rw [H.out.2.2.2.1] at hd hz1 ⊢; have hB1 := H.out.2.2.1.below (Below.refl _ _ |>.grown hg (by have := H.out.2.2.2.1; omega) (by simp)); have b0 := hB1.c0; have b1 := hB1.c1; have b2 := hB1.c2; have f1 := hd.frozen n; have d1 := hd.cell n (by simp); rw [List.getElem?_replicate, if_pos (by omega)] at d1; have H1 := Lib.hid (And.intro hd (And.intro hB1 hz1)); clear hd hg hz1 hB1)
  obtain ⟨W2, hW2⟩ : ∃ W2, W2 = w1.setCell ⟨X + 1, n, none⟩ (.int .i64 1) := ⟨_, rfl⟩
  have hO2 : Own W2 (X + 1) (.slice (some ⟨X + 1, 0, none⟩) (n + 1) (n + 1)) 3 (ints (szP O n n)) := by
    have := H1.out.1.put n (.int .i64 1)
    rw [hW2, ← szP_zero]
    rw [ints_zero, ints_set] at this
    exact this
  have hB2 : BoxW w X n ab ao c bb bo e W2 := by rw [hW2]; exact H1.out.2.1.below ((Below.refl _ _).setCell (p := ⟨X + 1, n, none⟩) (Nat.le_refl _) _)
  have H2 := Lib.hid (And.intro hO2 hB2)
  try rw [← hW2]
  clear hO2 hB2 hW2 z0 z1 z2 hW1
  go_loopw [5] (fun i wr => ∃ (m : Nat), m ≤ n ∧ i = .int .i64 ((m : Int) - 1) ∧ Own wr (X + 1) (.slice (some ⟨X + 1, 0, none⟩) (n + 1) (n + 1)) 3 (ints (szP O n m)) ∧ BoxW w X n ab ao c bb bo e wr) (fun i _ => (intOf i + 1).toNat)
  case atStart => exact ⟨n, Nat.le_refl _, rfl, H2.out.1, H2.out.2⟩
  case round =>
    obtain ⟨m, hm, rfl, ho, hb⟩ := hrel
    match m, hm, ho with
    | 0, hm, ho =>
      have HP := Lib.hid (And.intro ho hb)
      clear ho hb
      go_wp2_with fail
      refine bodyPost_ret (v := .tuple #[.slice (some ⟨X + 1, 0, none⟩) (n + 1) (n + 1), .bool true]) (by simp [results, Tryz.results57, go_sem]) rfl ?_
      exact ⟨_, rfl, HP.out.1.mono (by have := H.out.2.2.2.2; omega), HP.out.2.bel⟩
    | m + 1, hm, ho =>
      have hmn : m < n := by omega
      have hmm : (((m + 1 : Nat) : Int)) - 1 = (m : Int) := by omega
      rw [hmm]
      obtain ⟨Z, hZ⟩ : ∃ Z, szF O (n - (m + 1)) (m + 1) = Z := ⟨_, rfl⟩
      obtain ⟨N, hN⟩ : ∃ N, (O m).length = N := ⟨_, rfl⟩
      have hNZ : szF O (n - m) m = N * Z := by rw [show n - m = n - (m + 1) + 1 by omega, szF, hN, hZ]
      have hZle : Z ≤ 16777216 := by
        have h1 := H.out.2.1.sz_le (m := 8) hn (f := n - (m + 1)) (i := m + 1) (by omega)
        rw [hZ] at h1
        exact Nat.le_trans h1 (Nat.le_trans (Nat.pow_le_pow_right (by omega) (show n - (m + 1) ≤ 8 by omega)) (by decide))
      have hN0 : 0 < N := by rw [← hN]; exact H.out.2.1.pos hmn
      have hN8 : N ≤ 8 := by rw [← hN]; exact Nat.le_trans (H.out.2.1.short hmn) hn
      have hW : Below w.heap.size w wr := by rw [H.out.2.2.2.2]; exact hb.bel
      obtain ⟨vo, y1, gp, go, gc, rfl, _, _, _, _⟩ := (H.out.1.below hW).orb m hmn
      rw [hN] at y1
      have d1 := (ho.cell (m + 1) (by rw [ints_len, szP_len]; omega)).trans (ints_get (by rw [szP_len]; omega))
      rw [szP_get (by omega) (Nat.le_refl _), hZ] at d1
      have f1 := ho.frozen m
      have d2 := (ho.cell m (by rw [ints_len, szP_len]; omega)).trans (ints_get (by rw [szP_len]; omega))
      have x0 := hb.c0
      have x1 := hb.c1
      have hq : (Z : Int) ≤ 1000000000000000000 / (N : Int) := by
        refine (Int.le_ediv_iff_mul_le (by omega)).2 ?_
        have : (Z : Int) * N ≤ 16777216 * 8 := Int.mul_le_mul (by omega) (by omega) (by omega) (by omega)
        omega
      have hq2 : ¬ (1000000000000000000 / (N : Int) < (Z : Int)) := by omega
      have hq3 : decide (1000000000000000000 / (N : Int) < (Z : Int)) = false := by simp; omega
      have hNn : ¬ (N : Int) = 0 := by omega
      have hmul : (Z : Int) * N ≤ 16777216 * 8 := Int.mul_le_mul (by omega) (by omega) (by omega) (by omega)
      have hmul0 : 0 ≤ (Z : Int) * N := by rw [← Int.natCast_mul]; omega
      have hmul' : (N : Int) * Z ≤ 16777216 * 8 := by rw [Int.mul_comm]; exact hmul
      have hmul0' : 0 ≤ (N : Int) * Z := by rw [Int.mul_comm]; exact hmul0
      have hw1 : IntKind.i64.wrap ((N : Int) * (Z : Int)) = (N : Int) * (Z : Int) := IntWalk.i64_in _ (by omega)
      have hw2 : IntKind.i64.wrap ((Z : Int) * (N : Int)) = (Z : Int) * (N : Int) := IntWalk.i64_in _ (by omega)
      have HP := Lib.hid (And.intro ho (And.intro hb hNZ))
      clear ho hb hNZ hZ hN hq hW hmul hmul0 hmul' hmul0' hN8 hZle
      go_wp2_with fail
      go_quiet (fail)
      go_wp2_with fail
      go_region
      go_wp2_with fail
      have hval : (Z : Int) * (N : Int) = (szF O (n - m) m : Int) := by rw [HP.out.2.2, Int.natCast_mul, Int.mul_comm (N : Int)]
      have ho9 := (HP.out.1.drewN (nq + 1)).put m (.int .i64 ((Z : Int) * (N : Int)))
      rw [ints_set] at ho9
      have he : (szP O n (m + 1)).set m ((Z : Int) * (N : Int)) = szP O n m := by rw [hval]; exact szP_set
      rw [he] at ho9
      have hbd : Below (X + 1) wr ((wr.drewN (nq + 1)).setCell ⟨X + 1, m, none⟩ (.int .i64 ((Z : Int) * (N : Int)))) := (below_self_drewN wr (nq + 1)).setCell (p := ⟨X + 1, m, none⟩) (Nat.le_refl _) _
      exact ⟨⟨m, by omega, rfl, ho9, HP.out.2.1.below hbd⟩, by simp [intOf]⟩
end Go.Proofs.YtbejhkojdiadaaaGreat
