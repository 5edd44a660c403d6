/- large, path, awake. -/
import Derived.Test.YtjjjohmppehejaaGreatLeavW
import Derived.Test.YtjjjohmppehejaaGreatMapP
import Derived.Test.YtjjjohmppehejaaGreatAwake
set_option linter.unusedSimpArgs false
set_option linter.unusedVariables false
namespace Go.Proofs.YtjjjohmppehejaaGreat
open Go.RowKit Plain PlainG PlainX PlainT
/-- The path 0-1-2, the graph 0-2-1, no edges, a round of four, eleven vertices. -/
def gPath : Gr := ⟨3, [(0, 1), (1, 2)], [0, 0, 0]⟩
def gOther : Gr := ⟨3, [(0, 2), (1, 2)], [0, 0, 0]⟩
def gEmpty : Gr := ⟨3, [], [0, 0, 0]⟩
def gRound : Gr := ⟨4, [(0, 1), (0, 3), (1, 2), (2, 3)], [0, 0, 0, 0]⟩
def gEleven : Gr := ⟨11, [], [0, 0, 0, 0, 0, 0, 0, 0, 0, 0, 0]⟩
def gNeg : Gr := ⟨-1, [], []⟩
def gNull : Gr := ⟨0, [], []⟩
theorem kn_lab : labG gPath = ([0, 2, 1], 0) := by decide +kernel
theorem kn_many : manyA gPath = (2, 0) := by decide +kernel
theorem kn_leaves : leavG gEmpty = (6, 0) := by decide +kernel
theorem kn_leaves2 : leavG gPath = (2, 0) := by decide +kernel
theorem kn_leaves3 : leavG gRound = (8, 0) := by decide +kernel
theorem kn_many2 : manyA gEmpty = (6, 0) := by decide +kernel
theorem kn_many3 : manyA gRound = (8, 0) := by decide +kernel
theorem kn_many4 : manyA gNull = (1, 0) := by decide +kernel
theorem kn_map1 : mapA gPath gOther = ([0, 2, 1], 0) := by decide +kernel
theorem kn_map2 : mapA gPath gEmpty = ([], 18) := by decide +kernel
theorem kn_map3 : mapA gPath gRound = ([], 18) := by decide +kernel
theorem kn_map4 : mapA gPath gEleven = ([], 5) := by decide +kernel
theorem kn_map5 : mapA gEleven gNeg = ([], 2) := by decide +kernel
end Go.Proofs.YtjjjohmppehejaaGreat
namespace Go.Proofs.YtjjjohmppehejaaGreat
open Go.RowKit Plain PlainG PlainX PlainT
instance : DecidableEq Gr := fun x y => decidable_of_iff (x.n = y.n ∧ x.es = y.es ∧ x.cs = y.cs) ⟨fun ⟨a, b, c⟩ => by cases x; cases y; simp only at a b c; subst a; subst b; subst c; rfl, fun e => by rw [e]; exact ⟨rfl, rfl, rfl⟩⟩
instance : DecidableEq Chn := fun x y => decidable_of_iff (x.d = y.d ∧ x.orbs = y.orbs ∧ x.reps = y.reps) ⟨fun ⟨a, b, c⟩ => by cases x; cases y; simp only at a b c; subst a; subst b; subst c; rfl, fun e => by rw [e]; exact ⟨rfl, rfl, rfl⟩⟩
def cPath : Chn := ⟨3, [[0, 2], [1], [2]], [[[0, 1, 2], [2, 1, 0]], [[0, 1, 2]], [[0, 1, 2]]]⟩
theorem kn_grp : grpA gPath = (cPath, 0) := by decide +kernel
end Go.Proofs.YtjjjohmppehejaaGreat
set_option linter.unusedSimpArgs false
set_option linter.unusedVariables false
namespace Go.Proofs.YtjjjohmppehejaaGreat
open Go.RowKit Plain PlainG PlainX PlainT
theorem litI {w : World} {b : Nat} {xs : List Int} {o : Obj} (ho : o = .cells (ints xs).toArray 3) (hb : b = w.heap.size) (hx : xs.length ≤ 1000) : Ints (w.alloc o) (some ⟨b, 0, none⟩) xs := by
  subst ho hb
  obtain ⟨a, c, e, h⟩ := lit_row w xs hx
  cases e; exact h
theorem litE {w : World} {b : Nat} {es : List E2} {o : Obj} (ho : o = .cells (ints (flat2 es)).toArray 58) (hb : b = w.heap.size) (hx : es.length ≤ 1000) : Edg (w.alloc o) (some ⟨b, 0, none⟩) es := by
  subst ho hb
  exact (OwnE.new (B := 0) 58 es (Nat.zero_le _) (by unfold maxLen; omega)).edg (by omega)
theorem Ints.al {w : World} {a : Option Addr} {xs : List Int} (h : Ints w a xs) (o : Obj) : Ints (w.alloc o) a xs := h.below (alloc_below (Below.refl _ _) o)
theorem Edg.al {w : World} {a : Option Addr} {xs : List E2} (h : Edg w a xs) (o : Obj) : Edg (w.alloc o) a xs := h.below (alloc_below (Below.refl _ _) o)
theorem large_calls (u : Value) (ea ca : Option Addr) (L M ec cc : Nat) (w : World) :
    Calls Tryz.prog 8 #[.agg #[u, .slice ea L ec, .slice ca M cc]] w fun e w' => e = .returned (.bool (decide (400 < L) || decide (40 < M))) ∧ Below w.heap.size w w' := by
  have hb : Below w.heap.size w (w.alloc (.cells #[u, .slice ea L ec, .slice ca M cc] 25)) := alloc_b (Below.refl _ _) _
  obtain ⟨b1, d1⟩ : ∃ b, decide (400 < L) = b := ⟨_, rfl⟩
  obtain ⟨b2, d2⟩ : ∃ b, decide (40 < M) = b := ⟨_, rfl⟩
  have e1 : decide ((400 : Int) < (L : Int)) = b1 := by rw [← d1, decide_eq_decide]; omega
  have e2 : decide ((40 : Int) < (M : Int)) = b2 := by rw [← d2, decide_eq_decide]; omega
  rw [d1, d2]
  have H := Lib.hid hb
  clear hb d1 d2
  cases b1 <;> cases b2
  all_goals
    go_enter Tryz.func8, Tryz.ntmps8
    go_wp2
    go_ret
    exact ⟨rfl, H.out⟩
theorem path_calls (w : World) : Calls Tryz.prog 28 #[] w fun e w' => ∃ a c b d, e = .returned (.agg #[.int .i64 3, .slice a 2 c, .slice b 3 d]) ∧ Edg w' a gPath.es ∧ Ints w' b gPath.cs ∧ Below w.heap.size w w' := by
  go_enter Tryz.func28, Tryz.ntmps28
  go_wp2
  obtain ⟨X, hX⟩ : ∃ X, w.heap.size = X := ⟨_, rfl⟩
  rw [hX]
  obtain ⟨W1, hW1⟩ : ∃ W1, W1 = w.alloc (.cells #[.int .i64 3, .slice (some ⟨X + 1, 0, none⟩) 2 2, .slice (some ⟨X + 1 + 1, 0, none⟩) 3 3] 25) := ⟨_, rfl⟩
  have hs1 : W1.heap.size = X + 1 := by rw [hW1, ← hX]; simp
  have hb1 : Below w.heap.size w W1 := by rw [hW1]; exact alloc_b (Below.refl _ _) _
  have hC : W1.heap[X]? = some (.cells #[.int .i64 3, .slice (some ⟨X + 1, 0, none⟩) 2 2, .slice (some ⟨X + 1 + 1, 0, none⟩) 3 3] 25) := by rw [hW1, ← hX]; exact World.alloc_heap_new w _
  rw [← hW1]
  obtain ⟨W2, hW2⟩ : ∃ W2, W2 = W1.alloc (.cells #[.int .i64 0, .int .i64 1, .int .i64 1, .int .i64 2] 58) := ⟨_, rfl⟩
  have hE : Edg W2 (some ⟨X + 1, 0, none⟩) gPath.es := by rw [hW2]; exact litE rfl hs1.symm (by decide)
  have hs2 : W2.heap.size = X + 2 := by rw [hW2]; simp [hs1]
  rw [← hW2]
  obtain ⟨W3, hW3⟩ : ∃ W3, W3 = W2.alloc (.cells #[.int .i64 0, .int .i64 0, .int .i64 0] 3) := ⟨_, rfl⟩
  have hI : Ints W3 (some ⟨X + 1 + 1, 0, none⟩) gPath.cs := by rw [hW3]; exact litI rfl hs2.symm (by decide)
  have hE3 : Edg W3 (some ⟨X + 1, 0, none⟩) gPath.es := by rw [hW3]; exact hE.al _
  have hb13 : Below W1.heap.size W1 W3 := by rw [hW3, hW2]; exact alloc_b (alloc_b (Below.refl _ _) _) _
  rw [← hW3]
  have hC3 := (hb13.block X (by omega)).trans hC
  have c0 : W3.cell? ⟨X, 0, none⟩ = some (.int .i64 3) := by simp [World.cell?, hC3]
  have c1 : W3.cell? ⟨X, 1, none⟩ = some (.slice (some ⟨X + 1, 0, none⟩) 2 2) := by simp [World.cell?, hC3]
  have c2 : W3.cell? ⟨X, 2, none⟩ = some (.slice (some ⟨X + 1 + 1, 0, none⟩) 3 3) := by simp [World.cell?, hC3]
  refine bodyPost_ret (v := .agg #[.int .i64 3, .slice (some ⟨X + 1, 0, none⟩) 2 2, .slice (some ⟨X + 1 + 1, 0, none⟩) 3 3]) (by simp [results, Tryz.results28, go_sem, c0, c1, c2]) rfl ?_
  exact ⟨_, _, _, _, rfl, hE3, hI, by have := below_two hb1 hb13; rw [hX] at this; exact this⟩
theorem kLab {w : World} {a b : Option Addr} {c d : Nat} (he : Edg w a gPath.es) (hc : Ints w b gPath.cs) : Calls Tryz.prog 30 #[.agg #[.int .i64 3, .slice a 2 c, .slice b 3 d]] w fun r w' => ∃ a c, r = .returned (.tuple #[.slice a 3 c, .int .i64 0]) ∧ Ints w' a [0, 2, 1] ∧ Below w.heap.size w w' := by
  have := lab_calls (g := gPath) (ec := c) (cc := d) he hc
  rw [kn_lab] at this
  exact this
theorem kMany {w : World} {a b : Option Addr} {c d : Nat} (he : Edg w a gPath.es) (hc : Ints w b gPath.cs) : Calls Tryz.prog 12 #[.agg #[.int .i64 3, .slice a 2 c, .slice b 3 d]] w fun r w' => r = .returned (.tuple #[.int .i64 2, .int .i64 0]) ∧ Below w.heap.size w w' := by
  have := Many_calls (g := gPath) (ec := c) (cc := d) he hc
  rw [kn_many] at this
  exact this
theorem kLeaves {w : World} {b : Option Addr} {d : Nat} (hc : Ints w b [0, 0, 0]) : Calls Tryz.prog 29 #[.agg #[.int .i64 3, .slice none 0 0, .slice b 3 d]] w fun r w' => r = .returned (.tuple #[.int .i64 6, .int .i64 0]) ∧ Below w.heap.size w w' := by
  have := leav_calls (g := gEmpty) (ea := none) (ec := 0) (ca := b) (cc := d) (w := w) (Edg.nil w) hc
  rw [kn_leaves] at this
  exact this
theorem sameI_true (a b : Option Addr) (c d n : Nat) (xs : List Int) (w : World) (hn : xs.length = n) (ha : Ints w a xs) (hb : Ints w b xs) : Calls Tryz.prog 19 #[.slice a n c, .slice b n d] w fun e w' => e = .returned (.bool true) ∧ Below w.heap.size w w' := by
  subst hn
  exact (sameInts_calls a b c d xs xs w ha hb).mono fun _ _ ⟨he, q, hw⟩ => ⟨by rw [he, decide_eq_true rfl], by rw [hw]; exact below_self_drewN _ _⟩
set_option maxRecDepth 100000 in
set_option maxHeartbeats 1000000 in
theorem awake_calls (w : World) : Calls Tryz.prog 9 #[] w fun e w' => e = .returned (.bool true) ∧ Below w.heap.size w w' := by
  obtain ⟨X, hX⟩ : ∃ X, w.heap.size = X := ⟨_, rfl⟩
  go_enter Tryz.func9, Tryz.ntmps9
  go_wp2_with fail
  refine (path_calls w).mono ?_
  rintro e w1 ⟨a1, c1, b1, d1, rfl, he, hc, hb⟩
  have H1 := Lib.hid (And.intro he (And.intro hc hb))
  clear he hc hb
  go_wp2_with fail
  refine (kLab H1.out.1 H1.out.2.1).mono ?_
  rintro e w2 ⟨a2, c2, rfl, hi, hb⟩
  have H2 := Lib.hid (And.intro hi (below_two H1.out.2.2 hb))
  clear hi hb
  go_wp2_with fail
  refine (path_calls w2).mono ?_
  rintro e w3 ⟨a3, c3, b3, d3, rfl, he, hc, hb⟩
  have H3 := Lib.hid (And.intro he (And.intro hc (And.intro (H2.out.1.below hb) (below_two H2.out.2 hb))))
  clear he hc hb
  go_wp2_with fail
  refine (kMany H3.out.1 H3.out.2.1).mono ?_
  rintro e w4 ⟨rfl, hb⟩
  have H4 := Lib.hid (And.intro (H3.out.2.2.1.below hb) (below_two H3.out.2.2.2 hb))
  clear hb
  go_wp2_with fail
  have hl : Ints (w4.alloc (.cells #[.int .i64 0, .int .i64 0, .int .i64 0] 3)) (some ⟨w4.heap.size, 0, none⟩) [0, 0, 0] := litI rfl rfl (by decide)
  refine (kLeaves hl).mono ?_
  rintro e w5 ⟨rfl, hb⟩
  have hba : Below w4.heap.size w4 (w4.alloc (.cells #[.int .i64 0, .int .i64 0, .int .i64 0] 3)) := alloc_b (Below.refl _ _) _
  have H5 := Lib.hid (And.intro (H4.out.1.below (below_two hba hb)) (below_two H4.out.2 (below_two hba hb)))
  clear hb hl hba
  go_wp2_with fail
  have hl : Ints (w5.alloc (.cells #[.int .i64 0, .int .i64 2, .int .i64 1] 3)) (some ⟨w5.heap.size, 0, none⟩) [0, 2, 1] := litI rfl rfl (by decide)
  have hba : Below w5.heap.size w5 (w5.alloc (.cells #[.int .i64 0, .int .i64 2, .int .i64 1] 3)) := alloc_b (Below.refl _ _) _
  refine (sameI_true a2 _ c2 3 3 [0, 2, 1] _ rfl (H5.out.1.below hba) hl).mono ?_
  rintro e w6 ⟨rfl, hb⟩
  have H6 := Lib.hid (below_two H5.out.2 (below_two hba hb))
  clear hb hl hba
  go_wp2
  go_ret
  exact ⟨rfl, H6.out⟩
end Go.Proofs.YtjjjohmppehejaaGreat
