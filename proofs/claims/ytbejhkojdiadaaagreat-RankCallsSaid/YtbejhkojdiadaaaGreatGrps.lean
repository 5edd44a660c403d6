/- The law's groups of examples. -/
import Derived.Test.YtbejhkojdiadaaaGreatRankE
import Derived.Test.YtbejhkojdiadaaaGreatPlainGr
set_option linter.unusedSimpArgs false
set_option linter.unusedVariables false
namespace Go.Proofs.YtbejhkojdiadaaaGreat
open Go.RowKit PlainPm
/-- The value is the chain of the group that a list generates. -/
def GrV {n : Nat} (w : World) (v : Value) (L : List (Pm n)) : Prop :=
  ∃ T a c b d, Of (Grp (· ∈ L)) T ∧ v = .agg #[.int .i64 (n : Int), .slice a n c, .slice b n d] ∧ Rows w a (orbI T n) ∧ Rows2 w b (repI T n) ∧ CapR w a n ∧ CapR w b n
theorem CapR.below {w w' : World} {a : Option Addr} {l : Nat} (h : CapR w a l) (hb : Below w.heap.size w w') (hr : ∀ i, i < l → ∃ b o, a = some ⟨b, o, none⟩ ∧ b < w.heap.size) : CapR w' a l := fun ad ea i hi x l' k hc => by
  obtain ⟨b, o, e, hlt⟩ := hr i hi
  rw [ea] at e; cases e
  refine h _ ea i hi x l' k ?_
  rw [add_zero_addr] at hc ⊢
  rw [← hc]; exact (hb.cell (p := ⟨b, o + i, none⟩) hlt).symm
section
variable {n : Nat} {w w' : World} {v : Value} {L : List (Pm n)}
theorem GrV.below (h : GrV w v L) (hb : Below w.heap.size w w') : GrV w' v L := by
  obtain ⟨T, a, c, b, d, h1, h2, h3, h4, h5, h6⟩ := h
  refine ⟨T, a, c, b, d, h1, h2, h3.below hb, h4.below hb, h5.below hb (fun i hi => ?_), h6.below hb (fun i hi => ?_)⟩
  · obtain ⟨g, o, _, _, e, hg, _⟩ := h3.at_ (k := i) (by simp [orbI]; exact hi)
    exact ⟨g, o, e, hg⟩
  · obtain ⟨g, o, _, _, e, hg, _⟩ := h4.at_ (k := i) (by simp [repI]; exact hi)
    exact ⟨g, o, e, hg⟩
theorem GrV.form (h : GrV w v L) : ∃ a c b d, v = .agg #[.int .i64 (n : Int), .slice a n c, .slice b n d] := by
  obtain ⟨T, a, c, b, d, _, h2, _⟩ := h
  exact ⟨a, c, b, d, h2⟩
theorem GrV.ch (h : GrV w v L) : ∃ T, Of (Grp (· ∈ L)) T ∧ ChV w v n (orbI T n) (repI T n) ∧ CapV w v := by
  obtain ⟨T, a, c, b, d, h1, rfl, h3, h4, h5, h6⟩ := h
  refine ⟨T, h1, ⟨a, c, b, d, by simp [orbI, repI], h3, h4⟩, fun d' a' lo c' b' lr e' he => ?_⟩
  simp only [Value.agg.injEq, Array.mk.injEq, List.cons.injEq, Value.int.injEq, Value.slice.injEq, and_true, true_and] at he
  obtain ⟨_, ⟨rfl, rfl, rfl⟩, rfl, rfl, rfl⟩ := he
  exact ⟨h5, h6⟩
/-- .. with a tower of one's own. -/
theorem GrV.chT (h : GrV w v L) {T : Tw n} (hT : Of (Grp (· ∈ L)) T) : ChV w v n (orbI T n) (repI T n) ∧ CapV w v := by
  obtain ⟨T', h1, h2, h3⟩ := h.ch
  obtain ⟨e1, e2⟩ := of_same_I Grp.isG h1 hT
  rw [e1, e2] at h2
  exact ⟨h2, h3⟩
end
theorem gr96 {n : Nat} (hn : 0 < n ∧ n ≤ 64) {w : World} {v : Value} {L : List (Pm n)} (hl : L.length ≤ 4096) (hv : PmsV w [] v L) :
    Calls Tryz.prog 96 #[.int .i64 (n : Int), v] w fun e w' => ∃ a c b d, e = .returned (.tuple #[.agg #[.int .i64 (n : Int), .slice a n c, .slice b n d], .int .i64 0]) ∧ Below w.heap.size w w' ∧
      ∀ W', w'.heap.size ≤ W'.heap.size → (∀ k, w.heap.size ≤ k → k < w'.heap.size → W'.heap[k]? = w'.heap[k]?) → GrV W' (.agg #[.int .i64 (n : Int), .slice a n c, .slice b n d]) L :=
  (make96c hn hl hv).mono fun _ _ ⟨T, a, c0, b, d, h1, h2, h3, h4⟩ => ⟨a, c0, b, d, h2, h3, fun W' k1 k2 => by
    obtain ⟨k3, k4, k5, k6⟩ := h4 W' k1 k2
    exact ⟨T, a, c0, b, d, h1, rfl, k3, k4, k5, k6⟩⟩
/-- A permutation in a block that has just been made. -/
theorem lit_pm {n : Nat} {w : World} {X : Nat} (hX : w.heap.size = X) {x : Pm n} {cx : Array Value} (hcx : (ints x.l).toArray = cx) : PmV (w.alloc (.cells cx 3)) [] (.slice (some ⟨X, 0, none⟩) n n) x := by
  subst hX
  subst hcx
  have hh := World.alloc_heap_new w (.cells (ints x.l).toArray 3)
  refine ⟨_, 0, n, rfl, by simp, by simp, fun i hi => ?_⟩
  simp only [World.cell?, hh]
  have := ints_get (xs := x.l) (k := i) (by rw [x.ok.1]; exact hi)
  rw [x.get hi] at this
  simp [this]
theorem PmV.al {n : Nat} {w : World} {v : Value} {x : Pm n} (h : PmV w [] v x) (o : Obj) : PmV (w.alloc o) [] v x := h.below (alloc_b (Below.refl _ _) _)
theorem lit_row {w : World} {X m : Nat} (hX : w.heap.size = X) {us : List Value} (hm : us.length = m) (hl : m ≤ 1000) : Row (w.alloc (.cells us.toArray 27)) (some ⟨X, 0, none⟩) us := by
  subst hX
  have hh := World.alloc_heap_new w (.cells us.toArray 27)
  refine ⟨by unfold maxLen; omega, fun i u hu => ⟨_, 0, rfl, by simp, ?_⟩⟩
  simp only [World.cell?, hh]
  simp [hu]
theorem lit_pms2 {n : Nat} {w : World} {X : Nat} (hX : w.heap.size = X) {x y : Pm n} {cx cy : Array Value} (hcx : (ints x.l).toArray = cx) (hcy : (ints y.l).toArray = cy) :
    PmsV (((w.alloc (.cells cx 3)).alloc (.cells cy 3)).alloc (.cells #[.slice (some ⟨X, 0, none⟩) n n, .slice (some ⟨X + 1, 0, none⟩) n n] 27)) [] (.slice (some ⟨X + 1 + 1, 0, none⟩) 2 2) [x, y] := by
  have h1 := ((lit_pm hX hcx).al (.cells cy 3)).al (.cells #[.slice (some ⟨X, 0, none⟩) n n, .slice (some ⟨X + 1, 0, none⟩) n n] 27)
  have h2 := (lit_pm (w := w.alloc (.cells cx 3)) (X := X + 1) (by simp; omega) hcy).al (.cells #[.slice (some ⟨X, 0, none⟩) n n, .slice (some ⟨X + 1, 0, none⟩) n n] 27)
  refine ⟨_, 2, [.slice (some ⟨X, 0, none⟩) n n, .slice (some ⟨X + 1, 0, none⟩) n n], rfl, lit_row (m := 2) (by simp; omega) rfl (by omega), rfl, fun k s hs => ?_⟩
  match k, hs with
  | 0, hs => simp at hs; subst hs; exact ⟨_, rfl, h1⟩
  | 1, hs => simp at hs; subst hs; exact ⟨_, rfl, h2⟩
  | k + 2, hs => simp at hs
theorem lit_pms1 {n : Nat} {w : World} {X : Nat} (hX : w.heap.size = X) {x : Pm n} {cx : Array Value} (hcx : (ints x.l).toArray = cx) :
    PmsV ((w.alloc (.cells cx 3)).alloc (.cells #[.slice (some ⟨X, 0, none⟩) n n] 27)) [] (.slice (some ⟨X + 1, 0, none⟩) 1 1) [x] := by
  have h1 := (lit_pm hX hcx).al (.cells #[.slice (some ⟨X, 0, none⟩) n n] 27)
  refine ⟨_, 1, [.slice (some ⟨X, 0, none⟩) n n], rfl, lit_row (m := 1) (by simp; omega) rfl (by omega), rfl, fun k s hs => ?_⟩
  match k, hs with
  | 0, hs => simp at hs; subst hs; exact ⟨_, rfl, h1⟩
  | k + 1, hs => simp at hs
theorem lit_ints {n : Nat} {l : List Int} (h : IsPm n l) {cx : Array Value} (hc : (ints l).toArray = cx) : (ints (litP n l).l).toArray = cx := by rw [litP_l h]; exact hc
theorem kept_drew {w w' : World} {S : List Nat} (h : Kept w w' S) : Kept w w'.drew S := ⟨h.os, h.tape, h.output, h.size, h.block⟩
/-- The three cells of a chain stored. -/
def set3 (w : World) (C : Nat) (u0 u1 u2 : Value) : World := ((w.setCell ⟨C, 0, none⟩ u0).setCell ⟨C, 1, none⟩ u1).setCell ⟨C, 2, none⟩ u2
theorem set3_size (w : World) (C : Nat) (u0 u1 u2 : Value) : (set3 w C u0 u1 u2).heap.size = w.heap.size := by simp [set3, World.setCell]
theorem set3_other {w : World} {C k : Nat} {u0 u1 u2 : Value} (h : k ≠ C) : (set3 w C u0 u1 u2).heap[k]? = w.heap[k]? := by
  unfold set3
  rw [Below.heap_setCell _ _ _ _ h, Below.heap_setCell _ _ _ _ h, Below.heap_setCell _ _ _ _ h]
theorem set3_box {w : World} {C : Nat} {a0 a1 a2 u0 u1 u2 : Value} (h : w.heap[C]? = some (.cells #[a0, a1, a2] 25)) : (set3 w C u0 u1 u2).heap[C]? = some (.cells #[u0, u1, u2] 25) := box_set2 (box_set1 (box_set0 h))
theorem set3_kept {w : World} {C : Nat} {u0 u1 u2 : Value} {S : List Nat} (h : C ∈ S) : Kept w (set3 w C u0 u1 u2) S :=
  Kept.ofGrown (((grown_put 0 u0).trans (grown_put 1 u1)).trans (grown_put 2 u2)) (fun k e => by cases e; exact h)
set_option maxRecDepth 100000 in
set_option maxHeartbeats 4000000 in
theorem groups52 {w : World} : Calls Tryz.prog 52 #[] w fun e w' => ∃ v1 v2 v3, e = .returned (.tuple #[v1, v2, v3]) ∧ GrV w' v1 gS4 ∧ GrV w' v2 gV4 ∧ GrV w' v3 gZ2 ∧ Below w.heap.size w w' := by
  obtain ⟨X, hX⟩ : ∃ X, w.heap.size = X := ⟨_, rfl⟩
  obtain ⟨W0, hW0⟩ : ∃ W0, (((w.alloc (.cells #[.int .i64 0, .slice none 0 0, .slice none 0 0] 25)).alloc (.cells #[.int .i64 0, .slice none 0 0, .slice none 0 0] 25)).alloc (.cells #[.int .i64 0, .slice none 0 0, .slice none 0 0] 25)) = W0 := ⟨_, rfl⟩
  have hs0 : W0.heap.size = X + 1 + 1 + 1 := by rw [← hW0]; simp; omega
  have hb0 : Below w.heap.size w W0 := by rw [← hW0]; exact alloc_b (alloc_b (alloc_b (Below.refl _ _) _) _) _
  have z0 : W0.heap[X]? = some (.cells #[.int .i64 0, .slice none 0 0, .slice none 0 0] 25) := by
    have := World.alloc_heap_new w (.cells #[.int .i64 0, .slice none 0 0, .slice none 0 0] 25)
    rw [hX] at this
    rw [← hW0, Below.heap_alloc _ _ _ (by simp; omega), Below.heap_alloc _ _ _ (by simp; omega)]; exact this
  have z1 : W0.heap[X + 1]? = some (.cells #[.int .i64 0, .slice none 0 0, .slice none 0 0] 25) := by
    have := World.alloc_heap_new (w.alloc (.cells #[.int .i64 0, .slice none 0 0, .slice none 0 0] 25)) (.cells #[.int .i64 0, .slice none 0 0, .slice none 0 0] 25)
    rw [show (w.alloc (.cells #[.int .i64 0, .slice none 0 0, .slice none 0 0] 25)).heap.size = X + 1 by simp; omega] at this
    rw [← hW0, Below.heap_alloc _ _ _ (by simp; omega)]; exact this
  have z2 : W0.heap[X + 1 + 1]? = some (.cells #[.int .i64 0, .slice none 0 0, .slice none 0 0] 25) := by
    have := World.alloc_heap_new ((w.alloc (.cells #[.int .i64 0, .slice none 0 0, .slice none 0 0] 25)).alloc (.cells #[.int .i64 0, .slice none 0 0, .slice none 0 0] 25)) (.cells #[.int .i64 0, .slice none 0 0, .slice none 0 0] 25)
    rw [show ((w.alloc (.cells #[.int .i64 0, .slice none 0 0, .slice none 0 0] 25)).alloc (.cells #[.int .i64 0, .slice none 0 0, .slice none 0 0] 25)).heap.size = X + 1 + 1 by simp; omega] at this
    rw [← hW0]; exact this
  have c0 : Calls Tryz.prog 96 #[.int .i64 4, .slice (some ⟨X + 1 + 1 + 1 + 1 + 1, 0, none⟩) 2 2] (((W0.alloc (.cells #[.int .i64 1, .int .i64 2, .int .i64 3, .int .i64 0] 3)).alloc (.cells #[.int .i64 1, .int .i64 0, .int .i64 2, .int .i64 3] 3)).alloc (.cells #[.slice (some ⟨X + 1 + 1 + 1, 0, none⟩) 4 4, .slice (some ⟨X + 1 + 1 + 1 + 1, 0, none⟩) 4 4] 27)) _ := gr96 (n := 4) (L := gS4) (by omega) (by decide) (lit_pms2 hs0 (lit_ints (by decide) rfl) (lit_ints (by decide) rfl))
  have HZ := Lib.hid (And.intro hs0 hb0)
  have HC0 := Lib.hid c0
  have HB0 := Lib.hid (And.intro z0 (And.intro z1 z2))
  clear hb0 c0 z0 z1 z2
  go_enter Tryz.func52, Tryz.ntmps52
  go_wp2_with (first
    | (go_at_call 96; (try rw [hW0]); refine HC2.out.mono ?_; rintro e1 w3 ⟨a3, c3, b3, d3, rfl, k1, k2⟩; have k0 : Below V2.heap.size V2 w3 := below_trans (alloc_b (alloc_b (Below.refl _ _) _) _) k1; have hge : X + 1 + 1 + 1 ≤ V2.heap.size := H2.out.1; have y0 := (k0.block (X) (by omega)).trans HB2.out.1; have y1 := (k0.block (X + 1) (by omega)).trans HB2.out.2.1; have y2 := (k0.block (X + 1 + 1) (by omega)).trans HB2.out.2.2; obtain ⟨i0, i1, i2, i3, i4, i5⟩ := box_cells y2; obtain ⟨V3, hV3⟩ : ∃ V, set3 w3 (X + 1 + 1) (.int .i64 4) (.slice a3 4 c3) (.slice b3 4 d3) = V := ⟨_, rfl⟩; have hsz : V3.heap.size = w3.heap.size := (congrArg (fun q : World => q.heap.size) hV3).symm.trans (set3_size _ _ _ _ _); have hkk : Kept V2 V3 [X, X + 1, X + 1 + 1] := (Kept.ofBelow k0).trans (hV3 ▸ set3_kept (by simp)); have x0 : V3.heap[X]? = _ := hV3 ▸ (set3_other (by omega)).trans y0; have x1 : V3.heap[X + 1]? = _ := hV3 ▸ (set3_other (by omega)).trans y1; have x2 : V3.heap[X + 1 + 1]? = _ := hV3 ▸ set3_box y2; have hG : ∀ W', Kept V3 W' [X, X + 1, X + 1 + 1] → GrV W' (.agg #[.int .i64 4, .slice a3 4 c3, .slice b3 4 d3]) gZ2 := fun W' hk => k2 W' (by have := hk.size; omega) (fun q h1 h2 => (hk.block q (by omega) (by simp at h1 ⊢; omega)).trans (hV3 ▸ set3_other (by simp at h1; omega))); have HB3 := Lib.hid (And.intro x0 (And.intro x1 x2)); have H3 := Lib.hid (And.intro (show X + 1 + 1 + 1 ≤ V3.heap.size by have := hkk.size; omega) (And.intro hkk hG)); unfold set3 at hV3; clear k0 k1 k2 hkk hG hge x0 x1 x2 y0 y1 y2)
    | (go_at_call 96; (try rw [hW0]); refine HC1.out.mono ?_; rintro e1 w2 ⟨a2, c2, b2, d2, rfl, k1, k2⟩; have k0 : Below V1.heap.size V1 w2 := below_trans (alloc_b (alloc_b (alloc_b (Below.refl _ _) _) _) _) k1; have hge : X + 1 + 1 + 1 ≤ V1.heap.size := H1.out.1; have y0 := (k0.block (X) (by omega)).trans HB1.out.1; have y1 := (k0.block (X + 1) (by omega)).trans HB1.out.2.1; have y2 := (k0.block (X + 1 + 1) (by omega)).trans HB1.out.2.2; obtain ⟨i0, i1, i2, i3, i4, i5⟩ := box_cells y1; obtain ⟨V2, hV2⟩ : ∃ V, set3 w2 (X + 1) (.int .i64 4) (.slice a2 4 c2) (.slice b2 4 d2) = V := ⟨_, rfl⟩; have hsz : V2.heap.size = w2.heap.size := (congrArg (fun q : World => q.heap.size) hV2).symm.trans (set3_size _ _ _ _ _); have hkk : Kept V1 V2 [X, X + 1, X + 1 + 1] := (Kept.ofBelow k0).trans (hV2 ▸ set3_kept (by simp)); have x0 : V2.heap[X]? = _ := hV2 ▸ (set3_other (by omega)).trans y0; have x1 : V2.heap[X + 1]? = _ := hV2 ▸ set3_box y1; have x2 : V2.heap[X + 1 + 1]? = _ := hV2 ▸ (set3_other (by omega)).trans y2; have hG : ∀ W', Kept V2 W' [X, X + 1, X + 1 + 1] → GrV W' (.agg #[.int .i64 4, .slice a2 4 c2, .slice b2 4 d2]) gV4 := fun W' hk => k2 W' (by have := hk.size; omega) (fun q h1 h2 => (hk.block q (by omega) (by simp at h1 ⊢; omega)).trans (hV2 ▸ set3_other (by simp at h1; omega))); have HB2 := Lib.hid (And.intro x0 (And.intro x1 x2)); have H2 := Lib.hid (And.intro (show X + 1 + 1 + 1 ≤ V2.heap.size by have := hkk.size; omega) (And.intro hkk hG)); have c2 : Calls Tryz.prog 96 #[.int .i64 4, .slice (some ⟨w2.heap.size + 1, 0, none⟩) 1 1] ((V2.alloc (.cells #[.int .i64 0, .int .i64 1, .int .i64 3, .int .i64 2] 3)).alloc (.cells #[.slice (some ⟨w2.heap.size, 0, none⟩) 4 4] 27)) _ := gr96 (n := 4) (L := gZ2) (by omega) (by decide) (lit_pms1 hsz (lit_ints (by decide) rfl)); have HC2 := Lib.hid c2; clear c2; unfold set3 at hV2; clear k0 k1 k2 hkk hG hge x0 x1 x2 y0 y1 y2)
    | (go_at_call 96; (try rw [hW0]); refine HC0.out.mono ?_; rintro e1 w1 ⟨a1, c1, b1, d1, rfl, k1, k2⟩; have k0 : Below W0.heap.size W0 w1 := below_trans (alloc_b (alloc_b (alloc_b (Below.refl _ _) _) _) _) k1; have hge : X + 1 + 1 + 1 ≤ W0.heap.size := Nat.le_of_eq HZ.out.1.symm; have y0 := (k0.block (X) (by omega)).trans HB0.out.1; have y1 := (k0.block (X + 1) (by omega)).trans HB0.out.2.1; have y2 := (k0.block (X + 1 + 1) (by omega)).trans HB0.out.2.2; obtain ⟨i0, i1, i2, i3, i4, i5⟩ := box_cells y0; obtain ⟨V1, hV1⟩ : ∃ V, set3 w1 (X) (.int .i64 4) (.slice a1 4 c1) (.slice b1 4 d1) = V := ⟨_, rfl⟩; have hsz : V1.heap.size = w1.heap.size := (congrArg (fun q : World => q.heap.size) hV1).symm.trans (set3_size _ _ _ _ _); have hkk : Kept W0 V1 [X, X + 1, X + 1 + 1] := (Kept.ofBelow k0).trans (hV1 ▸ set3_kept (by simp)); have x0 : V1.heap[X]? = _ := hV1 ▸ set3_box y0; have x1 : V1.heap[X + 1]? = _ := hV1 ▸ (set3_other (by omega)).trans y1; have x2 : V1.heap[X + 1 + 1]? = _ := hV1 ▸ (set3_other (by omega)).trans y2; have hG : ∀ W', Kept V1 W' [X, X + 1, X + 1 + 1] → GrV W' (.agg #[.int .i64 4, .slice a1 4 c1, .slice b1 4 d1]) gS4 := fun W' hk => k2 W' (by have := hk.size; omega) (fun q h1 h2 => (hk.block q (by omega) (by simp at h1 ⊢; omega)).trans (hV1 ▸ set3_other (by simp at h1; omega))); have HB1 := Lib.hid (And.intro x0 (And.intro x1 x2)); have H1 := Lib.hid (And.intro (show X + 1 + 1 + 1 ≤ V1.heap.size by have := hkk.size; omega) (And.intro hkk hG)); have c1 : Calls Tryz.prog 96 #[.int .i64 4, .slice (some ⟨w1.heap.size + 1 + 1, 0, none⟩) 2 2] (((V1.alloc (.cells #[.int .i64 1, .int .i64 0, .int .i64 3, .int .i64 2] 3)).alloc (.cells #[.int .i64 2, .int .i64 3, .int .i64 0, .int .i64 1] 3)).alloc (.cells #[.slice (some ⟨w1.heap.size, 0, none⟩) 4 4, .slice (some ⟨w1.heap.size + 1, 0, none⟩) 4 4] 27)) _ := gr96 (n := 4) (L := gV4) (by omega) (by decide) (lit_pms2 hsz (lit_ints (by decide) rfl) (lit_ints (by decide) rfl)); have HC1 := Lib.hid c1; clear c1; unfold set3 at hV1; clear k0 k1 k2 hkk hG hge x0 x1 x2 y0 y1 y2))
  obtain ⟨p00, p01, p02, p03, p04, p05⟩ := box_cells HB3.out.1
  obtain ⟨p10, p11, p12, p13, p14, p15⟩ := box_cells HB3.out.2.1
  obtain ⟨p20, p21, p22, p23, p24, p25⟩ := box_cells HB3.out.2.2
  clear hV1 hV2 hV3 hW0
  go_region
  obtain ⟨WF, hWF⟩ : ∃ WF, WF = (set3 (set3 (set3 V3 (X) (.int .i64 4) (.slice a1 4 c1) (.slice b1 4 d1)) (X + 1) (.int .i64 4) (.slice a2 4 c2) (.slice b2 4 d2)) (X + 1 + 1) (.int .i64 4) (.slice a3 4 c3) (.slice b3 4 d3)) := ⟨_, rfl⟩
  have hkF : Kept V3 WF [X, X + 1, X + 1 + 1] := by rw [hWF]; exact (((Kept.refl _ _).trans (set3_kept (by simp))).trans (set3_kept (by simp))).trans (set3_kept (by simp))
  have x0 : WF.heap[X]? = some (.cells #[.int .i64 4, .slice a1 4 c1, .slice b1 4 d1] 25) := by rw [hWF]; exact (set3_other (by omega)).trans ((set3_other (by omega)).trans (set3_box (HB3.out.1)))
  have x1 : WF.heap[X + 1]? = some (.cells #[.int .i64 4, .slice a2 4 c2, .slice b2 4 d2] 25) := by rw [hWF]; exact (set3_other (by omega)).trans (set3_box ((set3_other (by omega)).trans (HB3.out.2.1)))
  have x2 : WF.heap[X + 1 + 1]? = some (.cells #[.int .i64 4, .slice a3 4 c3, .slice b3 4 d3] 25) := by rw [hWF]; exact set3_box ((set3_other (by omega)).trans ((set3_other (by omega)).trans (HB3.out.2.2)))
  obtain ⟨f00, f01, f02, _, _, _⟩ := box_cells x0
  obtain ⟨f10, f11, f12, _, _, _⟩ := box_cells x1
  obtain ⟨f20, f21, f22, _, _, _⟩ := box_cells x2
  unfold set3 at hWF
  rw [← hWF]
  clear hWF p00 p01 p02 p03 p04 p05 p10 p11 p12 p13 p14 p15 p20 p21 p22 p23 p24 p25
  have HX := Lib.hid hkF
  clear hkF x0 x1 x2
  go_wp2_with fail
  refine bodyPost_ret (v := .tuple #[.agg #[.int .i64 4, .slice a1 4 c1, .slice b1 4 d1], .agg #[.int .i64 4, .slice a2 4 c2, .slice b2 4 d2], .agg #[.int .i64 4, .slice a3 4 c3, .slice b3 4 d3]]) (by simp [results, Tryz.results52, go_sem, f00, f01, f02, f10, f11, f12, f20, f21, f22]) rfl ?_
  have hbF : Below X w WF := by rw [← hX]; exact HZ.out.2.trans ((H1.out.2.1.trans (H2.out.2.1.trans (H3.out.2.1.trans (HX.out)))).below (by rw [HZ.out.1, ← hX]; omega) (by rw [← hX]; simp; omega))
  exact ⟨_, _, _, rfl, H1.out.2.2 WF.drew (kept_drew (H2.out.2.1.trans (H3.out.2.1.trans (HX.out)))), H2.out.2.2 WF.drew (kept_drew (H3.out.2.1.trans (HX.out))), H3.out.2.2 WF.drew (kept_drew (HX.out)), below_drew (by rw [hX]; exact hbF)⟩
end Go.Proofs.YtbejhkojdiadaaaGreat
