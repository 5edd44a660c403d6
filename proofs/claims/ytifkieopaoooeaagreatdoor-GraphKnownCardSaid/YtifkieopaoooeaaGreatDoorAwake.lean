/- Literal rows; path; awake answers true. -/
import Derived.Test.YtifkieopaoooeaaGreatDoorParseP
import Derived.Test.YtifkieopaoooeaaGreatDoorTextP
import Derived.Test.YtifkieopaoooeaaGreatDoorRefP
import Derived.Test.YtifkieopaoooeaaGreatDoorSame
set_option linter.unusedSimpArgs false
set_option linter.unusedVariables false
namespace Go.Proofs.YtifkieopaoooeaaGreatDoor
open Go.RowKit Plain PlainG
/-- A row that is written out. -/
theorem lit_row (w : World) (xs : List Int) (h : xs.length ≤ 1000) : IsInts (w.alloc (.cells (ints xs).toArray 3)) (.slice (some ⟨w.heap.size, 0, none⟩) xs.length xs.length) xs := by
  have h1 := Own.new (w := w) (B := 0) 3 (ints xs) (Nat.zero_le _) (by rw [ints_len]; unfold maxLen; omega)
  have h2 := h1.ints (by unfold maxLen; omega)
  rw [ints_len] at h2
  exact h2
theorem IsInts.alloc {w : World} {v : Value} {xs : List Int} (h : IsInts w v xs) (o : Obj) : IsInts (w.alloc o) v xs := h.below ((Below.refl _ _).alloc (Nat.le_refl _) _)
theorem lit_rows (w : World) (vs : List Value) (xss : List (List Int)) (hl : vs.length = xss.length) (hm : vs.length ≤ 1000) (h : ∀ (i : Nat) u xs, vs[i]? = some u → xss[i]? = some xs → IsInts w u xs) :
    Rows (w.alloc (.cells vs.toArray 23)) (some ⟨w.heap.size, 0, none⟩) xss := by
  have h1 := Own.new (w := w) (B := 0) 23 vs (Nat.zero_le _) (by unfold maxLen; omega)
  obtain ⟨a, c, e, hr⟩ := h1.row (by unfold maxLen; omega)
  cases e
  exact ⟨vs, hr, hl, fun i u xs hu hx => (h i u xs hu hx).alloc _⟩
abbrev rowObj (x : List Int) : Obj := .cells (ints x).toArray 3
abbrev rowVal (g : Nat) (x : List Int) : Value := .slice (some ⟨g, 0, none⟩) x.length x.length
theorem lit1 (w : World) (x : List Int) (hx : x.length ≤ 1000) : Rows ((w.alloc (rowObj x)).alloc (.cells #[rowVal w.heap.size x] 23)) (some ⟨w.heap.size + 1, 0, none⟩) [x] := by
  have h1 := lit_row w x hx
  have h := lit_rows (w.alloc (rowObj x)) [rowVal w.heap.size x] [x] rfl (by simp) (fun i u xs hu hx => by
    match i, hu, hx with
    | 0, hu, hx => simp at hu hx; subst hu; subst hx; exact h1)
  simpa using h
theorem lit2 (w : World) (x y : List Int) (hx : x.length ≤ 1000) (hy : y.length ≤ 1000) :
    Rows (((w.alloc (rowObj x)).alloc (rowObj y)).alloc (.cells #[rowVal w.heap.size x, rowVal (w.heap.size + 1) y] 23)) (some ⟨w.heap.size + 2, 0, none⟩) [x, y] := by
  have h1 := (lit_row w x hx).alloc (rowObj y)
  have h2 := lit_row (w.alloc (rowObj x)) y hy
  have e1 : (w.alloc (rowObj x)).heap.size = w.heap.size + 1 := by simp
  rw [e1] at h2
  have h := lit_rows ((w.alloc (rowObj x)).alloc (rowObj y)) [rowVal w.heap.size x, rowVal (w.heap.size + 1) y] [x, y] rfl (by simp) (fun i u xs hu hx => by
    match i, hu, hx with
    | 0, hu, hx => simp at hu hx; subst hu; subst hx; exact h1
    | 1, hu, hx => simp at hu hx; subst hu; subst hx; exact h2)
  have e2 : ((w.alloc (rowObj x)).alloc (rowObj y)).heap.size = w.heap.size + 2 := by simp
  rw [e2] at h
  exact h
theorem lit3 (w : World) (x y z : List Int) (hx : x.length ≤ 1000) (hy : y.length ≤ 1000) (hz : z.length ≤ 1000) :
    Rows ((((w.alloc (rowObj x)).alloc (rowObj y)).alloc (rowObj z)).alloc (.cells #[rowVal w.heap.size x, rowVal (w.heap.size + 1) y, rowVal (w.heap.size + 2) z] 23)) (some ⟨w.heap.size + 3, 0, none⟩) [x, y, z] := by
  have h1 := ((lit_row w x hx).alloc (rowObj y)).alloc (rowObj z)
  have h2 := (lit_row (w.alloc (rowObj x)) y hy).alloc (rowObj z)
  have h3 := lit_row ((w.alloc (rowObj x)).alloc (rowObj y)) z hz
  have e1 : (w.alloc (rowObj x)).heap.size = w.heap.size + 1 := by simp
  have e2 : ((w.alloc (rowObj x)).alloc (rowObj y)).heap.size = w.heap.size + 2 := by simp
  rw [e1] at h2
  rw [e2] at h3
  have h := lit_rows (((w.alloc (rowObj x)).alloc (rowObj y)).alloc (rowObj z)) [rowVal w.heap.size x, rowVal (w.heap.size + 1) y, rowVal (w.heap.size + 2) z] [x, y, z] rfl (by simp) (fun i u xs hu hx => by
    match i, hu, hx with
    | 0, hu, hx => simp at hu hx; subst hu; subst hx; exact h1
    | 1, hu, hx => simp at hu hx; subst hu; subst hx; exact h2
    | 2, hu, hx => simp at hu hx; subst hu; subst hx; exact h3)
  have e3 : (((w.alloc (rowObj x)).alloc (rowObj y)).alloc (rowObj z)).heap.size = w.heap.size + 3 := by simp
  rw [e3] at h
  exact h

theorem alloc_below {a w : World} (h : Below a.heap.size a w) (o : Obj) : Below a.heap.size a (w.alloc o) := h.alloc h.size o
theorem same_true (a b : Option Addr) (c d : Nat) (xs : List (List Int)) (w : World) (ha : Rows w a xs) (hb : Rows w b xs) :
    Calls Tryz.prog 34 #[.slice a xs.length c, .slice b xs.length d] w fun e w' => e = .returned (.bool true) ∧ Below w.heap.size w w' :=
  (sameCells_calls a b c d xs xs w ha hb).mono fun _ _ ⟨he, q, hw⟩ => ⟨by rw [he, decide_eq_true rfl], by rw [hw]; exact below_self_drewN _ _⟩
def pathG : Gr := ⟨3, [(0, 1), (1, 2)], [0, 0, 1]⟩
theorem OwnE.new {w : World} {B : Nat} (T : TypeId) (xs : List (Int × Int)) (hB : B ≤ w.heap.size) (hm : xs.length ≤ maxLen) :
    OwnE (w.alloc (.cells (ints (flat2 xs)).toArray T)) B T (.slice (some ⟨w.heap.size, 0, none⟩) xs.length xs.length) xs := by
  have := World.ownsRow_lit (base := B) (e := T) (size := 2) w (ints (flat2 xs)).toArray xs.length hB hm (by simp [ints, flat2_len])
  simpa [OwnE] using this
theorem path_chk : chkGr pathG = 0 := by decide
theorem path_text : sb (textR pathG) = ⟨#[51, 32, 48, 45, 49, 32, 49, 45, 50, 32, 58, 32, 48, 32, 48, 32, 49]⟩ := by
  have : textR pathG = [51, 32, 48, 45, 49, 32, 49, 45, 50, 32, 58, 32, 48, 32, 48, 32, 49] := by decide
  rw [this]; rfl
theorem path_refined : refinedA pathG = ([[0], [1], [2]], 0) := by
  unfold refinedA
  rw [if_pos path_chk]
  have h1 : (ofA pathG.cs).1 = [[0, 1], [2]] := by decide
  have h2 : matG pathG = [[0, 1, 0], [1, 0, 1], [0, 1, 0]] := by decide
  rw [h1, h2]
  have h : refineA ((3 : Nat) : Int) [[0, 1], [2]] [[0, 1, 0], [1, 0, 1], [0, 1, 0]] = (refineL 3 [[0, 1], [2]] [[0, 1, 0], [1, 0, 1], [0, 1, 0]], 0) := refineA_ok (n := 3) (by decide) ⟨rfl, by decide⟩
  exact h.trans (by decide)
theorem path_parse : parse (bytesOf ⟨#[51, 32, 49, 45, 48]⟩) = .error (3, 2) := by
  have : bytesOf ⟨#[51, 32, 49, 45, 48]⟩ = [51, 32, 49, 45, 48] := by decide
  rw [this]; rfl
set_option maxHeartbeats 1000000 in
theorem path_calls (w : World) : Calls Tryz.prog 48 #[] w fun e w' => ∃ a c b d, e = .returned (.agg #[.int .i64 3, .slice a 2 c, .slice b 3 d]) ∧ Edg w' a pathG.es ∧ Ints w' b pathG.cs ∧ Below w.heap.size w w' := by
  go_enter Tryz.func48, Tryz.ntmps48
  go_wp2
  have hE : OwnE (((w.alloc (.cells #[.int .i64 3, .slice (some ⟨w.heap.size + 1, 0, none⟩) 2 2, .slice (some ⟨w.heap.size + 1 + 1, 0, none⟩) 3 3] 25)).alloc (.cells #[.int .i64 0, .int .i64 1, .int .i64 1, .int .i64 2] 69)).alloc (.cells #[.int .i64 0, .int .i64 0, .int .i64 1] 3)) 0 69 (.slice (some ⟨w.heap.size + 1, 0, none⟩) 2 2) pathG.es := by
    have h := OwnE.new (w := w.alloc (.cells #[.int .i64 3, .slice (some ⟨w.heap.size + 1, 0, none⟩) 2 2, .slice (some ⟨w.heap.size + 1 + 1, 0, none⟩) 3 3] 25)) (B := 0) 69 pathG.es (Nat.zero_le _) (by unfold maxLen; decide)
    have e : (w.alloc (.cells #[.int .i64 3, .slice (some ⟨w.heap.size + 1, 0, none⟩) 2 2, .slice (some ⟨w.heap.size + 1 + 1, 0, none⟩) 3 3] 25)).heap.size = w.heap.size + 1 := by simp
    rw [e] at h
    exact h.alloc _
  have hI : Ints (((w.alloc (.cells #[.int .i64 3, .slice (some ⟨w.heap.size + 1, 0, none⟩) 2 2, .slice (some ⟨w.heap.size + 1 + 1, 0, none⟩) 3 3] 25)).alloc (.cells #[.int .i64 0, .int .i64 1, .int .i64 1, .int .i64 2] 69)).alloc (.cells #[.int .i64 0, .int .i64 0, .int .i64 1] 3)) (some ⟨w.heap.size + 1 + 1, 0, none⟩) pathG.cs := by
    obtain ⟨a, c, e, h⟩ := lit_row ((w.alloc (.cells #[.int .i64 3, .slice (some ⟨w.heap.size + 1, 0, none⟩) 2 2, .slice (some ⟨w.heap.size + 1 + 1, 0, none⟩) 3 3] 25)).alloc (.cells #[.int .i64 0, .int .i64 1, .int .i64 1, .int .i64 2] 69)) [0, 0, 1] (by simp)
    have e2 : ((w.alloc (.cells #[.int .i64 3, .slice (some ⟨w.heap.size + 1, 0, none⟩) 2 2, .slice (some ⟨w.heap.size + 1 + 1, 0, none⟩) 3 3] 25)).alloc (.cells #[.int .i64 0, .int .i64 1, .int .i64 1, .int .i64 2] 69)).heap.size = w.heap.size + 1 + 1 := by simp
    rw [e2] at e
    cases e
    exact h
  refine bodyPost_ret (v := .agg #[.int .i64 3, .slice (some ⟨w.heap.size + 1, 0, none⟩) 2 2, .slice (some ⟨w.heap.size + 1 + 1, 0, none⟩) 3 3]) (by simp [results, Tryz.results48, go_sem]) rfl ⟨_, _, _, _, rfl, hE.edg (by decide), hI, ?_⟩
  exact (((Below.refl _ w).alloc (Nat.le_refl _) _).alloc (by simp) _).alloc (by simp; omega) _
set_option maxRecDepth 100000 in
set_option maxHeartbeats 4000000 in
theorem awake_calls (w : World) : Calls Tryz.prog 11 #[] w fun e w' => e = .returned (.bool true) ∧ Below w.heap.size w w' := by
  have K48 := Lib.hid (fun w1 => path_calls w1)
  have K12 : ∀ (w1 : World) (a b : Option Addr) (c d : Nat), Edg w1 a pathG.es → Ints w1 b pathG.cs → Calls Tryz.prog 12 #[.agg #[.int .i64 3, .slice a 2 c, .slice b 3 d]] w1 fun e w' => e = .returned (.tuple #[.string ⟨#[51, 32, 48, 45, 49, 32, 49, 45, 50, 32, 58, 32, 48, 32, 48, 32, 49]⟩, .int .i64 0]) ∧ Below w1.heap.size w1 w' := by
    intro w1 a b c d h1 h2
    have := gtext_calls (g := pathG) (c := c) (d := d) h1 h2
    rw [path_text, path_chk] at this
    exact this
  have K41 : ∀ (w1 : World) (a b : Option Addr) (c d : Nat), Edg w1 a pathG.es → Ints w1 b pathG.cs → Calls Tryz.prog 41 #[.agg #[.int .i64 3, .slice a 2 c, .slice b 3 d]] w1 fun e w' => ∃ a c, e = .returned (.tuple #[.slice a 3 c, .int .i64 0]) ∧ Rows w' a [[0], [1], [2]] ∧ Below w1.heap.size w1 w' := by
    intro w1 a b c d h1 h2
    have := grefined_calls (g := pathG) (c := c) (d := d) h1 h2
    rw [path_refined] at this
    exact this
  have K14 : ∀ w1, Calls Tryz.prog 14 #[.string ⟨#[51, 32, 49, 45, 48]⟩] w1 fun e w' => e = .returned (.tuple #[.agg #[.int .i64 0, .slice none 0 0, .slice none 0 0], .agg #[.int .i64 3, .int .i64 2]]) ∧ Below w1.heap.size w1 w' := by
    intro w1
    have := gparse_calls ⟨#[51, 32, 49, 45, 48]⟩ w1 (by decide)
    rw [path_parse] at this
    exact this
  have K := Lib.hid (And.intro K12 (And.intro K41 K14))
  clear K12 K41 K14
  go_enter Tryz.func11, Tryz.ntmps11
  go_wp2_with (go_at_call 48; refine (K48.out _).mono ?_; rintro e w1 ⟨a1, c1, b1, d1, rfl, h1, h2, h3⟩; have H1 := Lib.hid (And.intro h1 (And.intro h2 h3)); clear h1 h2 h3)
  go_wp2_with (go_at_call 12; refine (K.out.1 _ _ _ _ _ H1.out.1 H1.out.2.1).mono ?_; rintro e w2 ⟨rfl, h1⟩; have H2 := Lib.hid (H1.out.2.2.trans (h1.mono H1.out.2.2.size)); clear h1)
  go_wp2_with (go_at_call 48; refine (K48.out _).mono ?_; rintro e w3 ⟨a3, c3, b3, d3, rfl, h1, h2, h3⟩; have H3 := Lib.hid (And.intro h1 (And.intro h2 (H2.out.trans (h3.mono H2.out.size)))); clear h1 h2 h3)
  go_wp2_with (go_at_call 41; refine (K.out.2.1 _ _ _ _ _ H3.out.1 H3.out.2.1).mono ?_; rintro e w4 ⟨a4, c4, rfl, h1, h2⟩; have H4 := Lib.hid (And.intro h1 (H3.out.2.2.trans (h2.mono H3.out.2.2.size))); clear h1 h2)
  go_wp2_with (go_at_call 14; refine (K.out.2.2 _).mono ?_; rintro e w5 ⟨rfl, h1⟩; have H5 := Lib.hid (And.intro (H4.out.1.below h1) (H4.out.2.trans (h1.mono H4.out.2.size))); clear h1)
  obtain ⟨wa, hwa⟩ : ∃ wa, wa = (w5.alloc (.cells #[.int .i64 0, .slice none 0 0, .slice none 0 0] 25)).alloc (.cells #[.int .i64 3, .int .i64 2] 32) := ⟨_, rfl⟩
  have hba : Below w5.heap.size w5 wa := by rw [hwa]; exact alloc_below (alloc_below (Below.refl _ _) _) _
  have hlit := lit3 wa [0] [1] [2] (by simp) (by simp) (by simp)
  have hbl : Below wa.heap.size wa ((((wa.alloc (rowObj [0])).alloc (rowObj [1])).alloc (rowObj [2])).alloc (.cells #[rowVal wa.heap.size [0], rowVal (wa.heap.size + 1) [1], rowVal (wa.heap.size + 2) [2]] 23)) := alloc_below (alloc_below (alloc_below (alloc_below (Below.refl _ _) _) _) _) _
  have hsm := same_true a4 (some ⟨wa.heap.size + 3, 0, none⟩) c4 3 [[0], [1], [2]] _ ((H5.out.1.below hba).below hbl) hlit
  have hsa : wa.heap.size = w5.heap.size + 1 + 1 := by rw [hwa]; simp
  have f0 : wa.cell? ⟨w5.heap.size + 1, 0, none⟩ = some (.int .i64 3) := by rw [hwa]; simp
  have f1 : wa.cell? ⟨w5.heap.size + 1, 1, none⟩ = some (.int .i64 2) := by rw [hwa]; simp
  have hgo : ∀ w6, Below ((((wa.alloc (rowObj [0])).alloc (rowObj [1])).alloc (rowObj [2])).alloc (.cells #[rowVal wa.heap.size [0], rowVal (wa.heap.size + 1) [1], rowVal (wa.heap.size + 2) [2]] 23)).heap.size ((((wa.alloc (rowObj [0])).alloc (rowObj [1])).alloc (rowObj [2])).alloc (.cells #[rowVal wa.heap.size [0], rowVal (wa.heap.size + 1) [1], rowVal (wa.heap.size + 2) [2]] 23)) w6 → w6.cell? ⟨w5.heap.size + 1, 0, none⟩ = some (.int .i64 3) ∧ w6.cell? ⟨w5.heap.size + 1, 1, none⟩ = some (.int .i64 2) ∧ Below w.heap.size w w6 := by
    intro w6 h
    have h1 := hbl.trans (h.mono hbl.size)
    refine ⟨(h1.cell (p := ⟨w5.heap.size + 1, 0, none⟩) (by rw [hsa]; exact Nat.lt_succ_self _)).trans f0, (h1.cell (p := ⟨w5.heap.size + 1, 1, none⟩) (by rw [hsa]; exact Nat.lt_succ_self _)).trans f1, ?_⟩
    exact H5.out.2.trans ((hba.trans (h1.mono hba.size)).mono H5.out.2.size)
  rw [hsa] at hsm hgo
  subst hwa
  have HF := Lib.hid (And.intro hsm hgo)
  clear hsm hgo hbl hlit hba hsa f0 f1
  refine HF.out.1.mono ?_
  rintro e w6 ⟨rfl, hw6⟩
  obtain ⟨f0, f1, f2⟩ := HF.out.2 _ hw6
  have HL := Lib.hid f2
  clear f2 hw6 HF
  go_wp2
  go_ret
  exact ⟨rfl, HL.out⟩
end Go.Proofs.YtifkieopaoooeaaGreatDoor
