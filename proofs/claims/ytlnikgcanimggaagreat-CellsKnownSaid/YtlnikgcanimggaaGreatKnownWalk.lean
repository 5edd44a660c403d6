/- CellsKnown: the walk. -/
import Derived.Test.YtlnikgcanimggaaGreatAwake
import Derived.Test.YtlnikgcanimggaaGreatIs
import Derived.Test.YtlnikgcanimggaaGreatOrbits
import Derived.Test.YtlnikgcanimggaaGreatJoin
import Derived.Test.YtlnikgcanimggaaGreatTarget
import Derived.Test.YtlnikgcanimggaaGreatOfs
import Derived.Test.YtlnikgcanimggaaGreatFiner
set_option linter.unusedSimpArgs false
set_option linter.unusedVariables false
namespace Go.Proofs.YtlnikgcanimggaaGreat
open Go.RowKit Plain
theorem lit_rowsT (T : TypeId) (w : World) (vs : List Value) (xss : List (List Int)) (hl : vs.length = xss.length) (hm : vs.length ≤ 1000) (h : ∀ (i : Nat) u xs, vs[i]? = some u → xss[i]? = some xs → IsInts w u xs) :
    Rows (w.alloc (.cells vs.toArray T)) (some ⟨w.heap.size, 0, none⟩) xss := by
  have h1 := Own.new (w := w) (B := 0) T vs (Nat.zero_le _) (by unfold maxLen; omega)
  obtain ⟨a, c, e, hr⟩ := h1.row (by unfold maxLen; omega)
  cases e
  exact ⟨vs, hr, hl, fun i u xs hu hx => (h i u xs hu hx).alloc _⟩
theorem lit1T (T : TypeId) (w : World) (x : List Int) (hx : x.length ≤ 1000) : Rows ((w.alloc (rowObj x)).alloc (.cells #[rowVal w.heap.size x] T)) (some ⟨w.heap.size + 1, 0, none⟩) [x] := by
  have h1 := lit_row w x hx
  have h := lit_rowsT T (w.alloc (rowObj x)) [rowVal w.heap.size x] [x] rfl (by simp) (fun i u xs hu hx => by
    match i, hu, hx with
    | 0, hu, hx => simp at hu hx; subst hu; subst hx; exact h1)
  simpa using h
theorem lit2T (T : TypeId) (w : World) (x y : List Int) (hx : x.length ≤ 1000) (hy : y.length ≤ 1000) :
    Rows (((w.alloc (rowObj x)).alloc (rowObj y)).alloc (.cells #[rowVal w.heap.size x, rowVal (w.heap.size + 1) y] T)) (some ⟨w.heap.size + 2, 0, none⟩) [x, y] := by
  have h1 := (lit_row w x hx).alloc (rowObj y)
  have h2 := lit_row (w.alloc (rowObj x)) y hy
  have e1 : (w.alloc (rowObj x)).heap.size = w.heap.size + 1 := by simp
  rw [e1] at h2
  have h := lit_rowsT T ((w.alloc (rowObj x)).alloc (rowObj y)) [rowVal w.heap.size x, rowVal (w.heap.size + 1) y] [x, y] rfl (by simp) (fun i u xs hu hx => by
    match i, hu, hx with
    | 0, hu, hx => simp at hu hx; subst hu; subst hx; exact h1
    | 1, hu, hx => simp at hu hx; subst hu; subst hx; exact h2)
  have e2 : ((w.alloc (rowObj x)).alloc (rowObj y)).heap.size = w.heap.size + 2 := by simp
  rw [e2] at h
  exact h
theorem lit3T (T : TypeId) (w : World) (x y z : List Int) (hx : x.length ≤ 1000) (hy : y.length ≤ 1000) (hz : z.length ≤ 1000) :
    Rows ((((w.alloc (rowObj x)).alloc (rowObj y)).alloc (rowObj z)).alloc (.cells #[rowVal w.heap.size x, rowVal (w.heap.size + 1) y, rowVal (w.heap.size + 2) z] T)) (some ⟨w.heap.size + 3, 0, none⟩) [x, y, z] := by
  have h1 := ((lit_row w x hx).alloc (rowObj y)).alloc (rowObj z)
  have h2 := (lit_row (w.alloc (rowObj x)) y hy).alloc (rowObj z)
  have h3 := lit_row ((w.alloc (rowObj x)).alloc (rowObj y)) z hz
  have e1 : (w.alloc (rowObj x)).heap.size = w.heap.size + 1 := by simp
  have e2 : ((w.alloc (rowObj x)).alloc (rowObj y)).heap.size = w.heap.size + 2 := by simp
  rw [e1] at h2
  rw [e2] at h3
  have h := lit_rowsT T (((w.alloc (rowObj x)).alloc (rowObj y)).alloc (rowObj z)) [rowVal w.heap.size x, rowVal (w.heap.size + 1) y, rowVal (w.heap.size + 2) z] [x, y, z] rfl (by simp) (fun i u xs hu hx => by
    match i, hu, hx with
    | 0, hu, hx => simp at hu hx; subst hu; subst hx; exact h1
    | 1, hu, hx => simp at hu hx; subst hu; subst hx; exact h2
    | 2, hu, hx => simp at hu hx; subst hu; subst hx; exact h3)
  have e3 : (((w.alloc (rowObj x)).alloc (rowObj y)).alloc (rowObj z)).heap.size = w.heap.size + 3 := by simp
  rw [e3] at h
  exact h

theorem lit_ints (w : World) (x : List Int) (hx : x.length ≤ 1000) : Ints (w.alloc (rowObj x)) (some ⟨w.heap.size, 0, none⟩) x := by
  obtain ⟨a, c, e, h⟩ := lit_row w x hx
  cases e; exact h
theorem sameI_true (a b : Option Addr) (c d : Nat) (xs : List Int) (w : World) (ha : Ints w a xs) (hb : Ints w b xs) :
    Calls Tryz.prog 9 #[.slice a xs.length c, .slice b xs.length d] w fun e w' => e = .returned (.bool true) ∧ Below w.heap.size w w' :=
  (sameInts_calls a b c d xs xs w ha hb).mono fun _ _ ⟨he, q, hw⟩ => ⟨by rw [he, decide_eq_true rfl], by rw [hw]; exact below_self_drewN _ _⟩
theorem is_true (a b : Option Addr) (c d : Nat) (xs : List (List Int)) (w : World) (ha : Rows w a xs) (hb : Rows w b xs) :
    Calls Tryz.prog 10 #[.slice a xs.length c, .int .i64 0, .slice b xs.length d] w fun e w' => e = .returned (.bool true) ∧ Below w.heap.size w w' :=
  (is_calls a b c d xs xs 0 w ha hb).mono fun _ _ ⟨he, q, hw⟩ => ⟨by rw [he, decide_eq_true rfl, decide_eq_true rfl]; rfl, by rw [hw]; exact below_self_drewN _ _⟩
theorem Tryz.info37 : (Tryz.prog.info? 37).map (fun i => (i.zero, i.size, i.bytes)) = some (some (.slice none 0 0), 1, 24) := by kernel_rfl
theorem Tryz.underlying38 : Tryz.prog.underlying 38 = some (.slice 37) := by kernel_rfl
set_option maxRecDepth 100000 in
set_option maxHeartbeats 1000000 in
theorem orbLong (n : Nat) (hn : n ≤ 64) (a : Option Addr) (c L : Nat) (h : 16 < L) (hm : L ≤ 1000) (w : World) : Calls Tryz.prog 12 #[.int .i64 n, .slice a L c] w fun e w' => (∃ c, e = .returned (.tuple #[.slice none 0 c, .int .i64 4])) ∧ Below w.heap.size w w' := by
  have h2I : (16 : Int) < (L : Int) := by omega
  have h3 : (n : Int) ≤ 64 := by omega
  go_enter Tryz.func12, Tryz.ntmps12
  go_wp2
  go_ret2
  exact ⟨⟨0, rfl⟩, Below.refl _ _⟩
theorem Rows.take2 {w : World} {a : Option Addr} {l : List (List Int)} {x y : List Int} (h : Rows w a l) (e : l.take 2 = [x, y]) : Rows w a [x, y] := by
  obtain ⟨vs, hr, hl, hi⟩ := h
  rw [← e]
  refine ⟨vs.take 2, ⟨by have := hr.1; simp; omega, fun i u hu => ?_⟩, by simp [hl], fun i u xs hu hx => ?_⟩
  · rw [List.getElem?_take] at hu
    split at hu
    · exact hr.2 i u hu
    · cases hu
  · rw [List.getElem?_take] at hu hx
    split at hu
    · rename_i h2
      rw [if_pos h2] at hx
      exact hi i u xs hu hx
    · cases hu
theorem ex_refine2 : refineA 3 [[0, 1, 2]] [[0, 1, 0], [1, 0, 1]] = ([], 3) := by decide
theorem ex_of65 : ofA (List.replicate 65 0) = ([], 4) := by unfold ofA; rw [if_pos (by simp)]
theorem ex_join {P : List (List Nat)} (h : IsPart (fun x => [(uniL ([[0, 1], [2], [3]] ++ [[0], [1, 2], [3]]) ([[0, 1], [2], [3]] ++ [[0], [1, 2], [3]] : List (List Int)).length x : Int)]) (· < 4) P) : P.map (·.map Int.ofNat) = [[0, 1, 2], [3]] := by
  rw [part_is h]; decide
theorem srt_of {l r : List Int} (hp : l.Perm r) (hs : r.Pairwise fun a b => decide (a ≤ b) = true) : srtI l = r := by
  refine List.Perm.eq_of_pairwise (le := fun a b => decide (a ≤ b) = true) (fun a b _ _ h5 h6 => by simp at h5 h6; omega) ?_ hs ((List.mergeSort_perm l _).trans hp)
  exact List.pairwise_mergeSort (fun a b c h5 h6 => by simp at *; omega) (fun a b => by simp; omega) l
theorem ex_isP : isP [1, 0, 2, 4, 3] = true := decide_eq_true (srt_of (by decide) (by decide))
theorem ex_isP2 : ¬ isP [1, 1] = true := fun h => by
  have h1 := of_decide_eq_true h
  have h2 : ((List.range ([1, 1] : List Int).length).map Int.ofNat).Perm [1, 1] := by rw [← h1]; exact List.mergeSort_perm _ _
  revert h2
  decide
theorem ex_orb {P : List (List Nat)} {E : Int} (h : OrbSay 5 [[1, 0, 2, 4, 3]] P E) : E = 0 ∧ P.map (·.map Int.ofNat) = [[0, 1], [2], [3, 4]] := by
  rcases h with ⟨h1, h2, h3⟩ | ⟨h1, h2, h3⟩
  · exact ⟨h1, by rw [part_is h3]; decide⟩
  · exfalso; refine h3 fun g hg => ?_
    rw [List.mem_singleton.1 hg]
    exact ⟨ex_isP, rfl⟩
theorem ex_orb2 {P : List (List Nat)} {E : Int} (h : OrbSay 2 [[1, 1]] P E) : E = 3 ∧ P = [] := by
  rcases h with ⟨h1, h2, h3⟩ | ⟨h1, h2, h3⟩
  · exfalso
    exact ex_isP2 (h2 [1, 1] (by simp)).1
  · exact ⟨h1, h2⟩

set_option maxRecDepth 100000 in
set_option maxHeartbeats 4000000 in
theorem cellsKnown_calls (w0 : World) : Calls Tryz.prog 3 #[] w0 fun e w' => e = .returned (.bool true) ∧ Below w0.heap.size w0 w' := by
  obtain ⟨i3, hi3, hz3, hs3, hb3⟩ := info_parts Tryz.info3
  obtain ⟨i37, hi37, hz37, hs37, hb37⟩ := info_parts Tryz.info37
  have I3 := Lib.hid (And.intro hi3 (And.intro hz3 (And.intro hs3 hb3)))
  have I37 := Lib.hid (And.intro hi37 (And.intro hz37 (And.intro hs37 hb37)))
  clear hi3 hz3 hs3 hb3 hi37 hz37 hs37 hb37
  have HB0 := Lib.hid (Below.refl w0.heap.size w0)
  go_enter Tryz.func3, Tryz.ntmps3
  have hr := lit2T 24 w0 [0, 2] [1] (by simp) (by simp)
  have hb : Below w0.heap.size w0 (((w0.alloc (rowObj [0, 2])).alloc (rowObj [1])).alloc (.cells #[rowVal w0.heap.size [0, 2], rowVal (w0.heap.size + 1) [1]] 24)) := alloc_below (alloc_below (alloc_below (Below.refl _ _) _) _) _
  have hq := check_calls 3 (some ⟨w0.heap.size + 2, 0, none⟩) 2 [[0, 2], [1]] _ hr
  rw [show chk 3 [[0, 2], [1]] = 0 by decide] at hq
  have HS := Lib.hid (And.intro hq hb)
  clear hq hb hr
  go_wp2_with fail
  refine HS.out.1.mono ?_
  rintro e w1 ⟨rfl, hx⟩
  have hst : Below w0.heap.size w0 w1 := HS.out.2.trans (hx.mono HS.out.2.size)
  have HB1 := Lib.hid (HB0.out.trans (hst.mono HB0.out.size))
  clear hx hst HS HB0
  have hr := lit1T 24 w1 [0, 2] (by simp)
  have hb : Below w1.heap.size w1 ((w1.alloc (rowObj [0, 2])).alloc (.cells #[rowVal w1.heap.size [0, 2]] 24)) := alloc_below (alloc_below (Below.refl _ _) _) _
  have hq := check_calls 3 (some ⟨w1.heap.size + 1, 0, none⟩) 1 [[0, 2]] _ hr
  rw [show chk 3 [[0, 2]] = 18 by decide] at hq
  have HS := Lib.hid (And.intro hq hb)
  clear hq hb hr
  go_wp2_with fail
  refine HS.out.1.mono ?_
  rintro e w2 ⟨rfl, hx⟩
  have hst : Below w1.heap.size w1 w2 := HS.out.2.trans (hx.mono HS.out.2.size)
  have HB2 := Lib.hid (HB1.out.trans (hst.mono HB1.out.size))
  clear hx hst HS HB1
  have hr := lit2T 24 w2 [2, 0] [1] (by simp) (by simp)
  have hb : Below w2.heap.size w2 (((w2.alloc (rowObj [2, 0])).alloc (rowObj [1])).alloc (.cells #[rowVal w2.heap.size [2, 0], rowVal (w2.heap.size + 1) [1]] 24)) := alloc_below (alloc_below (alloc_below (Below.refl _ _) _) _) _
  have hq := check_calls 3 (some ⟨w2.heap.size + 2, 0, none⟩) 2 [[2, 0], [1]] _ hr
  rw [show chk 3 [[2, 0], [1]] = 9 by decide] at hq
  have HS := Lib.hid (And.intro hq hb)
  clear hq hb hr
  go_wp2_with fail
  refine HS.out.1.mono ?_
  rintro e w3 ⟨rfl, hx⟩
  have hst : Below w2.heap.size w2 w3 := HS.out.2.trans (hx.mono HS.out.2.size)
  have HB3 := Lib.hid (HB2.out.trans (hst.mono HB2.out.size))
  clear hx hst HS HB2
  have hr := lit2T 24 w3 [0] [0, 1] (by simp) (by simp)
  have hb : Below w3.heap.size w3 (((w3.alloc (rowObj [0])).alloc (rowObj [0, 1])).alloc (.cells #[rowVal w3.heap.size [0], rowVal (w3.heap.size + 1) [0, 1]] 24)) := alloc_below (alloc_below (alloc_below (Below.refl _ _) _) _) _
  have hq := check_calls 2 (some ⟨w3.heap.size + 2, 0, none⟩) 2 [[0], [0, 1]] _ hr
  rw [show chk 2 [[0], [0, 1]] = 8 by decide] at hq
  have HS := Lib.hid (And.intro hq hb)
  clear hq hb hr
  go_wp2_with fail
  refine HS.out.1.mono ?_
  rintro e w4 ⟨rfl, hx⟩
  have hst : Below w3.heap.size w3 w4 := HS.out.2.trans (hx.mono HS.out.2.size)
  have HB4 := Lib.hid (HB3.out.trans (hst.mono HB3.out.size))
  clear hx hst HS HB3
  have hq := check_calls 65 none 0 [] w4 (Rows.nil' _)
  rw [show chk 65 [] = 2 by decide] at hq
  have hb : Below w4.heap.size w4 w4 := Below.refl _ _
  have HS := Lib.hid (And.intro hq hb)
  clear hq hb
  go_wp2_with fail
  refine HS.out.1.mono ?_
  rintro e w5 ⟨rfl, hx⟩
  have hst : Below w4.heap.size w4 w5 := HS.out.2.trans (hx.mono HS.out.2.size)
  have HB5 := Lib.hid (HB4.out.trans (hst.mono HB4.out.size))
  clear hx hst HS HB4
  have hq := check_calls (-1) none 0 [] w5 (Rows.nil' _)
  rw [show chk (-1) [] = 2 by decide] at hq
  have hb : Below w5.heap.size w5 w5 := Below.refl _ _
  have HS := Lib.hid (And.intro hq hb)
  clear hq hb
  go_wp2_with fail
  refine HS.out.1.mono ?_
  rintro e w6 ⟨rfl, hx⟩
  have hst : Below w5.heap.size w5 w6 := HS.out.2.trans (hx.mono HS.out.2.size)
  have HB6 := Lib.hid (HB5.out.trans (hst.mono HB5.out.size))
  clear hx hst HS HB5
  have hq := check_calls 0 none 0 [] w6 (Rows.nil' _)
  rw [show chk 0 [] = 0 by decide] at hq
  have hb : Below w6.heap.size w6 w6 := Below.refl _ _
  have HS := Lib.hid (And.intro hq hb)
  clear hq hb
  go_wp2_with fail
  refine HS.out.1.mono ?_
  rintro e w7 ⟨rfl, hx⟩
  have hst : Below w6.heap.size w6 w7 := HS.out.2.trans (hx.mono HS.out.2.size)
  have HB7 := Lib.hid (HB6.out.trans (hst.mono HB6.out.size))
  clear hx hst HS HB6
  have hr := lit2T 24 w7 [0] [] (by simp) (by simp)
  have hb : Below w7.heap.size w7 (((w7.alloc (rowObj [0])).alloc (rowObj [])).alloc (.cells #[rowVal w7.heap.size [0], rowVal (w7.heap.size + 1) []] 24)) := alloc_below (alloc_below (alloc_below (Below.refl _ _) _) _) _
  have hq := check_calls 1 (some ⟨w7.heap.size + 2, 0, none⟩) 2 [[0], []] _ hr
  rw [show chk 1 [[0], []] = 3 by decide] at hq
  have HS := Lib.hid (And.intro hq hb)
  clear hq hb hr
  go_wp2_with fail
  refine HS.out.1.mono ?_
  rintro e w8 ⟨rfl, hx⟩
  have hst : Below w7.heap.size w7 w8 := HS.out.2.trans (hx.mono HS.out.2.size)
  have HB8 := Lib.hid (HB7.out.trans (hst.mono HB7.out.size))
  clear hx hst HS HB7
  have hr := lit1T 24 w8 [1] (by simp)
  have hb : Below w8.heap.size w8 ((w8.alloc (rowObj [1])).alloc (.cells #[rowVal w8.heap.size [1]] 24)) := alloc_below (alloc_below (Below.refl _ _) _) _
  have hq := check_calls 1 (some ⟨w8.heap.size + 1, 0, none⟩) 1 [[1]] _ hr
  rw [show chk 1 [[1]] = 2 by decide] at hq
  have HS := Lib.hid (And.intro hq hb)
  clear hq hb hr
  go_wp2_with fail
  refine HS.out.1.mono ?_
  rintro e w9 ⟨rfl, hx⟩
  have hst : Below w8.heap.size w8 w9 := HS.out.2.trans (hx.mono HS.out.2.size)
  have HB9 := Lib.hid (HB8.out.trans (hst.mono HB8.out.size))
  clear hx hst HS HB8
  have hr := lit2T 24 w9 [1] [0, 2] (by simp) (by simp)
  have hb : Below w9.heap.size w9 (((w9.alloc (rowObj [1])).alloc (rowObj [0, 2])).alloc (.cells #[rowVal w9.heap.size [1], rowVal (w9.heap.size + 1) [0, 2]] 24)) := alloc_below (alloc_below (alloc_below (Below.refl _ _) _) _) _
  have hq := labelsE_calls 3 (some ⟨w9.heap.size + 2, 0, none⟩) 2 [[1], [0, 2]]  _ hr
  rw [show labA 3 [[1], [0, 2]] = [1, 0, 1] by decide, show chk 3 [[1], [0, 2]] = 0 by decide] at hq
  have HS := Lib.hid (And.intro hq hb)
  clear hq hb hr
  go_wp2_with fail
  refine HS.out.1.mono ?_
  rintro e w10 ⟨al, cl, rfl, hi, hx⟩
  have hst : Below w9.heap.size w9 w10 := HS.out.2.trans (hx.mono HS.out.2.size)
  have HB10 := Lib.hid (HB9.out.trans (hst.mono HB9.out.size))
  have HL := Lib.hid hi
  clear hi
  clear hx hst HS HB9
  have hr := lit3T 24 w10 [0, 1] [2] [3] (by simp) (by simp) (by simp)
  obtain ⟨wa, hwa⟩ : ∃ wa, ((((w10.alloc (rowObj [0, 1])).alloc (rowObj [2])).alloc (rowObj [3])).alloc (.cells #[rowVal w10.heap.size [0, 1], rowVal (w10.heap.size + 1) [2], rowVal (w10.heap.size + 2) [3]] 24)) = wa := ⟨_, rfl⟩
  have hAb : Below w10.heap.size w10 wa := by rw [← hwa]; exact alloc_below (alloc_below (alloc_below (alloc_below (Below.refl _ _) _) _) _) _
  have hAs : wa.heap.size = w10.heap.size + 4 := by rw [← hwa]; simp
  rw [hwa] at hr
  have hr2 := lit3T 24 wa [0] [1, 2] [3] (by simp) (by simp) (by simp)
  have hBb : Below wa.heap.size wa ((((wa.alloc (rowObj [0])).alloc (rowObj [1, 2])).alloc (rowObj [3])).alloc (.cells #[rowVal wa.heap.size [0], rowVal (wa.heap.size + 1) [1, 2], rowVal (wa.heap.size + 2) [3]] 24)) := alloc_below (alloc_below (alloc_below (alloc_below (Below.refl _ _) _) _) _) _
  have hq := join_calls 4 (by omega) (some ⟨w10.heap.size + 3, 0, none⟩) (some ⟨wa.heap.size + 3, 0, none⟩) 3 3 [[0, 1], [2], [3]] [[0], [1, 2], [3]] _ (hr.below hBb) hr2 (by decide) (by decide)
  have hb : Below w10.heap.size w10 ((((wa.alloc (rowObj [0])).alloc (rowObj [1, 2])).alloc (rowObj [3])).alloc (.cells #[rowVal wa.heap.size [0], rowVal (wa.heap.size + 1) [1, 2], rowVal (wa.heap.size + 2) [3]] 24)) := hAb.trans (hBb.mono hAb.size)
  rw [hAs] at hq hb
  rw [← hwa] at hq hb
  clear hr hr2 hAb hBb hAs hwa
  have HS := Lib.hid (And.intro hq hb)
  clear hq hb
  go_wp2_with fail
  refine HS.out.1.mono ?_
  rintro e w11 ⟨aj, cj, P, rfl, hr9, hp9, hx⟩
  have hst : Below w10.heap.size w10 w11 := HS.out.2.trans (hx.mono HS.out.2.size)
  have HB11 := Lib.hid (HB10.out.trans (hst.mono HB10.out.size))
  have HL := Lib.hid (HL.out.below hst)
  rw [ex_join hp9] at hr9 ⊢
  have HJ := Lib.hid hr9
  clear hr9 hp9
  clear hx hst HS HB10
  have hr := lit2T 24 w11 [0, 1, 2] [3] (by simp) (by simp)
  obtain ⟨wa, hwa⟩ : ∃ wa, (((w11.alloc (rowObj [0, 1, 2])).alloc (rowObj [3])).alloc (.cells #[rowVal w11.heap.size [0, 1, 2], rowVal (w11.heap.size + 1) [3]] 24)) = wa := ⟨_, rfl⟩
  have hAb : Below w11.heap.size w11 wa := by rw [← hwa]; exact alloc_below (alloc_below (alloc_below (Below.refl _ _) _) _) _
  have hAs : wa.heap.size = w11.heap.size + 3 := by rw [← hwa]; simp
  rw [hwa] at hr
  have hr2 := lit_ints wa [3, 1] (by simp)
  have hBb : Below wa.heap.size wa (wa.alloc (rowObj [3, 1])) := alloc_below (Below.refl _ _) _
  have hq := split_calls 4 (some ⟨w11.heap.size + 2, 0, none⟩) (some ⟨wa.heap.size, 0, none⟩) 2 2 [[0, 1, 2], [3]] [3, 1] _ (hr.below hBb) hr2 
  rw [show splitA 4 [[0, 1, 2], [3]] [3, 1] = ([[1], [0, 2], [3]], 0) by decide] at hq
  dsimp only at hq
  have hb : Below w11.heap.size w11 (wa.alloc (rowObj [3, 1])) := hAb.trans (hBb.mono hAb.size)
  rw [hAs] at hq
  rw [← hwa] at hq hb
  clear hr hr2 hAb hBb hAs hwa
  have HS := Lib.hid (And.intro hq hb)
  clear hq hb
  go_wp2_with fail
  refine HS.out.1.mono ?_
  rintro e w12 ⟨asp, csp, rfl, hr9, hx⟩
  have hst : Below w11.heap.size w11 w12 := HS.out.2.trans (hx.mono HS.out.2.size)
  have HB12 := Lib.hid (HB11.out.trans (hst.mono HB11.out.size))
  have HL := Lib.hid (HL.out.below hst)
  have HJ := Lib.hid (HJ.out.below hst)
  have HP := Lib.hid hr9
  clear hr9
  clear hx hst HS HB11
  have hr := lit1T 24 w12 [0, 1, 2] (by simp)
  have hb : Below w12.heap.size w12 ((w12.alloc (rowObj [0, 1, 2])).alloc (.cells #[rowVal w12.heap.size [0, 1, 2]] 24)) := alloc_below (alloc_below (Below.refl _ _) _) _
  have hq := single_calls 3 (some ⟨w12.heap.size + 1, 0, none⟩) 1 [[0, 1, 2]] 1 _ hr
  rw [show splitA 3 [[0, 1, 2]] [1] = ([[1], [0, 2]], 0) by decide] at hq
  dsimp only at hq
  have HS := Lib.hid (And.intro hq hb)
  clear hq hb hr
  go_wp2_with fail
  refine HS.out.1.mono ?_
  rintro e w13 ⟨asi, csi, rfl, hr9, hx⟩
  have hst : Below w12.heap.size w12 w13 := HS.out.2.trans (hx.mono HS.out.2.size)
  have HB13 := Lib.hid (HB12.out.trans (hst.mono HB12.out.size))
  have HL := Lib.hid (HL.out.below hst)
  have HJ := Lib.hid (HJ.out.below hst)
  have HP := Lib.hid (HP.out.below hst)
  have HI := Lib.hid hr9
  clear hr9
  clear hx hst HS HB12
  have hr2 := lit_ints w13 [1, 0, 1] (by simp)
  have hb : Below w13.heap.size w13 (w13.alloc (rowObj [1, 0, 1])) := alloc_below (Below.refl _ _) _
  have hq := sameI_true al (some ⟨w13.heap.size, 0, none⟩) cl 3 [1, 0, 1] _ (HL.out.below hb) hr2
  have HS := Lib.hid (And.intro hq hb)
  clear hq hb hr2
  go_wp2_with fail
  refine HS.out.1.mono ?_
  rintro e w14 ⟨rfl, hx⟩
  have hst : Below w13.heap.size w13 w14 := HS.out.2.trans (hx.mono HS.out.2.size)
  have HB14 := Lib.hid (HB13.out.trans (hst.mono HB13.out.size))
  have HL := Lib.hid (HL.out.below hst)
  have HJ := Lib.hid (HJ.out.below hst)
  have HP := Lib.hid (HP.out.below hst)
  have HI := Lib.hid (HI.out.below hst)
  clear hx hst HS HB13
  have hr := lit2T 24 w14 [0, 1, 2] [3] (by simp) (by simp)
  have hb : Below w14.heap.size w14 (((w14.alloc (rowObj [0, 1, 2])).alloc (rowObj [3])).alloc (.cells #[rowVal w14.heap.size [0, 1, 2], rowVal (w14.heap.size + 1) [3]] 24)) := alloc_below (alloc_below (alloc_below (Below.refl _ _) _) _) _
  have hq := is_true aj (some ⟨w14.heap.size + 2, 0, none⟩) cj 2 [[0, 1, 2], [3]] _ (HJ.out.below hb) hr
  have HS := Lib.hid (And.intro hq hb)
  clear hq hb hr
  go_wp2_with fail
  refine HS.out.1.mono ?_
  rintro e w15 ⟨rfl, hx⟩
  have hst : Below w14.heap.size w14 w15 := HS.out.2.trans (hx.mono HS.out.2.size)
  have HB15 := Lib.hid (HB14.out.trans (hst.mono HB14.out.size))
  have HP := Lib.hid (HP.out.below hst)
  have HI := Lib.hid (HI.out.below hst)
  clear hx hst HS HB14
  have hr := lit3T 24 w15 [1] [0, 2] [3] (by simp) (by simp) (by simp)
  have hb : Below w15.heap.size w15 ((((w15.alloc (rowObj [1])).alloc (rowObj [0, 2])).alloc (rowObj [3])).alloc (.cells #[rowVal w15.heap.size [1], rowVal (w15.heap.size + 1) [0, 2], rowVal (w15.heap.size + 2) [3]] 24)) := alloc_below (alloc_below (alloc_below (alloc_below (Below.refl _ _) _) _) _) _
  have hq := is_true asp (some ⟨w15.heap.size + 3, 0, none⟩) csp 3 [[1], [0, 2], [3]] _ (HP.out.below hb) hr
  have HS := Lib.hid (And.intro hq hb)
  clear hq hb hr
  go_wp2_with fail
  refine HS.out.1.mono ?_
  rintro e w16 ⟨rfl, hx⟩
  have hst : Below w15.heap.size w15 w16 := HS.out.2.trans (hx.mono HS.out.2.size)
  have HB16 := Lib.hid (HB15.out.trans (hst.mono HB15.out.size))
  have HI := Lib.hid (HI.out.below hst)
  clear hx hst HS HB15
  have hr := lit2T 24 w16 [1] [0, 2] (by simp) (by simp)
  have hb : Below w16.heap.size w16 (((w16.alloc (rowObj [1])).alloc (rowObj [0, 2])).alloc (.cells #[rowVal w16.heap.size [1], rowVal (w16.heap.size + 1) [0, 2]] 24)) := alloc_below (alloc_below (alloc_below (Below.refl _ _) _) _) _
  have hq := is_true asi (some ⟨w16.heap.size + 2, 0, none⟩) csi 2 [[1], [0, 2]] _ (HI.out.below hb) hr
  have HS := Lib.hid (And.intro hq hb)
  clear hq hb hr
  go_wp2_with fail
  refine HS.out.1.mono ?_
  rintro e w17 ⟨rfl, hx⟩
  have hst : Below w16.heap.size w16 w17 := HS.out.2.trans (hx.mono HS.out.2.size)
  have HB17 := Lib.hid (HB16.out.trans (hst.mono HB16.out.size))
  clear hx hst HS HB16
  have hr := lit3T 24 w17 [0, 1, 2] [3] [4, 5] (by simp) (by simp) (by simp)
  have hb : Below w17.heap.size w17 ((((w17.alloc (rowObj [0, 1, 2])).alloc (rowObj [3])).alloc (rowObj [4, 5])).alloc (.cells #[rowVal w17.heap.size [0, 1, 2], rowVal (w17.heap.size + 1) [3], rowVal (w17.heap.size + 2) [4, 5]] 24)) := alloc_below (alloc_below (alloc_below (alloc_below (Below.refl _ _) _) _) _) _
  have hq := target_calls 6 (some ⟨w17.heap.size + 3, 0, none⟩) 3 [[0, 1, 2], [3], [4, 5]]  _ hr
  rw [show tgtA 6 [[0, 1, 2], [3], [4, 5]] = 2 by decide, show chk 6 [[0, 1, 2], [3], [4, 5]] = 0 by decide] at hq
  have HS := Lib.hid (And.intro hq hb)
  clear hq hb hr
  go_wp2_with fail
  refine HS.out.1.mono ?_
  rintro e w18 ⟨rfl, hx⟩
  have hst : Below w17.heap.size w17 w18 := HS.out.2.trans (hx.mono HS.out.2.size)
  have HB18 := Lib.hid (HB17.out.trans (hst.mono HB17.out.size))
  clear hx hst HS HB17
  have hr := lit2T 24 w18 [0] [1] (by simp) (by simp)
  have hb : Below w18.heap.size w18 (((w18.alloc (rowObj [0])).alloc (rowObj [1])).alloc (.cells #[rowVal w18.heap.size [0], rowVal (w18.heap.size + 1) [1]] 24)) := alloc_below (alloc_below (alloc_below (Below.refl _ _) _) _) _
  have hq := target_calls 2 (some ⟨w18.heap.size + 2, 0, none⟩) 2 [[0], [1]]  _ hr
  rw [show tgtA 2 [[0], [1]] = (-1) by decide, show chk 2 [[0], [1]] = 0 by decide] at hq
  have HS := Lib.hid (And.intro hq hb)
  clear hq hb hr
  go_wp2_with fail
  refine HS.out.1.mono ?_
  rintro e w19 ⟨rfl, hx⟩
  have hst : Below w18.heap.size w18 w19 := HS.out.2.trans (hx.mono HS.out.2.size)
  have HB19 := Lib.hid (HB18.out.trans (hst.mono HB18.out.size))
  clear hx hst HS HB18
  have hq := target_calls 0 none 0 [] w19 (Rows.nil' _)
  rw [show tgtA 0 [] = (-1) by decide, show chk 0 [] = 0 by decide] at hq
  have hb : Below w19.heap.size w19 w19 := Below.refl _ _
  have HS := Lib.hid (And.intro hq hb)
  clear hq hb
  go_wp2_with fail
  refine HS.out.1.mono ?_
  rintro e w20 ⟨rfl, hx⟩
  have hst : Below w19.heap.size w19 w20 := HS.out.2.trans (hx.mono HS.out.2.size)
  have HB20 := Lib.hid (HB19.out.trans (hst.mono HB19.out.size))
  clear hx hst HS HB19
  have hr := lit1T 37 w20 [1, 0, 2, 4, 3] (by simp)
  have hb : Below w20.heap.size w20 ((w20.alloc (rowObj [1, 0, 2, 4, 3])).alloc (.cells #[rowVal w20.heap.size [1, 0, 2, 4, 3]] 37)) := alloc_below (alloc_below (Below.refl _ _) _) _
  have hq := orbits_calls 5 (by omega) (some ⟨w20.heap.size + 1, 0, none⟩) 1 [[1, 0, 2, 4, 3]] _ hr (by simp) (by simp)
  have HS := Lib.hid (And.intro hq hb)
  clear hq hb hr
  go_wp2_with fail
  refine HS.out.1.mono ?_
  rintro e w21 ⟨ao, co, P, E, rfl, hr9, hs9, hx⟩
  have hst : Below w20.heap.size w20 w21 := HS.out.2.trans (hx.mono HS.out.2.size)
  have HB21 := Lib.hid (HB20.out.trans (hst.mono HB20.out.size))
  obtain ⟨rfl, hP9⟩ := ex_orb hs9
  rw [hP9] at hr9 ⊢
  have HO := Lib.hid hr9
  clear hr9 hs9 hP9
  clear hx hst HS HB20
  have hr := lit1T 37 w21 [1, 1] (by simp)
  have hb : Below w21.heap.size w21 ((w21.alloc (rowObj [1, 1])).alloc (.cells #[rowVal w21.heap.size [1, 1]] 37)) := alloc_below (alloc_below (Below.refl _ _) _) _
  have hq := orbits_calls 2 (by omega) (some ⟨w21.heap.size + 1, 0, none⟩) 1 [[1, 1]] _ hr (by simp) (by simp)
  have HS := Lib.hid (And.intro hq hb)
  clear hq hb hr
  go_wp2_with fail
  refine HS.out.1.mono ?_
  rintro e w22 ⟨ao2, co2, P2, E2, rfl, hr9, hs9, hx⟩
  have hst : Below w21.heap.size w21 w22 := HS.out.2.trans (hx.mono HS.out.2.size)
  have HB22 := Lib.hid (HB21.out.trans (hst.mono HB21.out.size))
  have HO := Lib.hid (HO.out.below hst)
  obtain ⟨rfl, rfl⟩ := ex_orb2 hs9
  clear hr9 hs9
  clear hx hst HS HB21
  go_wp2_with (at_make; refine mk1 rfl _ _ 38 37 rfl i37 (.slice none 0 0) 24 Tryz.underlying38 I37.out.1 I37.out.2.1 I37.out.2.2.1 I37.out.2.2.2 rfl (by omega) w22.heap.size 17 rfl rfl (by omega) (Nat.le_refl _) ?_; intro wm hd hg hz1; have HM := Lib.hid (And.intro hd hg); clear hd hg hz1)
  have hq := orbLong 2 (by omega) (some ⟨w22.heap.size, 0, none⟩) 17 17 (by omega) (by omega) wm
  have hb : Below w22.heap.size w22 wm := (Below.refl _ _).grown HM.out.2 (Nat.le_refl _) (fun k hk => by cases hk)
  have HS := Lib.hid (And.intro hq hb)
  clear hq hb HM
  go_wp2_with fail
  refine HS.out.1.mono ?_
  rintro e w23 ⟨⟨co3, rfl⟩, hx⟩
  have hst : Below w22.heap.size w22 w23 := HS.out.2.trans (hx.mono HS.out.2.size)
  have HB23 := Lib.hid (HB22.out.trans (hst.mono HB22.out.size))
  have HO := Lib.hid (HO.out.below hst)
  clear hx hst HS HB22
  have hr := lit1T 24 w23 [0, 1, 2] (by simp)
  have hb : Below w23.heap.size w23 ((w23.alloc (rowObj [0, 1, 2])).alloc (.cells #[rowVal w23.heap.size [0, 1, 2]] 24)) := alloc_below (alloc_below (Below.refl _ _) _) _
  have hq := path_calls ((w23.alloc (rowObj [0, 1, 2])).alloc (.cells #[rowVal w23.heap.size [0, 1, 2]] 24))
  have HS := Lib.hid (And.intro hq (And.intro hr hb))
  clear hq hb hr
  go_wp2_with fail
  refine HS.out.1.mono ?_
  rintro e wp ⟨ap, rfl, hrp, hx⟩
  obtain ⟨gp, op, gp1, gp2, rfl, _, _, _⟩ := hrp.at_ (k := 0) (by decide)
  have hq := refine_calls 3 (some ⟨w23.heap.size + 1, 0, none⟩) (some ⟨gp, op, none⟩) 1 3 [[0, 1, 2]] [[0, 1, 0], [1, 0, 1]] wp (HS.out.2.1.below hx) (hrp.take2 (by decide))
  rw [ex_refine2] at hq
  dsimp only at hq
  have hb : Below w23.heap.size w23 wp := HS.out.2.2.trans (hx.mono HS.out.2.2.size)
  clear hx hrp HS
  have HS := Lib.hid (And.intro hq hb)
  clear hq hb
  go_wp2_with fail
  refine HS.out.1.mono ?_
  rintro e w24 ⟨a24, c24, rfl, hr9, hx⟩
  have hst : Below w23.heap.size w23 w24 := HS.out.2.trans (hx.mono HS.out.2.size)
  have HB24 := Lib.hid (HB23.out.trans (hst.mono HB23.out.size))
  have HO := Lib.hid (HO.out.below hst)
  clear hr9
  clear hx hst HS HB23
  have hr := lit1T 24 w24 [0, 1, 2] (by simp)
  have hb : Below w24.heap.size w24 ((w24.alloc (rowObj [0, 1, 2])).alloc (.cells #[rowVal w24.heap.size [0, 1, 2]] 24)) := alloc_below (alloc_below (Below.refl _ _) _) _
  have hq := single_calls 3 (some ⟨w24.heap.size + 1, 0, none⟩) 1 [[0, 1, 2]] 3 _ hr
  rw [show splitA 3 [[0, 1, 2]] [3] = ([], 2) by decide] at hq
  dsimp only at hq
  have HS := Lib.hid (And.intro hq hb)
  clear hq hb hr
  go_wp2_with fail
  refine HS.out.1.mono ?_
  rintro e w25 ⟨a25, c25, rfl, hr9, hx⟩
  have hst : Below w24.heap.size w24 w25 := HS.out.2.trans (hx.mono HS.out.2.size)
  have HB25 := Lib.hid (HB24.out.trans (hst.mono HB24.out.size))
  have HO := Lib.hid (HO.out.below hst)
  clear hr9
  clear hx hst HS HB24
  go_wp2_with (at_make; refine mk1 rfl _ _ 24 3 rfl i3 (.int .i64 0) 8 Tryz.underlying24 I3.out.1 I3.out.2.1 I3.out.2.2.1 I3.out.2.2.2 rfl (by omega) w25.heap.size 65 rfl rfl (by omega) (Nat.le_refl _) ?_; intro wm hd hg hz1; have HM := Lib.hid (And.intro hd hg); clear hd hg hz1)
  have hi65 : Ints wm (some ⟨w25.heap.size, 0, none⟩) (List.replicate 65 0) := by
    have h := HM.out.1
    rw [ints_zero] at h
    exact h.toInts (by unfold maxLen; simp)
  have hq := ofE_calls (some ⟨w25.heap.size, 0, none⟩) 65 (List.replicate 65 0) wm hi65
  rw [ex_of65, show (List.replicate 65 (0 : Int)).length = 65 by simp] at hq
  dsimp only at hq
  have hb : Below w25.heap.size w25 wm := (Below.refl _ _).grown HM.out.2 (Nat.le_refl _) (fun k hk => by cases hk)
  have HS := Lib.hid (And.intro hq hb)
  clear hq hb HM hi65
  go_wp2_with fail
  refine HS.out.1.mono ?_
  rintro e w26 ⟨a26, c26, rfl, hr9, hx⟩
  have hst : Below w25.heap.size w25 w26 := HS.out.2.trans (hx.mono HS.out.2.size)
  have HB26 := Lib.hid (HB25.out.trans (hst.mono HB25.out.size))
  have HO := Lib.hid (HO.out.below hst)
  clear hr9
  clear hx hst HS HB25
  have hr := lit2T 24 w26 [0] [1, 2] (by simp) (by simp)
  obtain ⟨wa, hwa⟩ : ∃ wa, (((w26.alloc (rowObj [0])).alloc (rowObj [1, 2])).alloc (.cells #[rowVal w26.heap.size [0], rowVal (w26.heap.size + 1) [1, 2]] 24)) = wa := ⟨_, rfl⟩
  have hAb : Below w26.heap.size w26 wa := by rw [← hwa]; exact alloc_below (alloc_below (alloc_below (Below.refl _ _) _) _) _
  have hAs : wa.heap.size = w26.heap.size + 3 := by rw [← hwa]; simp
  rw [hwa] at hr
  have hr2 := lit1T 24 wa [0, 1, 2] (by simp)
  have hBb : Below wa.heap.size wa ((wa.alloc (rowObj [0, 1, 2])).alloc (.cells #[rowVal wa.heap.size [0, 1, 2]] 24)) := alloc_below (alloc_below (Below.refl _ _) _) _
  have hq := finer_calls 3 (some ⟨w26.heap.size + 2, 0, none⟩) (some ⟨wa.heap.size + 1, 0, none⟩) 2 1 [[0], [1, 2]] [[0, 1, 2]] _ (hr.below hBb) hr2 
  rw [show orL [chk 3 [[0], [1, 2]], chk 3 [[0, 1, 2]]] = 0 by decide] at hq
  have hb : Below w26.heap.size w26 ((wa.alloc (rowObj [0, 1, 2])).alloc (.cells #[rowVal wa.heap.size [0, 1, 2]] 24)) := hAb.trans (hBb.mono hAb.size)
  rw [hAs] at hq hb
  rw [← hwa] at hq hb
  clear hr hr2 hAb hBb hAs hwa
  have HS := Lib.hid (And.intro hq hb)
  clear hq hb
  go_wp2_with fail
  refine HS.out.1.mono ?_
  rintro e w27 ⟨r27, rfl, hr1, hr2, hx⟩
  have hst : Below w26.heap.size w26 w27 := HS.out.2.trans (hx.mono HS.out.2.size)
  have HB27 := Lib.hid (HB26.out.trans (hst.mono HB26.out.size))
  have HO := Lib.hid (HO.out.below hst)
  obtain rfl : r27 = true := (hr2 trivial).2 (by unfold OneLabel; decide)
  clear hr1 hr2
  clear hx hst HS HB26
  have hr := lit3T 24 w27 [0, 1] [2] [3, 4] (by simp) (by simp) (by simp)
  have hb : Below w27.heap.size w27 ((((w27.alloc (rowObj [0, 1])).alloc (rowObj [2])).alloc (rowObj [3, 4])).alloc (.cells #[rowVal w27.heap.size [0, 1], rowVal (w27.heap.size + 1) [2], rowVal (w27.heap.size + 2) [3, 4]] 24)) := alloc_below (alloc_below (alloc_below (alloc_below (Below.refl _ _) _) _) _) _
  have hq := is_true ao (some ⟨w27.heap.size + 3, 0, none⟩) co 3 [[0, 1], [2], [3, 4]] _ (HO.out.below hb) hr
  have HS := Lib.hid (And.intro hq hb)
  clear hq hb hr
  go_wp2_with fail
  refine HS.out.1.mono ?_
  rintro e w28 ⟨rfl, hx⟩
  have hst : Below w27.heap.size w27 w28 := HS.out.2.trans (hx.mono HS.out.2.size)
  have HB28 := Lib.hid (HB27.out.trans (hst.mono HB27.out.size))
  clear hx hst HS HB27
  go_wp2_with (go_at_call 17; refine (awake_calls _).mono ?_; rintro e wz ⟨rfl, hb⟩; have HZ := Lib.hid (HB28.out.trans (hb.mono HB28.out.size)); clear hb)
  go_ret
  exact ⟨rfl, HZ.out⟩
end Go.Proofs.YtlnikgcanimggaaGreat
