/- The chapter's examples: what each call answers; faulty. -/
import Derived.Test.YtifkieopaoooeaaGreatDoorLawKit
import Derived.Test.YtifkieopaoooeaaGreatDoorMakeP
import Derived.Test.YtifkieopaoooeaaGreatDoorNear
import Derived.Test.YtifkieopaoooeaaGreatDoorDistP
import Derived.Test.YtifkieopaoooeaaGreatDoorMoveB
set_option linter.unusedSimpArgs false
set_option linter.unusedVariables false
namespace Go.Proofs.YtifkieopaoooeaaGreatDoor
open Go.RowKit Plain PlainG
theorem litI {w : World} {b : Nat} {xs : List Int} {o : Obj} (ho : o = .cells (ints xs).toArray 3) (hb : b = w.heap.size) (hx : xs.length ≤ 1000) : Ints (w.alloc o) (some ⟨b, 0, none⟩) xs := by
  subst ho hb
  obtain ⟨a, c, e, h⟩ := lit_row w xs hx
  cases e; exact h
theorem litE {w : World} {b : Nat} {es : List E2} {o : Obj} (ho : o = .cells (ints (flat2 es)).toArray 69) (hb : b = w.heap.size) (hx : es.length ≤ 1000) : Edg (w.alloc o) (some ⟨b, 0, none⟩) es := by
  subst ho hb
  exact (OwnE.new (B := 0) 69 es (Nat.zero_le _) (by unfold maxLen; omega)).edg (by omega)
theorem Ints.al {w : World} {a : Option Addr} {xs : List Int} (h : Ints w a xs) (o : Obj) : Ints (w.alloc o) a xs := h.below (alloc_below (Below.refl _ _) o)
theorem Edg.al {w : World} {a : Option Addr} {xs : List E2} (h : Edg w a xs) (o : Obj) : Edg (w.alloc o) a xs := h.below (alloc_below (Below.refl _ _) o)
instance : DecidableEq Gr := fun x y => decidable_of_iff (x.n = y.n ∧ x.es = y.es ∧ x.cs = y.cs) ⟨fun ⟨a, b, c⟩ => by cases x; cases y; simp only at a b c; subst a; subst b; subst c; rfl, fun e => by rw [e]; exact ⟨rfl, rfl, rfl⟩⟩
def zG : Gr := ⟨0, [], []⟩
def mG : Gr := ⟨3, [(0, 1), (0, 2)], [0, 1, 0]⟩
def cG : Gr := ⟨3, [(0, 2)], [0, 0, 1]⟩
def fG : Gr := ⟨3, [(0, 1), (1, 2)], [0, 0, 0]⟩
def dG : Gr := ⟨2, [(0, 1), (0, 1)], [0, 0]⟩
theorem ex_mk1 : makeA 3 [(2, 1), (1, 0), (1, 2)] [0, 0, 1] = (pathG, 0) := by decide +kernel
theorem ex_mk2 : makeA 2 [(1, 1)] [] = (zG, 3) := by decide +kernel
theorem ex_mk3 : makeA 2 [(0, 2)] [] = (zG, 2) := by decide +kernel
theorem ex_mk4 : makeA 25 [] [] = (zG, 2) := by decide +kernel
theorem ex_mk5 : makeA 2 [] [0, 100] = (zG, 2) := by decide +kernel
theorem ex_has : hasA pathG 2 1 = (true, 0) := by decide +kernel
theorem ex_near : nearA pathG 1 = ([0, 2], 0) := by decide +kernel
theorem ex_d1 : distA pathG 0 2 = (2, 0) := by decide +kernel
theorem ex_d2 : distA pathG 0 3 = (0, 2) := by decide +kernel
theorem ex_mv : moveA pathG [2, 0, 1] = (mG, 0) := by decide +kernel
theorem ex_mv2 : moveA pathG [0, 1] = (zG, 3) := by decide +kernel
theorem ex_wd : wordA pathG [0, 1, 2] = ([0, 0, 1, 1, 0, 1], 0) := by decide +kernel
theorem ex_co : complA pathG = (cG, 0) := by decide +kernel
theorem ex_ce : cellsA pathG = ([[0, 1], [2]], 0) := by decide +kernel
theorem ex_re : refinedA fG = ([[0, 2], [1]], 0) := by decide +kernel
theorem ex_tx : sb (textR zG) = ⟨#[48]⟩ ∧ chkGr zG = 0 := by decide +kernel
theorem ex_ck : chkGr dG = 9 := by decide +kernel
section
variable {w : World} {a b p : Option Addr} {c d e : Nat}
theorem kMk1 (he : Edg w a [(2, 1), (1, 0), (1, 2)]) (hc : Ints w b [0, 0, 1]) : Calls Tryz.prog 17 #[.int .i64 3, .slice a 3 c, .slice b 3 d] w fun r w' => ∃ a c b d, r = .returned (.tuple #[.agg #[.int .i64 3, .slice a 2 c, .slice b 3 d], .int .i64 0]) ∧ Edg w' a pathG.es ∧ Ints w' b pathG.cs ∧ Below w.heap.size w w' := by
  have := make_calls (c := c) (d := d) (n := 3) he hc (by decide) (by decide)
  rw [ex_mk1] at this
  exact this
theorem kMk2 (he : Edg w a [(1, 1)]) : Calls Tryz.prog 17 #[.int .i64 2, .slice a 1 c, .slice none 0 0] w fun r w' => ∃ a c b d, r = .returned (.tuple #[.agg #[.int .i64 0, .slice a 0 c, .slice b 0 d], .int .i64 3]) ∧ Below w.heap.size w w' := by
  have := make_calls (c := c) (d := 0) (n := 2) (cs := []) he Row.nil (by decide) (by decide)
  rw [ex_mk2] at this
  exact this.mono fun _ _ ⟨a, c, b, d, h1, _, _, h2⟩ => ⟨a, c, b, d, h1, h2⟩
theorem kMk3 (he : Edg w a [(0, 2)]) : Calls Tryz.prog 17 #[.int .i64 2, .slice a 1 c, .slice none 0 0] w fun r w' => ∃ a c b d, r = .returned (.tuple #[.agg #[.int .i64 0, .slice a 0 c, .slice b 0 d], .int .i64 2]) ∧ Below w.heap.size w w' := by
  have := make_calls (c := c) (d := 0) (n := 2) (cs := []) he Row.nil (by decide) (by decide)
  rw [ex_mk3] at this
  exact this.mono fun _ _ ⟨a, c, b, d, h1, _, _, h2⟩ => ⟨a, c, b, d, h1, h2⟩
theorem kMk4 : Calls Tryz.prog 17 #[.int .i64 25, .slice none 0 0, .slice none 0 0] w fun r w' => ∃ a c b d, r = .returned (.tuple #[.agg #[.int .i64 0, .slice a 0 c, .slice b 0 d], .int .i64 2]) ∧ Below w.heap.size w w' := by
  have := make_calls (c := 0) (d := 0) (n := 25) (ps := []) (cs := []) (Edg.nil w) Row.nil (by decide) (by decide)
  rw [ex_mk4] at this
  exact this.mono fun _ _ ⟨a, c, b, d, h1, _, _, h2⟩ => ⟨a, c, b, d, h1, h2⟩
theorem kMk5 (hc : Ints w b [0, 100]) : Calls Tryz.prog 17 #[.int .i64 2, .slice none 0 0, .slice b 2 d] w fun r w' => ∃ a c b d, r = .returned (.tuple #[.agg #[.int .i64 0, .slice a 0 c, .slice b 0 d], .int .i64 2]) ∧ Below w.heap.size w w' := by
  have := make_calls (c := 0) (d := d) (n := 2) (ps := []) (Edg.nil w) hc (by decide) (by decide)
  rw [ex_mk5] at this
  exact this.mono fun _ _ ⟨a, c, b, d, h1, _, _, h2⟩ => ⟨a, c, b, d, h1, h2⟩
theorem kHas (he : Edg w a pathG.es) (hc : Ints w b pathG.cs) : Calls Tryz.prog 24 #[.agg #[.int .i64 3, .slice a 2 c, .slice b 3 d], .int .i64 2, .int .i64 1] w fun r w' => r = .returned (.tuple #[.bool true, .int .i64 0]) ∧ Below w.heap.size w w' := by
  have := has_calls (g := pathG) (c := c) (d := d) 2 1 he hc
  rw [ex_has] at this
  exact this
theorem kNear (he : Edg w a pathG.es) (hc : Ints w b pathG.cs) : Calls Tryz.prog 29 #[.agg #[.int .i64 3, .slice a 2 c, .slice b 3 d], .int .i64 1] w fun r w' => ∃ a c, r = .returned (.tuple #[.slice a 2 c, .int .i64 0]) ∧ Ints w' a [0, 2] ∧ Below w.heap.size w w' := by
  have := near_calls (g := pathG) (c := c) (d := d) 1 he hc
  rw [ex_near] at this
  exact this
theorem kD1 (he : Edg w a pathG.es) (hc : Ints w b pathG.cs) : Calls Tryz.prog 23 #[.agg #[.int .i64 3, .slice a 2 c, .slice b 3 d], .int .i64 0, .int .i64 2] w fun r w' => r = .returned (.tuple #[.int .i64 2, .int .i64 0]) ∧ Below w.heap.size w w' := by
  have := dist_calls (g := pathG) (c := c) (d := d) 0 2 he hc
  rw [ex_d1] at this
  exact this
theorem kD2 (he : Edg w a pathG.es) (hc : Ints w b pathG.cs) : Calls Tryz.prog 23 #[.agg #[.int .i64 3, .slice a 2 c, .slice b 3 d], .int .i64 0, .int .i64 3] w fun r w' => r = .returned (.tuple #[.int .i64 0, .int .i64 2]) ∧ Below w.heap.size w w' := by
  have := dist_calls (g := pathG) (c := c) (d := d) 0 3 he hc
  rw [ex_d2] at this
  exact this
theorem kMv (he : Edg w a pathG.es) (hc : Ints w b pathG.cs) (hp : Ints w p [2, 0, 1]) : Calls Tryz.prog 35 #[.agg #[.int .i64 3, .slice a 2 c, .slice b 3 d], .slice p 3 e] w fun r w' => ∃ a c b d, r = .returned (.tuple #[.agg #[.int .i64 3, .slice a 2 c, .slice b 3 d], .int .i64 0]) ∧ Edg w' a mG.es ∧ Ints w' b mG.cs ∧ Below w.heap.size w w' := by
  have := gmove_calls (g := pathG) (c := c) (d := d) (e := e) he hc hp (by decide)
  rw [ex_mv] at this
  exact this
theorem kMv2 (he : Edg w a pathG.es) (hc : Ints w b pathG.cs) (hp : Ints w p [0, 1]) : Calls Tryz.prog 35 #[.agg #[.int .i64 3, .slice a 2 c, .slice b 3 d], .slice p 2 e] w fun r w' => ∃ a c b d, r = .returned (.tuple #[.agg #[.int .i64 0, .slice a 0 c, .slice b 0 d], .int .i64 3]) ∧ Below w.heap.size w w' := by
  have := gmove_calls (g := pathG) (c := c) (d := d) (e := e) he hc hp (by decide)
  rw [ex_mv2] at this
  exact this.mono fun _ _ ⟨a, c, b, d, h1, _, _, h2⟩ => ⟨a, c, b, d, h1, h2⟩
theorem kWd (he : Edg w a pathG.es) (hc : Ints w b pathG.cs) (hp : Ints w p [0, 1, 2]) : Calls Tryz.prog 43 #[.agg #[.int .i64 3, .slice a 2 c, .slice b 3 d], .slice p 3 e] w fun r w' => ∃ a c, r = .returned (.tuple #[.slice a 6 c, .int .i64 0]) ∧ Ints w' a [0, 0, 1, 1, 0, 1] ∧ Below w.heap.size w w' := by
  have := gword_calls (g := pathG) (c := c) (d := d) (e := e) he hc hp (by decide)
  rw [ex_wd] at this
  exact this
theorem kCo (he : Edg w a pathG.es) (hc : Ints w b pathG.cs) : Calls Tryz.prog 37 #[.agg #[.int .i64 3, .slice a 2 c, .slice b 3 d]] w fun r w' => ∃ a c b d, r = .returned (.tuple #[.agg #[.int .i64 3, .slice a 1 c, .slice b 3 d], .int .i64 0]) ∧ Edg w' a cG.es ∧ Ints w' b cG.cs ∧ Below w.heap.size w w' := by
  have := gcompl_calls (g := pathG) (c := c) (d := d) he hc
  rw [ex_co] at this
  exact this
theorem kCe (he : Edg w a pathG.es) (hc : Ints w b pathG.cs) : Calls Tryz.prog 39 #[.agg #[.int .i64 3, .slice a 2 c, .slice b 3 d]] w fun r w' => ∃ a c, r = .returned (.tuple #[.slice a 2 c, .int .i64 0]) ∧ Rows w' a [[0, 1], [2]] ∧ Below w.heap.size w w' := by
  have := gcells_calls (g := pathG) (c := c) (d := d) he hc
  rw [ex_ce] at this
  exact this
theorem kRe (he : Edg w a pathG.es) (hc : Ints w b [0, 0, 0]) : Calls Tryz.prog 41 #[.agg #[.int .i64 3, .slice a 2 c, .slice b 3 d]] w fun r w' => ∃ a c, r = .returned (.tuple #[.slice a 2 c, .int .i64 0]) ∧ Rows w' a [[0, 2], [1]] ∧ Below w.heap.size w w' := by
  have := grefined_calls (g := fG) (c := c) (d := d) he hc
  rw [ex_re] at this
  exact this
theorem kTx : Calls Tryz.prog 12 #[.agg #[.int .i64 0, .slice none 0 0, .slice none 0 0]] w fun r w' => r = .returned (.tuple #[.string ⟨#[48]⟩, .int .i64 0]) ∧ Below w.heap.size w w' := by
  have := gtext_calls (g := zG) (c := 0) (d := 0) (Edg.nil w) Row.nil
  rw [ex_tx.1, ex_tx.2] at this
  exact this
theorem kCk (he : Edg w a [(0, 1), (0, 1)]) (hc : Ints w b [0, 0]) : Calls Tryz.prog 27 #[.agg #[.int .i64 2, .slice a 2 c, .slice b 2 d]] w fun r w' => r = .returned (.int .i64 9) ∧ Below w.heap.size w w' := by
  have := gcheck_calls (g := dG) (c := c) (d := d) he hc
  rw [ex_ck] at this
  exact this
theorem kSg (n : Int) (L M : Nat) (es : List E2) (cs : List Int) {a2 b2 : Option Addr} {c2 d2 : Nat} (hL : es.length = L) (hM : cs.length = M) (he : Edg w a es) (hc : Ints w b cs) (he2 : Edg w a2 es) (hc2 : Ints w b2 cs) :
    Calls Tryz.prog 16 #[.agg #[.int .i64 n, .slice a L c, .slice b M d], .agg #[.int .i64 n, .slice a2 L c2, .slice b2 M d2]] w fun r w' => r = .returned (.bool true) ∧ Below w.heap.size w w' := by
  have := sameGraph_calls (g := ⟨n, es, cs⟩) (h := ⟨n, es, cs⟩) (c1 := c) (d1 := d) (c2 := c2) (d2 := d2) he hc he2 hc2
  rw [sameG_iff.2 rfl] at this
  subst hL hM
  exact this
theorem kSi (L : Nat) (xs : List Int) {a2 : Option Addr} {c2 : Nat} (hL : xs.length = L) (h1 : Ints w a xs) (h2 : Ints w a2 xs) : Calls Tryz.prog 31 #[.slice a L c, .slice a2 L c2] w fun r w' => r = .returned (.bool true) ∧ Below w.heap.size w w' := by
  subst hL
  exact (sameInts_calls a a2 c c2 xs xs w h1 h2).mono fun _ _ ⟨he, q, hw⟩ => ⟨by rw [he, decide_eq_true rfl], by rw [hw]; exact below_self_drewN _ _⟩
theorem kSc (L : Nat) (xs : List (List Int)) {a2 : Option Addr} {c2 : Nat} (hL : xs.length = L) (h1 : Rows w a xs) (h2 : Rows w a2 xs) : Calls Tryz.prog 34 #[.slice a L c, .slice a2 L c2] w fun r w' => r = .returned (.bool true) ∧ Below w.heap.size w w' := by
  subst hL
  exact same_true a a2 c c2 xs w h1 h2
set_option maxHeartbeats 1000000 in
theorem faulty_calls (s : ByteArray) (E : Int) (k : Nat) (hb : s.size ≤ 1000000) (hp : parse (bytesOf s) = .error (E, k)) (w : World) : Calls Tryz.prog 49 #[.string s, .int .i64 E, .int .i64 k] w fun r w' => r = .returned (.bool true) ∧ Below w.heap.size w w' := by
  have K14 := gparse_calls s w hb
  rw [hp] at K14
  have K14' : Calls Tryz.prog 14 #[.string s] w fun e w' => e = .returned (.tuple #[.agg #[.int .i64 0, .slice none 0 0, .slice none 0 0], .agg #[.int .i64 E, .int .i64 k]]) ∧ Below w.heap.size w w' := K14
  have K16 := fun (W : World) => kSg (w := W) (c := 0) (d := 0) (c2 := 0) (d2 := 0) 0 0 0 [] [] rfl rfl (Edg.nil W) Row.nil (Edg.nil W) Row.nil
  have H := Lib.hid (And.intro K14' K16)
  clear K14 K14' K16 hp hb
  go_enter Tryz.func49, Tryz.ntmps49
  go_wp2_with (first
    | (go_at_call 14; refine H.out.1.mono ?_; rintro r w1 ⟨rfl, hw⟩; have H1 := Lib.hid hw; clear hw)
    | (go_at_call 16; refine (H.out.2 _).mono ?_; rintro r w2 ⟨rfl, hw⟩; have H2 := Lib.hid (below_two H1.out (below_two (by repeat (first | exact Below.refl _ _ | refine alloc_below ?_ _)) hw)); clear hw))
  go_ret
  exact ⟨rfl, H2.out⟩
end
def isErr (r : Except Flt Gr) (e : Int) (k : Nat) : Bool := match r with | .error f => decide (f = (e, k)) | .ok _ => false
theorem ex_parse {s : ByteArray} {e : Int} {k : Nat} (h : isErr (parse (bytesOf s)) e k = true) : parse (bytesOf s) = .error (e, k) := by
  cases hr : parse (bytesOf s) with
  | ok g => rw [hr] at h; cases h
  | error f => rw [hr] at h; rw [of_decide_eq_true h]
theorem mk_three (W : World) : (Instr.makeSlice 23 (.int .i64 3) (.int .i64 3)).run Tryz.prog W = .ok (.slice (some ⟨W.heap.size, 0, none⟩) 3 3) (W.alloc (.cells #[.int .i64 0, .int .i64 0, .int .i64 0] 3)) := by
  obtain ⟨i3, hi3, hz3, hs3, hb3⟩ := info_parts Tryz.info3
  have h := run_make (P := Tryz.prog) W 23 3 i3 (.int .i64 0) Tryz.underlying23 hi3 hz3 .i64 .i64 3 3 (by omega) (by omega) (by rw [hb3]; omega) (by omega)
  rw [hs3] at h
  have e : madeCells (Value.int .i64 0).cells (Int.toNat 3 * 1) = #[.int .i64 0, .int .i64 0, .int .i64 0] := by kernel_rfl
  rw [e] at h
  exact h
theorem kc3 {D : Nat} {W1 W W3 : World} {b1 : Nat} {v1 v2 v3 : Value} (hD : W1.heap.size = D)
    (h : W.cell? ⟨b1, 0, none⟩ = some v1 ∧ W.cell? ⟨b1, 1, none⟩ = some v2 ∧ W.cell? ⟨b1, 2, none⟩ = some v3 ∧ Below D W1 W) (k : Below W.heap.size W W3) :
    W3.cell? ⟨b1, 0, none⟩ = some v1 ∧ W3.cell? ⟨b1, 1, none⟩ = some v2 ∧ W3.cell? ⟨b1, 2, none⟩ = some v3 ∧ Below D W1 W3 :=
  ⟨(k.cell (p := ⟨b1, 0, none⟩) (block_lt_of_cell h.1)).trans h.1, (k.cell (p := ⟨b1, 1, none⟩) (block_lt_of_cell h.2.1)).trans h.2.1, (k.cell (p := ⟨b1, 2, none⟩) (block_lt_of_cell h.2.2.1)).trans h.2.2.1, bchain h.2.2.2 hD k⟩
theorem kl3 {V W : World} {D : Nat} {P Q R : Prop} (hD : V.heap.size = D) (h : P ∧ Q ∧ R ∧ Below D V W) : Below V.heap.size V W := by rw [hD]; exact h.2.2.2
theorem ke3 {V W W3 : World} {D : Nat} {P Q R : Prop} (hD : V.heap.size = D) (k : Below W.heap.size W W3) (h : P ∧ Q ∧ R ∧ Below D V W) : Below D V W3 := bchain h.2.2.2 hD k
end Go.Proofs.YtifkieopaoooeaaGreatDoor
