/- Words for memory that the walks of this claim share: a slice that reads as a list (nil let in), lists of lists, what stays when memory grows. -/
import Derived.WalkKit
import Derived.WalkSpells
import Derived.BigQuiet
import Derived.Deep.QuietTactic
import Derived.Deep.LoopGhost
import Derived.Lib.Hide
import Derived.Maps.AppendAt
import Derived.Deep.AppendLies
import Derived.StillTailTactics
import Derived.Laws.CopyOwn
set_option linter.unusedSimpArgs false
set_option linter.unusedVariables false
namespace Go.Proofs.YtjjjohmppehejaaGreat
open Go.RowKit

theorem block_of_add (a : Addr) (n : Nat) : (a.add n).block = a.block := by unfold Addr.add; split <;> rfl
theorem add_of_add (a : Addr) (i j : Nat) : (a.add i).add j = a.add (i + j) := by
  unfold Addr.add
  by_cases hi : i = 0 <;> by_cases hj : j = 0 <;> simp [hi, hj, Nat.add_assoc]
theorem add_zero_addr (b o n : Nat) : (⟨b, o, none⟩ : Addr).add n = ⟨b, o + n, none⟩ := by
  unfold Addr.add; split
  · subst_vars; rfl
  · rfl

/-- The slice's places from `a` on read as the values `vs`. -/
def Row (w : World) (a : Option Addr) (vs : List Value) : Prop :=
  vs.length ≤ maxLen ∧ ∀ i u, vs[i]? = some u → ∃ b o, a = some ⟨b, o, none⟩ ∧ b < w.heap.size ∧ w.cell? ⟨b, o + i, none⟩ = some u

/-- .. as ints. -/
def Ints (w : World) (a : Option Addr) (xs : List Int) : Prop := Row w a (xs.map (Value.int .i64))
/-- .. as bools. -/
def Bools (w : World) (a : Option Addr) (xs : List Bool) : Prop := Row w a (xs.map Value.bool)

/-- A value that is a slice of ints. -/
def IsInts (w : World) (v : Value) (xs : List Int) : Prop := ∃ a c, v = .slice a xs.length c ∧ Ints w a xs

/-- A slice of slices of ints. -/
def Rows (w : World) (a : Option Addr) (xss : List (List Int)) : Prop :=
  ∃ vs, Row w a vs ∧ vs.length = xss.length ∧ ∀ (i : Nat) u xs, vs[i]? = some u → xss[i]? = some xs → IsInts w u xs

section
variable {w w' : World} {a : Option Addr}

theorem block_lt_of_cell {p : Addr} {v : Value} (h : w.cell? p = some v) : p.block < w.heap.size := by
  rcases Nat.lt_or_ge p.block w.heap.size with hl | hl
  · exact hl
  · simp [World.cell?, Array.getElem?_eq_none hl] at h

theorem Row.nil : Row w none [] := ⟨Nat.zero_le _, fun i u h => by simp at h⟩
theorem Row.empty : Row w a [] := ⟨Nat.zero_le _, fun i u h => by simp at h⟩
theorem Row.keep {vs : List Value} (h : Row w a vs) (hs : w.heap.size ≤ w'.heap.size) (hk : ∀ p : Addr, p.block < w.heap.size → w'.cell? p = w.cell? p) : Row w' a vs :=
  ⟨h.1, fun i u hu => by
    obtain ⟨b, o, e, hb, hc⟩ := h.2 i u hu
    exact ⟨b, o, e, by omega, (hk _ hb).trans hc⟩⟩
theorem Row.below {vs : List Value} (h : Row w a vs) (hb : Below w.heap.size w w') : Row w' a vs := h.keep hb.size fun _ hp => hb.cell hp
theorem Row.len {vs : List Value} (h : Row w a vs) : vs.length ≤ maxLen := h.1

theorem Ints.below {xs : List Int} (h : Ints w a xs) (hb : Below w.heap.size w w') : Ints w' a xs := Row.below h hb
theorem Bools.below {xs : List Bool} (h : Bools w a xs) (hb : Below w.heap.size w w') : Bools w' a xs := Row.below h hb
theorem IsInts.below {v : Value} {xs : List Int} (h : IsInts w v xs) (hb : Below w.heap.size w w') : IsInts w' v xs := by
  obtain ⟨a, c, rfl, hi⟩ := h
  exact ⟨a, c, rfl, hi.below hb⟩
theorem Rows.below {xss : List (List Int)} (h : Rows w a xss) (hb : Below w.heap.size w w') : Rows w' a xss := by
  obtain ⟨vs, hr, hl, hi⟩ := h
  exact ⟨vs, hr.below hb, hl, fun i u xs hu hx => (hi i u xs hu hx).below hb⟩

theorem Row.drewN {vs : List Value} (h : Row w a vs) (n : Nat) : Row (w.drewN n) a vs := h
theorem Ints.drewN {xs : List Int} (h : Ints w a xs) (n : Nat) : Ints (w.drewN n) a xs := h
theorem Rows.drewN {xss : List (List Int)} (h : Rows w a xss) (n : Nat) : Rows (w.drewN n) a xss := h

theorem Row.len' {vs : List Value} (h : Row w a vs) : vs.length ≤ 9223372036854775807 := by have := h.1; unfold maxLen at this; omega
theorem Ints.len {xs : List Int} (h : Ints w a xs) : xs.length ≤ 9223372036854775807 := by have := Row.len' h; simpa using this
theorem Rows.len {xss : List (List Int)} (h : Rows w a xss) : xss.length ≤ 9223372036854775807 := by
  obtain ⟨vs, hr, hl, _⟩ := h
  have := hr.len'; omega

theorem Ints.at_ {xs : List Int} (h : Ints w a xs) {k : Nat} (hk : k < xs.length) : ∃ b o, a = some ⟨b, o, none⟩ ∧ b < w.heap.size ∧ w.cell? ⟨b, o + k, none⟩ = some (.int .i64 (xs[k]?.getD 0)) :=
  h.2 k _ (by simp [hk])
theorem Rows.at_ {xss : List (List Int)} (h : Rows w a xss) {k : Nat} (hk : k < xss.length) :
    ∃ g o b c, a = some ⟨g, o, none⟩ ∧ g < w.heap.size ∧ w.cell? ⟨g, o + k, none⟩ = some (.slice b (xss[k]?.getD []).length c) ∧ Ints w b (xss[k]?.getD []) := by
  obtain ⟨vs, hr, hl, hi⟩ := h
  have hv : vs[k]? = some vs[k] := List.getElem?_eq_getElem (by omega)
  have hx : xss[k]? = some xss[k] := List.getElem?_eq_getElem hk
  obtain ⟨g, o, e, hb, hc⟩ := hr.2 k _ hv
  obtain ⟨b, c, hs, hn⟩ := hi k _ _ hv hx
  exact ⟨g, o, b, c, e, hb, by rw [hc, hs, hx]; rfl, by rw [hx]; exact hn⟩

/-- A row of the call's own reads as a row. -/
theorem Row.of_own {base : Nat} {e : TypeId} {a : Option Addr} {n c : Nat} {vs : List Value} (h : w.ownsRow base e 1 (.slice a n c) n vs) (hn : n ≤ maxLen) : Row w a vs := by
  refine ⟨by rw [h.1]; omega, fun i u hu => ?_⟩
  have hlt : i < vs.length := (List.getElem?_eq_some_iff.1 hu).1
  have hpos : 0 < n := by have := h.1; omega
  obtain ⟨g, cap, hv, _, hlt'⟩ := h.form hpos
  have hA : a = some ⟨g, 0, none⟩ := by injection hv
  subst hA
  have hc := h.cells (g := g) rfl i u hu
  rw [add_zero_addr] at hc
  exact ⟨_, _, rfl, hlt', hc⟩
theorem Ints.of_own {base : Nat} {e : TypeId} {a : Option Addr} {n c : Nat} {xs : List Int} (h : w.ownsRow base e 1 (.slice a n c) n (xs.map (Value.int .i64))) (hn : n ≤ maxLen) : Ints w a xs := Row.of_own h hn
end

theorem below_drewN {B : Nat} {a w : World} (h : Below B a w) (n : Nat) : Below B a (w.drewN n) := ⟨h.os, h.tape, h.output, h.size, h.block⟩
theorem below_self_drewN {B : Nat} (w : World) (n : Nat) : Below B w (w.drewN n) := ⟨rfl, rfl, rfl, Nat.le_refl _, fun _ _ => rfl⟩

theorem ret_int {k : IntKind} {a b : Int} (h : a = b) : Ending.returned (.int k a) = .returned (.int k b) := by rw [h]
theorem ret_bool {a b : Bool} (h : a = b) : Ending.returned (.bool a) = .returned (.bool b) := by rw [h]

/-- A quiet region behind a quiet region. -/
theorem quiet_add {P : Program} {f : FuncId} {args : Array Value} {w : World} {a n : Nat} {v : Value}
    (h : Calls P f args (w.drewN (a + n)) fun e w' => e = .returned v ∧ ∃ m, w' = (w.drewN (a + n)).drewN m) :
    Calls P f args (w.drewN (a + n)) fun e w'' => e = .returned v ∧ ∃ m, w'' = w.drewN (a + m) :=
  h.mono fun _ _ ⟨he, m, hm⟩ => ⟨he, n + m, by rw [hm, World.drewN_drewN, Nat.add_assoc]⟩
theorem quiet_add_same {P : Program} {f : FuncId} {args : Array Value} {w : World} {a n : Nat} {v : Value}
    (h : Calls P f args (w.drewN (a + n)) fun e w' => e = .returned v ∧ w' = w.drewN (a + n)) :
    Calls P f args (w.drewN (a + n)) fun e w'' => e = .returned v ∧ ∃ m, w'' = w.drewN (a + m) :=
  h.mono fun _ _ ⟨he, hm⟩ => ⟨he, n, hm⟩
end Go.Proofs.YtjjjohmppehejaaGreat

namespace Go.Proofs.YtjjjohmppehejaaGreat
open Go.RowKit
/-- A row of the call's own (blocks from B on), one cell an element. -/
def Own (w : World) (B : Nat) (v : Value) (e : TypeId) (xs : List Value) : Prop := w.ownsRow B e 1 v xs.length xs

section
variable {w w' : World} {B B' : Nat} {v v' : Value} {e e' : TypeId} {xs ys : List Value}
theorem Own.nil (w : World) (B : Nat) (e : TypeId) : Own w B (.slice none 0 0) e [] := World.ownsRow_nil w B e 1
theorem Own.kept (h : Own w B v e xs) {row : Option Nat} (hg : w.grownBy w' row) (hne : v.ownBlock = none ∨ v.ownBlock ≠ row) : Own w' B v e xs := World.ownsRow.kept h hg hne
theorem Own.alloc (h : Own w B v e xs) (o : Obj) : Own (w.alloc o) B v e xs := World.ownsRow.alloc h o
theorem Own.drew (h : Own w B v e xs) : Own w.drew B v e xs := h
theorem Own.drewN (h : Own w B v e xs) (n : Nat) : Own (w.drewN n) B v e xs := h
theorem Own.blk (h : Own w B v e xs) : v.ownBlock = none ∨ ∃ g cur, v.ownBlock = some g ∧ B ≤ g ∧ g < w.heap.size ∧ w.heap[g]? = some (.cells cur e (0, 0)) := by
  rcases h.2 with ⟨rfl, _⟩ | ⟨g, cap, cur, rfl, hB, hh, _⟩
  · exact .inl rfl
  · refine .inr ⟨g, cur, rfl, hB, ?_, hh⟩
    rcases Nat.lt_or_ge g w.heap.size with hl | hl
    · exact hl
    · rw [Array.getElem?_eq_none hl] at hh; cases hh
theorem Own.ne_type (h : Own w B v e xs) (h' : Own w B' v' e' ys) (hne : e ≠ e') : v.ownBlock = none ∨ v.ownBlock ≠ v'.ownBlock := by
  rcases h.blk with h1 | ⟨g, cur, h1, _, _, h2⟩
  · exact .inl h1
  · right
    rcases h'.blk with h3 | ⟨g', cur', h3, _, _, h4⟩
    · rw [h1, h3]; simp
    · rw [h1, h3]
      intro he
      injection he with he
      subst he
      rw [h2] at h4
      injection h4 with h4
      injection h4 with _ h5
      exact hne h5
theorem Own.mono (h : Own w B v e xs) (hb : B' ≤ B) : Own w B' v e xs := by
  obtain ⟨h1, h2⟩ := h
  refine ⟨h1, ?_⟩
  rcases h2 with h2 | ⟨g, cap, cur, hv, hg, r⟩
  · exact .inl h2
  · exact .inr ⟨g, cap, cur, hv, by omega, r⟩
theorem Own.row (h : Own w B v e xs) (hn : xs.length ≤ maxLen) : ∃ a c, v = .slice a xs.length c ∧ Row w a xs := by
  rcases h.2 with ⟨rfl, h0⟩ | ⟨g, cap, cur, rfl, _⟩
  · have : xs = [] := List.eq_nil_of_length_eq_zero h0
    subst this
    exact ⟨none, 0, rfl, Row.nil⟩
  · exact ⟨_, _, rfl, Row.of_own h hn⟩
theorem Own.lit {g n cap : Nat} (h : Own w B (.slice (some ⟨g, 0, none⟩) n cap) e xs) : n = xs.length := by
  rcases h.2 with ⟨h1, _⟩ | ⟨g', cap', cur, h1, _⟩
  · cases h1
  · injection h1
theorem Own.cell {g n cap : Nat} (h : Own w B (.slice (some ⟨g, 0, none⟩) n cap) e xs) (j : Nat) (hj : j < xs.length) : w.cell? ⟨g, j, none⟩ = xs[j]? := by
  have hn := h.lit
  subst hn
  exact World.ownsRow.cellAt h j (by omega)
theorem Own.frozen {g n cap : Nat} (h : Own w B (.slice (some ⟨g, 0, none⟩) n cap) e xs) (j : Nat) : w.frozen? ⟨g, j, none⟩ = false := by
  have hn := h.lit
  subst hn
  exact World.ownsRow.frozenAt h j
theorem Own.put {g n cap : Nat} (h : Own w B (.slice (some ⟨g, 0, none⟩) n cap) e xs) (j : Nat) (u : Value) :
    Own (w.setCell ⟨g, j, none⟩ u) B (.slice (some ⟨g, 0, none⟩) n cap) e (xs.set j u) := by
  have hn := h.lit
  subst hn
  have := World.ownsRow.stored h j u
  unfold Own
  rw [List.length_set]
  exact this.1
theorem grown_put {w : World} {g : Nat} (j : Nat) (u : Value) : w.grownBy (w.setCell ⟨g, j, none⟩ u) (some g) :=
  ⟨rfl, rfl, rfl, by simp [World.setCell], fun k _ hne => Below.heap_setCell _ _ _ _ (by rintro rfl; exact hne rfl)⟩
theorem grown_alloc (w : World) (o : Obj) (row : Option Nat) : w.grownBy (w.alloc o) row := World.grownBy_alloc w o row
theorem grown_drewN (w : World) (n : Nat) (row : Option Nat) : w.grownBy (w.drewN n) row := ⟨rfl, rfl, rfl, Nat.le_refl _, fun _ _ _ => rfl⟩
theorem grown_below {a b : World} (h : Below a.heap.size a b) (row : Option Nat) : a.grownBy b row := ⟨h.os, h.tape, h.output, h.size, fun i hi _ => h.block i hi⟩
/-- What is new to a may be written. -/
theorem grown_new {a b c : World} {row row' : Option Nat} (h : a.grownBy b row) (k : b.grownBy c row') (hr : ∀ g, row' = some g → a.heap.size ≤ g ∨ row = some g) : a.grownBy c row :=
  ⟨k.os.trans h.os, k.tape.trans h.tape, k.output.trans h.output, Nat.le_trans h.size k.size, fun i hi hne => (k.block i (Nat.lt_of_lt_of_le hi h.size) (fun e => by
    rcases hr i e.symm with h1 | h1
    · omega
    · exact hne h1.symm)).trans (h.block i hi hne)⟩
end

section
variable {P : Program} {w : World}
/-- append of one element: its box has just been made. -/
theorem app1 {ops : Array Oper} {rest : List Oper} {o : Oper} {a : Act} {Q : Exit → Act → World → Prop} (hgd : o.guard = none) (s x : Operand) (T e : TypeId)
    (ho : o.op = .call { callee := .builtin .append, args := #[s, x], argTypes := #[T, T] })
    (i : TypeInfo) (z : Value) (bytes : Nat) (ht : P.underlying T = some (.slice e)) (hi : P.info? e = some i) (hz : i.zero = some z)
    (hsize : i.size = 1) (hby : i.bytes = bytes) (hzs : z.cells.size = 1) (hb64 : bytes ≤ 64)
    (B : Nat) (u : Value) (v : Value) (xs : List Value) (hs : a.eval s = v) (hown : Own w B v e xs) (hx : a.eval x = .slice (some ⟨w.heap.size, 0, none⟩) 1 1)
    (h1 : u.oneCell' = true) (hlen : xs.length < 1099511627776) (hB : B ≤ w.heap.size)
    (h : ∀ v' w', Own w' B v' e (xs ++ [u]) → w.grownBy w' v.ownBlock → (v'.ownBlock = v.ownBlock ∨ ∃ g, v'.ownBlock = some g ∧ w.heap.size ≤ g) → wpList P ops Q rest (a.put o.dst v') w') :
    wpList P ops Q (o :: rest) a (w.alloc (.cells #[u] e)) := by
  refine wpList_append_own_at (w := w.alloc (.cells #[u] e)) hgd s x T ho B e i z 1 bytes ht hi hz hsize hby hzs (by omega) v xs.length xs hs (hown.alloc _) ⟨w.heap.size, 0, none⟩ 1 1 [u] hx rfl (cell_one_new w u e) (by simpa using h1) (by unfold maxLen; omega)
    (Nat.le_trans (Nat.mul_le_mul_left _ hb64) (by omega)) (by simp; omega) ?_
  intro v' w' h2 h3 _ h5
  refine h v' w' (by unfold Own; rw [List.length_append]; exact h2) ?_ ?_
  · exact (grown_alloc w _ v.ownBlock).trans h3
  · rcases h5 with h5 | h5
    · exact .inl h5
    · exact .inr ⟨_, h5, by simp⟩

/-- make([]T, n). -/
theorem mk1 {ops : Array Oper} {rest : List Oper} {o : Oper} {a : Act} {Q : Exit → Act → World → Prop}
    (hg : o.guard = none) (l c : Operand) (T e : TypeId) (hop : o.op = Op.makeSlice T l c)
    (i : TypeInfo) (z : Value) (bytes : Nat) (ht : P.underlying T = some (.slice e)) (hi : P.info? e = some i) (hz : i.zero = some z) (hsize : i.size = 1) (hby : i.bytes = bytes) (hzs : z.cells = #[z]) (hb64 : bytes ≤ 64)
    (B : Nat) (n : Nat) (hl : a.eval l = .int .i64 n) (hc : a.eval c = .int .i64 n) (hn : n < 1099511627776) (hB : B ≤ w.heap.size)
    (hK : ∀ w', Own w' B (.slice (some ⟨w.heap.size, 0, none⟩) n n) e (List.replicate n z) → w.grownBy w' none → w'.heap.size = w.heap.size + 1 → wpList P ops Q rest (a.put o.dst (.slice (some ⟨w.heap.size, 0, none⟩) n n)) w') :
    wpList P ops Q (o :: rest) a w := by
  refine wpList_plain hg fun K hK' => ?_
  have h63 : n ≤ maxLen := by unfold maxLen; omega
  have hb' : (i.bytes : Int) * (n : Int) ≤ 281474976710656 := by
    have h := Nat.mul_le_mul_right n (by rw [hby]; exact hb64 : i.bytes ≤ 64)
    have h : ((i.bytes * n : Nat) : Int) ≤ 281474976710656 := by omega
    rwa [Int.natCast_mul] at h
  have hr := run_make (P := P) w T e i z ht hi hz .i64 .i64 n n (by omega) (Int.le_refl _) hb' (by omega)
  simp only [Int.toNat_natCast] at hr
  have hs1 := hsize
  have hown : (w.alloc (.cells (madeCells z.cells (n * i.size)) e)).ownsRow B e 1 (.slice (some ⟨w.heap.size, 0, none⟩) n n) n (madeCells z.cells (n * i.size)).toList := by
    rw [hs1]
    exact World.ownsRow_lit w _ n hB h63 (size_madeCells _ _)
  rw [hs1, Nat.mul_one, hzs, toList_madeCells_one] at hown
  unfold Oper.wp
  simp [execOp, hop, hl, hc, hr, Result.andThen]
  refine hK' _ _ (hK _ ?_ (grown_alloc w _ none) (by simp))
  unfold Own
  rw [List.length_replicate, hs1, Nat.mul_one, hzs]
  exact hown
end
end Go.Proofs.YtjjjohmppehejaaGreat

namespace Go.Proofs.YtjjjohmppehejaaGreat
open Go.RowKit
theorem splice_take {α : Type} (C cs : List α) (n off : Nat) (h : off + cs.length ≤ n) (hn : n ≤ C.length) :
    (C.take off ++ (cs ++ C.drop (off + cs.length))).take n = (C.take n).take off ++ (cs ++ (C.take n).drop (off + cs.length)) := by
  have h1 : (C.take off).length = off := by simp; omega
  rw [List.take_append, h1, List.take_of_length_le (by omega : (C.take off).length ≤ n), List.take_take, Nat.min_eq_left (by omega), List.take_append, List.take_of_length_le (by omega : cs.length ≤ n - off), List.drop_take]
  rw [Nat.sub_sub]
section
variable {P : Program} {w : World}
/-- copy into a row of the call's own, of cells that lie anywhere. -/
theorem copy1 {ops : Array Oper} {rest : List Oper} {o : Oper} {a : Act} {Q : Exit → Act → World → Prop} (hgd : o.guard = none) (d s : Operand) (T e : TypeId)
    (ho : o.op = .call { callee := .builtin .copy, args := #[d, s], argTypes := #[T, T] }) (hu : P.underlying T = some (.slice e)) (i : TypeInfo) (hi : P.info? e = some i) (hsz : i.size = 1)
    (B g n cap : Nat) (xs : List Value) (hown : Own w B (.slice (some ⟨g, 0, none⟩) n cap) e xs)
    (dp sp : Option Addr) (dLen dCap sLen sCap : Nat) (hd : a.eval d = .slice dp dLen dCap) (hs : a.eval s = .slice sp sLen sCap)
    (off : Nat) (cs : List Value) (hn : cs.length = Nat.min sLen dLen)
    (hpos : 0 < cs.length → dp = some ⟨g, off, none⟩ ∧ ∃ ad, sp = some ad ∧ ∀ j v, cs[j]? = some v → w.cell? (ad.add j) = some v)
    (hfit : off + cs.length ≤ xs.length) (h1 : ∀ v ∈ cs, v.oneCell' = true)
    (h : ∀ w', Own w' B (.slice (some ⟨g, 0, none⟩) n cap) e (xs.take off ++ (cs ++ xs.drop (off + cs.length))) → w.grownBy w' (some g) → wpList P ops Q rest (a.put o.dst (goInt cs.length)) w') :
    wpList P ops Q (o :: rest) a w := by
  obtain rfl := hown.lit
  have hsz' : (P.info? e).map (·.size) = some 1 := by rw [hi]; simp [hsz]
  rcases hown.2 with ⟨h2, _⟩ | ⟨g', cap', cur, h2, hB, hh, hnc, hcm, hcs, htk⟩
  · cases h2
  cases h2
  simp only [Nat.mul_one] at hcs htk
  have hl0 : xs.length ≤ cur.toList.length := by rw [← htk]; simp; omega
  by_cases h0 : cs.length = 0
  · obtain rfl : cs = [] := List.eq_nil_of_length_eq_zero h0
    refine wpList_copy_nothing hgd d s T T ho e hu hsz' dp sp dLen dCap sLen sCap hd hs (by simpa using hn.symm) ?_
    refine h w ?_ (World.grownBy.refl w _)
    simpa using hown
  · obtain ⟨rfl, ad, rfl, hsrc⟩ := hpos (by omega)
    refine wpList_copy_own hgd d s T T ho e hu hsz' g off dLen dCap ad sLen sCap hd hs cur e hh cs hn hsrc (by rw [hcs]; omega) h1 ?_
    refine h _ ?_ ⟨rfl, rfl, rfl, by simp [World.setRow], fun k hk hne => setRow_other w g k _ (by rintro rfl; exact hne rfl)⟩
    have hlen : (xs.take off ++ (cs ++ xs.drop (off + cs.length))).length = xs.length := by simp; omega
    refine ⟨by omega, .inr ⟨g, cap, _, by rw [hlen], hB, setRow_heap w g _ _ e _ hh, by omega, hcm, ?_, ?_⟩⟩
    · have : cur.toList.length = cur.size := by simp
      simp; omega
    · rw [hlen, Nat.mul_one, splice_take _ _ _ _ (by omega) hl0, htk]
end
end Go.Proofs.YtjjjohmppehejaaGreat

namespace Go.Proofs.YtjjjohmppehejaaGreat
open Go.RowKit
theorem Own.form {w : World} {B : Nat} {v : Value} {e : TypeId} {xs : List Value} (h : Own w B v e xs) (hn : 0 < xs.length) :
    ∃ g cap, v = .slice (some ⟨g, 0, none⟩) xs.length cap ∧ B ≤ g ∧ g < w.heap.size ∧ xs.length ≤ cap ∧ cap ≤ maxLen := by
  rcases h.2 with ⟨_, h0⟩ | ⟨g, cap, cur, rfl, hB, hh, hnc, hcm, _⟩
  · omega
  · refine ⟨g, cap, rfl, hB, ?_, hnc, hcm⟩
    rcases Nat.lt_or_ge g w.heap.size with hl | hl
    · exact hl
    · rw [Array.getElem?_eq_none hl] at hh; cases hh
/-- A slice that is written out: its row is the call's own. -/
theorem Own.new {w : World} {B : Nat} (e : TypeId) (xs : List Value) (hB : B ≤ w.heap.size) (hm : xs.length ≤ maxLen) :
    Own (w.alloc (.cells xs.toArray e)) B (.slice (some ⟨w.heap.size, 0, none⟩) xs.length xs.length) e xs := by
  have := World.ownsRow_lit (base := B) (e := e) (size := 1) w xs.toArray xs.length hB hm (by simp)
  simpa [Own] using this
def ints (xs : List Int) : List Value := xs.map (Value.int .i64)
theorem ints_get {xs : List Int} {k : Nat} (h : k < xs.length) : (ints xs)[k]? = some (.int .i64 (xs[k]?.getD 0)) := by
  simp [ints, List.getElem?_map, h]
theorem ints_len (xs : List Int) : (ints xs).length = xs.length := by simp [ints]
theorem ints_set (xs : List Int) (k : Nat) (x : Int) : (ints xs).set k (.int .i64 x) = ints (xs.set k x) := by simp [ints, List.map_set]
theorem ints_zero (n : Nat) : List.replicate n (Value.int .i64 0) = ints (List.replicate n 0) := by simp [ints]
theorem Own.ints {w : World} {B : Nat} {v : Value} {e : TypeId} {xs : List Int} (h : Own w B v e (ints xs)) (hl : xs.length ≤ maxLen) : IsInts w v xs := by
  obtain ⟨a, c, e, hr⟩ := h.row (by rw [ints_len]; exact hl)
  exact ⟨a, c, by rw [e, ints_len], hr⟩
/-- Rows of the call's own. -/
def OwnRows (w : World) (B : Nat) (e : TypeId) (cs : List Value) (xss : List (List Int)) : Prop :=
  cs.length = xss.length ∧ ∀ (i : Nat) u xs, cs[i]? = some u → xss[i]? = some xs → Own w B u e (ints xs)
section
variable {w w' : World} {B : Nat} {e : TypeId} {cs : List Value} {xss : List (List Int)}
theorem OwnRows.nil (w : World) (B : Nat) (e : TypeId) : OwnRows w B e [] [] := ⟨rfl, fun i u xs h => by simp at h⟩
theorem OwnRows.kept (h : OwnRows w B e cs xss) {row : Option Nat} (hg : w.grownBy w' row)
    (hne : ∀ (u : Value) (xs : List Value), Own w B u e xs → u.ownBlock = none ∨ u.ownBlock ≠ row) : OwnRows w' B e cs xss :=
  ⟨h.1, fun i u xs hu hx => (h.2 i u xs hu hx).kept hg (hne u _ (h.2 i u xs hu hx))⟩
theorem OwnRows.app {cs' : List Value} {yss : List (List Int)} (h : OwnRows w B e cs xss) (h' : OwnRows w B e cs' yss) : OwnRows w B e (cs ++ cs') (xss ++ yss) := by
  refine ⟨by simp [h.1, h'.1], fun i v ys hv hy => ?_⟩
  by_cases hi : i < cs.length
  · rw [List.getElem?_append_left hi] at hv
    rw [List.getElem?_append_left (by rw [← h.1]; exact hi)] at hy
    exact h.2 i v ys hv hy
  · rw [List.getElem?_append_right (by omega)] at hv
    rw [List.getElem?_append_right (by rw [← h.1]; omega), ← h.1] at hy
    exact h'.2 _ v ys hv hy
theorem OwnRows.one {u : Value} {xs : List Int} (h : Own w B u e (Go.Proofs.YtjjjohmppehejaaGreat.ints xs)) : OwnRows w B e [u] [xs] := by
  refine ⟨rfl, fun i v ys hv hy => ?_⟩
  match i, hv, hy with
  | 0, hv, hy => simp at hv hy; subst hv; subst hy; exact h
theorem OwnRows.take (h : OwnRows w B e cs xss) (k : Nat) : OwnRows w B e (cs.take k) (xss.take k) := by
  refine ⟨by simp [h.1], fun i v ys hv hy => ?_⟩
  rw [List.getElem?_take] at hv hy
  by_cases hi : i < k
  · rw [if_pos hi] at hv hy; exact h.2 i v ys hv hy
  · rw [if_neg hi] at hv; cases hv
theorem OwnRows.drop (h : OwnRows w B e cs xss) (k : Nat) : OwnRows w B e (cs.drop k) (xss.drop k) := by
  refine ⟨by simp [h.1], fun i v ys hv hy => ?_⟩
  rw [List.getElem?_drop] at hv hy
  exact h.2 _ v ys hv hy
theorem OwnRows.rows {e' : TypeId} {v : Value} (h : OwnRows w B e cs xss) (hv : Own w B v e' cs) (hl : cs.length ≤ maxLen) (hs : ∀ xs ∈ xss, xs.length ≤ maxLen) :
    ∃ a c, v = .slice a xss.length c ∧ Rows w a xss := by
  obtain ⟨a, c, rfl, hr⟩ := hv.row hl
  exact ⟨a, c, by rw [h.1], cs, hr, h.1, fun i u xs hu hx => (h.2 i u xs hu hx).ints (hs xs (List.mem_of_getElem? hx))⟩
theorem OwnRows.at_ (h : OwnRows w B e cs xss) {k : Nat} (hk : k < xss.length) : ∃ u, cs[k]? = some u ∧ Own w B u e (Go.Proofs.YtjjjohmppehejaaGreat.ints (xss[k]?.getD [])) := by
  have hc : k < cs.length := by rw [h.1]; exact hk
  refine ⟨cs[k], List.getElem?_eq_getElem hc, ?_⟩
  have := h.2 k _ _ (List.getElem?_eq_getElem hc) (List.getElem?_eq_getElem hk)
  rw [List.getElem?_eq_getElem hk]; exact this
theorem OwnRows.mono {B' : Nat} (h : OwnRows w B e cs xss) (hb : B' ≤ B) : OwnRows w B' e cs xss := ⟨h.1, fun i u xs hu hx => (h.2 i u xs hu hx).mono hb⟩
theorem OwnRows.drewN (h : OwnRows w B e cs xss) (n : Nat) : OwnRows (w.drewN n) B e cs xss := h
end
end Go.Proofs.YtjjjohmppehejaaGreat

namespace Go.Proofs.YtjjjohmppehejaaGreat
open Go.RowKit
theorem Own.at_form {w : World} {B : Nat} {a : Option Addr} {n c : Nat} {e : TypeId} {xs : List Value} (h : Own w B (.slice a n c) e xs) (hn : 0 < n) :
    ∃ g, a = some ⟨g, 0, none⟩ ∧ B ≤ g ∧ g < w.heap.size ∧ n = xs.length ∧ n ≤ c ∧ c ≤ maxLen := by
  rcases h.2 with ⟨h1, h0⟩ | ⟨g, cap, cur, h1, hB, hh, hnc, hcm, _⟩
  · cases h1; omega
  · cases h1
    refine ⟨g, rfl, hB, ?_, rfl, hnc, hcm⟩
    rcases Nat.lt_or_ge g w.heap.size with hl | hl
    · exact hl
    · rw [Array.getElem?_eq_none hl] at hh; cases hh
theorem Own.toInts {w : World} {B : Nat} {a : Option Addr} {n c : Nat} {e : TypeId} {xs : List Int} (h : Own w B (.slice a n c) e (Go.Proofs.YtjjjohmppehejaaGreat.ints xs)) (hl : xs.length ≤ maxLen) : Ints w a xs := by
  obtain ⟨a', c', e', hr⟩ := h.ints hl
  injection e' with e1 e2 e3
  subst e1
  exact hr
theorem Own.len_eq {w : World} {B : Nat} {a : Option Addr} {n c : Nat} {e : TypeId} {xs : List Value} (h : Own w B (.slice a n c) e xs) : n = xs.length := by
  rcases h.2 with ⟨h1, h0⟩ | ⟨g, cap, cur, h1, _⟩
  · cases h1; omega
  · injection h1
end Go.Proofs.YtjjjohmppehejaaGreat

namespace Go.Proofs.YtjjjohmppehejaaGreat
open Go.RowKit
section
variable {P : Program} {w : World}
/-- append of one element; the new slice is written out. -/
theorem app1f {ops : Array Oper} {rest : List Oper} {o : Oper} {a : Act} {Q : Exit → Act → World → Prop} (hgd : o.guard = none) (s x : Operand) (T e : TypeId)
    (ho : o.op = .call { callee := .builtin .append, args := #[s, x], argTypes := #[T, T] })
    (i : TypeInfo) (z : Value) (bytes : Nat) (ht : P.underlying T = some (.slice e)) (hi : P.info? e = some i) (hz : i.zero = some z)
    (hsize : i.size = 1) (hby : i.bytes = bytes) (hzs : z.cells.size = 1) (hb64 : bytes ≤ 64)
    (B : Nat) (u : Value) (v : Value) (xs : List Value) (n : Nat) (hs : a.eval s = v) (hown : Own w B v e xs) (hx : a.eval x = .slice (some ⟨w.heap.size, 0, none⟩) 1 1)
    (h1 : u.oneCell' = true) (hl : xs.length = n) (hlen : n < 1099511627776) (hB : B ≤ w.heap.size)
    (h : ∀ G cap w', Own w' B (.slice (some ⟨G, 0, none⟩) (n + 1) cap) e (xs ++ [u]) → w.grownBy w' v.ownBlock → (v.ownBlock = some G ∨ w.heap.size ≤ G) → B ≤ G → n + 1 ≤ cap → wpList P ops Q rest (a.put o.dst (.slice (some ⟨G, 0, none⟩) (n + 1) cap)) w') :
    wpList P ops Q (o :: rest) a (w.alloc (.cells #[u] e)) := by
  refine app1 hgd s x T e ho i z bytes ht hi hz hsize hby hzs hb64 B u v xs hs hown hx h1 (by omega) hB ?_
  intro v' w' h2 h3 h4
  obtain ⟨G, cap, rfl, hG, hG2, hc1, hc2⟩ := h2.form (by simp)
  have hle : (xs ++ [u]).length = n + 1 := by simp [hl]
  rw [hle] at h2 hc1 ⊢
  refine h G cap w' h2 h3 ?_ hG hc1
  rcases h4 with h4 | ⟨g, h4, h5⟩
  · exact .inl h4.symm
  · cases h4; exact .inr h5
end
end Go.Proofs.YtjjjohmppehejaaGreat

namespace Go.Proofs.YtjjjohmppehejaaGreat
open Go.RowKit
section
variable {P : Program} {w : World}
/-- append of all elements of a slice that is not nil. -/
theorem appN {ops : Array Oper} {rest : List Oper} {o : Oper} {a : Act} {Q : Exit → Act → World → Prop} (hgd : o.guard = none) (s x : Operand) (T e : TypeId)
    (ho : o.op = .call { callee := .builtin .append, args := #[s, x], argTypes := #[T, T] })
    (i : TypeInfo) (z : Value) (bytes : Nat) (ht : P.underlying T = some (.slice e)) (hi : P.info? e = some i) (hz : i.zero = some z)
    (hsize : i.size = 1) (hby : i.bytes = bytes) (hzs : z.cells.size = 1) (hb64 : bytes ≤ 64)
    (B : Nat) (v : Value) (xs ys : List Value) (hs : a.eval s = v) (hown : Own w B v e xs) (g of' m c : Nat) (hx : a.eval x = .slice (some ⟨g, of', none⟩) m c)
    (hm : ys.length = m) (hsrc : ∀ j y, ys[j]? = some y → w.cell? ⟨g, of' + j, none⟩ = some y) (h1 : ∀ y ∈ ys, y.oneCell' = true) (hlen : xs.length + m < 1099511627776) (hB : B ≤ w.heap.size)
    (h : ∀ v' w', Own w' B v' e (xs ++ ys) → w.grownBy w' v.ownBlock → (v'.ownBlock = v.ownBlock ∨ ∃ g, v'.ownBlock = some g ∧ w.heap.size ≤ g) → wpList P ops Q rest (a.put o.dst v') w') :
    wpList P ops Q (o :: rest) a w := by
  refine wpList_append_own_at (w := w) hgd s x T ho B e i z 1 bytes ht hi hz hsize hby hzs (by omega) v xs.length xs hs hown ⟨g, of', none⟩ m c ys hx (by omega) (fun j y hy => by rw [add_zero_addr]; exact hsrc j y hy) h1 (by unfold maxLen; omega)
    (Nat.le_trans (Nat.mul_le_mul_left _ hb64) (by omega)) hB ?_
  intro v' w' h2 h3 _ h5
  refine h v' w' (by unfold Own; rw [List.length_append, hm]; exact h2) h3 ?_
  rcases h5 with h5 | h5
  · exact .inl h5
  · exact .inr ⟨_, h5, Nat.le_refl _⟩
end
end Go.Proofs.YtjjjohmppehejaaGreat

namespace Go.Proofs.YtjjjohmppehejaaGreat
open Go.RowKit
section
variable {P : Program} {w : World}
/-- append of all elements of a slice with an address. -/
theorem appA {ops : Array Oper} {rest : List Oper} {o : Oper} {a : Act} {Q : Exit → Act → World → Prop} (hgd : o.guard = none) (s x : Operand) (T e : TypeId)
    (ho : o.op = .call { callee := .builtin .append, args := #[s, x], argTypes := #[T, T] })
    (i : TypeInfo) (z : Value) (bytes : Nat) (ht : P.underlying T = some (.slice e)) (hi : P.info? e = some i) (hz : i.zero = some z)
    (hsize : i.size = 1) (hby : i.bytes = bytes) (hzs : z.cells.size = 1) (hb64 : bytes ≤ 64)
    (B : Nat) (v : Value) (xs ys : List Value) (hs : a.eval s = v) (hown : Own w B v e xs) (ad : Addr) (m c : Nat) (hx : a.eval x = .slice (some ad) m c)
    (hm : ys.length = m) (hsrc : ∀ j y, ys[j]? = some y → w.cell? (ad.add j) = some y) (h1 : ∀ y ∈ ys, y.oneCell' = true) (hlen : xs.length + m < 1099511627776) (hB : B ≤ w.heap.size)
    (h : ∀ v' w', Own w' B v' e (xs ++ ys) → w.grownBy w' v.ownBlock → wpList P ops Q rest (a.put o.dst v') w') :
    wpList P ops Q (o :: rest) a w := by
  refine wpList_append_own_at (w := w) hgd s x T ho B e i z 1 bytes ht hi hz hsize hby hzs (by omega) v xs.length xs hs hown ad m c ys hx (by omega) hsrc h1 (by unfold maxLen; omega)
    (Nat.le_trans (Nat.mul_le_mul_left _ hb64) (by omega)) hB ?_
  intro v' w' h2 h3 _ _
  exact h v' w' (by unfold Own; rw [List.length_append, hm]; exact h2) h3
end
theorem Ints.src {w : World} {ad : Addr} {xs : List Int} (h : Ints w (some ad) xs) : ∀ j y, (Go.Proofs.YtjjjohmppehejaaGreat.ints xs)[j]? = some y → w.cell? (ad.add j) = some y := by
  intro j y hy
  have hj : j < xs.length := by have := (List.getElem?_eq_some_iff.1 hy).1; rwa [ints_len] at this
  obtain ⟨b, o, e, _, hc⟩ := h.at_ hj
  injection e with e
  subst e
  rw [add_zero_addr, hc, ← hy, ints_get hj]
theorem ints_one (xs : List Int) : ∀ y ∈ Go.Proofs.YtjjjohmppehejaaGreat.ints xs, y.oneCell' = true := fun y hy => by
  obtain ⟨b, _, rfl⟩ := List.mem_map.1 hy; rfl
end Go.Proofs.YtjjjohmppehejaaGreat

namespace Go.Proofs.YtjjjohmppehejaaGreat
open Go.RowKit
/-- The slice's block, and the blocks of the slices that it holds, lie from B on. -/
def Far (B : Nat) (w : World) (a : Option Addr) (N : Nat) : Prop :=
  ∀ ad, a = some ad → 0 < N → B ≤ ad.block ∧ ∀ k, k < N → ∀ b l c, w.cell? (ad.add k) = some (.slice (some b) l c) → 0 < l → B ≤ b.block
/-- A slice of slices of ints, all of it from B on. -/
def RowsB (B : Nat) (w : World) (a : Option Addr) (xss : List (List Int)) : Prop := Rows w a xss ∧ Far B w a xss.length
def IntsB (B : Nat) (w : World) (a : Option Addr) (xs : List Int) : Prop := Ints w a xs ∧ ∀ ad, a = some ad → 0 < xs.length → B ≤ ad.block
theorem Far.mono {B B' N : Nat} {w : World} {a : Option Addr} (h : Far B w a N) (hb : B' ≤ B) : Far B' w a N := fun ad e hn =>
  ⟨Nat.le_trans hb (h ad e hn).1, fun k hk b l c hc hl => Nat.le_trans hb ((h ad e hn).2 k hk b l c hc hl)⟩
theorem RowsB.mono {B B' : Nat} {w : World} {a : Option Addr} {xss : List (List Int)} (h : RowsB B w a xss) (hb : B' ≤ B) : RowsB B' w a xss := ⟨h.1, h.2.mono hb⟩
theorem IntsB.mono {B B' : Nat} {w : World} {a : Option Addr} {xs : List Int} (h : IntsB B w a xs) (hb : B' ≤ B) : IntsB B' w a xs := ⟨h.1, fun ad e hn => Nat.le_trans hb (h.2 ad e hn)⟩
theorem RowsB.none {B : Nat} {w : World} : RowsB B w none [] := ⟨⟨[], Row.nil, rfl, fun i u xs h => by simp at h⟩, fun ad e => by cases e⟩
/-- What lies from B on stays where the blocks from B on stay. -/
theorem IntsB.kept {B : Nat} {w w' : World} {a : Option Addr} {xs : List Int} (h : IntsB B w a xs) (hs : w.heap.size ≤ w'.heap.size) (hk : ∀ k, B ≤ k → k < w.heap.size → w'.heap[k]? = w.heap[k]?) : IntsB B w' a xs := by
  refine ⟨⟨h.1.1, fun i u hu => ?_⟩, h.2⟩
  obtain ⟨b, o, e, hb, hc⟩ := h.1.2 i u hu
  have hpos : 0 < xs.length := by
    have := (List.getElem?_eq_some_iff.1 hu).1
    rw [List.length_map] at this; omega
  have := h.2 _ e hpos
  exact ⟨b, o, e, by omega, (World.cell?_of_block (hk b this hb)).trans hc⟩
theorem RowsB.kept {B : Nat} {w w' : World} {a : Option Addr} {xss : List (List Int)} (h : RowsB B w a xss) (hs : w.heap.size ≤ w'.heap.size) (hk : ∀ k, B ≤ k → k < w.heap.size → w'.heap[k]? = w.heap[k]?) : RowsB B w' a xss := by
  obtain ⟨⟨vs, hr, hl, hi⟩, hf⟩ := h
  have cells : ∀ k, k < xss.length → ∀ ad, a = some ad → w'.cell? (ad.add k) = w.cell? (ad.add k) := fun k hk' ad e => by
    obtain ⟨b, o, e2, hb, hc⟩ := hr.2 k _ (List.getElem?_eq_getElem (by omega))
    rw [e] at e2; cases e2
    have := (hf _ e (by omega)).1
    rw [add_zero_addr]
    exact World.cell?_of_block (hk b this hb)
  refine ⟨⟨vs, ⟨hr.1, fun i u hu => ?_⟩, hl, fun i u xs hu hx => ?_⟩, fun ad e hn => ⟨(hf ad e hn).1, fun k hk' b l c hc hl' => (hf ad e hn).2 k hk' b l c (by rw [← cells k hk' ad e]; exact hc) hl'⟩⟩
  · obtain ⟨b, o, e, hb, hc⟩ := hr.2 i u hu
    have hi' : i < xss.length := by have := (List.getElem?_eq_some_iff.1 hu).1; omega
    have := cells i hi' _ e
    rw [add_zero_addr] at this
    exact ⟨b, o, e, by omega, this.trans hc⟩
  · obtain ⟨b, o, e, hb, hc⟩ := hr.2 i u hu
    have hi' : i < xss.length := by have := (List.getElem?_eq_some_iff.1 hu).1; omega
    obtain ⟨a2, c2, e2, h2⟩ := hi i u xs hu hx
    refine ⟨a2, c2, e2, ?_⟩
    have hB : IntsB B w a2 xs := ⟨h2, fun ad ea hp => by
      subst ea
      refine (hf _ e (by omega)).2 i hi' ad xs.length c2 ?_ hp
      rw [add_zero_addr, hc, e2]⟩
    exact (hB.kept hs hk).1
theorem IntsB.below {B : Nat} {w w' : World} {a : Option Addr} {xs : List Int} (h : IntsB B w a xs) (hb : Below w.heap.size w w') : IntsB B w' a xs := h.kept hb.size fun k _ hk => hb.block k hk
theorem RowsB.below {B : Nat} {w w' : World} {a : Option Addr} {xss : List (List Int)} (h : RowsB B w a xss) (hb : Below w.heap.size w w') : RowsB B w' a xss := h.kept hb.size fun k _ hk => hb.block k hk
theorem Own.intsB {w : World} {B n c : Nat} {a : Option Addr} {e : TypeId} {xs : List Int} (h : Own w B (.slice a n c) e (Go.Proofs.YtjjjohmppehejaaGreat.ints xs)) (hl : xs.length ≤ maxLen) : IntsB B w a xs := by
  refine ⟨h.toInts hl, fun ad e hp => ?_⟩
  obtain ⟨g, e2, hB, _⟩ := h.at_form (by rw [h.len_eq, ints_len]; exact hp)
  rw [e] at e2; cases e2; exact hB
theorem OwnRows.far {w : World} {B n c : Nat} {e e' : TypeId} {a : Option Addr} {cs : List Value} {xss : List (List Int)} (h : OwnRows w B e cs xss) (hv : Own w B (.slice a n c) e' cs) : Far B w a xss.length := fun ad ea hn => by
  have hl := hv.len_eq
  obtain ⟨g, e2, hB, _⟩ := hv.at_form (by rw [hl, h.1]; exact hn)
  rw [ea] at e2; cases e2
  refine ⟨hB, fun k hk b l c2 hc hl2 => ?_⟩
  subst ea
  have hc2 := hv.cell k (by rw [h.1]; exact hk)
  rw [add_zero_addr, Nat.zero_add, hc2] at hc
  obtain ⟨u, hu, ho⟩ := h.at_ hk
  rw [hu] at hc
  cases hc
  obtain ⟨g2, e3, hB2, _⟩ := ho.at_form hl2
  cases e3; exact hB2
theorem OwnRows.rowsB {w : World} {B : Nat} {e e' : TypeId} {v : Value} {cs : List Value} {xss : List (List Int)} (h : OwnRows w B e cs xss) (hv : Own w B v e' cs) (hl : cs.length ≤ maxLen) (hs : ∀ xs ∈ xss, xs.length ≤ maxLen) :
    ∃ a c, v = .slice a xss.length c ∧ RowsB B w a xss := by
  obtain ⟨a, c, rfl, hr⟩ := h.rows hv hl hs
  exact ⟨a, c, rfl, hr, h.far hv⟩
end Go.Proofs.YtjjjohmppehejaaGreat
