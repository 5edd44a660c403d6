/- Worlds that differ in few blocks; rows of pairs of the call's own. -/
import Derived.Test.YtifkieopaoooeaaDoorGChk
set_option linter.unusedSimpArgs false
set_option linter.unusedVariables false
namespace Go.Proofs.YtifkieopaoooeaaDoor
open Go.RowKit Plain PlainG
/-- Only the blocks of S may have changed. -/
structure Kept (w w' : World) (S : List Nat) : Prop where
  os : w'.os = w.os
  tape : w'.tape = w.tape
  output : w'.output = w.output
  size : w.heap.size ≤ w'.heap.size
  block : ∀ k, k < w.heap.size → k ∉ S → w'.heap[k]? = w.heap[k]?
theorem Kept.refl (w : World) (S : List Nat) : Kept w w S := ⟨rfl, rfl, rfl, Nat.le_refl _, fun _ _ _ => rfl⟩
theorem Kept.trans {a b c : World} {S : List Nat} (h : Kept a b S) (k : Kept b c S) : Kept a c S :=
  ⟨k.os.trans h.os, k.tape.trans h.tape, k.output.trans h.output, Nat.le_trans h.size k.size, fun i hi hs => (k.block i (Nat.lt_of_lt_of_le hi h.size) hs).trans (h.block i hi hs)⟩
theorem Kept.ofGrown {w w' : World} {r : Option Nat} {S : List Nat} (h : w.grownBy w' r) (hr : ∀ k, r = some k → k ∈ S) : Kept w w' S :=
  ⟨h.os, h.tape, h.output, h.size, fun k hk hs => h.block k hk (fun e => hs (hr k e.symm))⟩
theorem Kept.ofBelow {w w' : World} {S : List Nat} (h : Below w.heap.size w w') : Kept w w' S := ⟨h.os, h.tape, h.output, h.size, fun k hk _ => h.block k hk⟩
theorem Kept.below {w w' : World} {S : List Nat} {D : Nat} (h : Kept w w' S) (hd : D ≤ w.heap.size) (hs : ∀ k ∈ S, D ≤ k) : Below D w w' :=
  ⟨h.os, h.tape, h.output, h.size, fun k hk => h.block k (Nat.lt_of_lt_of_le hk hd) (fun hm => by have := hs k hm; omega)⟩
theorem Kept.cell {w w' : World} {S : List Nat} (h : Kept w w' S) {p : Addr} (hp : p.block < w.heap.size) (hs : p.block ∉ S) : w'.cell? p = w.cell? p := World.cell?_of_block (w := w) (h.block p.block hp hs)
theorem Kept.frozen {w w' : World} {S : List Nat} (h : Kept w w' S) {p : Addr} (hp : p.block < w.heap.size) (hs : p.block ∉ S) : w'.frozen? p = w.frozen? p := World.frozen?_of_block (w := w) (h.block p.block hp hs)
theorem Kept.drewN {w w' : World} {S : List Nat} (h : Kept w w' S) (n : Nat) : Kept w (w'.drewN n) S := ⟨h.os, h.tape, h.output, h.size, h.block⟩
theorem Kept.mono {w w' : World} {S S' : List Nat} (h : Kept w w' S) (hs : ∀ k ∈ S, k ∈ S') : Kept w w' S' := ⟨h.os, h.tape, h.output, h.size, fun k hk hn => h.block k hk (fun hm => hn (hs k hm))⟩
theorem ownsRow_block {w w' : World} {B : Nat} {v : Value} {e : TypeId} {s n : Nat} {xs : List Value} (h : w.ownsRow B e s v n xs) (hb : ∀ g, v.ownBlock = some g → w'.heap[g]? = w.heap[g]?) : w'.ownsRow B e s v n xs := by
  refine ⟨h.1, ?_⟩
  rcases h.2 with h2 | ⟨g, cap, cur, rfl, hB, hh, r⟩
  · exact .inl h2
  · exact .inr ⟨g, cap, cur, rfl, hB, (hb g rfl).trans hh, r⟩
theorem Own.block_lt {w : World} {B : Nat} {v : Value} {e : TypeId} {xs : List Value} {g : Nat} (h : Own w B v e xs) (hg : v.ownBlock = some g) : g < w.heap.size ∧ B ≤ g := by
  rcases h.2 with ⟨rfl, _⟩ | ⟨g', cap, cur, rfl, hB, hh, _⟩
  · cases hg
  · cases hg
    refine ⟨?_, hB⟩
    rcases Nat.lt_or_ge g' w.heap.size with hl | hl
    · exact hl
    · rw [Array.getElem?_eq_none hl] at hh; cases hh
theorem Own.keptL {w w' : World} {B : Nat} {v : Value} {e : TypeId} {xs : List Value} {S : List Nat} (h : Own w B v e xs) (k : Kept w w' S) (hs : ∀ g, v.ownBlock = some g → g ∉ S) : Own w' B v e xs :=
  ownsRow_block h fun g hg => k.block g (h.block_lt hg).1 (hs g hg)
def tl2 (x : Int × Int) : List Int := [x.1, x.2]
def tv2 (x : Int × Int) : List Value := ints (tl2 x)
def flat2 (xs : List (Int × Int)) : List Int := xs.flatMap tl2
theorem flat2_len : ∀ xs, (flat2 xs).length = xs.length * 2
  | [] => rfl
  | x :: r => by
    have : flat2 (x :: r) = tl2 x ++ flat2 r := by simp [flat2]
    rw [this, List.length_append, flat2_len r]; simp [tl2]; omega
theorem flat2_get : ∀ (xs : List (Int × Int)) (i j : Nat), j < 2 → (flat2 xs)[i * 2 + j]? = (xs[i]?).bind fun x => (tl2 x)[j]?
  | [], i, j, _ => by simp [flat2]
  | x :: r, 0, j, h => by
    have : flat2 (x :: r) = tl2 x ++ flat2 r := by simp [flat2]
    rw [this, List.getElem?_append_left (by simp [tl2]; omega)]
    simp
  | x :: r, i + 1, j, h => by
    have : flat2 (x :: r) = tl2 x ++ flat2 r := by simp [flat2]
    rw [this, List.getElem?_append_right (by simp [tl2]; omega)]
    have e : (i + 1) * 2 + j - (tl2 x).length = i * 2 + j := by simp [tl2]; omega
    rw [e, flat2_get r i j h]
    simp
/-- A row of pairs of the call's own; T: the pair's type. -/
def OwnE (w : World) (B : Nat) (T : TypeId) (v : Value) (ts : List (Int × Int)) : Prop := w.ownsRow B T 2 v ts.length (ints (flat2 ts))
section
variable {w w' : World} {B : Nat} {T : TypeId} {v : Value} {ts : List (Int × Int)}
theorem OwnE.nil (w : World) (B : Nat) (T : TypeId) : OwnE w B T (.slice none 0 0) [] := World.ownsRow_nil w B T 2
theorem OwnE.kept (h : OwnE w B T v ts) {row : Option Nat} (hg : w.grownBy w' row) (hne : v.ownBlock = none ∨ v.ownBlock ≠ row) : OwnE w' B T v ts := World.ownsRow.kept h hg hne
theorem OwnE.alloc (h : OwnE w B T v ts) (o : Obj) : OwnE (w.alloc o) B T v ts := World.ownsRow.alloc h o
theorem OwnE.drewN (h : OwnE w B T v ts) (n : Nat) : OwnE (w.drewN n) B T v ts := h
theorem OwnE.mono {B' : Nat} (h : OwnE w B T v ts) (hb : B' ≤ B) : OwnE w B' T v ts := by
  obtain ⟨h1, h2⟩ := h
  refine ⟨h1, ?_⟩
  rcases h2 with h2 | ⟨g, cap, cur, hv, hg, r⟩
  · exact .inl h2
  · exact .inr ⟨g, cap, cur, hv, by omega, r⟩
theorem OwnE.block_lt {g : Nat} (h : OwnE w B T v ts) (hg : v.ownBlock = some g) : g < w.heap.size ∧ B ≤ g := by
  rcases h.2 with ⟨rfl, _⟩ | ⟨g', cap, cur, rfl, hB, hh, _⟩
  · cases hg
  · cases hg
    refine ⟨?_, hB⟩
    rcases Nat.lt_or_ge g' w.heap.size with hl | hl
    · exact hl
    · rw [Array.getElem?_eq_none hl] at hh; cases hh
theorem OwnE.keptL {S : List Nat} (h : OwnE w B T v ts) (k : Kept w w' S) (hs : ∀ g, v.ownBlock = some g → g ∉ S) : OwnE w' B T v ts :=
  ownsRow_block h fun g hg => k.block g (h.block_lt hg).1 (hs g hg)
theorem OwnE.form (h : OwnE w B T v ts) (hn : 0 < ts.length) :
    ∃ g cap, v = .slice (some ⟨g, 0, none⟩) ts.length cap ∧ B ≤ g ∧ g < w.heap.size ∧ ts.length ≤ cap ∧ cap ≤ maxLen := by
  rcases h.2 with ⟨_, h0⟩ | ⟨g, cap, cur, rfl, hB, hh, hnc, hcm, _⟩
  · omega
  · refine ⟨g, cap, rfl, hB, ?_, hnc, hcm⟩
    rcases Nat.lt_or_ge g w.heap.size with hl | hl
    · exact hl
    · rw [Array.getElem?_eq_none hl] at hh; cases hh
theorem OwnE.any_form (h : OwnE w B T v ts) : ∃ a c, v = .slice a ts.length c := by
  rcases h.2 with ⟨rfl, h0⟩ | ⟨g, cap, cur, rfl, _⟩
  · exact ⟨none, 0, by rw [h0]⟩
  · exact ⟨_, _, rfl⟩
theorem OwnE.at_cells {a : Option Addr} {n c : Nat} (h : OwnE w B T (.slice a n c) ts) {i : Nat} {x : Int × Int} (hx : ts[i]? = some x) :
    ∃ g, a = some ⟨g, 0, none⟩ ∧ B ≤ g ∧ g < w.heap.size ∧ w.cell? ⟨g, i * 2, none⟩ = some (.int .i64 x.1) ∧ w.cell? ⟨g, i * 2 + 1, none⟩ = some (.int .i64 x.2) := by
  have hi : i < ts.length := (List.getElem?_eq_some_iff.1 hx).1
  obtain ⟨g, cap, e, hB, hlt, _⟩ := h.form (by omega)
  cases e
  have hc : ∀ j, j < 2 → w.cell? ⟨g, i * 2 + j, none⟩ = some (.int .i64 ((tl2 x)[j]?.getD 0)) := fun j hj => by
    have h1 := World.ownsRow.cells h (g := g) rfl (i * 2 + j) (.int .i64 ((tl2 x)[j]?.getD 0)) (by
      simp only [ints, List.getElem?_map, flat2_get ts i j hj, hx, Option.bind_some]
      obtain ⟨p, q⟩ := x
      have hm : j = 0 ∨ j = 1 := by omega
      rcases hm with hm | hm <;> subst hm <;> simp [tl2])
    rw [add_zero_addr] at h1
    simpa using h1
  exact ⟨g, rfl, hB, hlt, hc 0 (by omega), hc 1 (by omega)⟩
theorem OwnE.len_eq {a : Option Addr} {n c : Nat} (h : OwnE w B T (.slice a n c) ts) : n = ts.length := by
  rcases h.2 with ⟨h1, h0⟩ | ⟨g, cap, cur, h1, _⟩
  · cases h1; omega
  · injection h1
theorem OwnE.edg {a : Option Addr} {n c : Nat} (h : OwnE w B T (.slice a n c) ts) (hl : ts.length ≤ 9223372036854775807) : Edg w a ts :=
  ⟨hl, fun i x hx => by
    obtain ⟨g, e, _, hg, h1, h2⟩ := h.at_cells hx
    exact ⟨g, 0, e, hg, by rw [Nat.zero_add]; exact h1, by rw [Nat.zero_add]; exact h2⟩⟩
end
section
variable {P : Program} {w : World}
/-- append of one pair; its box lies somewhere. -/
theorem appE {ops : Array Oper} {rest : List Oper} {o : Oper} {a : Act} {Q : Exit → Act → World → Prop} (hgd : o.guard = none) (s x : Operand) (T e : TypeId)
    (ho : o.op = .call { callee := .builtin .append, args := #[s, x], argTypes := #[T, T] })
    (i : TypeInfo) (z : Value) (bytes : Nat) (ht : P.underlying T = some (.slice e)) (hi : P.info? e = some i) (hz : i.zero = some z)
    (hsize : i.size = 2) (hby : i.bytes = bytes) (hzs : z.cells.size = 2) (hb64 : bytes ≤ 64)
    (B : Nat) (v : Value) (xs : List (Int × Int)) (n : Nat) (hs : a.eval s = v) (hown : OwnE w B e v xs) (hn : xs.length = n) (ad : Addr) (c : Nat) (y : Int × Int) (hx : a.eval x = .slice (some ad) 1 c)
    (h0 : w.cell? (ad.add 0) = some (.int .i64 y.1)) (h1 : w.cell? (ad.add 1) = some (.int .i64 y.2)) (hlen : n < 1099511627776) (hB : B ≤ w.heap.size)
    (h : ∀ G cap w', OwnE w' B e (.slice (some ⟨G, 0, none⟩) (n + 1) cap) (xs ++ [y]) → w.grownBy w' v.ownBlock → (v.ownBlock = some G ∨ w.heap.size ≤ G) → G < w'.heap.size → B ≤ G → n + 1 ≤ cap → wpList P ops Q rest (a.put o.dst (.slice (some ⟨G, 0, none⟩) (n + 1) cap)) w') :
    wpList P ops Q (o :: rest) a w := by
  refine wpList_append_own_at (w := w) hgd s x T ho B e i z 2 bytes ht hi hz hsize hby hzs (by omega) v xs.length (ints (flat2 xs)) hs hown ad 1 c (tv2 y) hx rfl ?_ ?_ (by unfold maxLen; omega)
    (Nat.le_trans (Nat.mul_le_mul_left _ hb64) (by omega)) hB ?_
  · intro j u hu
    match j, hu with
    | 0, hu => simp [tv2, tl2, ints] at hu; subst hu; exact h0
    | 1, hu => simp [tv2, tl2, ints] at hu; subst hu; exact h1
    | j + 2, hu => simp [tv2, tl2, ints] at hu
  · intro u hu
    simp [tv2, tl2, ints] at hu
    rcases hu with rfl | rfl <;> rfl
  intro v' w' h2 h3 _ h5
  have h6 : OwnE w' B e v' (xs ++ [y]) := by
    unfold OwnE
    rw [show flat2 (xs ++ [y]) = flat2 xs ++ tl2 y by simp [flat2], List.length_append]
    rw [show ints (flat2 xs ++ tl2 y) = ints (flat2 xs) ++ tv2 y by simp [ints, tv2]]
    exact h2
  obtain ⟨G, cap, rfl, hG, hG2, hc1, hc2⟩ := h6.form (by simp)
  have hle : (xs ++ [y]).length = n + 1 := by simp [hn]
  rw [hle] at h6 hc1 ⊢
  refine h G cap w' h6 h3 ?_ hG2 hG hc1
  rcases h5 with h5 | h5
  · exact .inl h5.symm
  · cases h5; exact .inr (Nat.le_refl _)
end
end Go.Proofs.YtifkieopaoooeaaDoor
