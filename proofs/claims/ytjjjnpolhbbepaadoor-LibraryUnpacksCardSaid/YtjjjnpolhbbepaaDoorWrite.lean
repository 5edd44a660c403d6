/- A list of bytes behind a pointer: appending a number's bytes (big); what may change meanwhile. -/
import Derived.Test.YtjjjnpolhbbepaaDoorBase
import Derived.Test.YtjjjnpolhbbepaaDoorPlainLib
import Derived.Test.YtjjjnpolhbbepaaDoorProg
set_option linter.unusedSimpArgs false
set_option linter.unusedVariables false
namespace Go.Proofs.YtjjjnpolhbbepaaDoor
open Go.RowKit
theorem Tryd.info3 : (Tryd.prog.info? 3).map (fun i => (i.zero, i.size, i.bytes)) = some (some (.int .i64 0), 1, 8) := by kernel_rfl
theorem Tryd.info5 : (Tryd.prog.info? 5).map (fun i => (i.zero, i.size, i.bytes)) = some (some (.int .u8 0), 1, 1) := by kernel_rfl
theorem Tryd.info57 : (Tryd.prog.info? 57).map (fun i => (i.zero, i.size, i.bytes)) = some (some (.slice none 0 0), 1, 24) := by kernel_rfl
def byts (xs : List Nat) : List Value := xs.map fun n : Nat => Value.int .u8 (n : Int)
theorem byts_len (xs : List Nat) : (byts xs).length = xs.length := by simp [byts]
theorem byts_app (xs ys : List Nat) : byts (xs ++ ys) = byts xs ++ byts ys := by simp [byts]
theorem byts_one (xs : List Nat) : ∀ y ∈ byts xs, y.oneCell' = true := fun y hy => by
  obtain ⟨b, _, rfl⟩ := List.mem_map.1 hy; rfl
/-- Only blocks in C have changed. -/
structure Chg (C : Nat → Prop) (w w' : World) : Prop where
  os : w'.os = w.os
  tape : w'.tape = w.tape
  output : w'.output = w.output
  size : w.heap.size ≤ w'.heap.size
  block : ∀ k, k < w.heap.size → ¬ C k → w'.heap[k]? = w.heap[k]?
section
variable {C C' : Nat → Prop} {w w1 w2 : World}
theorem Chg.refl (C : Nat → Prop) (w : World) : Chg C w w := ⟨rfl, rfl, rfl, Nat.le_refl _, fun _ _ _ => rfl⟩
theorem Chg.trans (h : Chg C w w1) (k : Chg C' w1 w2) (hc : ∀ b, b < w.heap.size → C' b → C b) : Chg C w w2 :=
  ⟨k.os.trans h.os, k.tape.trans h.tape, k.output.trans h.output, Nat.le_trans h.size k.size, fun b hb hn => (k.block b (Nat.lt_of_lt_of_le hb h.size) (fun hc' => hn (hc b hb hc'))).trans (h.block b hb hn)⟩
theorem Chg.weaken (h : Chg C w w1) (hc : ∀ b, b < w.heap.size → C b → C' b) : Chg C' w w1 :=
  ⟨h.os, h.tape, h.output, h.size, fun b hb hn => h.block b hb (fun hc' => hn (hc b hb hc'))⟩
theorem Chg.of_grown {row : Option Nat} (h : w.grownBy w1 row) : Chg (fun b => some b = row) w w1 := ⟨h.os, h.tape, h.output, h.size, h.block⟩
theorem Chg.drewN (h : Chg C w w1) (n : Nat) : Chg C w (w1.drewN n) := ⟨h.os, h.tape, h.output, h.size, h.block⟩
theorem Chg.cell (h : Chg C w w1) {p : Addr} {v : Value} (hp : w.cell? p = some v) (hn : ¬ C p.block) : w1.cell? p = some v :=
  (World.cell?_of_block (h.block p.block (block_lt_of_cell hp) hn)).trans hp
theorem Chg.frozen (h : Chg C w w1) {p : Addr} (hp : p.block < w.heap.size) (hn : ¬ C p.block) : w1.frozen? p = w.frozen? p :=
  World.frozen?_of_block (h.block p.block hp hn)
theorem Chg.below {B : Nat} (h : Chg C w w1) (hB : B ≤ w.heap.size) (hc : ∀ b, C b → B ≤ b) : Below B w w1 :=
  ⟨h.os, h.tape, h.output, h.size, fun b hb => h.block b (by omega) (fun c => by have := hc b c; omega)⟩
theorem Chg.grown (h : Chg C w w1) {row : Option Nat} (hc : ∀ b, b < w.heap.size → C b → some b = row) : w.grownBy w1 row :=
  ⟨h.os, h.tape, h.output, h.size, fun b hb hn => h.block b hb (fun c => hn (hc b hb c))⟩
theorem Chg.own (h : Chg C w w1) {B : Nat} {v : Value} {e : TypeId} {xs : List Value} (ho : Own w B v e xs) (hn : ∀ g, v.ownBlock = some g → ¬ C g) : Own w1 B v e xs := by
  rcases ho.2 with h1 | ⟨g, cap, cur, rfl, hB, hh, r⟩
  · exact ⟨ho.1, .inl h1⟩
  · have hlt : g < w.heap.size := by
      rcases Nat.lt_or_ge g w.heap.size with hl | hl
      · exact hl
      · rw [Array.getElem?_eq_none hl] at hh; cases hh
    exact ⟨ho.1, .inr ⟨g, cap, cur, rfl, hB, (h.block g hlt (hn g rfl)).trans hh, r⟩⟩
end
/-- The block p, and the row of v. -/
def Cs (p : Nat) (v : Value) : Nat → Prop := fun b => b = p ∨ v.ownBlock = some b
/-- The cell at p holds a row of bytes of the call's own. -/
structure Wr (w : World) (B p : Nat) (v : Value) (xs : List Nat) : Prop where
  cell : w.cell? ⟨p, 0, none⟩ = some v
  fr : w.frozen? ⟨p, 0, none⟩ = false
  own : Own w B v 5 (byts xs)
  ne : v.ownBlock ≠ some p
  bp : B ≤ p
  lt : p < w.heap.size
/-- From w to w' the bytes at p have become ys; nothing else. -/
def WrTo (w w' : World) (B p : Nat) (v : Value) (ys : List Nat) : Prop :=
  ∃ v', Wr w' B p v' ys ∧ Chg (Cs p v) w w' ∧ (v'.ownBlock = v.ownBlock ∨ ∃ g, v'.ownBlock = some g ∧ w.heap.size ≤ g) ∧
    (∀ o, 0 < o → w'.cell? ⟨p, o, none⟩ = w.cell? ⟨p, o, none⟩) ∧ ∀ o, w'.frozen? ⟨p, o, none⟩ = w.frozen? ⟨p, o, none⟩
section
variable {w w' w1 w2 : World} {B p : Nat} {v v' : Value} {xs ys zs : List Nat}
theorem Wr.drewN (h : Wr w B p v xs) (n : Nat) : Wr (w.drewN n) B p v xs := ⟨h.cell, h.fr, h.own, h.ne, h.bp, h.lt⟩
theorem WrTo.refl (h : Wr w B p v xs) : WrTo w w B p v xs := ⟨v, h, .refl _ _, .inl rfl, fun _ _ => rfl, fun _ => rfl⟩
theorem WrTo.trans (hlt : p < w.heap.size) (h : WrTo w w1 B p v ys) (k : ∀ v1, Wr w1 B p v1 ys → WrTo w1 w2 B p v1 zs) : WrTo w w2 B p v zs := by
  obtain ⟨v1, h1, h2, h3, h4, h5⟩ := h
  obtain ⟨v2, k1, k2, k3, k4, k5⟩ := k v1 h1
  have hs := h2.size
  refine ⟨v2, k1, h2.trans k2 (fun b hb hc => ?_), ?_, fun o ho => (k4 o ho).trans (h4 o ho), fun o => (k5 o).trans (h5 o)⟩
  · rcases hc with rfl | hc
    · exact .inl rfl
    · rcases h3 with e | ⟨g, e, hg⟩
      · exact .inr (e ▸ hc)
      · rw [e] at hc; cases hc; omega
  · rcases k3 with e | ⟨g, e, hg⟩
    · rcases h3 with e' | ⟨g', e', hg'⟩
      · exact .inl (e.trans e')
      · exact .inr ⟨g', e.trans e', hg'⟩
    · exact .inr ⟨g, e, by omega⟩
/-- The row has grown, and the cell holds the new one. -/
theorem Wr.stored (h : Wr w B p v xs) (ho : Own w' B v' 5 (byts ys)) (hg : w.grownBy w' v.ownBlock) (hn : v'.ownBlock = v.ownBlock ∨ ∃ g, v'.ownBlock = some g ∧ w.heap.size ≤ g) :
    WrTo w (w'.setCell ⟨p, 0, none⟩ v') B p v ys := by
  have hb := hg.block p h.lt (fun e => h.ne e.symm)
  have hc : w'.cell? ⟨p, 0, none⟩ = some v := (World.cell?_of_block (a := ⟨p, 0, none⟩) hb).trans h.cell
  have hne : v'.ownBlock ≠ some p := by
    rcases hn with e | ⟨g, e, hg'⟩
    · rw [e]; exact h.ne
    · rw [e]; intro h'; cases h'; have := h.lt; omega
  refine ⟨v', ⟨World.cell?_setCell_same _ _ _ hc, ?_, ho.kept (grown_put 0 v') (.inr hne), hne, h.bp, by simp [World.setCell]; have := h.lt; have := hg.size; omega⟩, ?_, hn, fun o hp => ?_, fun o => ?_⟩
  · rw [World.frozen?_setCell]; exact (World.frozen?_of_block (a := ⟨p, 0, none⟩) hb).trans h.fr
  · refine (Chg.of_grown hg).weaken (C' := Cs p v) (fun b _ e => .inr e.symm) |>.trans (Chg.of_grown (grown_put (w := w') (g := p) 0 v')) (fun b _ e => .inl (by cases e; rfl))
  · rw [World.cell?_setCell_other _ _ _ _ (by intro e; simp only [Addr.mk.injEq] at e; omega)]
    exact World.cell?_of_block (a := ⟨p, o, none⟩) hb
  · rw [World.frozen?_setCell]; exact World.frozen?_of_block (a := ⟨p, o, none⟩) hb
end
/-- The last k bytes of a number. -/
def bigL (n : Nat) : Nat → List Nat
  | 0 => []
  | k + 1 => (n / 2 ^ (8 * k) % 256) :: bigL n k
end Go.Proofs.YtjjjnpolhbbepaaDoor
