/- Parse, the reference's: where it starts. -/
import Derived.Test.YtifkieopaoooeaaGreatDoorParseP
import Derived.Test.YtifkieopaoooeaaGreatDoorRdS
import Derived.Test.YtifkieopaoooeaaGreatDoorDigR
import Derived.Deep.RegionHeld3
set_option linter.unusedSimpArgs false
set_option linter.unusedVariables false
namespace Go.Proofs.YtifkieopaoooeaaGreatDoor
open Go.RowKit Plain PlainG
theorem Rg.new96 (w : World) (b : ByteArray) (hb : b.size ≤ 20000) : Rg (w.alloc (.cells #[.string b, .int .i64 0, .int .i64 0, .int .i64 0] 96)) w.heap.size b 0 (0, 0) :=
  ⟨by simp, by simp, by simp, by simp, fun o => World.frozen?_alloc_new w _ _ o, by simp, hb⟩
theorem RgS.grown {w w' : World} {p : Nat} {b : ByteArray} {s : St} (h : RgS w p b s) {row : Option Nat} (k : w.grownBy w' row) (hr : row ≠ some p) : RgS w' p b s := by
  cases s with
  | ok a => exact ⟨h.1, h.2.grown k hr⟩
  | error f => obtain ⟨h1, a, h2, h3⟩ := h; exact ⟨h1, a, h2, h3.grown k hr⟩
/-- The three blocks that Parse makes first. -/
def w3of (w : World) (b : ByteArray) : World := ((w.alloc (.cells #[.int .i64 0, .slice none 0 0, .slice none 0 0] 25)).alloc (.cells #[.int .i64 0, .int .i64 0] 32)).alloc (.cells #[.string b, .int .i64 0, .int .i64 0, .int .i64 0] 96)
theorem w3of_facts (w : World) (b : ByteArray) (hb : b.size ≤ 20000) : (w3of w b).heap.size = w.heap.size + 1 + 1 + 1 ∧ Rg (w3of w b) (w.heap.size + 1 + 1) b 0 (0, 0) ∧ Below w.heap.size w (w3of w b) ∧ (w3of w b).heap[w.heap.size]? = some zres ∧ (w3of w b).heap[w.heap.size + 1]? = some zflt := by
  unfold w3of
  have h2 : ((w.alloc (.cells #[.int .i64 0, .slice none 0 0, .slice none 0 0] 25)).alloc (.cells #[.int .i64 0, .int .i64 0] 32)).heap.size = w.heap.size + 1 + 1 := by simp
  have hrg := Rg.new96 ((w.alloc (.cells #[.int .i64 0, .slice none 0 0, .slice none 0 0] 25)).alloc (.cells #[.int .i64 0, .int .i64 0] 32)) b hb
  rw [h2] at hrg
  refine ⟨by simp, hrg, (((Below.refl _ w).alloc (Nat.le_refl _) _).alloc (by simp) _).alloc (by simp; omega) _, ?_, ?_⟩
  · rw [Below.heap_alloc _ _ _ (by simp; omega), Below.heap_alloc _ _ _ (by simp)]
    exact heap_new w zres
  · rw [Below.heap_alloc _ _ _ (by simp)]
    have : w.heap.size + 1 = (w.alloc (.cells #[.int .i64 0, .slice none 0 0, .slice none 0 0] 25)).heap.size := by simp
    rw [this]
    exact heap_new _ zflt
/-- The graph's box and the row of colours behind it. -/
theorem parseR_start {w w2 w4 W0 : World} {p R N q : Nat} {b : ByteArray} {a : Nat} (h1 : Rg w2 p b a (0, 0)) (hb : Below R w w2) (hq : w2.heap.size = q) (hR : R < q)
    (h2 : Own w4 0 (.slice (some ⟨q + 1, 0, none⟩) N N) 3 (List.replicate N (.int .i64 0))) (h3 : (w2.alloc (.cells #[.int .i64 (N : Int), .slice none 0 0, .slice none 0 0] 25)).grownBy w4 none) (h4 : w4.heap.size = q + 1 + 1)
    (hW : W0 = w4.setCell ⟨q, 2, none⟩ (.slice (some ⟨q + 1, 0, none⟩) N N)) :
    Rg W0 p b a (0, 0) ∧ GB W0 q N (.slice none 0 0) (.slice (some ⟨q + 1, 0, none⟩) N N) ∧ Own W0 0 (.slice (some ⟨q + 1, 0, none⟩) N N) 3 (ints (List.replicate N 0)) ∧ Below R w W0 ∧ W0.heap.size = q + 1 + 1 ∧
    (∀ k, k < q → W0.heap[k]? = w2.heap[k]?) := by
  have hg0 : GB (w2.alloc (.cells #[.int .i64 (N : Int), .slice none 0 0, .slice none 0 0] 25)) q N (.slice none 0 0) (.slice none 0 0) := by
    rw [← hq]; exact ⟨by simp, by simp, by simp, fun o => World.frozen?_alloc_new w2 _ _ o, by simp⟩
  have hg4 := hg0.grown h3 (by simp)
  have hp := h1.lt
  have hr4 := (h1.grown (grown_alloc w2 (.cells #[.int .i64 (N : Int), .slice none 0 0, .slice none 0 0] 25) none) (by simp)).grown h3 (by simp)
  subst hW
  have hput := grown_put (w := w4) (g := q) 2 (.slice (some ⟨q + 1, 0, none⟩) N N)
  refine ⟨hr4.grown hput (by intro e; cases e; omega), ⟨?_, ?_, ?_, ?_, ?_⟩, ?_, ?_, ?_, ?_⟩
  · rw [cell_set_other (by simp)]; exact hg4.c0
  · rw [cell_set_other (by simp)]; exact hg4.c1
  · exact cell_set_same hg4.c2
  · intro o; rw [World.frozen?_setCell]; exact hg4.fr o
  · simp [World.setCell]; exact hg4.lt
  · rw [← ints_zero]
    exact h2.kept hput (by right; intro e; cases e)
  · exact ((hb.alloc (by omega) _).grown h3 (by simp; omega) (by simp)).setCell (by simp; omega) _
  · simp [World.setCell]; exact h4
  · intro k hk
    rw [Below.heap_setCell _ _ _ _ (by simp; omega), h3.block _ (by simp; omega) (by simp), Below.heap_alloc _ _ _ (by omega)]
/-- Where the loop of Parse stands, with one state. -/
structure ES (W0 w : World) (p q N gu : Nat) (b : ByteArray) (es : List (Int × Int)) (v : Value) (s : St) : Prop where
  rg : RgS w p b s
  gb : GB w q N v (.slice (some ⟨gu, 0, none⟩) N N)
  es' : OwnE w W0.heap.size 69 v es
  cs' : Own w 0 (.slice (some ⟨gu, 0, none⟩) N N) 3 (ints (List.replicate N 0))
  kept : Kept W0 w [p, q, gu]
  pq : p ≠ q
  pu : p ≠ gu
  qu : gu ≠ q
  lp : p < W0.heap.size
  lq : q < W0.heap.size
  lu : gu < W0.heap.size
/-- .. and the box of an edge. -/
structure EX (W0 w : World) (p q N gu : Nat) (b : ByteArray) (es : List (Int × Int)) (v : Value) (s : St) (X : Nat) (x y : Int) : Prop where
  e : ES W0 w p q N gu b es v s
  c0 : w.cell? ⟨X, 0, none⟩ = some (.int .i64 x)
  c1 : w.cell? ⟨X, 1, none⟩ = some (.int .i64 y)
  fr : ∀ o, w.frozen? ⟨X, o, none⟩ = false
  lo : W0.heap.size ≤ X
  hi : X < w.heap.size
  ne : v.ownBlock ≠ some X
section
variable {W0 w w' : World} {p q N gu : Nat} {b : ByteArray} {es : List (Int × Int)} {v : Value} {s s' : St} {X : Nat} {x y : Int}
theorem ES.vb (h : ES W0 w p q N gu b es v s) : ∀ g, v.ownBlock = some g → W0.heap.size ≤ g ∧ g < w.heap.size := fun g hg => ⟨(h.es'.block_lt hg).2, (h.es'.block_lt hg).1⟩
theorem ES.grown (h : ES W0 w p q N gu b es v s) {row : Option Nat} (k : w.grownBy w' row) (hr : ∀ g, row = some g → W0.heap.size ≤ g) (hv : row = none ∨ v.ownBlock ≠ row) : ES W0 w' p q N gu b es v s := by
  have hp : row ≠ some p := fun e => by have := hr p e; have := h.lp; omega
  have hq : row ≠ some q := fun e => by have := hr q e; have := h.lq; omega
  have hu : row ≠ some gu := fun e => by have := hr gu e; have := h.lu; omega
  refine ⟨h.rg.grown k hp, h.gb.grown k hq, h.es'.kept k ?_, h.cs'.kept k (.inr (fun e => hu e.symm)), h.kept.transW (S' := row.toList) (Kept.ofGrown k (by intro g e; rw [e]; simp)) (by intro g hg; simp at hg; exact .inr (hr g hg)), h.pq, h.pu, h.qu, h.lp, h.lq, h.lu⟩
  rcases hv with e | e
  · rw [e]; cases v.ownBlock <;> simp
  · exact .inr e
theorem ES.rd (h : ES W0 w p q N gu b es v s) (k : RgN w w' p b s') : ES W0 w' p q N gu b es v s' := by
  have hv : v.ownBlock ≠ some p := fun e => by have := (h.vb p e).1; have := h.lp; omega
  exact ⟨k.1, h.gb.grown k.2 (by intro e; cases e; exact h.pq rfl), h.es'.kept k.2 (.inr hv), h.cs'.kept k.2 (.inr (by intro e; cases e; exact h.pu rfl)), h.kept.trans (Kept.ofGrown k.2 (by intro g e; cases e; simp)), h.pq, h.pu, h.qu, h.lp, h.lq, h.lu⟩
theorem ES.drewN (h : ES W0 w p q N gu b es v s) (n : Nat) : ES W0 (w.drewN n) p q N gu b es v s := h.grown (grown_drewN w n none) (by intro g e; cases e) (.inl rfl)
theorem ES.box (h : ES W0 w p q N gu b es v s) (x y : Int) : EX W0 (w.alloc (.cells #[.int .i64 x, .int .i64 y] 69)) p q N gu b es v s w.heap.size x y :=
  ⟨h.grown (grown_alloc w _ none) (by intro g e; cases e) (.inl rfl), by simp, by simp, fun o => World.frozen?_alloc_new w _ _ o, h.kept.size, by simp, fun e => by have := (h.vb _ e).2; omega⟩
theorem EX.grown (h : EX W0 w p q N gu b es v s X x y) {row : Option Nat} (k : w.grownBy w' row) (hr : ∀ g, row = some g → W0.heap.size ≤ g) (hv : row = none ∨ v.ownBlock ≠ row) (hx : row ≠ some X) : EX W0 w' p q N gu b es v s X x y := by
  have hb := k.block X h.hi (fun e => hx e.symm)
  exact ⟨h.e.grown k hr hv, (World.cell?_of_block (w := w) (a := ⟨X, 0, none⟩) hb).trans h.c0, (World.cell?_of_block (w := w) (a := ⟨X, 1, none⟩) hb).trans h.c1, fun o => (World.frozen?_of_block (w := w) (a := ⟨X, o, none⟩) hb).trans (h.fr o), h.lo, Nat.lt_of_lt_of_le h.hi k.size, h.ne⟩
theorem EX.rd (h : EX W0 w p q N gu b es v s X x y) (k : RgN w w' p b s') : EX W0 w' p q N gu b es v s' X x y := by
  have hb := k.2.block X h.hi (fun e => by cases e; have := h.e.lp; have := h.lo; omega)
  exact ⟨h.e.rd k, (World.cell?_of_block (w := w) (a := ⟨X, 0, none⟩) hb).trans h.c0, (World.cell?_of_block (w := w) (a := ⟨X, 1, none⟩) hb).trans h.c1, fun o => (World.frozen?_of_block (w := w) (a := ⟨X, o, none⟩) hb).trans (h.fr o), h.lo, Nat.lt_of_lt_of_le h.hi k.2.size, h.ne⟩
theorem EX.drewN (h : EX W0 w p q N gu b es v s X x y) (n : Nat) : EX W0 (w.drewN n) p q N gu b es v s X x y := h.grown (grown_drewN w n none) (by intro g e; cases e) (.inl rfl) (by simp)
theorem EX.below (h : EX W0 w p q N gu b es v s X x y) (k : Below w.heap.size w w') : EX W0 w' p q N gu b es v s X x y := h.grown (below_grown k none) (by intro g e; cases e) (.inl rfl) (by simp)
theorem EX.set1 (h : EX W0 w p q N gu b es v s X x y) (z : Int) : EX W0 (w.setCell ⟨X, 1, none⟩ (.int .i64 z)) p q N gu b es v s X x z := by
  have hlo := h.lo
  exact ⟨h.e.grown (grown_put 1 _) (by intro g e; cases e; exact hlo) (.inr h.ne), by rw [cell_set_other (by simp)]; exact h.c0, cell_set_same h.c1, fun o => by rw [World.frozen?_setCell]; exact h.fr o, h.lo, by simpa [World.setCell] using h.hi, h.ne⟩
/-- An edge more. -/
theorem EX.app {w6 : World} {n cap G : Nat} {o : Obj} {z : Int × Int} (h : EX W0 w p q N gu b es v s X x y) (k3 : (w.alloc o).grownBy w6 v.ownBlock) (k2 : OwnE w6 W0.heap.size 69 (.slice (some ⟨G, 0, none⟩) n cap) (es ++ [z])) (hG : W0.heap.size ≤ G) :
    GB w6 q N v (.slice (some ⟨gu, 0, none⟩) N N) ∧ ES W0 (w6.setCell ⟨q, 1, none⟩ (.slice (some ⟨G, 0, none⟩) n cap)) p q N gu b (es ++ [z]) (.slice (some ⟨G, 0, none⟩) n cap) s := by
  have hvb := fun g hg => (h.e.vb g hg).1
  have lq := h.e.lq
  have lp := h.e.lp
  have lu := h.e.lu
  have hvq : v.ownBlock ≠ some q := fun e => by have := hvb q e; omega
  have hvp : v.ownBlock ≠ some p := fun e => by have := hvb p e; omega
  have hvu : v.ownBlock ≠ some gu := fun e => by have := hvb gu e; omega
  have hG6 := (h.e.gb.grown (grown_alloc w o none) (by simp)).grown k3 hvq
  have hU6 := (h.e.cs'.alloc o).kept k3 (by right; intro e; exact hvu e.symm)
  have hR6 := (h.e.rg.grown (grown_alloc w o none) (by simp)).grown k3 hvp
  have hqp := h.e.pq
  have hqu := h.e.qu
  refine ⟨hG6, hR6.grown (grown_put 1 _) (by intro e; cases e; exact hqp rfl), hG6.set1 _, k2.kept (grown_put 1 _) (by right; intro e; have e2 : G = q := Option.some.inj e; omega), hU6.kept (grown_put 1 _) (by right; intro e; cases e; exact hqu rfl), ?_, h.e.pq, h.e.pu, h.e.qu, h.e.lp, h.e.lq, h.e.lu⟩
  have h1 : Kept W0 (w.alloc o) [p, q, gu] := h.e.kept.trans (Kept.ofGrown (grown_alloc w o none) (by simp))
  have h2 : Kept W0 w6 [p, q, gu] := h1.transW (S' := v.ownBlock.toList) (Kept.ofGrown k3 (by intro k e; rw [e]; simp)) (by intro k hk; simp at hk; exact .inr (hvb k hk))
  exact h2.trans (Kept.ofGrown (grown_put 1 _) (by intro k e; cases e; simp))
end
end Go.Proofs.YtifkieopaoooeaaGreatDoor
