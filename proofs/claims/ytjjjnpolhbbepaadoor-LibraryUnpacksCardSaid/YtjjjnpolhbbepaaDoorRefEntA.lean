/- The reference's reading of an entry: its words. -/
import Derived.Test.YtjjjnpolhbbepaaDoorRefPerm
import Derived.Test.YtjjjnpolhbbepaaDoorUnpackA
set_option linter.unusedSimpArgs false
set_option linter.unusedVariables false
namespace Go.Proofs.YtjjjnpolhbbepaaDoor
open Go.RowKit
open Plain
def REntRes (w : World) (r : Except Int (Ent × Nat)) (e : Ending) (w' : World) : Prop := Below w.heap.size w w' ∧
  match r with
  | .error z => ∃ nm dg a n c, e = .returned (.tuple #[.agg #[.string nm, .int .i64 dg, .slice a n c], .int .i64 0, .int .i64 z])
  | .ok x => ∃ v, e = .returned (.tuple #[.agg #[.string x.1.name, .int .i64 x.1.deg, v], .int .i64 (x.2 : Int), .int .i64 0]) ∧ OwnGens w' w.heap.size v x.1.gens
structure RE (w wr : World) (u0 u1 u2 : Value) : Prop where
  r : Box3 wr w.heap.size (.string ⟨#[]⟩) (.int .i64 0) (.slice none 0 0)
  x : Box3 wr (w.heap.size + 1) u0 u1 u2
  below : Below w.heap.size w wr
section
variable {w wr w2 : World} {u0 u1 u2 : Value}
theorem RE.new (w : World) : RE w ((w.alloc (.cells #[.string ⟨#[]⟩, .int .i64 0, .slice none 0 0] 46)).alloc (.cells #[.string ⟨#[]⟩, .int .i64 0, .slice none 0 0] 46)) (.string ⟨#[]⟩) (.int .i64 0) (.slice none 0 0) := by
  have h1 := Box3.new w (.string ⟨#[]⟩) (.int .i64 0) (.slice none 0 0) 46
  have h2 := Box3.new (w.alloc (.cells #[.string ⟨#[]⟩, .int .i64 0, .slice none 0 0] 46)) (.string ⟨#[]⟩) (.int .i64 0) (.slice none 0 0) 46
  rw [World.size_alloc] at h2
  exact ⟨h1.below ((Below.refl _ _).alloc (Nat.le_refl _) _), h2, ((Below.refl _ _).alloc (Nat.le_refl _) _).alloc (by rw [World.size_alloc]; omega) _⟩
theorem RE.grown (h : RE w wr u0 u1 u2) {row : Option Nat} (k : wr.grownBy w2 row) (hr : ∀ g, row = some g → w.heap.size + 1 < g) : RE w w2 u0 u1 u2 :=
  ⟨h.r.grown k (fun e => by have := hr _ e.symm; omega), h.x.grown k (fun e => by have := hr _ e.symm; omega), below_grownO h.below k (fun q e => by have := hr q e; omega)⟩
theorem RE.drewN (h : RE w wr u0 u1 u2) (n : Nat) : RE w (wr.drewN n) u0 u1 u2 := h.grown (grown_drewN wr n none) (fun g e => by cases e)
theorem RE.belowN (h : RE w wr u0 u1 u2) (k : Below wr.heap.size wr w2) : RE w w2 u0 u1 u2 := h.grown (grown_below k none) (fun g e => by cases e)
theorem RE.setX0 (h : RE w wr u0 u1 u2) (u : Value) : RE w (wr.setCell ⟨w.heap.size + 1, 0, none⟩ u) u u1 u2 :=
  ⟨h.r.grown (grown_put 0 u) (fun e => by have := Option.some.inj e; omega), ⟨World.cell?_setCell_same _ _ _ h.x.a0, (World.cell?_setCell_other _ _ _ _ (by intro e; simp at e)).trans h.x.a1, (World.cell?_setCell_other _ _ _ _ (by intro e; simp at e)).trans h.x.a2, fun o => (World.frozen?_setCell _ _ _ _).trans (h.x.fr o), by simpa [World.setCell] using h.x.lt⟩, below_grownO h.below (grown_put 0 u) (fun q e => by cases e; omega)⟩
theorem RE.setX1 (h : RE w wr u0 u1 u2) (u : Value) : RE w (wr.setCell ⟨w.heap.size + 1, 1, none⟩ u) u0 u u2 :=
  ⟨h.r.grown (grown_put 1 u) (fun e => by have := Option.some.inj e; omega), h.x.set1 u, below_grownO h.below (grown_put 1 u) (fun q e => by cases e; omega)⟩
theorem RE.setX2 (h : RE w wr u0 u1 u2) (u : Value) : RE w (wr.setCell ⟨w.heap.size + 1, 2, none⟩ u) u0 u1 u :=
  ⟨h.r.grown (grown_put 2 u) (fun e => by have := Option.some.inj e; omega), h.x.set2 u, below_grownO h.below (grown_put 2 u) (fun q e => by cases e; omega)⟩
/-- The result's box has been filled. -/
theorem RE.done (h : RE w wr u0 u1 u2) (v0 v1 v2 : Value) :
    ((((wr.setCell ⟨w.heap.size, 0, none⟩ v0).setCell ⟨w.heap.size, 1, none⟩ v1).setCell ⟨w.heap.size, 2, none⟩ v2).cell? ⟨w.heap.size, 0, none⟩ = some v0) ∧
    ((((wr.setCell ⟨w.heap.size, 0, none⟩ v0).setCell ⟨w.heap.size, 1, none⟩ v1).setCell ⟨w.heap.size, 2, none⟩ v2).cell? ⟨w.heap.size, 1, none⟩ = some v1) ∧
    ((((wr.setCell ⟨w.heap.size, 0, none⟩ v0).setCell ⟨w.heap.size, 1, none⟩ v1).setCell ⟨w.heap.size, 2, none⟩ v2).cell? ⟨w.heap.size, 2, none⟩ = some v2) ∧
    wr.grownBy (((wr.setCell ⟨w.heap.size, 0, none⟩ v0).setCell ⟨w.heap.size, 1, none⟩ v1).setCell ⟨w.heap.size, 2, none⟩ v2) (some w.heap.size) := by
  have n01 : (⟨w.heap.size, 0, none⟩ : Addr) ≠ ⟨w.heap.size, 1, none⟩ := by intro e; simp at e
  have n02 : (⟨w.heap.size, 0, none⟩ : Addr) ≠ ⟨w.heap.size, 2, none⟩ := by intro e; simp at e
  have n12 : (⟨w.heap.size, 1, none⟩ : Addr) ≠ ⟨w.heap.size, 2, none⟩ := by intro e; simp at e
  have c0 := World.cell?_setCell_same wr _ v0 h.r.a0
  have c1 : (wr.setCell ⟨w.heap.size, 0, none⟩ v0).cell? ⟨w.heap.size, 1, none⟩ = _ := (World.cell?_setCell_other _ _ _ _ n01).trans h.r.a1
  have c2 : (wr.setCell ⟨w.heap.size, 0, none⟩ v0).cell? ⟨w.heap.size, 2, none⟩ = _ := (World.cell?_setCell_other _ _ _ _ n02).trans h.r.a2
  have e2 : ((wr.setCell ⟨w.heap.size, 0, none⟩ v0).setCell ⟨w.heap.size, 1, none⟩ v1).cell? ⟨w.heap.size, 2, none⟩ = _ := (World.cell?_setCell_other _ _ _ _ n12).trans c2
  refine ⟨?_, ?_, World.cell?_setCell_same _ _ _ e2, ?_⟩
  · exact (World.cell?_setCell_other _ _ _ _ (Ne.symm n02)).trans ((World.cell?_setCell_other _ _ _ _ (Ne.symm n01)).trans c0)
  · exact (World.cell?_setCell_other _ _ _ _ (Ne.symm n12)).trans (World.cell?_setCell_same _ _ _ c1)
  · exact ((grown_store (g := w.heap.size) (o := 0) v0).trans (grown_store (g := w.heap.size) (o := 1) v1)).trans (grown_store (g := w.heap.size) (o := 2) v2)
end
theorem REntRes.bad {w w1 w' : World} {r : Except Int (Ent × Nat)} {z : Int} {nm : ByteArray} {dg : Int} {a : Option Addr} {n c : Nat} (hr : r = .error z) (hb : Below w.heap.size w w1) (hg : w1.grownBy w' (some w.heap.size)) :
    REntRes w r (.returned (.tuple #[.agg #[.string nm, .int .i64 dg, .slice a n c], .int .i64 0, .int .i64 z])) w' := by
  subst hr
  exact ⟨below_grownO hb hg (fun q e => by cases e; exact Nat.le_refl _), _, _, _, _, _, rfl⟩
theorem REntRes.good {w w1 w' : World} {r : Except Int (Ent × Nat)} {nm : ByteArray} {d at2 B : Nat} {v : Value} {gs : List (List Int)} (hr : r = .ok (⟨nm, (d : Nat), gs⟩, at2)) (hb : Below w.heap.size w w1) (ho : OwnGens w1 B v gs) (hB : w.heap.size < B) (hg : w1.grownBy w' (some w.heap.size)) :
    REntRes w r (.returned (.tuple #[.agg #[.string nm, .int .i64 (d : Int), v], .int .i64 (at2 : Int), .int .i64 0])) w' := by
  subst hr
  refine ⟨below_grownO hb hg (fun q e => by cases e; exact Nat.le_refl _), v, rfl, ?_⟩
  exact (gens_own ho hg hB).mono (by omega)
/-- Between two generators. -/
structure RGen (w wr : World) (xs : List Nat) (A3 d m j : Nat) (nm : ByteArray) (v : Value) (gs : List (List Int)) : Prop where
  re : RE w wr (.string nm) (.int .i64 (d : Int)) v
  len : gs.length = j
  own : OwnGens wr (w.heap.size + 2) v gs
  eq : gensF (bitAt xs A3) d 0 m = (gensF (bitAt xs A3) d (j * totW d) (m - j)).map (gs ++ ·)
/-- The digits so far, and zeros. -/
def digsF (f : Nat → Nat) (p0 d i x : Nat) : List Nat := (digF f p0 d).take i ++ x :: List.replicate (d - i - 1) 0
theorem digF_len' (f : Nat → Nat) : ∀ n p, (digF f p n).length = n
  | 0, p => rfl
  | n + 1, p => by rw [digF, List.length_cons, digF_len' f n]
theorem digF_get (f : Nat → Nat) (p0 d : Nat) : ∀ i, i < d → (digF f p0 d)[i]?.getD 0 = readF f (p0 + totP d i) (wid (d - i)) := by
  have key : ∀ i, i ≤ d → (digF f p0 d).drop i = digF f (p0 + totP d i) (d - i) := by
    intro i
    induction i with
    | zero => intro _; simp [totP]
    | succ i ih =>
      intro h
      have h1 := ih (by omega)
      have h2 := digF_step f p0 d i (by omega)
      rw [h2] at h1
      have h3 := congrArg List.tail h1
      rw [List.tail_cons, List.tail_drop] at h3
      exact h3
  intro i hi
  have h1 := key i (by omega)
  rw [digF_step f p0 d i hi] at h1
  have h2 := congrArg (fun l : List Nat => l[0]?.getD 0) h1
  simp only [List.getElem?_drop, Nat.add_zero, List.getElem?_cons_zero, Option.getD_some] at h2
  exact h2
theorem digsF_len {f : Nat → Nat} {p0 d i x : Nat} (h : i < d) : (digsF f p0 d i x).length = d := by
  unfold digsF
  rw [List.length_append, List.length_take, digF_len', List.length_cons, List.length_replicate]; omega
theorem digsF_zero {f : Nat → Nat} {p0 d : Nat} (h : 0 < d) : nats (digsF f p0 d 0 0) = List.replicate d (Value.int .i64 0) := by
  unfold digsF nats
  obtain ⟨m, rfl⟩ : ∃ m, d = m + 1 := ⟨d - 1, by omega⟩
  rw [List.take_zero, List.nil_append, show m + 1 - 0 - 1 = m by omega, ints_zero, List.replicate_succ]
  simp
theorem digsF_next {f : Nat → Nat} {p0 d i x : Nat} (h : i + 1 < d) (hx : (digF f p0 d)[i]?.getD 0 = x) : digsF f p0 d i x = digsF f p0 d (i + 1) 0 := by
  unfold digsF
  have hl : i < (digF f p0 d).length := by rw [digF_len']; omega
  rw [List.take_add_one, List.getElem?_eq_getElem hl, Option.toList_some, List.append_assoc]
  rw [List.getElem?_eq_getElem hl, Option.getD_some] at hx
  rw [hx, show d - i - 1 = (d - (i + 1) - 1) + 1 by omega, List.replicate_succ]
  rfl
theorem digsF_end {f : Nat → Nat} {p0 d i x : Nat} (h : i + 1 = d) (hx : (digF f p0 d)[i]?.getD 0 = x) : digsF f p0 d i x = digF f p0 d := by
  unfold digsF
  have hl : i < (digF f p0 d).length := by rw [digF_len']; omega
  rw [show d - i - 1 = 0 by omega, List.replicate_zero]
  rw [List.getElem?_eq_getElem hl, Option.getD_some] at hx
  have h2 : (digF f p0 d).take (i + 1) = digF f p0 d := List.take_of_length_le (by rw [digF_len']; omega)
  conv => rhs; rw [← h2, List.take_add_one, List.getElem?_eq_getElem hl, Option.toList_some, hx]
theorem digsF_get {f : Nat → Nat} {p0 d i x : Nat} (h : i < d) : (nats (digsF f p0 d i x))[i]? = some (.int .i64 (x : Int)) := by
  rw [nats_get (by rw [digsF_len h]; exact h)]
  unfold digsF
  rw [List.getElem?_append_right (by rw [List.length_take, digF_len']; omega), List.length_take, digF_len', Nat.min_eq_left (by omega), Nat.sub_self]
  rfl
theorem digsF_set {f : Nat → Nat} {p0 d i x y : Nat} (h : i < d) : (nats (digsF f p0 d i x)).set i (.int .i64 (y : Int)) = nats (digsF f p0 d i y) := by
  unfold nats
  rw [show (Value.int .i64 (y : Int)) = Value.int .i64 ((y : Nat) : Int) from rfl, ints_set]
  congr 1
  unfold digsF
  rw [List.map_append, List.map_append, List.set_append_right _ _ (by rw [List.length_map, List.length_take, digF_len']; omega), List.length_map, List.length_take, digF_len', Nat.min_eq_left (by omega), Nat.sub_self]
  rfl
theorem gensF_some {f : Nat → Nat} {d p0 s : Nat} {q : List Int} (h : permL (base d) (digF f p0 d) = some q) : gensF f d p0 (s + 1) = (gensF f d (p0 + totW d) s).map (q :: ·) := by
  rw [gensF, h]
theorem gensF_none {f : Nat → Nat} {d p0 s : Nat} (h : permL (base d) (digF f p0 d) = none) : gensF f d p0 (s + 1) = none := by
  rw [gensF, h]
end Go.Proofs.YtjjjnpolhbbepaaDoor
