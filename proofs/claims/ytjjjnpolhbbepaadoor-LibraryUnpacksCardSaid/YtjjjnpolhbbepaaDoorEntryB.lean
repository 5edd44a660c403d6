/- Reading an entry: its words. -/
import Derived.Test.YtjjjnpolhbbepaaDoorEntryA
import Derived.Test.YtjjjnpolhbbepaaDoorNames
import Derived.Test.YtjjjnpolhbbepaaDoorWidth
import Derived.Test.YtjjjnpolhbbepaaDoorPlainPack
import Derived.Test.YtjjjnpolhbbepaaDoorWrite
import Derived.StillTailTactics
import Derived.WalkMore
import Derived.Deep.RegionHeld3
import Derived.Deep.DeepCutAuto
set_option linter.unusedSimpArgs false
set_option linter.unusedVariables false
namespace Go.Proofs.YtjjjnpolhbbepaaDoor
open Go.RowKit
open Plain
structure Box3 (w : World) (b : Nat) (u0 u1 u2 : Value) : Prop where
  a0 : w.cell? ⟨b, 0, none⟩ = some u0
  a1 : w.cell? ⟨b, 1, none⟩ = some u1
  a2 : w.cell? ⟨b, 2, none⟩ = some u2
  fr : ∀ o, w.frozen? ⟨b, o, none⟩ = false
  lt : b < w.heap.size
section
variable {w w' : World} {b p : Nat} {u0 u1 u2 x : Value}
theorem Box3.same (h : Box3 w b u0 u1 u2) (hb : w'.heap[b]? = w.heap[b]?) (hs : w.heap.size ≤ w'.heap.size) : Box3 w' b u0 u1 u2 :=
  ⟨(World.cell?_of_block (a := ⟨b, 0, none⟩) hb).trans h.a0, (World.cell?_of_block (a := ⟨b, 1, none⟩) hb).trans h.a1, (World.cell?_of_block (a := ⟨b, 2, none⟩) hb).trans h.a2, fun o => (World.frozen?_of_block (a := ⟨b, o, none⟩) hb).trans (h.fr o), Nat.lt_of_lt_of_le h.lt hs⟩
theorem Box3.grown (h : Box3 w b u0 u1 u2) {r : Option Nat} (hg : w.grownBy w' r) (hne : some b ≠ r) : Box3 w' b u0 u1 u2 := h.same (hg.block b h.lt hne) hg.size
theorem Box3.below (h : Box3 w b u0 u1 u2) (hb : Below w.heap.size w w') : Box3 w' b u0 u1 u2 := h.same (hb.block b h.lt) hb.size
theorem Box3.set1 (h : Box3 w b u0 u1 u2) (x : Value) : Box3 (w.setCell ⟨b, 1, none⟩ x) b u0 x u2 :=
  ⟨(World.cell?_setCell_other _ _ _ _ (by intro e; simp at e)).trans h.a0, World.cell?_setCell_same _ _ _ h.a1, (World.cell?_setCell_other _ _ _ _ (by intro e; simp at e)).trans h.a2, fun o => (World.frozen?_setCell _ _ _ _).trans (h.fr o), by simpa [World.setCell] using h.lt⟩
theorem Box3.set2 (h : Box3 w b u0 u1 u2) (x : Value) : Box3 (w.setCell ⟨b, 2, none⟩ x) b u0 u1 x :=
  ⟨(World.cell?_setCell_other _ _ _ _ (by intro e; simp at e)).trans h.a0, (World.cell?_setCell_other _ _ _ _ (by intro e; simp at e)).trans h.a1, World.cell?_setCell_same _ _ _ h.a2, fun o => (World.frozen?_setCell _ _ _ _).trans (h.fr o), by simpa [World.setCell] using h.lt⟩
theorem Box3.new (w : World) (u0 u1 u2 : Value) (T : TypeId) : Box3 (w.alloc (.cells #[u0, u1, u2] T)) w.heap.size u0 u1 u2 := by
  have h0 := heap_alloc_new w (.cells #[u0, u1, u2] T)
  refine ⟨?_, ?_, ?_, fun o => ?_, by simp⟩
  · simp only [World.cell?, h0]; rfl
  · simp only [World.cell?, h0]; rfl
  · simp only [World.cell?, h0]; rfl
  · simp only [World.frozen?, h0]; simp
theorem grown_store {g o : Nat} (u : Value) : w.grownBy (w.setCell ⟨g, o, none⟩ u) (some g) := grown_put o u
theorem Rd.grown {a : Option Addr} {c : Nat} {xs : List Nat} {at_ bit : Nat} (h : Rd w p a c xs at_ bit) {r : Nat} (hg : w.grownBy w' (some r)) (hr : r ≠ p) (ha : ∀ b o, a = some ⟨b, o, none⟩ → b ≠ r) : Rd w' p a c xs at_ bit := by
  have hb := hg.block p h.lt (fun e => hr (Option.some.inj e).symm)
  refine ⟨(World.cell?_of_block (a := ⟨p, 0, none⟩) hb).trans h.c0, (World.cell?_of_block (a := ⟨p, 1, none⟩) hb).trans h.c1, (World.cell?_of_block (a := ⟨p, 2, none⟩) hb).trans h.c2, fun o => (World.frozen?_of_block (a := ⟨p, o, none⟩) hb).trans (h.fr o), ⟨h.row.1, fun i x hx => ?_⟩, h.ne, Nat.lt_of_lt_of_le h.lt hg.size, h.byte, h.len⟩
  obtain ⟨b, o, e, hbl, hc⟩ := h.row.2 i x hx
  exact ⟨b, o, e, Nat.lt_of_lt_of_le hbl hg.size, (World.cell?_of_block (a := ⟨b, o + i, none⟩) (hg.block b hbl (fun e' => ha b o e (Option.some.inj e')))).trans hc⟩
end
/-- Between w and wr: the reader, the result's box. -/
structure S1 (w wr : World) (p : Nat) (a : Option Addr) (c : Nat) (xs : List Nat) (at_ bit : Nat) : Prop where
  rd : Rd wr p a c xs at_ bit
  gr : w.grownBy wr (some p)
  bx : Box3 wr w.heap.size (.string ⟨#[]⟩) (.int .i64 0) (.slice none 0 0)
  pl : p < w.heap.size
  ra : ∀ b o, a = some ⟨b, o, none⟩ → b < w.heap.size
  le : w.heap.size < wr.heap.size
section
variable {w wr w2 : World} {p : Nat} {a : Option Addr} {c : Nat} {xs : List Nat} {at_ bit at2 bit2 : Nat}
theorem S1.new (h : Rd w p a c xs at_ bit) (hx : 0 < xs.length) : S1 w (w.alloc (.cells #[.string ⟨#[]⟩, .int .i64 0, .slice none 0 0] 46)) p a c xs at_ bit :=
  ⟨h.kept ((Below.refl _ _).alloc (Nat.le_refl _) _), grown_alloc _ _ _, Box3.new _ _ _ _ _, h.lt, fun b o e => by
    obtain ⟨b', o', e', hb, _⟩ := h.row.at_ hx
    rw [e] at e'
    have := congrArg Addr.block (Option.some.inj e')
    simp only at this
    omega, by simp⟩
theorem S1.to (h : S1 w wr p a c xs at_ bit) (k : RdTo wr w2 p a c xs at2 bit2) : S1 w w2 p a c xs at2 bit2 :=
  ⟨k.1, h.gr.trans k.2, h.bx.grown k.2 (fun e => by have := Option.some.inj e; have := h.pl; omega), h.pl, h.ra, Nat.lt_of_lt_of_le h.le k.2.size⟩
theorem S1.below (h : S1 w wr p a c xs at_ bit) (k : Below wr.heap.size wr w2) : S1 w w2 p a c xs at_ bit :=
  ⟨h.rd.kept k, h.gr.trans ⟨k.os, k.tape, k.output, k.size, fun b hb _ => k.block b hb⟩, h.bx.below k, h.pl, h.ra, Nat.lt_of_lt_of_le h.le k.size⟩
theorem S1.drewN (h : S1 w wr p a c xs at_ bit) (n : Nat) : S1 w (wr.drewN n) p a c xs at_ bit := h.below (below_self_drewN _ _)
end
theorem S1.failed {w W : World} {p : Nat} {a : Option Addr} {c : Nat} {xs : List Nat} {at_ bit : Nat} (h : S1 w W p a c xs at_ bit) :
    ((((W.setCell ⟨w.heap.size, 0, none⟩ (.string ⟨#[]⟩)).setCell ⟨w.heap.size, 1, none⟩ (.int .i64 0)).setCell ⟨w.heap.size, 2, none⟩ (.slice none 0 0)).cell? ⟨w.heap.size, 0, none⟩ = some (.string ⟨#[]⟩)) ∧
    ((((W.setCell ⟨w.heap.size, 0, none⟩ (.string ⟨#[]⟩)).setCell ⟨w.heap.size, 1, none⟩ (.int .i64 0)).setCell ⟨w.heap.size, 2, none⟩ (.slice none 0 0)).cell? ⟨w.heap.size, 1, none⟩ = some (.int .i64 0)) ∧
    ((((W.setCell ⟨w.heap.size, 0, none⟩ (.string ⟨#[]⟩)).setCell ⟨w.heap.size, 1, none⟩ (.int .i64 0)).setCell ⟨w.heap.size, 2, none⟩ (.slice none 0 0)).cell? ⟨w.heap.size, 2, none⟩ = some (.slice none 0 0)) ∧
    w.grownBy (((W.setCell ⟨w.heap.size, 0, none⟩ (.string ⟨#[]⟩)).setCell ⟨w.heap.size, 1, none⟩ (.int .i64 0)).setCell ⟨w.heap.size, 2, none⟩ (.slice none 0 0)) (some p) := by
  have n01 : (⟨w.heap.size, 0, none⟩ : Addr) ≠ ⟨w.heap.size, 1, none⟩ := by intro e; simp at e
  have n02 : (⟨w.heap.size, 0, none⟩ : Addr) ≠ ⟨w.heap.size, 2, none⟩ := by intro e; simp at e
  have n12 : (⟨w.heap.size, 1, none⟩ : Addr) ≠ ⟨w.heap.size, 2, none⟩ := by intro e; simp at e
  have c0 := World.cell?_setCell_same W _ (.string ⟨#[]⟩) h.bx.a0
  have c1 : (W.setCell ⟨w.heap.size, 0, none⟩ (.string ⟨#[]⟩)).cell? ⟨w.heap.size, 1, none⟩ = _ := (World.cell?_setCell_other _ _ _ _ n01).trans h.bx.a1
  have c2 : (W.setCell ⟨w.heap.size, 0, none⟩ (.string ⟨#[]⟩)).cell? ⟨w.heap.size, 2, none⟩ = _ := (World.cell?_setCell_other _ _ _ _ n02).trans h.bx.a2
  have e2 : ((W.setCell ⟨w.heap.size, 0, none⟩ (.string ⟨#[]⟩)).setCell ⟨w.heap.size, 1, none⟩ (.int .i64 0)).cell? ⟨w.heap.size, 2, none⟩ = _ := (World.cell?_setCell_other _ _ _ _ n12).trans c2
  refine ⟨?_, ?_, World.cell?_setCell_same _ _ _ e2, ?_⟩
  · exact (World.cell?_setCell_other _ _ _ _ (Ne.symm n02)).trans ((World.cell?_setCell_other _ _ _ _ (Ne.symm n01)).trans c0)
  · exact (World.cell?_setCell_other _ _ _ _ (Ne.symm n12)).trans (World.cell?_setCell_same _ _ _ c1)
  · exact grown_new h.gr (((grown_store (g := w.heap.size) (o := 0) (.string ⟨#[]⟩)).trans (grown_store (g := w.heap.size) (o := 1) (.int .i64 0))).trans (grown_store (g := w.heap.size) (o := 2) (.slice none 0 0))) (fun g hg => .inl (by cases hg; exact Nat.le_refl _))
def zeroE : Value := .agg #[.string ⟨#[]⟩, .int .i64 0, .slice none 0 0]
/-- The gens of an entry, in memory of the call's own. -/
def OwnGens (w : World) (B : Nat) (v : Value) (gs : List (List Int)) : Prop := ∃ cs, Own w B v 57 cs ∧ OwnRows w B 3 cs gs
def EntRes (w : World) (p : Nat) (a : Option Addr) (c : Nat) (xs : List Nat) (r : Except Int (Ent × Nat)) (e : Ending) (w' : World) : Prop :=
  w.grownBy w' (some p) ∧
  match r with
  | .error z => e = .returned (.tuple #[zeroE, .int .i64 z])
  | .ok x => ∃ v bit, e = .returned (.tuple #[.agg #[.string x.1.name, .int .i64 x.1.deg, v], .int .i64 0]) ∧ OwnGens w' w.heap.size v x.1.gens ∧ Rd w' p a c xs x.2 bit
theorem EntRes.bad {w w' : World} {p : Nat} {a : Option Addr} {c : Nat} {xs : List Nat} {r : Except Int (Ent × Nat)} {z : Int} (hr : r = .error z) (hg : w.grownBy w' (some p)) :
    EntRes w p a c xs r (.returned (.tuple #[.agg #[.string ⟨#[]⟩, .int .i64 0, .slice none 0 0], .int .i64 z])) w' := by
  subst hr
  exact ⟨hg, rfl⟩
/-- The steps of reading. -/
def entU (f : Nat → Nat) (d m T at4 : Nat) (nm : ByteArray) : Except Int (Ent × Nat) :=
  match gensF f d 0 m with
  | none => .error 3
  | some gs => if readF f T ((8 - T % 8) % 8) ≠ 0 then .error 3 else .ok (⟨nm, (d : Nat), gs⟩, at4)
def entT (b : List Nat) (at3 : Nat) (nm : ByteArray) (d m : Nat) : Except Int (Ent × Nat) :=
  if b.length < at3 + (m * totW d + 7) / 8 then .error 18
  else entU (bitAt b at3) d m (m * totW d) (at3 + (m * totW d + 7) / 8) nm
def entS (b : List Nat) (at2 : Nat) (nm : ByteArray) : Except Int (Ent × Nat) :=
  if b.length < at2 + 2 then .error 18
  else if b[at2]?.getD 0 < 1 ∨ 64 < b[at2]?.getD 0 ∨ 16 < b[at2 + 1]?.getD 0 then .error 3
  else entT b (at2 + 2) nm (b[at2]?.getD 0) (b[at2 + 1]?.getD 0)
def entR (b : List Nat) (at1 n : Nat) (last : Option ByteArray) : Except Int (Ent × Nat) :=
  if okName ((b.drop at1).take n) = false then .error 17
  else if (last.any fun l => leS (nameOf ((b.drop at1).take n)) l) then .error 9
  else entS b (at1 + n) (nameOf ((b.drop at1).take n))
theorem entP_eq (b : List Nat) (at_ : Nat) (last : Option ByteArray) : entP b at_ last = if b.length ≤ at_ then .error 18 else if b.length < at_ + 1 + b[at_]?.getD 0 then .error 18 else entR b (at_ + 1) (b[at_]?.getD 0) last := rfl
theorem Byts.heap {w W : World} {a : Option Addr} {xs : List Nat} (h : Byts w a xs) (e : W.heap = w.heap) : Byts W a xs :=
  ⟨h.1, fun i u hu => by
    obtain ⟨b, o, ha, hb, hc⟩ := h.2 i u hu
    exact ⟨b, o, ha, by rw [e]; exact hb, (World.cell?_of_block (by rw [e])).trans hc⟩⟩
theorem kept_alloc {w : World} {p o : Nat} {u : Value} {x : Obj} (hp : p < w.heap.size) (h : w.cell? ⟨p, o, none⟩ = some u) : (w.alloc x).drew.cell? ⟨p, o, none⟩ = some u :=
  (World.cell?_of_block (w := w) (w' := w.alloc x) (a := ⟨p, o, none⟩) (heap_alloc_old w x hp)).trans h
theorem kept_alloc3 {w : World} {p o : Nat} {u a b c : Value} {x : Obj} (hp : p < w.heap.size) (h : w.cell? ⟨p, o, none⟩ = some u) :
    ((((w.alloc x).setCell ⟨w.heap.size, 0, none⟩ a).setCell ⟨w.heap.size, 1, none⟩ b).setCell ⟨w.heap.size, 2, none⟩ c).drew.cell? ⟨p, o, none⟩ = some u := by
  have hne : ∀ k, (⟨p, o, none⟩ : Addr) ≠ ⟨w.heap.size, k, none⟩ := fun k e => by have := congrArg Addr.block e; simp only at this; omega
  have hne' : ∀ k, (⟨w.heap.size, k, none⟩ : Addr) ≠ ⟨p, o, none⟩ := fun k e => hne k e.symm
  refine (World.cell?_setCell_other _ _ _ _ (hne' _)).trans ((World.cell?_setCell_other _ _ _ _ (hne' _)).trans ((World.cell?_setCell_other _ _ _ _ (hne' _)).trans ?_))
  exact kept_alloc hp h
theorem run_leq' (x y : ByteArray) (w : World) : (binOp BinOp.leq 9 (.string x) (.string y)).run Tryd.prog w = .ok (.bool (leS x y)) w := by
  simp [binOp, Op.stringOp, leS]
def totP (d : Nat) : Nat → Nat
  | 0 => 0
  | i + 1 => totP d i + wid (d - i)
theorem totP_eq (d : Nat) : ∀ i, i ≤ d → totP d i + totW (d - i) = totW d
  | 0, _ => by simp [totP]
  | i + 1, h => by
    have := totP_eq d i (by omega)
    obtain ⟨r, hr⟩ : ∃ r, d - i = r + 1 := ⟨d - i - 1, by omega⟩
    rw [hr, totW] at this
    rw [totP, hr, show d - (i + 1) = r by omega]
    omega
theorem totP_all (d : Nat) : totP d d = totW d := by
  have := totP_eq d d (Nat.le_refl _)
  simpa [totW] using this
/-- .. behind the name. -/
structure S2 (w wr : World) (p X : Nat) (a : Option Addr) (c : Nat) (xs : List Nat) (at_ bit : Nat) (u0 u1 u2 : Value) : Prop where
  s1 : S1 w wr p a c xs at_ bit
  bx : Box3 wr X u0 u1 u2
  le : w.heap.size < X
section
variable {w wr w2 : World} {p X : Nat} {a : Option Addr} {c : Nat} {xs : List Nat} {at_ bit at2 bit2 : Nat} {u0 u1 u2 : Value}
theorem S2.to (h : S2 w wr p X a c xs at_ bit u0 u1 u2) (k : RdTo wr w2 p a c xs at2 bit2) : S2 w w2 p X a c xs at2 bit2 u0 u1 u2 :=
  ⟨h.s1.to k, h.bx.grown k.2 (fun e => by have := Option.some.inj e; have := h.s1.pl; have := h.le; omega), h.le⟩
theorem S2.below (h : S2 w wr p X a c xs at_ bit u0 u1 u2) (k : Below wr.heap.size wr w2) : S2 w w2 p X a c xs at_ bit u0 u1 u2 := ⟨h.s1.below k, h.bx.below k, h.le⟩
theorem S2.drewN (h : S2 w wr p X a c xs at_ bit u0 u1 u2) (n : Nat) : S2 w (wr.drewN n) p X a c xs at_ bit u0 u1 u2 := h.below (below_self_drewN _ _)
/-- A block of the call's own, other than the result's, has changed. -/
theorem S1.other (h : S1 w wr p a c xs at_ bit) {g : Nat} (k : wr.grownBy w2 (some g)) (hg : w.heap.size < g) : S1 w w2 p a c xs at_ bit :=
  ⟨h.rd.grown k (by have := h.pl; omega) (fun b o e => by have := h.ra b o e; omega), grown_new h.gr k (fun g' e => .inl (by cases e; omega)), h.bx.grown k (fun e => by have := Option.some.inj e; omega), h.pl, h.ra, Nat.lt_of_lt_of_le h.le k.size⟩
theorem S2.other (h : S2 w wr p X a c xs at_ bit u0 u1 u2) {g : Nat} (k : wr.grownBy w2 (some g)) (hg : w.heap.size < g) (hX : g ≠ X) : S2 w w2 p X a c xs at_ bit u0 u1 u2 :=
  ⟨h.s1.other k hg, h.bx.grown k (fun e => hX (Option.some.inj e).symm), h.le⟩
theorem S2.grown0 (h : S2 w wr p X a c xs at_ bit u0 u1 u2) (k : wr.grownBy w2 none) : S2 w w2 p X a c xs at_ bit u0 u1 u2 :=
  h.below ⟨k.os, k.tape, k.output, k.size, fun b hb => k.block b hb (by simp)⟩
theorem S2.setX1 (h : S2 w wr p X a c xs at_ bit u0 u1 u2) (u : Value) : S2 w (wr.setCell ⟨X, 1, none⟩ u) p X a c xs at_ bit u0 u u2 :=
  ⟨h.s1.other (grown_put 1 u) h.le, h.bx.set1 u, h.le⟩
theorem S2.setX2 (h : S2 w wr p X a c xs at_ bit u0 u1 u2) (u : Value) : S2 w (wr.setCell ⟨X, 2, none⟩ u) p X a c xs at_ bit u0 u1 u :=
  ⟨h.s1.other (grown_put 2 u) h.le, h.bx.set2 u, h.le⟩
theorem S1.set1 (h : S1 w wr p a c xs at_ bit) (n : Nat) : S1 w (wr.setCell ⟨p, 1, none⟩ (.int .i64 (n : Int))) p a c xs n bit := h.to ⟨h.rd.set1 n, grown_put 1 _⟩
theorem S1.set2 (h : S1 w wr p a c xs at_ bit) (n : Nat) : S1 w (wr.setCell ⟨p, 2, none⟩ (.int .i64 (n : Int))) p a c xs at_ n := h.to ⟨h.rd.set2 n, grown_put 2 _⟩
theorem S2.set1 (h : S2 w wr p X a c xs at_ bit u0 u1 u2) (n : Nat) : S2 w (wr.setCell ⟨p, 1, none⟩ (.int .i64 (n : Int))) p X a c xs n bit u0 u1 u2 := h.to ⟨h.s1.rd.set1 n, grown_put 1 _⟩
theorem S2.set2 (h : S2 w wr p X a c xs at_ bit u0 u1 u2) (n : Nat) : S2 w (wr.setCell ⟨p, 2, none⟩ (.int .i64 (n : Int))) p X a c xs at_ n u0 u1 u2 := h.to ⟨h.s1.rd.set2 n, grown_put 2 _⟩
theorem S1.box (h : S1 w wr p a c xs at_ bit) (u0 u1 u2 : Value) (T : TypeId) : S2 w (wr.alloc (.cells #[u0, u1, u2] T)) p wr.heap.size a c xs at_ bit u0 u1 u2 :=
  ⟨h.below ((Below.refl _ _).alloc (Nat.le_refl _) _), Box3.new _ _ _ _ _, h.le⟩
end
end Go.Proofs.YtjjjnpolhbbepaaDoor
