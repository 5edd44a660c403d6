/- Permutations and a tower of stabilisers in memory. -/
import Derived.Test.YtbejhkojdiadaaaGreatBase
import Derived.Test.YtbejhkojdiadaaaGreatPlainTab
import Derived.Deep.OwnRows
set_option linter.unusedSimpArgs false
set_option linter.unusedVariables false
namespace Go.Proofs.YtbejhkojdiadaaaGreat
open Go.RowKit PlainPm
/-- Only the blocks of S may have changed. -/
structure Kept (w w' : World) (S : List Nat) : Prop where
  os : w'.os = w.os
  tape : w'.tape = w.tape
  output : w'.output = w.output
  size : w.heap.size ≤ w'.heap.size
  block : ∀ k, k < w.heap.size → k ∉ S → w'.heap[k]? = w.heap[k]?
theorem Kept.refl (w : World) (S : List Nat) : Kept w w S := ⟨rfl, rfl, rfl, Nat.le_refl _, fun _ _ _ => rfl⟩
theorem Kept.trans {a b c : World} {S : List Nat} (h : Kept a b S) (k : Kept b c S) : Kept a c S :=
  ⟨k.os.trans h.os, k.tape.trans h.tape, k.output.trans h.output, Nat.le_trans h.size k.size, fun i hi hs => (k.block i (Nat.lt_of_lt_of_le hi h.size) hs).trans (h.block i hi hs)⟩
theorem Kept.transW {a b c : World} {S S' : List Nat} (h : Kept a b S) (k : Kept b c S') (hs : ∀ x ∈ S', x ∈ S ∨ a.heap.size ≤ x) : Kept a c S :=
  ⟨k.os.trans h.os, k.tape.trans h.tape, k.output.trans h.output, Nat.le_trans h.size k.size, fun i hi hS => (k.block i (Nat.lt_of_lt_of_le hi h.size) (fun hm => by
    rcases hs i hm with h1 | h1
    · exact hS h1
    · omega)).trans (h.block i hi hS)⟩
theorem Kept.ofGrown {w w' : World} {r : Option Nat} {S : List Nat} (h : w.grownBy w' r) (hr : ∀ k, r = some k → k ∈ S) : Kept w w' S :=
  ⟨h.os, h.tape, h.output, h.size, fun k hk hs => h.block k hk (fun e => hs (hr k e.symm))⟩
theorem Kept.ofBelow {w w' : World} {S : List Nat} (h : Below w.heap.size w w') : Kept w w' S := ⟨h.os, h.tape, h.output, h.size, fun k hk _ => h.block k hk⟩
theorem Kept.below {w w' : World} {S : List Nat} {D : Nat} (h : Kept w w' S) (hd : D ≤ w.heap.size) (hs : ∀ k ∈ S, D ≤ k) : Below D w w' :=
  ⟨h.os, h.tape, h.output, h.size, fun k hk => h.block k (Nat.lt_of_lt_of_le hk hd) (fun hm => by have := hs k hm; omega)⟩
theorem Kept.cell {w w' : World} {S : List Nat} (h : Kept w w' S) {p : Addr} (hp : p.block < w.heap.size) (hs : p.block ∉ S) : w'.cell? p = w.cell? p := World.cell?_of_block (w := w) (h.block p.block hp hs)
theorem Kept.frozen {w w' : World} {S : List Nat} (h : Kept w w' S) {p : Addr} (hp : p.block < w.heap.size) (hs : p.block ∉ S) : w'.frozen? p = w.frozen? p := World.frozen?_of_block (w := w) (h.block p.block hp hs)
theorem Kept.drewN {w w' : World} {S : List Nat} (h : Kept w w' S) (n : Nat) : Kept w (w'.drewN n) S := ⟨h.os, h.tape, h.output, h.size, h.block⟩
theorem Kept.mono {w w' : World} {S S' : List Nat} (h : Kept w w' S) (hs : ∀ k ∈ S, k ∈ S') : Kept w w' S' := ⟨h.os, h.tape, h.output, h.size, fun k hk hn => h.block k hk (fun hm => hn (hs k hm))⟩
theorem ownsRow_block {w w' : World} {B : Nat} {v : Value} {e : TypeId} {s n : Nat} {xs : List Value} (h : w.ownsRow B e s v n xs) (hb : ∀ g, v.ownBlock = some g → w'.heap[g]? = w.heap[g]?) : w'.ownsRow B e s v n xs := by
  refine ⟨h.1, ?_⟩
  rcases h.2 with h2 | ⟨g, cap, cur, rfl, hB, hh, r⟩
  · exact .inl h2
  · exact .inr ⟨g, cap, cur, rfl, hB, (hb g rfl).trans hh, r⟩
theorem Own.block_lt {w : World} {B : Nat} {v : Value} {e : TypeId} {xs : List Value} {g : Nat} (h : Own w B v e xs) (hg : v.ownBlock = some g) : g < w.heap.size ∧ B ≤ g := by
  rcases h.2 with ⟨rfl, _⟩ | ⟨g', cap, cur, rfl, hB, hh, _⟩
  · cases hg
  · cases hg
    refine ⟨?_, hB⟩
    rcases Nat.lt_or_ge g' w.heap.size with hl | hl
    · exact hl
    · rw [Array.getElem?_eq_none hl] at hh; cases hh
theorem Own.keptL {w w' : World} {B : Nat} {v : Value} {e : TypeId} {xs : List Value} {S : List Nat} (h : Own w B v e xs) (k : Kept w w' S) (hs : ∀ g, v.ownBlock = some g → g ∉ S) : Own w' B v e xs :=
  ownsRow_block h fun g hg => k.block g (h.block_lt hg).1 (hs g hg)
/-- A list of naturals as ints. -/
def nts (l : List Nat) : List Int := l.map fun x : Nat => (x : Int)
theorem nts_len (l : List Nat) : (nts l).length = l.length := by simp [nts]
theorem nts_get {l : List Nat} {k : Nat} (h : k < l.length) : (nts l)[k]?.getD 0 = ((l[k]?.getD 0 : Nat) : Int) := by
  simp [nts, List.getElem?_eq_getElem h]
/-- The value reads as a permutation; its block is none of M. -/
def PmV {n : Nat} (w : World) (M : List Nat) (v : Value) (x : Pm n) : Prop :=
  ∃ b o c, v = .slice (some ⟨b, o, none⟩) n c ∧ b ∉ M ∧ b < w.heap.size ∧ ∀ i, i < n → w.cell? ⟨b, o + i, none⟩ = some (.int .i64 (x.at i : Int))
/-- A permutation in a block of its own that is new. -/
def NewPm {n : Nat} (w w' : World) (v : Value) (x : Pm n) : Prop :=
  ∃ b c, v = .slice (some ⟨b, 0, none⟩) n c ∧ w.heap.size ≤ b ∧ b < w'.heap.size ∧ ∀ i, i < n → w'.cell? ⟨b, i, none⟩ = some (.int .i64 (x.at i : Int))
section
variable {n : Nat} {w w' : World} {M M' : List Nat} {v : Value} {x : Pm n}
theorem PmV.kept (h : PmV w M v x) (k : Kept w w' M) : PmV w' M v x := by
  obtain ⟨b, o, c, rfl, h1, h2, h3⟩ := h
  exact ⟨b, o, c, rfl, h1, Nat.lt_of_lt_of_le h2 k.size, fun i hi => (k.cell (p := ⟨b, o + i, none⟩) h2 h1).trans (h3 i hi)⟩
theorem PmV.below (h : PmV w M v x) (k : Below w.heap.size w w') : PmV w' M v x := h.kept (Kept.ofBelow k)
theorem PmV.drewN (h : PmV w M v x) (q : Nat) : PmV (w.drewN q) M v x := h
theorem PmV.ext (h : PmV w M v x) (hM : ∀ m ∈ M', m ∈ M ∨ w.heap.size ≤ m) : PmV w M' v x := by
  obtain ⟨b, o, c, rfl, h1, h2, h3⟩ := h
  refine ⟨b, o, c, rfl, fun hm => ?_, h2, h3⟩
  rcases hM b hm with e | e
  · exact h1 e
  · omega
theorem PmV.weak (h : PmV w M v x) : PmV w [] v x := h.ext (by simp)
theorem NewPm.pm (h : NewPm w w' v x) (hM : ∀ m ∈ M, m < w.heap.size) : PmV w' M v x := by
  obtain ⟨b, c, rfl, h1, h2, h3⟩ := h
  exact ⟨b, 0, c, rfl, fun hm => by have := hM b hm; omega, h2, fun i hi => by rw [Nat.zero_add]; exact h3 i hi⟩
theorem NewPm.below {w2 : World} (h : NewPm w w' v x) (k : Below w'.heap.size w' w2) : NewPm w w2 v x := by
  obtain ⟨b, c, rfl, h1, h2, h3⟩ := h
  exact ⟨b, c, rfl, h1, Nat.lt_of_lt_of_le h2 k.size, fun i hi => (k.cell (p := ⟨b, i, none⟩) h2).trans (h3 i hi)⟩
theorem NewPm.from {w0 : World} (h : NewPm w w' v x) (hs : w0.heap.size ≤ w.heap.size) : NewPm w0 w' v x := by
  obtain ⟨b, c, rfl, h1, h2, h3⟩ := h
  exact ⟨b, c, rfl, by omega, h2, h3⟩
/-- An own row that holds a permutation. -/
theorem NewPm.of_own {B : Nat} {e : TypeId} {g c : Nat} {xs : List Int} (h : Own w' B (.slice (some ⟨g, 0, none⟩) n c) e (ints xs)) (hB : w.heap.size ≤ B) (he : xs = x.l) : NewPm w w' (.slice (some ⟨g, 0, none⟩) n c) x := by
  have hl := x.ok.1
  refine ⟨g, c, rfl, ?_, ?_, fun i hi => ?_⟩
  · have := (h.block_lt (g := g) rfl).2; omega
  · exact (h.block_lt (g := g) rfl).1
  · subst he
    rw [h.cell i (by rw [ints_len]; omega), ints_get (by omega), x.get hi]; rfl
end
end Go.Proofs.YtbejhkojdiadaaaGreat
