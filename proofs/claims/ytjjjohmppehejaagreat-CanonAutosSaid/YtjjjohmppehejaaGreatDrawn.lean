/- The kit's Drawn: a valid graph. -/
import Derived.Test.YtjjjohmppehejaaGreatRefA
import Derived.Test.YtjjjohmppehejaaGreatPlainG
import Derived.Test.YtjjjohmppehejaaGreatVerts
import Derived.StillTailTactics
set_option linter.unusedSimpArgs false
set_option linter.unusedVariables false
namespace Go.Proofs
theorem Tryz.info58 : (Tryz.prog.info? 58).map (fun i => (i.zero, i.size, i.bytes)) = some (some (.agg #[.int .i64 0, .int .i64 0]), 2, 16) := by kernel_rfl
end Go.Proofs
namespace Go.Proofs.YtjjjohmppehejaaGreat
open Go.RowKit Plain PlainG
/-- A graph in a block of three cells. -/
structure GB (w : World) (q : Nat) (N : Nat) (v u : Value) : Prop where
  c0 : w.cell? ⟨q, 0, none⟩ = some (.int .i64 (N : Int))
  c1 : w.cell? ⟨q, 1, none⟩ = some v
  c2 : w.cell? ⟨q, 2, none⟩ = some u
  fr : ∀ o, w.frozen? ⟨q, o, none⟩ = false
  lt : q < w.heap.size
section
variable {w w' : World} {q N : Nat} {v u : Value}
theorem GB.block (h : GB w q N v u) (hb : w'.heap[q]? = w.heap[q]?) (hs : w.heap.size ≤ w'.heap.size) : GB w' q N v u := by
  have hc : ∀ o, w'.cell? ⟨q, o, none⟩ = w.cell? ⟨q, o, none⟩ := fun o => by unfold World.cell?; rw [hb]
  have hf : ∀ o, w'.frozen? ⟨q, o, none⟩ = w.frozen? ⟨q, o, none⟩ := fun o => by unfold World.frozen?; rw [hb]
  exact ⟨(hc 0).trans h.c0, (hc 1).trans h.c1, (hc 2).trans h.c2, fun o => (hf o).trans (h.fr o), Nat.lt_of_lt_of_le h.lt hs⟩
theorem GB.keptL {S : List Nat} (h : GB w q N v u) (k : Kept w w' S) (hq : q ∉ S) : GB w' q N v u := h.block (k.block q h.lt hq) k.size
theorem GB.grown {r : Option Nat} (h : GB w q N v u) (k : w.grownBy w' r) (hq : r ≠ some q) : GB w' q N v u := h.block (k.block q h.lt (fun e => hq e.symm)) k.size
theorem GB.set1 (h : GB w q N v u) (v' : Value) : GB (w.setCell ⟨q, 1, none⟩ v') q N v' u :=
  ⟨(World.cell?_setCell_other _ _ _ _ (by intro e; simp at e)).trans h.c0, World.cell?_setCell_same _ _ _ h.c1, (World.cell?_setCell_other _ _ _ _ (by intro e; simp at e)).trans h.c2, fun o => (World.frozen?_setCell _ _ _ _).trans (h.fr o), by simpa [World.setCell] using h.lt⟩
end
theorem Kept.transW {a b c : World} {S S' : List Nat} (h : Kept a b S) (k : Kept b c S') (hs : ∀ x ∈ S', x ∈ S ∨ a.heap.size ≤ x) : Kept a c S :=
  ⟨k.os.trans h.os, k.tape.trans h.tape, k.output.trans h.output, Nat.le_trans h.size k.size, fun i hi hn => (k.block i (Nat.lt_of_lt_of_le hi h.size) (fun hm => by
    rcases hs i hm with h1 | h1
    · exact hn h1
    · omega)).trans (h.block i hi hn)⟩
theorem zres_cells {w : World} {D : Nat} (h : w.heap[D]? = some (.cells #[.int .i64 0, .slice none 0 0, .slice none 0 0] 25)) : w.cell? ⟨D, 0, none⟩ = some (.int .i64 0) ∧ w.cell? ⟨D, 1, none⟩ = some (.slice none 0 0) ∧ w.cell? ⟨D, 2, none⟩ = some (.slice none 0 0) ∧ ∀ o, w.frozen? ⟨D, o, none⟩ = false := by
  refine ⟨by simp [World.cell?, h], by simp [World.cell?, h], by simp [World.cell?, h], fun o => by simp [World.frozen?, h]⟩
theorem cell_set_same {w : World} {p : Addr} {u v : Value} (h : w.cell? p = some u) : (w.setCell p v).cell? p = some v := World.cell?_setCell_same _ _ _ h
theorem cell_set_other {w : World} {p r : Addr} {v : Value} (h : p ≠ r) : (w.setCell p v).cell? r = w.cell? r := World.cell?_setCell_other _ _ _ _ h
theorem Own.cellI {w : World} {B g n c k : Nat} {T : TypeId} {xs : List Int} (h : Own w B (.slice (some ⟨g, 0, none⟩) n c) T (Go.Proofs.YtjjjohmppehejaaGreat.ints xs)) (hk : k < xs.length) : w.cell? ⟨g, k, none⟩ = some (.int .i64 (xs[k]?.getD 0)) := by
  rw [h.cell k (by rw [ints_len]; exact hk), ints_get hk]
theorem pair_new (w : World) (x y : Value) (T : TypeId) : (w.alloc (.cells #[x, y] T)).cell? ((⟨w.heap.size, 0, none⟩ : Addr).add 0) = some x ∧ (w.alloc (.cells #[x, y] T)).cell? ((⟨w.heap.size, 0, none⟩ : Addr).add 1) = some y := by
  rw [add_zero_addr, add_zero_addr]
  exact ⟨by simp, by simp⟩
theorem heap_new (w : World) (o : Obj) : (w.alloc o).heap[w.heap.size]? = some o := by
  show (w.heap.push o)[w.heap.size]? = some o
  simp
/-- Edges ahead of a place. -/
def EPre (n i k : Nat) (es : List (Int × Int)) : Prop := Srt es ∧ (∀ x ∈ es, 0 ≤ x.1 ∧ x.1 < x.2 ∧ x.2 < (n : Int)) ∧ (∀ x ∈ es, bef x ((i : Int), (k : Int)) = true) ∧ es.length ≤ i * n + k
theorem EPre.next {n i k : Nat} {es : List (Int × Int)} (h : EPre n i k es) : EPre n i (k + 1) es :=
  ⟨h.1, h.2.1, fun x hx => bef_trans (h.2.2.1 x hx) (bef_iff.2 (.inr ⟨rfl, by omega⟩)), by have := h.2.2.2; omega⟩
theorem EPre.push {n i k : Nat} {es : List (Int × Int)} (h : EPre n i k es) (hik : i < k) (hk : k < n) : EPre n i (k + 1) (es ++ [((i : Int), (k : Int))]) := by
  refine ⟨?_, ?_, ?_, ?_⟩
  · unfold Srt
    rw [List.pairwise_append]
    refine ⟨h.1, by simp, fun a ha b hb => ?_⟩
    simp at hb; subst hb
    exact h.2.2.1 a ha
  · intro x hx
    rcases List.mem_append.1 hx with hx | hx
    · exact h.2.1 x hx
    · simp at hx; subst hx; simp only; omega
  · intro x hx
    rcases List.mem_append.1 hx with hx | hx
    · exact h.next.2.2.1 x hx
    · simp at hx; subst hx; exact bef_iff.2 (.inr ⟨rfl, by simp only; omega⟩)
  · have := h.2.2.2; simp; omega
theorem EPre.row {n i k k2 : Nat} {es : List (Int × Int)} (h : EPre n i k es) (hk : k ≤ n) : EPre n (i + 1) k2 es :=
  ⟨h.1, h.2.1, fun x hx => bef_trans (h.2.2.1 x hx) (bef_iff.2 (.inl (by simp only; omega))), by
    have h1 := h.2.2.2
    rw [Nat.add_mul, Nat.one_mul]; omega⟩
theorem EPre.chk {n i k : Nat} {es : List (Int × Int)} (h : EPre n i k es) : chkE n none es = 0 := chkE_of h.1 h.2.1 (by simp)
theorem bel_le3 (x : Int) : okC (bel x 3) = true := by
  have := bel_range (n := x) (k := 3) (by omega)
  simp [okC]; omega
theorem drawn_start {w w1 W0 : World} {n : Nat}
    (h2 : Own w1 0 (.slice (some ⟨(w.alloc (.cells #[.int .i64 0, .slice none 0 0, .slice none 0 0] 25)).heap.size, 0, none⟩) n n) 3 (List.replicate n (.int .i64 0))) (h3 : (w.alloc (.cells #[.int .i64 0, .slice none 0 0, .slice none 0 0] 25)).grownBy w1 none) (h4 : w1.heap.size = (w.alloc (.cells #[.int .i64 0, .slice none 0 0, .slice none 0 0] 25)).heap.size + 1)
    (hW : W0 = w1.alloc (.cells #[.int .i64 (n : Int), .slice none 0 0, .slice (some ⟨w.heap.size + 1, 0, none⟩) n n] 25)) :
    GB W0 w1.heap.size n (.slice none 0 0) (.slice (some ⟨w.heap.size + 1, 0, none⟩) n n) ∧ Own W0 0 (.slice (some ⟨w.heap.size + 1, 0, none⟩) n n) 3 (ints (List.replicate n 0)) ∧ Below w.heap.size w W0 ∧ W0.heap.size = w1.heap.size + 1 ∧ w1.heap.size = w.heap.size + 1 + 1 ∧
    W0.heap[w.heap.size]? = some (.cells #[.int .i64 0, .slice none 0 0, .slice none 0 0] 25) := by
  have hs : (w.alloc (.cells #[.int .i64 0, .slice none 0 0, .slice none 0 0] 25)).heap.size = w.heap.size + 1 := by simp
  rw [hs] at h2 h4
  subst hW
  refine ⟨⟨by simp, by simp, by simp, fun o => World.frozen?_alloc_new w1 _ _ o, by simp⟩, ?_, ?_, by simp, h4, ?_⟩
  · rw [← ints_zero]; exact h2.alloc _
  · exact (((Below.refl _ w).alloc (Nat.le_refl _) _).grown h3 (by simp) (by simp)).alloc (by omega) _
  · rw [Below.heap_alloc _ _ _ (by omega), h3.block _ (by rw [hs]; omega) (by simp)]
    exact heap_new w _
theorem gb_app {W0 w w6 : World} {q gu N n cap G m c2 : Nat} {v : Value} {o : Obj} {es : List (Int × Int)} {x : Int × Int} {cs : List Int} (hG : GB w q N v (.slice (some ⟨gu, 0, none⟩) m c2)) (hE : OwnE w W0.heap.size 58 v es) (hU : Own w 0 (.slice (some ⟨gu, 0, none⟩) m c2) 3 (ints cs)) (hK : Kept W0 w [gu, q]) (hq : q < W0.heap.size) (hgu : gu < W0.heap.size) (hne : gu ≠ q)
    (k3 : (w.alloc o).grownBy w6 v.ownBlock) (k2 : OwnE w6 W0.heap.size 58 (.slice (some ⟨G, 0, none⟩) n cap) (es ++ [x])) (hGB : W0.heap.size ≤ G) :
    GB w6 q N v (.slice (some ⟨gu, 0, none⟩) m c2) ∧ GB (w6.setCell ⟨q, 1, none⟩ (.slice (some ⟨G, 0, none⟩) n cap)) q N (.slice (some ⟨G, 0, none⟩) n cap) (.slice (some ⟨gu, 0, none⟩) m c2) ∧ OwnE (w6.setCell ⟨q, 1, none⟩ (.slice (some ⟨G, 0, none⟩) n cap)) W0.heap.size 58 (.slice (some ⟨G, 0, none⟩) n cap) (es ++ [x]) ∧
    Own (w6.setCell ⟨q, 1, none⟩ (.slice (some ⟨G, 0, none⟩) n cap)) 0 (.slice (some ⟨gu, 0, none⟩) m c2) 3 (ints cs) ∧ Kept W0 (w6.setCell ⟨q, 1, none⟩ (.slice (some ⟨G, 0, none⟩) n cap)) [gu, q] := by
  have hvb : ∀ g, v.ownBlock = some g → W0.heap.size ≤ g := fun g hg => (hE.block_lt hg).2
  have hvq : v.ownBlock ≠ some q := fun e => by have := hvb q e; omega
  have hvu : v.ownBlock ≠ some gu := fun e => by have := hvb gu e; omega
  have hG6 := (hG.grown (grown_alloc w o none) (by simp)).grown k3 hvq
  have hU6 := (hU.alloc o).kept k3 (by right; intro e; exact hvu e.symm)
  refine ⟨hG6, hG6.set1 _, k2.kept (grown_put 1 _) (by right; intro e; have e2 : G = q := Option.some.inj e; omega), hU6.kept (grown_put 1 _) (by right; intro e; cases e; exact hne rfl), ?_⟩
  have h1 : Kept W0 (w.alloc o) [gu, q] := hK.trans (Kept.ofGrown (grown_alloc w o none) (by simp))
  have h2 : Kept W0 w6 [gu, q] := h1.transW (S' := v.ownBlock.toList) (Kept.ofGrown k3 (by intro k e; rw [e]; simp)) (by intro k hk; simp at hk; exact .inr (hvb k hk))
  exact h2.trans (Kept.ofGrown (grown_put 1 _) (by intro k e; cases e; simp))
theorem EPre.up {n i k k2 : Nat} {es : List (Int × Int)} (h : EPre n i k es) (hk : k ≤ k2) : EPre n i k2 es :=
  ⟨h.1, h.2.1, fun x hx => by have := bef_iff.1 (h.2.2.1 x hx); rw [bef_iff]; simp only at this ⊢; omega, by have := h.2.2.2; omega⟩
theorem all_set {cs : List Int} {k : Nat} {y : Int} (h : cs.all okC = true) (hy : okC y = true) : (cs.set k y).all okC = true := by
  rw [List.all_eq_true] at h ⊢
  intro x hx
  rcases List.mem_or_eq_of_mem_set hx with e | e
  · exact h x e
  · rw [e]; exact hy
theorem res_out {w : World} {D : Nat} (a0 a1 a2 : Value) (h1 : w.heap[D]? = some (.cells #[.int .i64 0, .slice none 0 0, .slice none 0 0] 25)) :
    ∃ W, W = ((w.setCell ⟨D, 0, none⟩ a0).setCell ⟨D, 1, none⟩ a1).setCell ⟨D, 2, none⟩ a2 ∧ W.cell? ⟨D, 0, none⟩ = some a0 ∧ W.cell? ⟨D, 1, none⟩ = some a1 ∧ W.cell? ⟨D, 2, none⟩ = some a2 ∧ Below D w W ∧ ∀ k, k ≠ D → W.heap[k]? = w.heap[k]? := by
  obtain ⟨r1, r2, r3, _⟩ := zres_cells h1
  refine ⟨_, rfl, ?_, ?_, ?_, ?_, ?_⟩
  · rw [cell_set_other (by simp), cell_set_other (by simp), cell_set_same r1]
  · rw [cell_set_other (by simp), cell_set_same ((cell_set_other (by simp)).trans r2)]
  · rw [cell_set_same ((cell_set_other (by simp)).trans ((cell_set_other (by simp)).trans r3))]
  · exact (((Below.refl D w).setCell (p := ⟨D, 0, none⟩) (Nat.le_refl _) _).setCell (p := ⟨D, 1, none⟩) (Nat.le_refl _) _).setCell (p := ⟨D, 2, none⟩) (Nat.le_refl _) _
  · intro k hk1
    rw [Below.heap_setCell _ _ _ _ hk1, Below.heap_setCell _ _ _ _ hk1, Below.heap_setCell _ _ _ _ hk1]
set_option maxRecDepth 100000 in
set_option maxHeartbeats 4000000 in
theorem drawn_calls {w : World} {a : Option Addr} {n : Nat} {l : List Int} (c : Nat) (ha : Ints w a l) (hn : n ≤ 24) :
    Calls Tryz.prog 16 #[.int .i64 (n : Int), .slice a l.length c] w fun e w' => ∃ a1 c1 b1 d1 g, e = .returned (.agg #[.int .i64 (n : Int), .slice a1 g.es.length c1, .slice b1 g.cs.length d1]) ∧ g.n = (n : Int) ∧ chkGr g = 0 ∧ Edg w' a1 g.es ∧ Ints w' b1 g.cs ∧ Below w.heap.size w w' := by
  obtain ⟨i3, hi3, hz3, hs3, hb3⟩ := info_parts Tryz.info3
  have I3 := Lib.hid (And.intro hi3 (And.intro hz3 (And.intro hs3 hb3)))
  clear hi3 hz3 hs3 hb3
  obtain ⟨i0, hi, hz0, hz1, hz2⟩ := info_parts Tryz.info58
  have I := Lib.hid (And.intro hi (And.intro hz0 (And.intro hz1 hz2)))
  clear hi hz0 hz1 hz2
  have Hnum := Lib.hid (fun (i : Nat) (w1 : World) (h : Below w.heap.size w w1) (hi : i ≤ 1000000) => kitnum_calls a c l i w1 (ha.below h) hi)
  obtain ⟨L, hL⟩ : ∃ L, L = l.length := ⟨_, rfl⟩
  rw [← hL] at Hnum ⊢
  clear hL ha
  go_enter Tryz.func16, Tryz.ntmps16
  go_wp2_with (at_make; refine mk1 rfl _ _ 23 3 rfl i3 (.int .i64 0) 8 Tryz.underlying23 I3.out.1 I3.out.2.1 I3.out.2.2.1 I3.out.2.2.2 rfl (by omega) 0 n rfl rfl (by omega) (Nat.zero_le _) ?_; intro w1 hd hg hz1; have H1 := Lib.hid (And.intro hd (And.intro hg hz1)); clear hd hg hz1)
  obtain ⟨W0, hW0⟩ : ∃ W0, W0 = w1.alloc (.cells #[.int .i64 (n : Int), .slice none 0 0, .slice (some ⟨w.heap.size + 1, 0, none⟩) n n] 25) := ⟨_, rfl⟩
  rw [← hW0]
  obtain ⟨g1, g2, g3, g4, g5, g6⟩ := drawn_start H1.out.1 H1.out.2.1 H1.out.2.2 hW0
  clear hW0 H1
  generalize hgu : w.heap.size + 1 = gu at *
  generalize hq : w1.heap.size = q at *
  generalize hD : w.heap.size = D at *
  have far : ∀ wr, Kept W0 wr [gu, q] → wr.heap[D]? = some (.cells #[.int .i64 0, .slice none 0 0, .slice none 0 0] 25) ∧ Below D w wr := by
    intro wr k
    exact ⟨(k.block _ (by omega) (by simp; omega)).trans g6, g3.trans (k.below (by omega) (by simp; omega))⟩
  have hgq : gu ≠ q := by omega
  have HF := Lib.hid (And.intro far (And.intro g4 (And.intro g5 hgu)))
  have HS := Lib.hid (And.intro g1 g2)
  clear far g1 g2 g3 g4 g5 g6 hgu
  go_loopw [6, 7] (fun at_ i wr => ∃ (x k : Nat) (cs : List Int), k ≤ n ∧ x ≤ k + 1 ∧ at_ = .int .i64 (x : Int) ∧ i = .int .i64 (k : Int) ∧ cs.length = n ∧ cs.all okC = true ∧ Own wr 0 (.slice (some ⟨gu, 0, none⟩) n n) 3 (ints cs) ∧ GB wr q n (.slice none 0 0) (.slice (some ⟨gu, 0, none⟩) n n) ∧ Kept W0 wr [gu, q]) (fun _ i _ => n - (intOf i).toNat)
  case atStart => exact ⟨1, 0, List.replicate n 0, Nat.zero_le _, by omega, rfl, rfl, by simp, by simp [okC], HS.out.2, HS.out.1, Kept.refl _ _⟩
  case round =>
    clear HS
    obtain ⟨x, k, cs, hk, hx, rfl, rfl, hcl, hok, hU, hG, hK⟩ := hrel
    by_cases hlt : k < n
    · have hbw := (HF.out.1 _ hK).2
      have hn0 := Hnum.out 0 wr hbw (by omega)
      have hnx := Hnum.out x wr.drew hbw.drew (by omega)
      obtain ⟨z0, hz0⟩ : ∃ z, numAt l 0 = z := ⟨_, rfl⟩
      obtain ⟨z1, hz1⟩ : ∃ z, numAt l x = z := ⟨_, rfl⟩
      rw [hz0] at hn0
      rw [hz1] at hnx
      have hb0 := below_calls z0 2 wr (by omega)
      have hb1 := below_calls z1 3 wr.drew (by omega)
      obtain ⟨y0, hy0⟩ : ∃ y, bel z0 2 = y := ⟨_, rfl⟩
      have hok3 := bel_le3 z1
      obtain ⟨y1, hy1⟩ : ∃ y, bel z1 3 = y := ⟨_, rfl⟩
      rw [hy0] at hb0
      rw [hy1] at hb1 hok3
      have d2 := hG.c2
      have hck := hU.cellI (k := k) (by omega)
      have hfk := hU.frozen k
      have hkn : (k : Int) < n := by omega
      have HC := Lib.hid (And.intro hn0 (And.intro hb0 (And.intro hnx hb1)))
      have HR := Lib.hid (And.intro hU (And.intro hG (And.intro hK (And.intro hcl (And.intro hok hok3)))))
      clear hn0 hb0 hnx hb1 hU hG hK hcl hok hok3 hbw hz0 hz1 hy0 hy1
      by_cases c0 : y0 = 1
      · subst c0
        go_wp2_with (first
          | (go_at_call 38; refine HC.out.1.mono ?_; rintro e w4 ⟨rfl, rfl⟩)
          | (go_at_call 15; refine HC.out.2.1.mono ?_; rintro e w5 ⟨rfl, rfl⟩))
        go_still_tail 8, (by kernel_rfl)
        still_call HC.out.2.2.1
        still_call HC.out.2.2.2
        repeat still_step
        refine wpStill_nil ?_
        go_wp2_with fail
        refine ⟨⟨x + 1, k + 1, cs.set k y1, by omega, by omega, by go_num, by go_num, by rw [List.length_set]; exact HR.out.2.2.2.1, all_set HR.out.2.2.2.2.1 HR.out.2.2.2.2.2, ?_, ?_, ?_⟩, by simp [intOf]; omega⟩
        · rw [← ints_set]; exact (HR.out.1.put k _).drewN 1
        · exact (HR.out.2.1.grown (grown_put k _) (by intro e; cases e; exact hgq rfl)).grown (grown_drewN _ 1 none) (by simp)
        · exact (HR.out.2.2.1.trans (Kept.ofGrown (grown_put k _) (by intro k e; cases e; simp))).drewN 1
      · have c1 : (y0 == 1) = false := by simp [c0]
        go_wp2_with (first
          | (go_at_call 38; refine HC.out.1.mono ?_; rintro e w4 ⟨rfl, rfl⟩)
          | (go_at_call 15; refine HC.out.2.1.mono ?_; rintro e w5 ⟨rfl, rfl⟩))
        exact ⟨⟨x, k + 1, cs, by omega, by omega, rfl, by go_num, HR.out.2.2.2.1, HR.out.2.2.2.2.1, HR.out.1, HR.out.2.1, HR.out.2.2.1⟩, by simp [intOf]; omega⟩
    · obtain rfl : k = n := by omega
      have HS := Lib.hid (And.intro hU (And.intro hG (And.intro hK (And.intro hcl hok))))
      clear hU hG hK hcl hok
      go_wp2
      go_loopw [6, 8] (fun at_ i wr => ∃ (y j : Nat) (es : List (Int × Int)) (v : Value), j ≤ k ∧ y ≤ 1 + k + j * k ∧ at_ = .int .i64 (y : Int) ∧ i = .int .i64 (j : Int) ∧ EPre k j 0 es ∧ GB wr q k v (.slice (some ⟨gu, 0, none⟩) k k) ∧ OwnE wr W0.heap.size 58 v es ∧ Own wr 0 (.slice (some ⟨gu, 0, none⟩) k k) 3 (ints cs) ∧ Kept W0 wr [gu, q]) (fun _ i _ => k - (intOf i).toNat)
      case atStart => exact ⟨x, 0, [], .slice none 0 0, Nat.zero_le _, by omega, rfl, rfl, ⟨List.Pairwise.nil, by simp, by simp, by simp⟩, HS.out.2.1, OwnE.nil _ _ _, HS.out.1, HS.out.2.2.1⟩
      case round =>
        obtain ⟨y, j, es, v, hj, hy, rfl, rfl, hP, hG, hE, hU, hK⟩ := hrel
        by_cases hjk : j < k
        · have HO := Lib.hid (And.intro (hP.up (k2 := j + 1) (by omega)) (And.intro hG (And.intro hE (And.intro hU hK))))
          clear hP hG hE hU hK
          go_wp2
          go_loopw [6, 9] (fun at_ i wr => ∃ (y m : Nat) (es : List (Int × Int)) (v : Value), j < m ∧ m ≤ k ∧ y ≤ 1 + k + j * k + m ∧ at_ = .int .i64 (y : Int) ∧ i = .int .i64 (m : Int) ∧ EPre k j m es ∧ GB wr q k v (.slice (some ⟨gu, 0, none⟩) k k) ∧ OwnE wr W0.heap.size 58 v es ∧ Own wr 0 (.slice (some ⟨gu, 0, none⟩) k k) 3 (ints cs) ∧ Kept W0 wr [gu, q]) (fun _ i _ => k - (intOf i).toNat)
          case atStart => exact ⟨y, j + 1, es, v, by omega, by omega, by omega, rfl, by go_num, HO.out⟩
          case round =>
            clear HO
            obtain ⟨y, m, es, v, hjm, hmk, hy2, rfl, rfl, hP, hG, hE, hU, hK⟩ := hrel
            by_cases hmk2 : m < k
            · have hbw := (HF.out.1 _ hK).2
              have hjk2 : j * k ≤ 24 * 24 := Nat.mul_le_mul (by omega) (by omega)
              have hyb : y ≤ 1000 := by omega
              have hny := Hnum.out y wr hbw (by omega)
              obtain ⟨z0, hz0⟩ : ∃ z, numAt l y = z := ⟨_, rfl⟩
              rw [hz0] at hny
              have hb0 := below_calls z0 2 wr (by omega)
              obtain ⟨y0, hy0⟩ : ∃ y, bel z0 2 = y := ⟨_, rfl⟩
              rw [hy0] at hb0
              have HC := Lib.hid (And.intro hny hb0)
              obtain ⟨av, cv, hv⟩ := hE.any_form
              obtain ⟨L1, hL1⟩ : ∃ L1, es.length = L1 := ⟨_, rfl⟩
              rw [hL1] at hv
              subst hv
              have d1 := hG.c1
              have hWw := hK.size
              have hL1b : L1 < 1099511627776 := by have := hP.2.2.2; omega
              have HR := Lib.hid (And.intro hP (And.intro hG (And.intro hE (And.intro hU (And.intro hK (And.intro hL1 hWw))))))
              clear hny hb0 hP hG hE hU hK hbw hz0 hy0 hL1 hWw hjk2
              by_cases c0 : y0 = 1
              · subst c0
                go_wp2_with (first
                  | (go_at_call 38; refine HC.out.1.mono ?_; rintro e w4 ⟨rfl, rfl⟩)
                  | (go_at_call 15; refine HC.out.2.mono ?_; rintro e w5 ⟨rfl, rfl⟩)
                  | (at_builtin; refine appE rfl (.tmp 51) (.tmp 55) 22 58 rfl i0 _ 16 Tryz.underlying22 I.out.1 I.out.2.1 I.out.2.2.1 I.out.2.2.2 rfl (by omega) W0.heap.size (.slice av L1 cv) es L1 rfl (HR.out.2.2.1.alloc _) HR.out.2.2.2.2.2.1 _ 1 ((j : Int), (m : Int)) rfl (pair_new _ _ _ _).1 (pair_new _ _ _ _).2 hL1b (by have h1 := HR.out.2.2.2.2.2.2; simp; omega) ?_; intro G cap w6 k2 k3 k4 k5 k6 k7; have HE := Lib.hid (And.intro k2 (And.intro k3 k6)); have hgb6 := (gb_app HR.out.2.1 HR.out.2.2.1 HR.out.2.2.2.1 HR.out.2.2.2.2.1 (by have := HF.out.2.1; omega) (by have := HF.out.2; omega) hgq k3 k2 k6).1; have d6 := hgb6.c1; have f6 := hgb6.fr 1; clear k2 k3 k4 k5 k6 k7 hgb6))
                obtain ⟨_, r1, r2, r3, r4⟩ := gb_app HR.out.2.1 HR.out.2.2.1 HR.out.2.2.2.1 HR.out.2.2.2.2.1 (by have := HF.out.2.1; omega) (by have := HF.out.2; omega) hgq HE.out.2.1 HE.out.1 HE.out.2.2
                exact ⟨⟨y + 1, m + 1, _, _, by omega, by omega, by omega, by go_num, by go_num, HR.out.1.push hjm hmk2, r1, r2, r3, r4⟩, by simp [intOf]; omega⟩
              · have c1 : (y0 == 1) = false := by simp [c0]
                go_wp2_with (first
                  | (go_at_call 38; refine HC.out.1.mono ?_; rintro e w4 ⟨rfl, rfl⟩)
                  | (go_at_call 15; refine HC.out.2.mono ?_; rintro e w5 ⟨rfl, rfl⟩))
                exact ⟨⟨y + 1, m + 1, es, _, by omega, by omega, by omega, by go_num, by go_num, HR.out.1.next, HR.out.2.1, HR.out.2.2.1, HR.out.2.2.2.1, HR.out.2.2.2.2.1⟩, by simp [intOf]; omega⟩
            · obtain rfl : m = k := by omega
              have HR := Lib.hid (And.intro hP (And.intro hG (And.intro hE (And.intro hU hK))))
              clear hP hG hE hU hK
              go_wp2
              refine ⟨⟨y, j + 1, es, v, by omega, by rw [Nat.add_mul, Nat.one_mul]; omega, rfl, by go_num, HR.out.1.row (Nat.le_refl _), HR.out.2⟩, by simp [intOf]; omega⟩
        · have hch := hP.chk
          obtain ⟨av, cv, hv⟩ := hE.any_form
          obtain ⟨L1, hL1⟩ : ∃ L1, es.length = L1 := ⟨_, rfl⟩
          rw [hL1] at hv
          subst hv
          obtain ⟨f1, f2⟩ := HF.out.1 _ hK
          obtain ⟨r1, r2, r3, r4⟩ := zres_cells f1
          have c0 := hG.c0
          have c1 := hG.c1
          have c2 := hG.c2
          have fr0 := r4 0
          have fr1 := r4 1
          have fr2 := r4 2
          have HL := Lib.hid (And.intro hch (And.intro hE (And.intro hU (And.intro f1 (And.intro f2 (And.intro hL1 hP.2.2.2))))))
          have hqD : q ≠ D := by have := HF.out.2; omega
          clear hch hE hU f1 f2 hL1 hP hG hK r4
          go_wp2
          obtain ⟨W, hW, x0, x1, x2, x3, x4⟩ := res_out (.int .i64 (k : Int)) (.slice av L1 cv) (.slice (some ⟨gu, 0, none⟩) k k) HL.out.2.2.2.1
          rw [← hW]
          have hEW : OwnE W W0.heap.size 58 (.slice av L1 cv) es := ownsRow_block HL.out.2.1 fun g hg => x4 g (by have := (HL.out.2.1.block_lt hg).2; have := HF.out.2; omega)
          have hUW : Own W 0 (.slice (some ⟨gu, 0, none⟩) k k) 3 (ints cs) := ownsRow_block HL.out.2.2.1 fun g hg => by cases hg; exact x4 gu (by have := HF.out.2; omega)
          have hl1 := HL.out.2.2.2.2.2.1
          have hl2 : es.length ≤ 1000 := by
            have h1 := HL.out.2.2.2.2.2.2
            have h2 : j * k ≤ 24 * 24 := Nat.mul_le_mul (by omega) (by omega)
            omega
          refine bodyPost_ret (v := .agg #[.int .i64 (k : Int), .slice av L1 cv, .slice (some ⟨gu, 0, none⟩) k k]) (by simp [results, Tryz.results16, go_sem, x0, x1, x2]) rfl ?_
          refine ⟨av, cv, some ⟨gu, 0, none⟩, k, ⟨(k : Int), es, cs⟩, by rw [hl1, HS.out.2.2.2.1], rfl, ?_, hEW.edg (by omega), hUW.toInts (by unfold maxLen; have := HS.out.2.2.2.1; omega), by rw [hD]; exact HL.out.2.2.2.2.1.trans x3⟩
          exact chkGr_ok.2 ⟨by simp only; omega, by simp only; omega, HL.out.1, by simp only; rw [HS.out.2.2.2.1], HS.out.2.2.2.2⟩
end Go.Proofs.YtjjjohmppehejaaGreat
