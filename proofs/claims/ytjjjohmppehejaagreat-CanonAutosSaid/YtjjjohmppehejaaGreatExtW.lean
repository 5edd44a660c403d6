/- extend: a prefix is tested, then backtracking. -/
import Derived.Test.YtjjjohmppehejaaGreatTryW
import Derived.Test.YtjjjohmppehejaaGreatCMat
import Derived.Test.YtjjjohmppehejaaGreatLawKit
set_option linter.unusedSimpArgs false
set_option linter.unusedVariables false
namespace Go.Proofs.YtjjjohmppehejaaGreat
open Go.RowKit Plain PlainG PlainX
theorem keepG {W1 W W' : World} {X Y D : Nat} {u0 u1 u2 v0 v1 v2 : Value} (hD : D ≤ W1.heap.size) (h : W.cell? ⟨X, 0, none⟩ = some u0 ∧ W.cell? ⟨X, 1, none⟩ = some u1 ∧ W.cell? ⟨X, 2, none⟩ = some u2 ∧ W.cell? ⟨Y, 0, none⟩ = some v0 ∧ W.cell? ⟨Y, 1, none⟩ = some v1 ∧ W.cell? ⟨Y, 2, none⟩ = some v2 ∧ Below D W1 W)
    (k : Below W.heap.size W W') : W'.cell? ⟨X, 0, none⟩ = some u0 ∧ W'.cell? ⟨X, 1, none⟩ = some u1 ∧ W'.cell? ⟨X, 2, none⟩ = some u2 ∧ W'.cell? ⟨Y, 0, none⟩ = some v0 ∧ W'.cell? ⟨Y, 1, none⟩ = some v1 ∧ W'.cell? ⟨Y, 2, none⟩ = some v2 ∧ Below D W1 W' := by
  have kk : ∀ {p : Addr} {v : Value}, W.cell? p = some v → W'.cell? p = some v := fun e => (k.cell (block_lt_of_cell e)).trans e
  obtain ⟨h1, h2, h3, h4, h5, h6, h7⟩ := h
  exact ⟨kk h1, kk h2, kk h3, kk h4, kk h5, kk h6, h7.trans (k.mono (Nat.le_trans hD h7.size))⟩
theorem keepG_last {P1 P2 P3 P4 P5 P6 Q : Prop} (h : P1 ∧ P2 ∧ P3 ∧ P4 ∧ P5 ∧ P6 ∧ Q) : Q := h.2.2.2.2.2.2
abbrev nilBox : Obj := .cells #[.slice none 0 0] 28
theorem bx1 {W V w' : World} (h : Below V.heap.size V w') (e : V.heap = (W.alloc nilBox).heap) : w'.heap[W.heap.size]? = some nilBox :=
  (h.block W.heap.size (by rw [e]; simp)).trans (by rw [e]; exact World.alloc_heap_new W _)
theorem bx2 {W V w' : World} (h : Below V.heap.size V w') (e : V.heap = ((W.alloc nilBox).alloc nilBox).heap) : w'.heap[W.heap.size]? = some nilBox ∧ w'.heap[W.heap.size + 1]? = some nilBox := by
  refine ⟨(h.block W.heap.size (by rw [e]; simp; omega)).trans (by rw [e]; exact (Below.heap_alloc _ _ _ (by simp)).trans (World.alloc_heap_new W _)), (h.block (W.heap.size + 1) (by rw [e]; simp)).trans (by rw [e]; have := World.alloc_heap_new (W.alloc nilBox) nilBox; rwa [World.size_alloc] at this)⟩
theorem qq {W1 W w' : World} {D : Nat} {P1 P2 P3 P4 P5 P6 : Prop} (h : P1 ∧ P2 ∧ P3 ∧ P4 ∧ P5 ∧ P6 ∧ Below D W1 W) (k : Below W.heap.size W w') (hD : D ≤ W1.heap.size) : D ≤ w'.heap.size := Nat.le_trans hD (Nat.le_trans h.2.2.2.2.2.2.size k.size)
theorem bx_carry {W w' : World} {A : Nat} {o : Obj} (h : W.heap[A]? = some o) (k : Below W.heap.size W w') : w'.heap[A]? = some o := (k.block A (Array.getElem?_eq_some_iff.1 h).1).trans h
theorem bx_cell {W : World} {A : Nat} {v : Value} (h : W.heap[A]? = some (.cells #[v] 28)) : W.cell? ⟨A, 0, none⟩ = some v ∧ W.frozen? ⟨A, 0, none⟩ = false := by constructor <;> simp [World.cell?, World.frozen?, h]
theorem carry2 {W V w' : World} {A : Nat} {o : Obj} (h : W.heap[A]? = some o) (k : Below V.heap.size V w') (e : V.heap[A]? = W.heap[A]?) : w'.heap[A]? = some o := bx_carry (e.trans h) k
theorem keepS {W1 W W' : World} {X Y D : Nat} {u0 u1 u2 v0 v1 v2 : Value} (h : W.cell? ⟨X, 0, none⟩ = some u0 ∧ W.cell? ⟨X, 1, none⟩ = some u1 ∧ W.cell? ⟨X, 2, none⟩ = some u2 ∧ W.cell? ⟨Y, 0, none⟩ = some v0 ∧ W.cell? ⟨Y, 1, none⟩ = some v1 ∧ W.cell? ⟨Y, 2, none⟩ = some v2 ∧ Below D W1 W)
    (k : Below D W W') (hX : X < D) (hY : Y < D) : W'.cell? ⟨X, 0, none⟩ = some u0 ∧ W'.cell? ⟨X, 1, none⟩ = some u1 ∧ W'.cell? ⟨X, 2, none⟩ = some u2 ∧ W'.cell? ⟨Y, 0, none⟩ = some v0 ∧ W'.cell? ⟨Y, 1, none⟩ = some v1 ∧ W'.cell? ⟨Y, 2, none⟩ = some v2 ∧ Below D W1 W' := by
  have kk : ∀ {p : Addr} {v : Value}, p.block < D → W.cell? p = some v → W'.cell? p = some v := fun h1 e => (k.cell h1).trans e
  obtain ⟨h1, h2, h3, h4, h5, h6, h7⟩ := h
  exact ⟨kk hX h1, kk hX h2, kk hX h3, kk hY h4, kk hY h5, kk hY h6, h7.trans k⟩
theorem bx_lt {W : World} {A : Nat} {o : Obj} (h : W.heap[A]? = some o) : A < W.heap.size ∧ A ≠ W.heap.size := by
  have := (Array.getElem?_eq_some_iff.1 h).1
  exact ⟨this, by omega⟩
theorem heap_al {W V : World} {A : Nat} {o : Obj} (h : W.heap[A]? = some o) (e : V.heap = W.heap ∨ (∃ o1, V.heap = (W.alloc o1).heap) ∨ ∃ o1 o2, V.heap = ((W.alloc o1).alloc o2).heap) : V.heap[A]? = W.heap[A]? := by
  have hl := (Array.getElem?_eq_some_iff.1 h).1
  rcases e with e | ⟨o1, e⟩ | ⟨o1, o2, e⟩
  · rw [e]
  · rw [e]; exact Below.heap_alloc _ _ _ hl
  · rw [e]; exact (Below.heap_alloc _ _ _ (by simp; omega)).trans (Below.heap_alloc _ _ _ hl)
theorem set_same {W : World} {A : Nat} {x : Value} (h : W.heap[A]? = some (.cells #[x] 28)) (u : Value) : (W.setCell ⟨A, 0, none⟩ u).cell? ⟨A, 0, none⟩ = some u := World.cell?_setCell_same' _ _ _ (by rw [(bx_cell h).1]; rfl)
theorem set_heap {W : World} {A B : Nat} (hne : A ≠ B) (u : Value) : (W.setCell ⟨B, 0, none⟩ u).heap[A]? = W.heap[A]? := Below.heap_setCell _ _ _ _ hne
theorem set_other {W : World} {A B : Nat} (hne : A ≠ B) (u : Value) : (W.setCell ⟨B, 0, none⟩ u).cell? ⟨A, 0, none⟩ = W.cell? ⟨A, 0, none⟩ := World.cell?_of_block (set_heap hne u)
theorem L3a {W : World} {A B : Nat} {x y u v : Value} (h : W.heap[A]? = some (.cells #[x] 28)) (h2 : W.heap[B]? = some (.cells #[y] 28)) (hne : A ≠ B) : ((W.setCell ⟨A, 0, none⟩ u).setCell ⟨B, 0, none⟩ v).cell? ⟨A, 0, none⟩ = some u :=
  (set_other hne v).trans (set_same h u)
theorem L3b {W : World} {A B : Nat} {x y u v : Value} (h : W.heap[A]? = some (.cells #[x] 28)) (h2 : W.heap[B]? = some (.cells #[y] 28)) (hne : A ≠ B) : ((W.setCell ⟨A, 0, none⟩ u).setCell ⟨B, 0, none⟩ v).cell? ⟨B, 0, none⟩ = some v :=
  set_same (x := y) ((set_heap (Ne.symm hne) u).trans h2) v
theorem L2a {W : World} {A : Nat} {x u : Value} {o : Obj} (h : W.heap[A]? = some (.cells #[x] 28)) : ((W.setCell ⟨A, 0, none⟩ u).alloc o).cell? ⟨A, 0, none⟩ = some u :=
  (World.cell?_of_block (Below.heap_alloc _ _ _ (by simpa [World.setCell] using (Array.getElem?_eq_some_iff.1 h).1))).trans (set_same h u)
theorem L2b {W : World} {p : Addr} {u v : Value} : ((W.setCell p u).alloc (.cells #[v] 28)).cell? ⟨W.heap.size, 0, none⟩ = some v := by
  have h := World.alloc_heap_new (W.setCell p u) (.cells #[v] 28)
  rw [show (W.setCell p u).heap.size = W.heap.size by simp [World.setCell]] at h
  exact (bx_cell h).1
/-- Behind the two matrices. -/
def Fin2 (w3 Wf : World) (A B : Nat) (v1 v2 : Value) : Prop := A ≠ B ∧ Wf.cell? ⟨A, 0, none⟩ = some v1 ∧ Wf.cell? ⟨B, 0, none⟩ = some v2 ∧ Kept w3 Wf [A, B] ∧ (∀ o, w3.heap[A]? = some o → ∃ c f, o = .cells c 28 f) ∧ (∀ o, w3.heap[B]? = some o → ∃ c f, o = .cells c 28 f)
theorem kept_alloc {w W : World} {S : List Nat} (h : Kept w W S) (o : Obj) : Kept w (W.alloc o) S := h.trans (Kept.ofBelow (alloc_b (Below.refl _ _) o))
theorem kept_set {w W : World} {S : List Nat} (h : Kept w W S) {A : Nat} (hA : A ∈ S) (u : Value) : Kept w (W.setCell ⟨A, 0, none⟩ u) S := h.trans (Kept.ofGrown (grown_put 0 u) (fun k e => by cases e; exact hA))
theorem typ_new {W : World} {A : Nat} (h : W.heap.size ≤ A) : ∀ o, W.heap[A]? = some o → ∃ c f, o = Obj.cells c 28 f := fun o h1 => by rw [Array.getElem?_eq_none h] at h1; cases h1
theorem typ_old {W : World} {A : Nat} {v : Value} (h : W.heap[A]? = some (.cells #[v] 28)) : ∀ o, W.heap[A]? = some o → ∃ c f, o = Obj.cells c 28 f := fun o h1 => by rw [h] at h1; cases h1; exact ⟨_, _, rfl⟩
theorem Own.keptT {w w' : World} {B A C : Nat} {e : TypeId} {v : Value} {xs : List Value} (h : Own w B v e xs) (k : Kept w w' [A, C]) (hA : ∀ o, w.heap[A]? = some o → ∃ c f, o = .cells c 28 f) (hC : ∀ o, w.heap[C]? = some o → ∃ c f, o = .cells c 28 f) (he : e ≠ 28) : Own w' B v e xs := by
  refine h.keptL k fun g hg hm => ?_
  rcases h.blk with e1 | ⟨g', cur, e1, _, _, hb⟩
  · rw [e1] at hg; cases hg
  · rw [e1] at hg; cases hg
    rcases List.mem_cons.1 hm with rfl | hm
    · obtain ⟨c, f, e2⟩ := hA _ hb
      cases e2; exact he rfl
    · rw [List.mem_singleton] at hm; subst hm
      obtain ⟨c, f, e2⟩ := hC _ hb
      cases e2; exact he rfl
theorem OwnMat.keptT {w w' : World} {B g n A C : Nat} {cs : List Value} {m : List (List Int)} (h : OwnMat w B g n cs m) (k : Kept w w' [A, C]) (hA : ∀ o, w.heap[A]? = some o → ∃ c f, o = .cells c 28 f) (hC : ∀ o, w.heap[C]? = some o → ∃ c f, o = .cells c 28 f) : OwnMat w' B g n cs m :=
  ⟨h.top.keptT k hA hC (by decide), ⟨h.rows.1, fun i u xs hu hx => (h.rows.2 i u xs hu hx).keptT k hA hC (by decide)⟩, h.apart⟩
theorem pre_bad {A B : Adj} {cg ch : List Int} {n x v : Nat} {p : List Nat} (hx : x < p.length) (hv : p[x]?.getD 0 = v) (h : okS A B cg ch (p.take x) v = false) : extA A B cg ch n p = none := by
  have : preOK A B cg ch p = false := by
    rw [Bool.eq_false_iff]
    intro h2
    have := List.all_eq_true.1 h2 x (List.mem_range.2 hx)
    simp only [hv] at this
    rw [h] at this; cases this
  unfold extA
  simp [this]
theorem pre_good {A B : Adj} {cg ch : List Int} {n : Nat} {p : List Nat} (h : ∀ y, y < p.length → okS A B cg ch (p.take y) (p[y]?.getD 0) = true) : extA A B cg ch n p = tryF A B cg ch n (n - p.length) p := by
  have : preOK A B cg ch p = true := List.all_eq_true.2 fun y hy => h y (List.mem_range.1 hy)
  unfold extA
  simp [this]
theorem take_at {p : List Nat} {x k : Nat} (hk : k < x) (hx : x ≤ p.length) : (p.take x)[k]?.getD 0 = p[k]?.getD 0 := by rw [List.getElem?_take, if_pos hk]
theorem ok_col {A B : Adj} {cg ch : List Int} {p : List Nat} {x v : Nat} (hx : x ≤ p.length) (h : cg[x]?.getD 0 ≠ ch[v]?.getD 0) : okS A B cg ch (p.take x) v = false := by
  unfold okS
  rw [List.length_take, Nat.min_eq_left hx]
  simp [h]
theorem ok_dup {A B : Adj} {cg ch : List Int} {p : List Nat} {x k v : Nat} (hk : k < x) (hx : x ≤ p.length) (h : p[k]?.getD 0 = v) : okS A B cg ch (p.take x) v = false := by
  have : (p.take x).contains v = true := by
    have hl : k < (p.take x).length := by rw [List.length_take]; omega
    have h2 := take_at hk hx
    rw [h, List.getElem?_eq_getElem hl] at h2
    simp only [Option.getD_some] at h2
    rw [List.contains_iff_mem, ← h2]
    exact List.getElem_mem hl
  unfold okS
  rw [this]; simp
theorem ok_adj {A B : Adj} {cg ch : List Int} {p : List Nat} {x k v : Nat} (hk : k < x) (hx : x ≤ p.length) (h : (A x k == B v (p[k]?.getD 0)) = false) : okS A B cg ch (p.take x) v = false := by
  unfold okS
  have : ((List.range (p.take x).length).all fun k => A (p.take x).length k == B v ((p.take x)[k]?.getD 0)) = false := by
    rw [Bool.eq_false_iff]
    intro h2
    have := List.all_eq_true.1 h2 k (List.mem_range.2 (by rw [List.length_take]; omega))
    simp only [List.length_take, Nat.min_eq_left hx, take_at hk hx] at this
    rw [h] at this; cases this
  rw [this]; simp
theorem ok_all {A B : Adj} {cg ch : List Int} {p : List Nat} {x v : Nat} (hx : x ≤ p.length) (hc : cg[x]?.getD 0 = ch[v]?.getD 0) (h : ∀ k, k < x → p[k]?.getD 0 ≠ v ∧ (A x k == B v (p[k]?.getD 0)) = true) : okS A B cg ch (p.take x) v = true := by
  have h1 : (p.take x).contains v = false := by
    rw [Bool.eq_false_iff]
    intro h2
    rw [List.contains_iff_mem, List.mem_iff_getElem?] at h2
    obtain ⟨k, hk⟩ := h2
    have hl := (List.getElem?_eq_some_iff.1 hk).1
    rw [List.length_take] at hl
    have h3 := take_at (p := p) (show k < x by omega) hx
    rw [hk] at h3
    exact (h k (by omega)).1 h3.symm
  unfold okS
  rw [h1, List.length_take, Nat.min_eq_left hx, hc]
  simp only [beq_self_eq_true, Bool.not_false, Bool.true_and]
  refine List.all_eq_true.2 fun k hk => ?_
  rw [take_at (List.mem_range.1 hk) hx]
  exact (h k (List.mem_range.1 hk)).2
theorem TryRes.mono {w w0 w' : World} {o : Option (List Nat)} {e : Ending} (h : TryRes w o e w') (hs : w0.heap.size ≤ w.heap.size) : TryRes w0 o e w' := by
  cases o with
  | none => exact h
  | some q =>
    obtain ⟨r, h1, h2⟩ := h
    exact ⟨r, h1, h2.mono hs⟩
theorem keepT2 {W0 W W' : World} {T : Nat} {u : Value} (h : W.cell? ⟨T, 0, none⟩ = some u ∧ Below W0.heap.size W0 W) (k : Below W.heap.size W W') : W'.cell? ⟨T, 0, none⟩ = some u ∧ Below W0.heap.size W0 W' :=
  ⟨(k.cell (block_lt_of_cell h.1)).trans h.1, below_two h.2 k⟩
theorem below_of_grown {w w' : World} (h : w.grownBy w' none) : Below w.heap.size w w' := ⟨h.os, h.tape, h.output, h.size, fun k hk => h.block k hk (by simp)⟩
abbrev extFn (X Y A B T : Nat) : Value := .func (.func 53) #[] #[.pointer (some ⟨X, 0, none⟩), .pointer (some ⟨Y, 0, none⟩), .pointer (some ⟨A, 0, none⟩), .pointer (some ⟨B, 0, none⟩), .pointer (some ⟨T, 0, none⟩)]
set_option maxRecDepth 100000 in
set_option maxHeartbeats 4000000 in
theorem extend_calls {w : World} {n : Nat} {eg eh : List E2} {cg ch : List Int} {ga gb ha hb pa : Option Addr} {gc gd hc hd pc i : Nat} {p : List Nat}
    (he1 : Edg w ga eg) (hc1 : Ints w gb cg) (he2 : Edg w ha eh) (hc2 : Ints w hb ch) (hg : ∀ x ∈ eg, 0 ≤ x.1 ∧ x.1 < n ∧ 0 ≤ x.2 ∧ x.2 < n) (hh : ∀ x ∈ eh, 0 ≤ x.1 ∧ x.1 < n ∧ 0 ≤ x.2 ∧ x.2 < n)
    (hl1 : cg.length = n) (hl2 : ch.length = n) (hn : n ≤ 100) (hp : ∀ x ∈ p, x < n) (hpl : p.length ≤ n) (hv : Ints w pa (nts p)) (hi : p.length = i) (hic : i ≤ pc) (hpa : pa = none → i = 0 ∧ pc = 0) (hpb : pa = none ∨ ∃ b o, pa = some ⟨b, o, none⟩ ∧ b < w.heap.size) :
    Calls Tryz.prog 39 #[.agg #[.int .i64 (n : Int), .slice ga eg.length gc, .slice gb n gd], .agg #[.int .i64 (n : Int), .slice ha eh.length hc, .slice hb n hd], .slice pa i pc] w fun e w' =>
      TryRes w (extA (adj eg) (adj eh) cg ch n p) e w' ∧ Below w.heap.size w w' := by
  obtain ⟨L, hL⟩ : ∃ L, eg.length = L := ⟨_, rfl⟩
  obtain ⟨M, hM⟩ : ∃ M, eh.length = M := ⟨_, rfl⟩
  rw [hL, hM]
  obtain ⟨W1, hW1⟩ : ∃ W1, (w.alloc (.cells #[.int .i64 (n : Int), .slice ga L gc, .slice gb n gd] 25)).alloc (.cells #[.int .i64 (n : Int), .slice ha M hc, .slice hb n hd] 25) = W1 := ⟨_, rfl⟩
  have hbw : Below w.heap.size w W1 := by rw [← hW1]; exact alloc_b (alloc_b (Below.refl _ _) _) _
  obtain ⟨X, hX⟩ : ∃ X, w.heap.size = X := ⟨_, rfl⟩
  have x0 : W1.cell? ⟨X, 0, none⟩ = some (.int .i64 (n : Int)) := by rw [← hW1, ← hX]; simp
  have x1 : W1.cell? ⟨X, 1, none⟩ = some (.slice ga L gc) := by rw [← hW1, ← hX]; simp
  have x2 : W1.cell? ⟨X, 2, none⟩ = some (.slice gb n gd) := by rw [← hW1, ← hX]; simp
  have y0 : W1.cell? ⟨X + 1, 0, none⟩ = some (.int .i64 (n : Int)) := by rw [← hW1, ← hX]; simp
  have y1 : W1.cell? ⟨X + 1, 1, none⟩ = some (.slice ha M hc) := by rw [← hW1, ← hX]; simp
  have y2 : W1.cell? ⟨X + 1, 2, none⟩ = some (.slice hb n hd) := by rw [← hW1, ← hX]; simp
  have hs1 : W1.heap.size = X + 2 := by rw [← hW1, ← hX]; simp
  have HK1 := Lib.hid (fun (W : World) (k : Below (X + 2) W1 W) => cmatrix_calls (c := gc) (d := gd) (b := gb) (M := n) ((he1.below hbw).below (by rw [hs1]; exact k)) hL hn hg)
  have HK2 := Lib.hid (fun (W : World) (k : Below (X + 2) W1 W) => cmatrix_calls (c := hc) (d := hd) (b := hb) (M := n) ((he2.below hbw).below (by rw [hs1]; exact k)) hM hn hh)
  have H := Lib.hid (And.intro (hc1.below hbw) (And.intro (hc2.below hbw) (And.intro hbw (And.intro (hv.below hbw) (And.intro hp (And.intro hpl (And.intro hi hpb)))))))
  clear hbw he1 he2 hc1 hc2 hv hp hpl hi hpb
  go_enter Tryz.func39, Tryz.ntmps39
  go_upto_region 1 with (fail)
  clear hW1
  have hD1 : X + 2 ≤ W1.heap.size := by omega
  have hx0 := And.intro x0 (And.intro x1 (And.intro x2 (And.intro y0 (And.intro y1 (And.intro y2 (Below.refl (X + 2) W1))))))
  go_cut [8, 9] (fun u8 u9 wx => ∃ A B w3 G1 G2 c1 c2 B1 B2, u8 = .pointer (some ⟨A, 0, none⟩) ∧ u9 = .pointer (some ⟨B, 0, none⟩) ∧ X + 2 ≤ A ∧ X + 2 ≤ B ∧ Fin2 w3 wx A B (.slice (some ⟨G1, 0, none⟩) n n) (.slice (some ⟨G2, 0, none⟩) n n) ∧ Below (X + 2) W1 w3 ∧ OwnMat w3 B1 G1 n c1 (matF n (adjF eg)) ∧ OwnMat w3 B2 G2 n c2 (matF n (adjF eh)))
  case first =>
    go_region_held3 (fun W => W.cell? ⟨X, 0, none⟩ = some (.int .i64 (n : Int)) ∧ W.cell? ⟨X, 1, none⟩ = some (.slice ga L gc) ∧ W.cell? ⟨X, 2, none⟩ = some (.slice gb n gd) ∧ W.cell? ⟨X + 1, 0, none⟩ = some (.int .i64 (n : Int)) ∧ W.cell? ⟨X + 1, 1, none⟩ = some (.slice ha M hc) ∧ W.cell? ⟨X + 1, 2, none⟩ = some (.slice hb n hd) ∧ Below (X + 2) W1 W)
      (first
        | assumption
        | exact hx0
        | exact keepG hD1 (by assumption) (by first | assumption | exact alloc_b (Below.refl _ _) _ | exact alloc_b (alloc_b (Below.refl _ _) _) _ | exact below_self_drewN _ _)
        | exact keepS hS3 (by repeat (first | exact Below.refl _ _ | refine Below.alloc ?_ (by first | omega | (simp; omega) | (simp [World.setCell]; omega)) _ | refine Below.setCell ?_ (by first | omega | exact Nat.le_refl _ | exact Nat.le_succ _ | (simp; omega)) _)) (by omega) (by omega)
        | exact keepG hD1 hx0 (by first | assumption | exact alloc_b (Below.refl _ _) _ | exact alloc_b (alloc_b (Below.refl _ _) _) _ | exact below_self_drewN _ _ | exact alloc_b (below_self_drewN _ _) _ | exact alloc_b (alloc_b (below_self_drewN _ _) _) _))
      (first
        | (go_at_call 52; (with_reducible refine (HK1.out _ (keepG_last (by assumption))).mono ?_); rintro e w2 ⟨G1, c1, rfl, hm1, hw2⟩; have q2 : X + 2 ≤ w2.heap.size := (by first | exact qq (by assumption) hw2 hD1 | (have h : W1.heap.size ≤ w2.heap.size := hw2.size; omega)); (first | (have ab := bx2 (W := W1) hw2 rfl; obtain ⟨a1, a2⟩ := ab; rw [hs1] at a1 a2) | (have a1 := bx1 (W := W1) hw2 rfl; rw [hs1] at a1; have a2 := True.intro) | (have a1 := True.intro; have a2 := True.intro)); (try (have bc := bx_cell a1; obtain ⟨e1, f1⟩ := bc; have bl := bx_lt a1; obtain ⟨l1, n1⟩ := bl)); (try (have bc := bx_cell a2; obtain ⟨e2, f2⟩ := bc; have bl := bx_lt a2; obtain ⟨l2, n2⟩ := bl)))
        | (go_at_call 52; (with_reducible refine (HK1.out _ (below_self_drewN _ _)).mono ?_); rintro e w2 ⟨G1, c1, rfl, hm1, hw2⟩; have q2 : X + 2 ≤ w2.heap.size := (by first | exact qq (by assumption) hw2 hD1 | (have h : W1.heap.size ≤ w2.heap.size := hw2.size; omega)); (first | (have ab := bx2 (W := W1) hw2 rfl; obtain ⟨a1, a2⟩ := ab; rw [hs1] at a1 a2) | (have a1 := bx1 (W := W1) hw2 rfl; rw [hs1] at a1; have a2 := True.intro) | (have a1 := True.intro; have a2 := True.intro)); (try (have bc := bx_cell a1; obtain ⟨e1, f1⟩ := bc; have bl := bx_lt a1; obtain ⟨l1, n1⟩ := bl)); (try (have bc := bx_cell a2; obtain ⟨e2, f2⟩ := bc; have bl := bx_lt a2; obtain ⟨l2, n2⟩ := bl)))
        | (go_at_call 52; (with_reducible refine (HK2.out _ (keepG_last (by assumption))).mono ?_); rintro e w3 ⟨G2, c2, rfl, hm2, hw3⟩; have q3 : w2.heap.size ≤ w3.heap.size := (by first | exact hw3.size | exact Nat.le_trans (alloc_b (Below.refl _ w2) _).size hw3.size | exact Nat.le_trans (alloc_b (alloc_b (Below.refl _ w2) _) _).size hw3.size); have hS3 : w3.cell? ⟨X, 0, none⟩ = some (.int .i64 (n : Int)) ∧ w3.cell? ⟨X, 1, none⟩ = some (.slice ga L gc) ∧ w3.cell? ⟨X, 2, none⟩ = some (.slice gb n gd) ∧ w3.cell? ⟨X + 1, 0, none⟩ = some (.int .i64 (n : Int)) ∧ w3.cell? ⟨X + 1, 1, none⟩ = some (.slice ha M hc) ∧ w3.cell? ⟨X + 1, 2, none⟩ = some (.slice hb n hd) ∧ Below (X + 2) W1 w3 := keepG hD1 (by assumption) hw3; have g3 : w2.grownBy w3 none := (by first | exact grown_below hw3 _ | exact (grown_alloc w2 _ _).trans (grown_below hw3 _) | exact ((grown_alloc w2 _ _).trans (grown_alloc _ _ _)).trans (grown_below hw3 _)); (try (have a3 := bx1 (W := w2) hw3 rfl)); (try (have ab := bx2 (W := w2) hw3 rfl; obtain ⟨a3, a4⟩ := ab)); (try (have a5 := carry2 a1 hw3 (heap_al a1 (by first | exact .inl rfl | exact .inr (.inl ⟨_, rfl⟩) | exact .inr (.inr ⟨_, _, rfl⟩))))); (try (have a6 := carry2 a2 hw3 (heap_al a2 (by first | exact .inl rfl | exact .inr (.inl ⟨_, rfl⟩) | exact .inr (.inr ⟨_, _, rfl⟩))))); (try (have bc := bx_cell a3; obtain ⟨e3, f3⟩ := bc; have bl := bx_lt a3; obtain ⟨l3, n3⟩ := bl)); (try (have bc := bx_cell a4; obtain ⟨e4, f4⟩ := bc; have bl := bx_lt a4; obtain ⟨l4, n4⟩ := bl)); (try (have bc := bx_cell a5; obtain ⟨e5, f5⟩ := bc; have bl := bx_lt a5; obtain ⟨l5, n5⟩ := bl)); (try (have bc := bx_cell a6; obtain ⟨e6, f6⟩ := bc; have bl := bx_lt a6; obtain ⟨l6, n6⟩ := bl))))
    all_goals go_wp2
    all_goals go_meet
    all_goals exact ⟨_, _, w3, G1, G2, _, _, _, _, rfl, rfl, by omega, by omega,
      ⟨by omega, by first | (with_reducible refine L3a a3 a4 ?_; omega) | (with_reducible refine L3b a3 a4 ?_; omega) | (with_reducible refine L3a a4 a3 ?_; omega) | (with_reducible refine L3b a4 a3 ?_; omega) | (with_reducible refine L3a a5 a6 ?_; omega) | (with_reducible refine L3b a5 a6 ?_; omega) | (with_reducible refine L3a a6 a5 ?_; omega) | (with_reducible refine L3b a6 a5 ?_; omega) | (with_reducible refine L3a a5 a3 ?_; omega) | (with_reducible refine L3b a5 a3 ?_; omega) | (with_reducible refine L3a a3 a5 ?_; omega) | (with_reducible refine L3b a3 a5 ?_; omega) | (with_reducible exact L2a a3) | (with_reducible exact L2a a4) | (with_reducible exact L2a a5) | (with_reducible exact L2a a6) | (with_reducible exact L2b) | (go_keep; done) | (simp; done), by first | (with_reducible refine L3a a3 a4 ?_; omega) | (with_reducible refine L3b a3 a4 ?_; omega) | (with_reducible refine L3a a4 a3 ?_; omega) | (with_reducible refine L3b a4 a3 ?_; omega) | (with_reducible refine L3a a5 a6 ?_; omega) | (with_reducible refine L3b a5 a6 ?_; omega) | (with_reducible refine L3a a6 a5 ?_; omega) | (with_reducible refine L3b a6 a5 ?_; omega) | (with_reducible refine L3a a5 a3 ?_; omega) | (with_reducible refine L3b a5 a3 ?_; omega) | (with_reducible refine L3a a3 a5 ?_; omega) | (with_reducible refine L3b a3 a5 ?_; omega) | (with_reducible exact L2a a3) | (with_reducible exact L2a a4) | (with_reducible exact L2a a5) | (with_reducible exact L2a a6) | (with_reducible exact L2b) | (go_keep; done) | (simp; done), by repeat (first | exact Kept.refl _ _ | refine kept_alloc ?_ _ | refine kept_set ?_ (by simp) _),
        by first | exact typ_new (by omega) | exact typ_old a3 | exact typ_old a4 | exact typ_old a5 | exact typ_old a6, by first | exact typ_new (by omega) | exact typ_old a3 | exact typ_old a4 | exact typ_old a5 | exact typ_old a6⟩, keepG_last hS3, hm1.kept g3, hm2⟩
  case rest =>
    obtain ⟨A, B, w3, G1, G2, c1, c2, B1, B2, rfl, rfl, hA, hB, hf, hb3, hm1, hm2⟩ := hcut
    obtain ⟨hne, fa, fb, hk, ta, tb⟩ := hf
    obtain ⟨wx, hwx⟩ : ∃ wx, wx = wc := ⟨_, rfl⟩
    rw [← hwx] at fa fb hk ⊢
    clear hwx
    have hbx : Below (X + 2) W1 wx := hb3.trans (hk.below (by have := hb3.size; omega) (by simp; exact ⟨hA, hB⟩))
    have r1 := (hm1.keptT hk ta tb).rowsF (by omega)
    have r2 := (hm2.keptT hk ta tb).rowsF (by omega)
    clear hm1 hm2 hk ta tb hb3 x1 y1
    obtain ⟨T, hT⟩ : ∃ T, wx.heap.size = T := ⟨_, rfl⟩
    obtain ⟨V, hV⟩ : ∃ V, wx.alloc (.cells #[extFn X (X + 1) A B T] 85) = V := ⟨_, rfl⟩
    have hbV : Below wx.heap.size wx V := by rw [← hV]; exact alloc_b (Below.refl _ _) _
    have hb1 : Below (X + 2) W1 V := hbx.trans (hbV.mono (by have := hbx.size; omega))
    have hE : XEnv V X (X + 1) A B T n eg eh cg ch := by
      have kk : ∀ {q : Addr} {u : Value}, q.block < X + 2 → W1.cell? q = some u → V.cell? q = some u := fun h1 e => (hb1.cell h1).trans e
      have kv : ∀ {q : Addr} {u : Value}, wx.cell? q = some u → V.cell? q = some u := fun e => (hbV.cell (block_lt_of_cell e)).trans e
      have hb1' : Below W1.heap.size W1 V := by rw [hs1]; exact hb1
      refine ⟨kk (show X < X + 2 by omega) x0, ⟨gb, gd, kk (show X < X + 2 by omega) x2, H.out.1.below hb1'⟩, kk (show X + 1 < X + 2 by omega) y0, ⟨hb, hd, kk (show X + 1 < X + 2 by omega) y2, H.out.2.1.below hb1'⟩, ⟨G1, kv fa, r1.below hbV⟩, ⟨G2, kv fb, r2.below hbV⟩, ?_, hl1, hl2⟩
      rw [← hV, ← hT]; simp
    have hbw : Below w.heap.size w V := H.out.2.2.1.trans (hb1.mono (by rw [hX]; omega))
    have hpV : Ints V pa (nts p) := by
      have := H.out.2.2.2.1
      exact Row.keep this (by rw [hs1]; have := hb1.size; rw [hs1] at this; exact this) (fun q hq => hb1.cell (by rw [hs1] at hq; exact hq))
    have hVs : V.heap.size = T + 1 := by rw [← hV, ← hT]; simp
    have HV := Lib.hid (And.intro hE (And.intro hbw hpV))
    have HH := Lib.hid (And.intro H.out.2.2.2.2.1 (And.intro H.out.2.2.2.2.2.1 (And.intro H.out.2.2.2.2.2.2.1 H.out.2.2.2.2.2.2.2)))
    clear H HK1 HK2 hE hbw hpV r1 r2 hb1 hbV hbx fa fb x0 x2 y0 y2 hx0 hD1 hs1
    have hst := fun (W : World) (Q : Addr) => run_store Tryz.prog W Q (extFn X (X + 1) A B T) .plain rfl
    go_upto_region 4 with (fail)
    clear hV hst
    have hi1000 : i ≤ 1000000 := by have := HH.out.2.1; have := HH.out.2.2.1; omega
    have hup := fun (W : World) (x : Nat) (hx : x ≤ i) => run_upto (W := W) hx hic hi1000 hpa
    have HU := Lib.hid hup
    clear hup
    go_wp2
    go_loopw [22] (fun kk wr => ∃ x m : Nat, x ≤ i ∧ kk = .int .i64 (x : Int) ∧ wr = V.drewN m ∧ ∀ y, y < x → okS (adj eg) (adj eh) cg ch (p.take y) (p[y]?.getD 0) = true) (fun kk _ => i - (intOf kk).toNat)
    case atStart => exact ⟨0, 0, by omega, rfl, rfl, fun y hy => by omega⟩
    case round =>
      obtain ⟨x, m, hx, rfl, rfl, hall⟩ := hrel
      have HA := Lib.hid hall
      clear hall
      by_cases hxl : x < i
      · have hpi := HH.out.2.2.1
        have hxp : x < p.length := by rw [hpi]; exact hxl
        obtain ⟨pb, po, rfl, _, cp⟩ := HV.out.2.2.at_ (k := x) (by rw [nts_len]; exact hxp)
        rw [nts_get hxp] at cp
        have hvn : p[x]?.getD 0 < n := by
          rw [List.getElem?_eq_getElem hxp]; exact HH.out.1 _ (List.getElem_mem hxp)
        obtain ⟨v, hv⟩ : ∃ v, p[x]?.getD 0 = v := ⟨_, rfl⟩
        rw [hv] at cp hvn
        have hxn : x < n := by have := HH.out.2.1; omega
        have hsl := fun W => HU.out W x (by omega)
        have HP := Lib.hid (And.intro hv (And.intro hpi hxp))
        clear hv hpi hxp
        go_wp2
        go_loopw [31] (fun jj wr => ∃ k q : Nat, k ≤ x ∧ jj = .int .i64 (k : Int) ∧ wr = V.drewN q ∧ ∀ z, z < k → p[z]?.getD 0 ≠ v ∧ (adj eg x z == adj eh v (p[z]?.getD 0)) = true) (fun jj _ => x - (intOf jj).toNat)
        case atStart => exact ⟨0, m, by omega, rfl, rfl, fun z hz => by omega⟩
        case round =>
          obtain ⟨k, q, hk, rfl, rfl, hz⟩ := hrel
          have HZ := Lib.hid hz
          clear hz
          by_cases hkx : k < x
          · obtain ⟨_, _, e0, _, ck⟩ := HV.out.2.2.at_ (k := k) (by rw [nts_len]; have := HP.out.2.2; omega)
            cases e0
            rw [nts_get (by have := HP.out.2.2; omega)] at ck
            have hyn : p[k]?.getD 0 < n := by
              have h1 : k < p.length := by have := HP.out.2.2; omega
              rw [List.getElem?_eq_getElem h1]; exact HH.out.1 _ (List.getElem_mem h1)
            obtain ⟨y, hy⟩ : ∃ y, p[k]?.getD 0 = y := ⟨_, rfl⟩
            rw [hy] at ck hyn
            by_cases hdup : y = v
            · subst hdup
              have hno := pre_bad (n := n) HP.out.2.2 HP.out.1 (ok_dup (A := adj eg) (B := adj eh) (cg := cg) (ch := ch) hkx (Nat.le_of_lt HP.out.2.2) hy)
              have HNO := Lib.hid hno
              clear hy hno
              go_wp2
              go_quiet (fail)
              go_wp2
              go_ret2
              rw [HNO.out]
              exact ⟨rfl, HV.out.2.1.trans (by first | exact below_self_drewN _ _ | exact (below_self_drewN _ _).trans (below_self_drewN _ _))⟩
            · have hdv : ((y : Int) == (v : Int)) = false := by simp; omega
              have hEw := HV.out.1
              obtain ⟨G1', ca, ra⟩ := hEw.a
              obtain ⟨G2', cb, rb⟩ := hEw.b
              obtain ⟨r1, s1, t1, ca1, ca2⟩ := rows_entry ra hxn (show k < n by omega)
              obtain ⟨r2, s2, t2, cb1, cb2⟩ := rows_entry rb hvn hyn
              obtain ⟨z1, hz1⟩ : ∃ z, adjF eg x k = z := ⟨_, rfl⟩
              obtain ⟨z2, hz2⟩ : ∃ z, adjF eh v y = z := ⟨_, rfl⟩
              have hne1 : (z1 != z2) = !(adj eg x k == adj eh v y) := by rw [← hz1, ← hz2]; exact adjF_ne
              rw [hz1] at ca2
              rw [hz2] at cb2
              have HY := Lib.hid hy
              have HD := Lib.hid hdup
              clear hz1 hz2 ra rb hEw hy hdup
              cases hb9 : (adj eg x k == adj eh v y) with
              | true =>
                rw [hb9] at hne1
                have hne2 : (z1 != z2) = false := hne1
                have HB := Lib.hid hb9
                clear hne1 hb9
                go_wp2
                go_quiet (fail)
                go_wp2
                refine ⟨⟨k + 1, _, by omega, by go_num, by first | rfl | exact World.drewN_drewN _ _ _, fun z hz => ?_⟩, by simp [intOf]; omega⟩
                rcases Nat.lt_or_ge z k with h | h
                · exact HZ.out z h
                · obtain rfl : z = k := by omega
                  rw [HY.out]; exact ⟨HD.out, HB.out⟩
              | false =>
                rw [hb9] at hne1
                have hne2 : (z1 != z2) = true := hne1
                have hno := pre_bad (n := n) HP.out.2.2 HP.out.1 (ok_adj (A := adj eg) (B := adj eh) (cg := cg) (ch := ch) hkx (Nat.le_of_lt HP.out.2.2) (by rw [HY.out]; exact hb9))
                have HNO := Lib.hid hno
                clear hne1 hb9 hno
                go_wp2
                go_quiet (fail)
                go_wp2
                go_ret2
                rw [HNO.out]
                exact ⟨rfl, HV.out.2.1.trans (by first | exact below_self_drewN _ _ | exact (below_self_drewN _ _).trans (below_self_drewN _ _))⟩
          · obtain rfl : k = x := by omega
            have hEw := HV.out.1
            obtain ⟨b1, d1, cc1, i1⟩ := hEw.xc
            obtain ⟨b2, d2, cc2, i2⟩ := hEw.yc
            obtain ⟨q1, o1, rfl, _, e1⟩ := i1.at_ (k := k) (by rw [hEw.lg]; exact hxn)
            obtain ⟨q2, o2, rfl, _, e2⟩ := i2.at_ (k := v) (by rw [hEw.lh]; exact hvn)
            obtain ⟨x1, hx1⟩ : ∃ x, cg[k]?.getD 0 = x := ⟨_, rfl⟩
            obtain ⟨x2, hx2⟩ : ∃ x, ch[v]?.getD 0 = x := ⟨_, rfl⟩
            rw [hx1] at e1
            rw [hx2] at e2
            by_cases hcol : x1 = x2
            · have hc1 : (x1 != x2) = false := by simpa using hcol
              have hok := ok_all (A := adj eg) (B := adj eh) (cg := cg) (ch := ch) (Nat.le_of_lt HP.out.2.2) (by rw [hx1, hx2]; exact hcol) HZ.out
              have HOK := Lib.hid hok
              clear hx1 hx2 hcol hok i1 i2 hEw
              go_wp2
              go_quiet (fail)
              go_wp2
              refine ⟨⟨k + 1, _, by omega, by go_num, by first | rfl | exact World.drewN_drewN _ _ _, fun y hy => ?_⟩, by simp [intOf]; omega⟩
              rcases Nat.lt_or_ge y k with h | h
              · exact HA.out y h
              · obtain rfl : y = k := by omega
                rw [HP.out.1]; exact HOK.out
            · have hc1 : (x1 != x2) = true := by simpa using hcol
              have hno := pre_bad (n := n) HP.out.2.2 HP.out.1 (ok_col (A := adj eg) (B := adj eh) (cg := cg) (ch := ch) (Nat.le_of_lt HP.out.2.2) (by rw [hx1, hx2]; exact hcol))
              have HNO := Lib.hid hno
              clear hx1 hx2 hcol hno i1 i2 hEw
              go_wp2
              go_quiet (fail)
              go_wp2
              go_ret2
              rw [HNO.out]
              exact ⟨rfl, HV.out.2.1.trans (by first | exact below_self_drewN _ _ | exact (below_self_drewN _ _).trans (below_self_drewN _ _))⟩
      · obtain rfl : x = i := by omega
        have hgood := pre_good (A := adj eg) (B := adj eh) (cg := cg) (ch := ch) (n := n) (p := p) (by rw [HH.out.2.2.1]; exact HA.out)
        rw [HH.out.2.2.1] at hgood
        obtain ⟨W2, hW2⟩ : ∃ W2, W2 = V.drewN m := ⟨_, rfl⟩
        have hb2 : Below V.heap.size V W2 := by rw [hW2]; exact below_self_drewN _ _
        have htc := (HV.out.1.below hb2).t
        have hcl := fun W => clip_calls (w := W) hic hi1000 hpa
        have hOC : ∀ W, Below W2.heap.size W2 W → OwnC W V.heap.size (.slice pa x x) (nts p) none := fun W k => by
          have h1 : Ints W pa (nts p) := (HV.out.2.2.below hb2).below k
          have h2 := OwnC.full (w := W) (B := V.heap.size) h1 (by rw [nts_len]; have := HH.out.2.2.1; omega) (HH.out.2.2.2.imp id (fun ⟨b, o, e, hlt⟩ => ⟨b, o, e, by have e1 := HV.out.2.1.size; have e2 := hb2.size; have e3 := k.size; omega⟩))
          rw [nts_len, HH.out.2.2.1] at h2
          exact h2
        have htry := fun W (k : Below W2.heap.size W2 W) => (try_calls HV.out.1 hn (n - x) p (.slice pa x x) none W (by have := HH.out.2.1; have := HH.out.2.2.1; omega) HH.out.1 (hb2.trans (k.mono hb2.size)) (hOC W k)).mono (R' := fun e w' => TryRes w (tryF (adj eg) (adj eh) cg ch n (n - x) p) e w' ∧ Below w.heap.size w w' ∧ Below W.heap.size W w') (fun e w' h => ⟨h.1.mono (Nat.le_trans (HV.out.2.1.size) (Nat.le_trans hb2.size k.size)), HV.out.2.1.trans ((below_two hb2 (below_two k (below_of_grown h.2.2))).mono HV.out.2.1.size), below_of_grown h.2.2⟩)
        rw [← hW2]
        have HB2 := Lib.hid (HV.out.2.1.trans (hb2.mono HV.out.2.1.size))
        have HC := Lib.hid hcl
        clear hW2 hOC hcl hb2
        cases ho : tryF (adj eg) (adj eh) cg ch n (n - x) p with
        | none =>
          rw [ho] at hgood htry
          have HT := Lib.hid htry
          have HG := Lib.hid hgood
          clear ho hgood htry
          go_wp2
          go_region_held3 (fun W => W.cell? ⟨T, 0, none⟩ = some (extFn X (X + 1) A B T) ∧ Below W2.heap.size W2 W)
            (first
              | assumption
              | exact ⟨htc, below_self_drewN _ _⟩
              | exact keepT2 (by assumption) (by first | assumption | exact below_self_drewN _ _)
              | exact keepT2 ⟨htc, Below.refl _ _⟩ (by first | assumption | exact below_self_drewN _ _))
            (first
              | (go_at_call 56; refine (HC.out _).mono ?_; rintro e w5 ⟨rfl, hw5⟩; replace hw5 := hw5.symm; subst hw5)
              | (go_at_call 53; (with_reducible refine (HT.out _ (And.right (by assumption))).mono ?_); rintro e w7 ⟨he, h9, hb7⟩; subst he; have HZ := Lib.hid (And.intro True.intro h9); clear h9 )
              | (go_at_call 53; (with_reducible refine (HT.out _ (below_self_drewN _ _)).mono ?_); rintro e w7 ⟨he, h9, hb7⟩; subst he; have HZ := Lib.hid (And.intro True.intro h9); clear h9 ))
          all_goals go_wp2
          all_goals go_ret2
          all_goals rw [HG.out]
          all_goals exact ⟨rfl, HZ.out.2⟩
        | some q =>
          rw [ho] at hgood htry
          have HT := Lib.hid htry
          have HG := Lib.hid hgood
          clear ho hgood htry
          go_wp2
          go_region_held3 (fun W => W.cell? ⟨T, 0, none⟩ = some (extFn X (X + 1) A B T) ∧ Below W2.heap.size W2 W)
            (first
              | assumption
              | exact ⟨htc, below_self_drewN _ _⟩
              | exact keepT2 (by assumption) (by first | assumption | exact below_self_drewN _ _)
              | exact keepT2 ⟨htc, Below.refl _ _⟩ (by first | assumption | exact below_self_drewN _ _))
            (first
              | (go_at_call 56; refine (HC.out _).mono ?_; rintro e w5 ⟨rfl, hw5⟩; replace hw5 := hw5.symm; subst hw5)
              | (go_at_call 53; (with_reducible refine (HT.out _ (And.right (by assumption))).mono ?_); rintro e w7 ⟨he, h9, hb7⟩; obtain ⟨r, rfl, he⟩ := he; have HZ := Lib.hid (And.intro he h9); clear h9 he)
              | (go_at_call 53; (with_reducible refine (HT.out _ (below_self_drewN _ _)).mono ?_); rintro e w7 ⟨he, h9, hb7⟩; obtain ⟨r, rfl, he⟩ := he; have HZ := Lib.hid (And.intro he h9); clear h9 he))
          all_goals go_wp2
          all_goals go_ret2
          all_goals rw [HG.out]
          all_goals exact ⟨⟨r, rfl, HZ.out.1⟩, HZ.out.2⟩

end Go.Proofs.YtjjjohmppehejaaGreat
