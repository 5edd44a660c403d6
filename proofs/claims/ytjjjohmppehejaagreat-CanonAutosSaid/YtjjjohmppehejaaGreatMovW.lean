/- The reference's moved: a graph's labels moved by a permutation. -/
import Derived.Test.YtjjjohmppehejaaGreatNextW
import Derived.Test.YtjjjohmppehejaaGreatFormP
set_option linter.unusedSimpArgs false
set_option linter.unusedVariables false
namespace Go.Proofs.YtjjjohmppehejaaGreat
open Go.RowKit Plain PlainG PlainX PlainT
/-- The table of ten times ten bits. -/
def ArrB (w : World) (D : Nat) (f : Nat → Nat → Bool) : Prop := ∀ a b, a < 10 → b < 10 → w.cell? ⟨D, a * 10 + b, none⟩ = some (.bool (f a b)) ∧ w.frozen? ⟨D, a * 10 + b, none⟩ = false
theorem ArrB.below {w w' : World} {D : Nat} {f : Nat → Nat → Bool} (h : ArrB w D f) (hb : Below w.heap.size w w') : ArrB w' D f := fun a b ha hb' => by
  obtain ⟨h1, h2⟩ := h a b ha hb'
  have hk := hb.block D (block_lt_of_cell h1)
  exact ⟨(hb.cell (p := ⟨D, a * 10 + b, none⟩) (block_lt_of_cell h1)).trans h1, by rw [← h2]; simp [World.frozen?, hk]⟩
theorem ArrB.block {w w' : World} {D : Nat} {f : Nat → Nat → Bool} (h : ArrB w D f) (hk : w'.heap[D]? = w.heap[D]?) : ArrB w' D f := fun a b ha hb' => by
  obtain ⟨h1, h2⟩ := h a b ha hb'
  exact ⟨(World.cell?_of_block (w := w) (a := ⟨D, a * 10 + b, none⟩) hk).trans h1, by rw [← h2]; simp [World.frozen?, hk]⟩
theorem ArrB.set {w : World} {D i k : Nat} {f : Nat → Nat → Bool} (h : ArrB w D f) (hi : i < 10) (hk : k < 10) : ArrB (w.setCell ⟨D, i * 10 + k, none⟩ (.bool true)) D (fun a b => f a b || (decide (a = i) && decide (b = k))) := fun a b ha hb => by
  obtain ⟨h1, h2⟩ := h a b ha hb
  by_cases e : a = i ∧ b = k
  · obtain ⟨rfl, rfl⟩ := e
    exact ⟨by rw [cell_set_same h1]; simp, (World.frozen?_setCell _ _ _ _).trans h2⟩
  · refine ⟨(cell_set_other (by intro e2; injection e2 with _ e3 _; omega)).trans (h1.trans ?_), (World.frozen?_setCell _ _ _ _).trans h2⟩
    have : (decide (a = i) && decide (b = k)) = false := by
      rw [Bool.eq_false_iff]; intro h; simp at h; exact e h
    show _ = some (Value.bool (f a b || (decide (a = i) && decide (b = k))))
    rw [this, Bool.or_false]
theorem ArrB.new (w : World) : ArrB (w.alloc (.cells (madeCells #[.bool false] 100) 71)) w.heap.size (fun _ _ => false) := fun a b ha hb => by
  have hh := heap_new w (.cells (madeCells #[Value.bool false] 100) 71)
  refine ⟨?_, ?_⟩
  · unfold World.cell?; rw [hh]
    have hl : a * 10 + b < 100 := by omega
    have := congrArg (fun l => l[a * 10 + b]?) (toList_madeCells_one (Value.bool false) 100)
    simp only [List.getElem?_replicate, hl, if_true, Array.getElem?_toList] at this
    exact this
  · exact World.frozen?_alloc_new w _ _ _
/-- What the table says after k edges. -/
def bitF (p : List Int) (es : List E2) (k : Nat) : Nat → Nat → Bool := adj ((es.take k).map (mvE p))
theorem bitF_succ {p : List Int} {es : List E2} {k u v : Nat} {x : E2} (hx : es[k]? = some x) (hu : pt p x.1 = (u : Int)) (hv : pt p x.2 = (v : Int)) :
    bitF p es (k + 1) = fun a b => (bitF p es k a b || (decide (a = u) && decide (b = v))) || (decide (a = v) && decide (b = u)) := by
  funext a b
  unfold bitF
  have : es.take (k + 1) = es.take k ++ [x] := by
    rw [List.take_add_one, hx]; rfl
  rw [this, List.map_append]
  unfold adj
  rw [List.any_append]
  simp only [List.map_cons, List.map_nil, List.any_cons, List.any_nil, Bool.or_false, mvE, hu, hv]
  rw [Bool.or_assoc]
  congr 1
  have e1 : ((u : Int) == (a : Int) && (v : Int) == (b : Int)) = (decide (a = u) && decide (b = v)) := by
    rw [Bool.eq_iff_iff]; simp; omega
  have e2 : ((u : Int) == (b : Int) && (v : Int) == (a : Int)) = (decide (a = v) && decide (b = u)) := by
    rw [Bool.eq_iff_iff]; simp; omega
  rw [e1, e2]
theorem nts_at {p : List Nat} {i : Nat} (h : i < p.length) : (nts p)[i]? = some (at_ p i : Int) := by simp [nts, at_, h]
theorem at_inj {p : List Nat} (hd : p.Nodup) {i j : Nat} (hi : i < p.length) (hj : j < p.length) (h : at_ p i = at_ p j) : i = j := by
  unfold at_ at h
  rw [List.getElem?_eq_getElem hi, List.getElem?_eq_getElem hj] at h
  have hp := List.pairwise_iff_getElem.1 hd
  rcases Nat.lt_trichotomy i j with h1 | h1 | h1
  · exact absurd h (hp i j hi hj h1)
  · exact h1
  · exact absurd h.symm (hp j i hj hi h1)
theorem keepXb {wr W W3 : World} {X : Nat} {v : Value} (h : W.cell? ⟨X, 0, none⟩ = some v ∧ Below wr.heap.size wr W) (k : Below W.heap.size W W3) : W3.cell? ⟨X, 0, none⟩ = some v ∧ Below wr.heap.size wr W3 :=
  ⟨(k.cell (p := ⟨X, 0, none⟩) (block_lt_of_cell h.1)).trans h.1, below_two h.2 k⟩
theorem keepXs {wr W : World} {X : Nat} {v a0 a1 a2 : Value} (hX : X < wr.heap.size) (h : W.cell? ⟨X, 0, none⟩ = some v ∧ Below wr.heap.size wr W) : (((W.setCell ⟨wr.heap.size, 0, none⟩ a0).setCell ⟨wr.heap.size, 1, none⟩ a1).setCell ⟨wr.heap.size, 2, none⟩ a2).cell? ⟨X, 0, none⟩ = some v ∧ Below wr.heap.size wr (((W.setCell ⟨wr.heap.size, 0, none⟩ a0).setCell ⟨wr.heap.size, 1, none⟩ a1).setCell ⟨wr.heap.size, 2, none⟩ a2) :=
  ⟨by
    have hne : ∀ o, (⟨wr.heap.size, o, none⟩ : Addr) ≠ ⟨X, 0, none⟩ := fun o e => by injection e with e1 _ _; omega
    rw [cell_set_other (hne _), cell_set_other (hne _), cell_set_other (hne _)]; exact h.1, ((h.2.setCell (p := ⟨wr.heap.size, 0, none⟩) (Nat.le_refl _) _).setCell (p := ⟨wr.heap.size, 1, none⟩) (Nat.le_refl _) _).setCell (p := ⟨wr.heap.size, 2, none⟩) (Nat.le_refl _) _⟩
theorem keepBd (wr : World) (o : Obj) : Below wr.heap.size wr (wr.alloc o).drew := ((Below.refl _ wr).alloc (Nat.le_refl _) o).drew
theorem zres_grown {W w6 : World} (h : (W.alloc (.cells #[.int .i64 0, .slice none 0 0, .slice none 0 0] 25)).drew.grownBy w6 none) : w6.heap[W.heap.size]? = some (.cells #[.int .i64 0, .slice none 0 0, .slice none 0 0] 25) :=
  (h.block W.heap.size (show W.heap.size < (W.alloc (.cells #[.int .i64 0, .slice none 0 0, .slice none 0 0] 25)).heap.size by simp) (by simp)).trans (heap_new W _)
theorem keepBm {wr w6 : World} {o : Obj} (h : Below wr.drew.heap.size wr.drew w6) : Below wr.heap.size wr (w6.alloc o) :=
  (below_two (w := wr) (below_self_drewN _ 1) (show Below (wr.drewN 1).heap.size (wr.drewN 1) w6 from h)).alloc h.size _
/-- What the region that makes the answer's box leaves. -/
def MadeP (wr wx : World) (X N : Nat) (u9 : Value) : Prop := ∃ q G, u9 = .pointer (some ⟨q, 0, none⟩) ∧ q ≠ G ∧ X + 3 ≤ q ∧ X + 3 ≤ G ∧ GB wx q N (.slice none 0 0) (.slice (some ⟨G, 0, none⟩) N N) ∧ Own wx 0 (.slice (some ⟨G, 0, none⟩) N N) 3 (ints (List.replicate N 0)) ∧ Below wr.heap.size wr wx
theorem movd_A {wr w6 : World} {X N : Nat} (hX : X + 3 ≤ wr.heap.size) (h1 : Own w6 0 (.slice (some ⟨wr.drew.heap.size, 0, none⟩) N N) 3 (List.replicate N (.int .i64 0))) (h2 : wr.drew.grownBy w6 none) (h3 : w6.heap.size = wr.drew.heap.size + 1) :
    MadeP wr (w6.alloc (.cells #[.int .i64 (N : Int), .slice none 0 0, .slice (some ⟨wr.heap.size, 0, none⟩) N N] 25)) X N (.pointer (some ⟨w6.heap.size, 0, none⟩)) := by
  have h4 : w6.heap.size = wr.heap.size + 1 := h3
  refine ⟨w6.heap.size, wr.heap.size, rfl, by omega, by omega, hX, ⟨by simp, by simp, by simp, fun o => World.frozen?_alloc_new w6 _ _ o, by simp⟩, ?_, keepBm (below_of_grown h2)⟩
  rw [← ints_zero]
  exact Own.alloc (show Own w6 0 (.slice (some ⟨wr.heap.size, 0, none⟩) N N) 3 (List.replicate N (.int .i64 0)) from h1) _
theorem movd_B {wr w6 : World} {X N : Nat} (hX : X + 3 ≤ wr.heap.size) (h1 : Own w6 0 (.slice (some ⟨(wr.alloc (.cells #[.int .i64 0, .slice none 0 0, .slice none 0 0] 25)).drew.heap.size, 0, none⟩) N N) 3 (List.replicate N (.int .i64 0))) (h2 : (wr.alloc (.cells #[.int .i64 0, .slice none 0 0, .slice none 0 0] 25)).drew.grownBy w6 none) (h3 : w6.heap.size = (wr.alloc (.cells #[.int .i64 0, .slice none 0 0, .slice none 0 0] 25)).drew.heap.size + 1) :
    MadeP wr (((w6.setCell ⟨wr.heap.size, 0, none⟩ (.int .i64 (N : Int))).setCell ⟨wr.heap.size, 1, none⟩ (.slice none 0 0)).setCell ⟨wr.heap.size, 2, none⟩ (.slice (some ⟨wr.heap.size + 1, 0, none⟩) N N)) X N (.pointer (some ⟨wr.heap.size, 0, none⟩)) := by
  have hz : (wr.alloc (.cells #[.int .i64 0, .slice none 0 0, .slice none 0 0] 25)).drew.heap.size = wr.heap.size + 1 := by
    show (wr.alloc (.cells #[.int .i64 0, .slice none 0 0, .slice none 0 0] 25)).heap.size = wr.heap.size + 1
    simp
  obtain ⟨r1, r2, r3, r4⟩ := zres_cells (zres_grown h2)
  rw [hz] at h1 h3
  have hb : Below wr.heap.size wr w6 := below_two (keepBd wr _) (below_of_grown h2)
  refine ⟨wr.heap.size, wr.heap.size + 1, rfl, by omega, hX, by omega, ⟨?_, ?_, ?_, ?_, ?_⟩, ?_, ?_⟩
  · rw [cell_set_other (by simp), cell_set_other (by simp), cell_set_same r1]
  · rw [cell_set_other (by simp), cell_set_same ((cell_set_other (by simp)).trans r2)]
  · rw [cell_set_same ((cell_set_other (by simp)).trans ((cell_set_other (by simp)).trans r3))]
  · intro o; rw [World.frozen?_setCell, World.frozen?_setCell, World.frozen?_setCell]; exact r4 o
  · simp [World.setCell]; omega
  · rw [← ints_zero]
    have hn : ∀ j (u : Value) (V : World), Own V 0 (.slice (some ⟨wr.heap.size + 1, 0, none⟩) N N) 3 (List.replicate N (.int .i64 0)) → Own (V.setCell ⟨wr.heap.size, j, none⟩ u) 0 (.slice (some ⟨wr.heap.size + 1, 0, none⟩) N N) 3 (List.replicate N (.int .i64 0)) := fun j u V h =>
      h.kept (grown_put j u) (by right; intro e; have e2 : wr.heap.size + 1 = wr.heap.size := Option.some.inj e; omega)
    exact hn _ _ _ (hn _ _ _ (hn _ _ _ h1))
  · exact ((hb.setCell (p := ⟨wr.heap.size, 0, none⟩) (Nat.le_refl _) _).setCell (p := ⟨wr.heap.size, 1, none⟩) (Nat.le_refl _) _).setCell (p := ⟨wr.heap.size, 2, none⟩) (Nat.le_refl _) _
theorem upon_mk {P : Program} {w : World} {o : Oper} {a : Act} {K : Act → World → Prop} {Q : Exit → Act → World → Prop} (T e : TypeId)
    (i : TypeInfo) (z : Value) (bytes : Nat) (ht : P.underlying T = some (.slice e)) (hi : P.info? e = some i) (hz : i.zero = some z) (hsize : i.size = 1) (hby : i.bytes = bytes) (hzs : z.cells = #[z]) (hb64 : bytes ≤ 64)
    (B : Nat) (n : Nat) (hn : n < 1099511627776) (hB : B ≤ w.heap.size)
    (hK : ∀ w', Own w' B (.slice (some ⟨w.heap.size, 0, none⟩) n n) e (List.replicate n z) → w.grownBy w' none → w'.heap.size = w.heap.size + 1 → K (a.put o.dst (.slice (some ⟨w.heap.size, 0, none⟩) n n)) w') :
    Oper.upon P o a K Q ((Sem.run P (Instr.makeSlice T (.int .i64 (n : Int)) (.int .i64 (n : Int))) w).andThen fun a w' => Result.ok (Next.value a) w') := by
  have h63 : n ≤ maxLen := by unfold maxLen; omega
  have hb' : (i.bytes : Int) * (n : Int) ≤ 281474976710656 := by
    have h := Nat.mul_le_mul_right n (by rw [hby]; exact hb64 : i.bytes ≤ 64)
    have h : ((i.bytes * n : Nat) : Int) ≤ 281474976710656 := by omega
    rwa [Int.natCast_mul] at h
  have hr := run_make (P := P) w T e i z ht hi hz .i64 .i64 n n (by omega) (Int.le_refl _) hb' (by omega)
  simp only [Int.toNat_natCast] at hr
  have hs1 := hsize
  have hown : (w.alloc (.cells (madeCells z.cells (n * i.size)) e)).ownsRow B e 1 (.slice (some ⟨w.heap.size, 0, none⟩) n n) n (madeCells z.cells (n * i.size)).toList := by
    rw [hs1]
    exact World.ownsRow_lit w _ n hB h63 (size_madeCells _ _)
  rw [hs1, Nat.mul_one, hzs, toList_madeCells_one] at hown
  rw [hr]
  refine hK _ ?_ (grown_alloc w _ none) (by simp)
  unfold Own
  rw [List.length_replicate, hs1, Nat.mul_one, hzs]
  exact hown
theorem at_mem {p : List Nat} {i : Nat} (h : i < p.length) : at_ p i ∈ p := by
  unfold at_; rw [List.getElem?_eq_getElem h]; exact List.getElem_mem _
theorem Bx.block {w w' : World} {X : Nat} {u0 u1 u2 : Value} (h : Bx w X u0 u1 u2) (k : w'.heap[X]? = w.heap[X]?) : Bx w' X u0 u1 u2 :=
  ⟨(World.cell?_of_block (w := w) (a := ⟨X, 0, none⟩) k).trans h.1, (World.cell?_of_block (w := w) (a := ⟨X, 1, none⟩) k).trans h.2.1, (World.cell?_of_block (w := w) (a := ⟨X, 2, none⟩) k).trans h.2.2⟩
theorem movd_start {w W1 : World} {X : Nat} {u0 u1 u2 : Value} (hX : w.heap.size = X)
    (hW : W1 = ((w.alloc (.cells #[u0, u1, u2] 25)).alloc (.cells #[.int .i64 0, .slice none 0 0, .slice none 0 0] 25)).alloc (.cells (madeCells #[.bool false] 100) 71)) :
    Bx W1 X u0 u1 u2 ∧ W1.heap[X + 1]? = some (.cells #[.int .i64 0, .slice none 0 0, .slice none 0 0] 25) ∧ Below w.heap.size w W1 ∧ ArrB W1 (X + 2) (fun _ _ => false) ∧ W1.heap.size = X + 3 := by
  subst hX
  have hs1 : (w.alloc (.cells #[u0, u1, u2] 25)).heap.size = w.heap.size + 1 := by simp
  have hs2 : ((w.alloc (.cells #[u0, u1, u2] 25)).alloc (.cells #[.int .i64 0, .slice none 0 0, .slice none 0 0] 25)).heap.size = w.heap.size + 2 := by simp
  subst hW
  refine ⟨?_, ?_, ?_, ?_, by simp⟩
  · exact ((Bx.new w u0 u1 u2).block (Below.heap_alloc _ _ _ (by omega))).block (Below.heap_alloc _ _ _ (by omega))
  · rw [Below.heap_alloc _ _ _ (by omega), ← hs1]
    exact heap_new _ _
  · exact (((Below.refl _ w).alloc (Nat.le_refl _) _).alloc (by omega) _).alloc (by omega) _
  · rw [← hs2]
    exact ArrB.new _
theorem block_lt_of_own {w : World} {B G n c : Nat} {T : TypeId} {vs : List Value} (h : Own w B (.slice (some ⟨G, 0, none⟩) n c) T vs) : G < w.heap.size := by
  rcases h.blk with e | ⟨g, cur, e, _, h2, _⟩
  · cases e
  · cases e; exact h2
set_option maxRecDepth 100000 in
set_option maxHeartbeats 2000000 in
theorem movd_calls {w : World} {a b pb : Option Addr} {c d e N L : Nat} {es : List E2} {cs : List Int} {p : List Nat} (hN : N ≤ 9) (hL : es.length = L) (hcl : cs.length = N) (hg : chkE N none es = 0) (hp : isPermB N p = true) (he : Edg w a es) (hc : Ints w b cs) (hpr : Ints w pb (nts p)) :
    Calls Tryz.prog 22 #[.agg #[.int .i64 (N : Int), .slice a L c, .slice b N d], .slice pb N e] w fun r w' => ∃ a1 c1 b1 d1, r = .returned (.agg #[.int .i64 (N : Int), .slice a1 (movedG N (nts p) es cs).es.length c1, .slice b1 N d1]) ∧ Edg w' a1 (movedG N (nts p) es cs).es ∧ Ints w' b1 (movedG N (nts p) es cs).cs ∧ Below w.heap.size w w' := by
  obtain ⟨i3, hi3, hz3, hs3, hb3⟩ := info_parts Tryz.info3
  have I3 := Lib.hid (And.intro hi3 (And.intro hz3 (And.intro hs3 hb3)))
  clear hi3 hz3 hs3 hb3
  obtain ⟨i0, hi, hz0, hz1, hz2⟩ := info_parts Tryz.info58
  have I := Lib.hid (And.intro hi (And.intro hz0 (And.intro hz1 hz2)))
  clear hi hz0 hz1 hz2
  obtain ⟨hpl, hplt, hpnd⟩ := isPermB_iff.1 hp
  have hL100 : L ≤ 1000000 := by rw [← hL, canon_adj hg]; exact Nat.le_trans (canon_len _ _) (Nat.le_trans (Nat.mul_le_mul hN hN) (by omega))
  obtain ⟨-, hrng, -⟩ := chkE_srt hg
  obtain ⟨X, hX⟩ : ∃ X, w.heap.size = X := ⟨_, rfl⟩
  have HS := Lib.hid (And.intro he (And.intro hc (And.intro hpr (And.intro hpl (And.intro hplt (And.intro hrng (And.intro hL hcl)))))))
  have HP := Lib.hid (And.intro hp (And.intro hpnd hg))
  clear he hc hpr hpl hplt hrng hp hpnd hg hL hcl
  go_enter Tryz.func22, Tryz.ntmps22
  go_upto_region 2 with (fail)
  have hz71 : Tryz.zeroCells71 = madeCells #[.bool false] 100 := by kernel_rfl
  rw [hz71, show X + 1 + 1 = X + 2 from rfl]
  clear hz71
  obtain ⟨W1, hW1⟩ : ∃ W1, W1 = ((w.alloc (.cells #[.int .i64 (N : Int), .slice a L c, .slice b N d] 25)).alloc (.cells #[.int .i64 0, .slice none 0 0, .slice none 0 0] 25)).alloc (.cells (madeCells #[.bool false] 100) 71) := ⟨_, rfl⟩
  rw [← hW1]
  obtain ⟨q1, q2, q3, q4, q5⟩ := movd_start hX hW1
  clear hW1
  have hfar : ∀ wr, Below (X + 2) W1 wr → Below w.heap.size w wr ∧ Bx wr X (.int .i64 (N : Int)) (.slice a L c) (.slice b N d) ∧ wr.heap[X + 1]? = some (.cells #[.int .i64 0, .slice none 0 0, .slice none 0 0] 25) := fun wr h =>
    ⟨q3.trans (h.mono (by omega)), q1.block (h.block X (by omega)), (h.block (X + 1) (by omega)).trans q2⟩
  have HF := Lib.hid (And.intro hfar (And.intro hX q5))
  have HW := Lib.hid q4
  clear q1 q2 q3 q4 q5 hfar hX
  go_wp2
  go_loopw [6] (fun i wr => ∃ k : Nat, k ≤ L ∧ i = .int .i64 (k : Int) ∧ ArrB wr (X + 2) (bitF (nts p) es k) ∧ Below (X + 2) W1 wr) (fun i _ => L - (intOf i).toNat)
  case atStart => exact ⟨0, Nat.zero_le _, rfl, HW.out, Below.refl _ _⟩
  case round =>
    clear HW
    obtain ⟨k, hk, rfl, hA, hB⟩ := hrel
    obtain ⟨hbw, hbx, hrs⟩ := HF.out.1 _ hB
    obtain ⟨x0, x1, x2⟩ := hbx
    by_cases hlt : k < L
    · obtain ⟨x, hx⟩ : ∃ x, es[k]? = some x := ⟨_, List.getElem?_eq_getElem (by rw [HS.out.2.2.2.2.2.2.1]; exact hlt)⟩
      obtain ⟨eb, eo, ha, hel, e1, e2⟩ := (HS.out.1.below hbw).at_ k x hx
      subst ha
      have hr := HS.out.2.2.2.2.2.1 x (List.mem_of_getElem? hx)
      obtain ⟨x1i, x2i⟩ := x
      obtain ⟨u, rfl⟩ : ∃ u : Nat, x1i = u := ⟨x1i.toNat, by have := hr.1; simp only at this; omega⟩
      obtain ⟨v, rfl⟩ : ∃ v : Nat, x2i = v := ⟨x2i.toNat, by have := hr.1; have := hr.2.1; simp only at *; omega⟩
      simp only at e1 e2 hr
      have huN : u < N := by omega
      have hvN : v < N := by omega
      obtain ⟨pb1, po, hpa, hpB, g1⟩ := (HS.out.2.2.1.below hbw).at_ (k := u) (by rw [nts_len, HS.out.2.2.2.1]; exact huN)
      obtain ⟨pb2, po2, hpa2, hpB2, g2⟩ := (HS.out.2.2.1.below hbw).at_ (k := v) (by rw [nts_len, HS.out.2.2.2.1]; exact hvN)
      rw [hpa] at hpa2
      obtain ⟨rfl, rfl⟩ : pb1 = pb2 ∧ po = po2 := by
        have := Option.some.inj hpa2
        injection this with h1 h2 _
        exact ⟨h1, h2⟩
      subst hpa
      obtain ⟨U, hU⟩ : ∃ U, at_ p u = U := ⟨_, rfl⟩
      obtain ⟨V, hV⟩ : ∃ V, at_ p v = V := ⟨_, rfl⟩
      have hgu : (nts p)[u]? = some (U : Int) := by rw [← hU]; exact nts_at (by rw [HS.out.2.2.2.1]; exact huN)
      have hgv : (nts p)[v]? = some (V : Int) := by rw [← hV]; exact nts_at (by rw [HS.out.2.2.2.1]; exact hvN)
      have hUN : U < N := HS.out.2.2.2.2.1 U (by rw [← hU]; exact at_mem (by rw [HS.out.2.2.2.1]; exact huN))
      have hVN : V < N := HS.out.2.2.2.2.1 V (by rw [← hV]; exact at_mem (by rw [HS.out.2.2.2.1]; exact hvN))
      rw [hgu, Option.getD_some] at g1
      rw [hgv, Option.getD_some] at g2
      have hbs := bitF_succ (p := nts p) hx (u := U) (v := V) (by unfold pt; rw [Int.toNat_natCast, hgu]; rfl) (by unfold pt; rw [Int.toNat_natCast, hgv]; rfl)
      obtain ⟨t1, t2⟩ := hA U V (by omega) (by omega)
      obtain ⟨t3, t4⟩ := hA V U (by omega) (by omega)
      have hne : U ≠ V := fun h => by
        have := at_inj HP.out.2.1 (by rw [HS.out.2.2.2.1]; exact huN) (by rw [HS.out.2.2.2.1]; exact hvN) (hU.trans (h.trans hV.symm))
        omega
      have hne1 : ¬ V * 10 + U = U * 10 + V := by omega
      have hne2 : ¬ U * 10 + V = V * 10 + U := by omega
      have hkL : (k : Int) < L := by omega
      have hu1 : (u : Int) < N := by omega
      have hv1 : (v : Int) < N := by omega
      have hU1 : (U : Int) < 10 := by omega
      have hV1 : (V : Int) < 10 := by omega
      have HZ := Lib.hid (And.intro hA (And.intro hB (And.intro hbs (And.intro hUN hVN))))
      clear hA hB hbs hgu hgv hU hV hx hr hbw hrs hel hpB hpB2 huN hvN
      go_wp2
      go_quiet (fail)
      go_wp2
      go_region
      go_wp2
      refine ⟨⟨k + 1, by omega, by go_num, ?_, ?_⟩, by simp [intOf]; omega⟩
      · rw [HZ.out.2.2.1]
        have h0 : ArrB (wr.drewN (nq + 1)) (X + 2) (bitF (nts p) es k) := HZ.out.1
        exact (h0.set (by have := HZ.out.2.2.2.1; omega) (by have := HZ.out.2.2.2.2; omega)).set (by have := HZ.out.2.2.2.2; omega) (by have := HZ.out.2.2.2.1; omega)
      · exact ((HZ.out.2.1.trans (below_self_drewN _ _)).setCell (p := ⟨X + 2, U * 10 + V, none⟩) (Nat.le_refl _) _).setCell (p := ⟨X + 2, V * 10 + U, none⟩) (Nat.le_refl _) _
    · obtain rfl : k = L := by omega
      have HA := Lib.hid (And.intro hA hB)
      have hx0 := And.intro x0 (Below.refl wr.heap.size wr)
      have hXr : X < wr.heap.size := block_lt_of_cell x0
      have hX3 : X + 3 ≤ wr.heap.size := by have := HA.out.2.size; rw [HF.out.2.2] at this; exact this
      clear hA hB hbw hrs
      go_wp2
      go_cut [9] (fun u9 wx => MadeP wr wx X N u9)
      case first =>
        go_region_held3 (fun W => W.cell? ⟨X, 0, none⟩ = some (.int .i64 (N : Int)) ∧ Below wr.heap.size wr W)
          (first
            | with_reducible assumption
            | with_reducible exact hx0
            | (with_reducible refine keepXs hXr ?_; with_reducible assumption)
            | (with_reducible refine keepXb ?_ (alloc_b (Below.refl _ _) _); with_reducible assumption)
            | (with_reducible refine keepXb ?_ (by with_reducible assumption); with_reducible assumption)
            | exact keepXb hx0 (below_self_drewN _ _)
            | exact keepXb hx0 (keepBm hb6)
            | exact keepXb hx0 (keepBd _ _)
            | exact keepXb (keepXb hx0 (keepBd _ _)) hb6)
          ((refine upon_mk 23 3 i3 (.int .i64 0) 8 Tryz.underlying23 I3.out.1 I3.out.2.1 I3.out.2.2.1 I3.out.2.2.2 rfl (by omega) 0 N (by omega) (Nat.zero_le _) ?_; intro w6 hd hg hz1; have hb6 := below_of_grown hg; (try (have zz := zres_grown hg; obtain ⟨r1, r2, r3, r4⟩ := zres_cells zz; have r40 := r4 0; have r41 := r4 1; have r42 := r4 2; clear r4)); have H6 := Lib.hid (And.intro hd (And.intro hg hz1)); clear hd hg hz1))
        all_goals go_wp2
        all_goals go_meet
        · exact movd_A hX3 H6.out.1 H6.out.2.1 H6.out.2.2
        · exact movd_B hX3 H6.out.1 H6.out.2.1 H6.out.2.2
      case rest =>
        obtain ⟨q, G, rfl, hqG, hq, hG3, hGB, hU, hbq⟩ := hcut
        have hbW : Below (X + 2) W1 wc := HA.out.2.trans (hbq.mono (by omega))
        have hAr := HA.out.1.below hbq
        have HC := Lib.hid (And.intro hAr (And.intro hbW (And.intro hqG (And.intro hq hG3))))
        have HO := Lib.hid (And.intro hGB hU)
        have hXr2 : X + 2 < wc.heap.size := by have := hbq.size; omega
        clear hAr hbW hqG hq hG3 hGB hU hbq x0 x1 x2 hx0 HA hXr hX3
        go_wp2
        go_loopw [10] (fun i wi => ∃ j : Nat, j ≤ N ∧ i = .int .i64 (j : Int) ∧ Own wi 0 (.slice (some ⟨G, 0, none⟩) N N) 3 (ints (movTo N (nts p) cs j)) ∧ GB wi q N (.slice none 0 0) (.slice (some ⟨G, 0, none⟩) N N) ∧ wc.grownBy wi (some G)) (fun i _ => N - (intOf i).toNat)
        case atStart => exact ⟨0, Nat.zero_le _, rfl, HO.out.2, HO.out.1, grown_drewN wc 0 _⟩
        case round =>
          obtain ⟨j, hj, rfl, hU, hGB, hg⟩ := hrel
          have hbi : Below (X + 2) W1 wr := HC.out.2.1.grown hg (by omega) (fun g e => by have e2 : G = g := Option.some.inj e; have := HC.out.2.2.2.2; omega)
          obtain ⟨hbw, hbx, hrs⟩ := HF.out.1 _ hbi
          obtain ⟨x0, x1, x2⟩ := hbx
          by_cases hlt : j < N
          · obtain ⟨pb1, po, hpa, hpB, g1⟩ := (HS.out.2.2.1.below hbw).at_ (k := j) (by rw [nts_len, HS.out.2.2.2.1]; exact hlt)
            obtain ⟨cb, co, hca, hcB, g2⟩ := (HS.out.2.1.below hbw).at_ (k := j) (by rw [HS.out.2.2.2.2.2.2.2]; exact hlt)
            subst hpa
            subst hca
            obtain ⟨U, hU2⟩ : ∃ U, at_ p j = U := ⟨_, rfl⟩
            have hgu : (nts p)[j]? = some (U : Int) := by rw [← hU2]; exact nts_at (by rw [HS.out.2.2.2.1]; exact hlt)
            have hUN : U < N := HS.out.2.2.2.2.1 U (by rw [← hU2]; exact at_mem (by rw [HS.out.2.2.2.1]; exact hlt))
            rw [hgu, Option.getD_some] at g1
            obtain ⟨x, hx⟩ : ∃ x, cs[j]?.getD 0 = x := ⟨_, rfl⟩
            rw [hx] at g2
            have hmv : movTo N (nts p) cs (j + 1) = (movTo N (nts p) cs j).set U x := by rw [movTo, hgu, hx, Option.getD_some, Int.toNat_natCast]
            have c2 := hGB.c2
            have g3 := hU.cellI (k := U) (by rw [movTo_len]; omega)
            have g4 := hU.frozen U
            have hjN : (j : Int) < N := by omega
            have hU1 : (U : Int) < N := by omega
            have HY := Lib.hid (And.intro hU (And.intro hGB (And.intro hg hmv)))
            clear hU hGB hg hmv hgu hU2 hx hbw hrs hbi hpB hcB
            go_wp2
            go_region
            go_wp2
            have hgd : ∀ V : World, V.grownBy V.drew (some G) := fun V => ⟨rfl, rfl, rfl, Nat.le_refl _, fun _ _ _ => rfl⟩
            have hgq : (some G : Option Nat) ≠ some q := fun e => HC.out.2.2.1 (Option.some.inj e).symm
            refine ⟨⟨j + 1, by omega, by go_num, ?_, (HY.out.2.1.grown (grown_put U _) hgq).grown (hgd _) hgq, (HY.out.2.2.1.trans (grown_put U _)).trans (hgd _)⟩, by simp [intOf]; omega⟩
            rw [HY.out.2.2.2]
            have hh := HY.out.1.put U (.int .i64 x)
            rw [ints_set] at hh
            exact hh.drew
          · obtain rfl : j = N := by omega
            have hAV := HC.out.1.block (hg.block (X + 2) (by have := HC.out; omega) (by intro e; have e2 := Option.some.inj e; have := HC.out.2.2.2.2; omega))
            have hszV := hg.size
            have hqV := hGB.lt
            have hGV : G < wr.heap.size := (block_lt_of_own hU)
            obtain ⟨V, rfl⟩ : ∃ V, V = wr := ⟨_, rfl⟩
            have HV := Lib.hid (And.intro hAV (And.intro hbi (And.intro hszV (And.intro hGB (And.intro hU (And.intro hqV hGV))))))
            clear hAV hszV hGB hU hg hbw hrs hbi hqV hGV HO
            go_wp2
            go_loopw [11] (fun i wi => ∃ (m : Nat) (v : Value), m ≤ j ∧ i = .int .i64 (m : Int) ∧ GB wi q j v (.slice (some ⟨G, 0, none⟩) j j) ∧ OwnE wi V.heap.size 58 v (upto j (bitF (nts p) es k) m 0) ∧ Own wi 0 (.slice (some ⟨G, 0, none⟩) j j) 3 (ints (movTo j (nts p) cs j)) ∧ Kept V wi [G, q]) (fun i _ => j - (intOf i).toNat)
            case atStart => exact ⟨0, .slice none 0 0, Nat.zero_le _, rfl, HV.out.2.2.2.1, by rw [upto_start]; exact OwnE.nil _ _ _, HV.out.2.2.2.2.1, Kept.refl _ _⟩
            case round =>
              obtain ⟨m, v, hm, rfl, hGB, hE, hU, hK⟩ := hrel
              have hbi : Below (X + 2) W1 wr := HV.out.2.1.trans (hK.below (by have := HC.out; have := HV.out; omega) (by have := HC.out; simp; omega))
              obtain ⟨hbw, hbx, hrs⟩ := HF.out.1 _ hbi
              obtain ⟨x0, x1, x2⟩ := hbx
              by_cases hmj : m < j
              · have HR := Lib.hid (And.intro hGB (And.intro hE (And.intro hU hK)))
                clear hGB hE hU hK hbi hbw hrs
                go_wp2
                go_loopw [12] (fun i wi => ∃ (y : Nat) (v : Value), m < y ∧ y ≤ j ∧ i = .int .i64 (y : Int) ∧ GB wi q j v (.slice (some ⟨G, 0, none⟩) j j) ∧ OwnE wi V.heap.size 58 v (upto j (bitF (nts p) es k) m y) ∧ Own wi 0 (.slice (some ⟨G, 0, none⟩) j j) 3 (ints (movTo j (nts p) cs j)) ∧ Kept V wi [G, q]) (fun i _ => j - (intOf i).toNat)
                case atStart => exact ⟨m + 1, v, by omega, by omega, by go_num, HR.out.1, by rw [upto_row]; exact HR.out.2.1, HR.out.2.2.1, HR.out.2.2.2⟩
                case round =>
                  clear HR x0 x1 x2
                  obtain ⟨y, v, hmy, hy, rfl, hGB, hE, hU, hK⟩ := hrel
                  have hbi : Below (X + 2) W1 wr := HV.out.2.1.trans (hK.below (by have := HC.out; have := HV.out; omega) (by have := HC.out; simp; omega))
                  obtain ⟨hbw, hbx, hrs⟩ := HF.out.1 _ hbi
                  obtain ⟨x0, x1, x2⟩ := hbx
                  have hAr : ArrB wr (X + 2) (bitF (nts p) es k) := HV.out.1.block (hK.block (X + 2) (by have := HV.out; omega) (by have := HC.out; simp; omega))
                  by_cases hyj : y < j
                  · obtain ⟨t1, t2⟩ := hAr m y (by omega) (by omega)
                    obtain ⟨bt, hbt⟩ : ∃ bt, bitF (nts p) es k m y = bt := ⟨_, rfl⟩
                    rw [hbt] at t1
                    have hm1 : (m : Int) < 10 := by omega
                    have hy1 : (y : Int) < 10 := by omega
                    have hyj1 : (y : Int) < j := by omega
                    have hL1b : (upto j (bitF (nts p) es k) m y).length ≤ 100 := Nat.le_trans (upto_len _ _ _ _) (Nat.le_trans (Nat.mul_le_mul hN hN) (by omega))
                    cases bt with
                    | false =>
                      have hup := upto_no (n := j) hbt
                      have HR := Lib.hid (And.intro hGB (And.intro hE (And.intro hU (And.intro hK hup))))
                      clear hGB hE hU hK hbi hbw hrs hAr hup hbt hL1b
                      go_wp2
                      refine ⟨⟨y + 1, v, by omega, by omega, by go_num, HR.out.1, by rw [HR.out.2.2.2.2]; exact HR.out.2.1, HR.out.2.2.1, HR.out.2.2.2.1⟩, by simp [intOf]; omega⟩
                    | true =>
                      have hup := upto_yes (n := j) hmy hyj hbt
                      obtain ⟨av, cv, hv⟩ := hE.any_form
                      obtain ⟨T, hT⟩ : ∃ T, upto j (bitF (nts p) es k) m y = T := ⟨_, rfl⟩
                      rw [hT] at hup hE hv hL1b
                      obtain ⟨L1, hL1⟩ : ∃ L1, T.length = L1 := ⟨_, rfl⟩
                      rw [hL1] at hv hL1b
                      subst hv
                      have d1 := hGB.c1
                      have hWw := hK.size
                      have HR := Lib.hid (And.intro hGB (And.intro hE (And.intro hU (And.intro hK (And.intro hup (And.intro hL1 hWw))))))
                      clear hGB hE hU hK hbi hbw hrs hAr hup hbt hT hL1 hWw
                      go_wp2_with (at_builtin; refine appE rfl (.tmp 90) (.tmp 94) 22 58 rfl i0 _ 16 Tryz.underlying22 I.out.1 I.out.2.1 I.out.2.2.1 I.out.2.2.2 rfl (by omega) V.heap.size (.slice av L1 cv) T L1 rfl (HR.out.2.1.alloc _) HR.out.2.2.2.2.2.1 _ 1 ((m : Int), (y : Int)) rfl (pair_new _ _ _ _).1 (pair_new _ _ _ _).2 (by omega) (by have h1 := HR.out.2.2.2.2.2.2; simp; omega) ?_; intro G2 cap w6 k2 k3 k4 k5 k6 k7; have HE := Lib.hid (And.intro k2 (And.intro k3 k6)); have hgb6 := (gb_app HR.out.1 HR.out.2.1 HR.out.2.2.1 HR.out.2.2.2.1 HV.out.2.2.2.2.2.1 HV.out.2.2.2.2.2.2 (fun e => HC.out.2.2.1 e.symm) k3 k2 k6).1; have d6 := hgb6.c1; have f6 := hgb6.fr 1; clear k2 k3 k4 k5 k6 k7 hgb6)
                      obtain ⟨_, r1, r2, r3, r4⟩ := gb_app HR.out.1 HR.out.2.1 HR.out.2.2.1 HR.out.2.2.2.1 HV.out.2.2.2.2.2.1 HV.out.2.2.2.2.2.2 (fun e => HC.out.2.2.1 e.symm) HE.out.2.1 HE.out.1 HE.out.2.2
                      exact ⟨⟨y + 1, _, by omega, by omega, by go_num, r1, by rw [HR.out.2.2.2.2.1]; exact r2, r3, r4⟩, by simp [intOf]; omega⟩
                  · obtain rfl : y = j := by omega
                    have HR := Lib.hid (And.intro hGB (And.intro hE (And.intro hU hK)))
                    clear hGB hE hU hK hbi hbw hrs hAr
                    go_wp2
                    refine ⟨⟨m + 1, v, by omega, by go_num, HR.out.1, by rw [upto_next _ _ _ (Nat.le_refl y)]; exact HR.out.2.1, HR.out.2.2.1, HR.out.2.2.2⟩, by simp [intOf]; omega⟩
              · obtain rfl : m = j := by omega
                rw [upto_end _ _ (Nat.le_refl m)] at hE
                have hcan : canon m (bitF (nts p) es k) = (movedG m (nts p) es cs).es := by
                  show canon m (adj ((es.take k).map _)) = canon m (adj (es.map _))
                  rw [List.take_of_length_le (by rw [HS.out.2.2.2.2.2.2.1]; exact Nat.le_refl _)]
                rw [hcan] at hE
                obtain ⟨av, cv, hv⟩ := hE.any_form
                subst hv
                have hlen : (movedG m (nts p) es cs).es.length ≤ 100 := Nat.le_trans (canon_len _ _) (Nat.le_trans (Nat.mul_le_mul hN hN) (by omega))
                obtain ⟨L1, hL1⟩ : ∃ L1, (movedG m (nts p) es cs).es.length = L1 := ⟨_, rfl⟩
                obtain ⟨r1, r2, r3, r4⟩ := zres_cells hrs
                have r40 := r4 0
                have r41 := r4 1
                have r42 := r4 2
                have c0 := hGB.c0
                have c1 := hGB.c1
                have c2 := hGB.c2
                have hXr : X + 1 < wr.heap.size := by have := hK.size; have := HV.out; have := HC.out; omega
                have HR := Lib.hid (And.intro hE (And.intro hU (And.intro hrs (And.intro hbw (And.intro hlen hL1)))))
                have hq1 : q ≠ X + 1 := by have := HC.out; omega
                rw [hL1] at c1
                clear hGB hE hU hK hbi hbw hrs hcan r4 hlen hL1
                go_wp2
                obtain ⟨W, hW, z0, z1, z2, z3, z4⟩ := res_out (.int .i64 (m : Int)) (.slice av L1 cv) (.slice (some ⟨G, 0, none⟩) m m) HR.out.2.2.1
                rw [← hW]
                have hEW : OwnE W V.heap.size 58 (.slice av L1 cv) (movedG m (nts p) es cs).es := by
                  have h := HR.out.1
                  rw [HR.out.2.2.2.2.2] at h
                  exact ownsRow_block h fun g hg => z4 g (by have := (h.block_lt hg).2; have := HV.out; have := HC.out; omega)
                have hUW : Own W 0 (.slice (some ⟨G, 0, none⟩) m m) 3 (ints (movTo m (nts p) cs m)) := ownsRow_block HR.out.2.1 fun g hg => by cases hg; exact z4 G (by have := HC.out; omega)
                have hl1 := HR.out.2.2.2.2.2
                have hl2 := HR.out.2.2.2.2.1
                refine bodyPost_ret (v := .agg #[.int .i64 (m : Int), .slice av L1 cv, .slice (some ⟨G, 0, none⟩) m m]) (by simp [results, Tryz.results22, go_sem, z0, z1, z2]) rfl ?_
                refine ⟨av, cv, some ⟨G, 0, none⟩, m, by rw [hl1], hEW.edg (by omega), hUW.toInts (by rw [movTo_len]; unfold maxLen; omega), HR.out.2.2.2.1.trans (z3.mono (by have := HF.out.2.1; omega))⟩
end Go.Proofs.YtjjjohmppehejaaGreat
