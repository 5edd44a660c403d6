/- group: for each level the points and the least automorphisms that lead there. -/
import Derived.Test.YtjjjohmppehejaaGreatExtW
import Derived.Test.YtjjjohmppehejaaGreatCkG
import Derived.Deep.RegionLaw
set_option linter.unusedSimpArgs false
set_option linter.unusedVariables false
namespace Go.Proofs.YtjjjohmppehejaaGreat
open Go.RowKit Plain PlainG PlainX
theorem Tryz.info40 : (Tryz.prog.info? 40).map (fun i => (i.zero, i.size, i.bytes)) = some (some (.slice none 0 0), 1, 24) := by kernel_rfl
theorem Tryz.info43 : (Tryz.prog.info? 43).map (fun i => (i.zero, i.size, i.bytes)) = some (some (.slice none 0 0), 1, 24) := by kernel_rfl
/-- Rows of ints that lie apart from a growing one. -/
def RowsA (w : World) (B : Nat) (cs : List Value) (xss : List (List Int)) (v : Value) : Prop :=
  OwnRows w B 3 cs xss ∧ ∀ u ∈ cs, u.ownBlock = none ∨ u.ownBlock ≠ v.ownBlock
theorem OwnRows.below {w w' : World} {B : Nat} {e : TypeId} {cs : List Value} {xss : List (List Int)} (h : OwnRows w B e cs xss) (k : Below w.heap.size w w') : OwnRows w' B e cs xss :=
  h.kept (grown_below k none) (fun u xs hu => by
    rcases hu.blk with e | ⟨g, _, e, _⟩
    · exact .inl e
    · exact .inr (by rw [e]; simp))
theorem Own.below {w w' : World} {B : Nat} {v : Value} {e : TypeId} {xs : List Value} (h : Own w B v e xs) (k : Below w.heap.size w w') : Own w' B v e xs :=
  h.kept (grown_below k none) (by
    rcases h.blk with e | ⟨g, _, e, _⟩
    · exact .inl e
    · exact .inr (by rw [e]; simp))
/-- Lists of rows. -/
def OwnR2 (w : World) (B : Nat) (cs : List Value) (xsss : List (List (List Int))) : Prop :=
  cs.length = xsss.length ∧ ∀ (i : Nat) u xss, cs[i]? = some u → xsss[i]? = some xss → ∃ us, Own w B u 40 us ∧ OwnRows w B 3 us xss
theorem OwnR2.nil (w : World) (B : Nat) : OwnR2 w B [] [] := ⟨rfl, fun i u xs h => by simp at h⟩
theorem OwnR2.keptT {w w' : World} {B : Nat} {row : Option Nat} {cs : List Value} {xsss : List (List (List Int))} (h : OwnR2 w B cs xsss) (hg : w.grownBy w' row) (ht : ∀ g, row = some g → ∃ c e f, w.heap[g]? = some (.cells c e f) ∧ e ≠ 40 ∧ e ≠ 3) : OwnR2 w' B cs xsss := by
  have key : ∀ (e : TypeId) (u : Value) (xs : List Value), e = 40 ∨ e = 3 → Own w B u e xs → u.ownBlock = none ∨ u.ownBlock ≠ row := by
    intro e u xs he hu
    rcases hu.blk with e1 | ⟨g, cur, e1, _, _, hb⟩
    · exact .inl e1
    · right
      intro e2
      rw [e1] at e2
      obtain ⟨c, e3, f, h1, h2, h3⟩ := ht g e2.symm
      rw [hb] at h1; cases h1
      rcases he with h | h <;> contradiction
  exact ⟨h.1, fun i u xss hu hx => by
    obtain ⟨us, h1, h2⟩ := h.2 i u xss hu hx
    exact ⟨us, h1.kept hg (key 40 _ _ (.inl rfl) h1), h2.kept hg (fun u xs hu => key 3 u _ (.inr rfl) hu)⟩⟩
theorem OwnR2.below {w w' : World} {B : Nat} {cs : List Value} {xsss : List (List (List Int))} (h : OwnR2 w B cs xsss) (k : Below w.heap.size w w') : OwnR2 w' B cs xsss :=
  ⟨h.1, fun i u xss hu hx => by
    obtain ⟨us, h1, h2⟩ := h.2 i u xss hu hx
    exact ⟨us, h1.below k, h2.below k⟩⟩
theorem OwnR2.app {w : World} {B : Nat} {cs us : List Value} {xsss : List (List (List Int))} {u : Value} {xss : List (List Int)} (h : OwnR2 w B cs xsss) (h1 : Own w B u 40 us) (h2 : OwnRows w B 3 us xss) : OwnR2 w B (cs ++ [u]) (xsss ++ [xss]) := by
  refine ⟨by simp [h.1], fun i v ys hv hy => ?_⟩
  by_cases hi : i < cs.length
  · rw [List.getElem?_append_left hi] at hv
    rw [List.getElem?_append_left (by rw [← h.1]; exact hi)] at hy
    exact h.2 i v ys hv hy
  · rw [List.getElem?_append_right (by omega)] at hv
    rw [List.getElem?_append_right (by rw [← h.1]; omega), ← h.1] at hy
    generalize i - cs.length = k at hv hy
    match k, hv, hy with
    | 0, hv, hy => simp at hv hy; subst hv; subst hy; exact ⟨us, h1, h2⟩
    | k + 1, hv, hy => simp at hv
theorem OwnR2.mono {w : World} {B B' : Nat} {cs : List Value} {xsss : List (List (List Int))} (h : OwnR2 w B cs xsss) (hb : B' ≤ B) : OwnR2 w B' cs xsss :=
  ⟨h.1, fun i u xss hu hx => by
    obtain ⟨us, h1, h2⟩ := h.2 i u xss hu hx
    exact ⟨us, h1.mono hb, h2.mono hb⟩⟩
/-- A slice of slices of slices of ints. -/
def Rows2 (w : World) (a : Option Addr) (xsss : List (List (List Int))) : Prop :=
  ∃ vs, Row w a vs ∧ vs.length = xsss.length ∧ ∀ (i : Nat) u xss, vs[i]? = some u → xsss[i]? = some xss → ∃ b c, u = .slice b xss.length c ∧ Rows w b xss
theorem Rows2.below {w w' : World} {a : Option Addr} {xsss : List (List (List Int))} (h : Rows2 w a xsss) (k : Below w.heap.size w w') : Rows2 w' a xsss := by
  obtain ⟨vs, h1, h2, h3⟩ := h
  exact ⟨vs, h1.below k, h2, fun i u xss hu hx => by obtain ⟨b, c, e, h⟩ := h3 i u xss hu hx; exact ⟨b, c, e, h.below k⟩⟩
theorem OwnR2.rows2 {w : World} {B : Nat} {v : Value} {cs : List Value} {xsss : List (List (List Int))} (h : OwnR2 w B cs xsss) (hv : Own w B v 43 cs) (hl : cs.length ≤ 1000) (hs : ∀ xss ∈ xsss, xss.length ≤ 1000 ∧ ∀ xs ∈ xss, xs.length ≤ 1000) :
    ∃ a c, v = .slice a xsss.length c ∧ Rows2 w a xsss := by
  obtain ⟨a, c, rfl, hr⟩ := hv.row (by unfold maxLen; omega)
  refine ⟨a, c, by rw [h.1], cs, hr, h.1, fun i u xss hu hx => ?_⟩
  obtain ⟨us, h1, h2⟩ := h.2 i u xss hu hx
  obtain ⟨l1, l2⟩ := hs xss (List.mem_of_getElem? hx)
  obtain ⟨b, d, e, hrw⟩ := h2.rows h1 (by rw [h2.1]; unfold maxLen; omega) (fun xs hxs => by have := l2 xs hxs; unfold maxLen; omega)
  exact ⟨b, d, e, hrw⟩
/-- What group answers. -/
def orbsA (A : Adj) (c : List Int) (n k : Nat) : List (List Int) := (List.range k).map fun i => nts (orbA A c n i)
def repsA (A : Adj) (c : List Int) (n k : Nat) : List (List (List Int)) := (List.range k).map fun i => (repA A c n i).map nts
def levF (A : Adj) (c : List Int) (n i : Nat) (v : Nat) : Option (Nat × List Nat) := (extA A A c c n (List.range i ++ [v])).map fun q => (v, q)
theorem levA_eq (A : Adj) (c : List Int) (n i : Nat) : levA A c n i = (List.range' 0 n).filterMap (levF A c n i) := by rw [← List.range_eq_range']; rfl
theorem RowsA.kept1 {w w' : World} {B : Nat} {cs : List Value} {xss : List (List Int)} {v : Value} (h : RowsA w B cs xss v) (hg : w.grownBy w' v.ownBlock) : OwnRows w' B 3 cs xss :=
  ⟨h.1.1, fun i u xs hu hx => (h.1.2 i u xs hu hx).kept hg (h.2 u (List.mem_of_getElem? hu))⟩
theorem step_app1 {w : World} {ops : Array Oper} {o : Oper} {a : Act} {K : Act → World → Prop} {Q : Exit → Act → World → Prop} {E : Prop} (hgd : o.guard = none) (s x : Operand) (T e : TypeId)
    (ho : o.op = .call { callee := .builtin .append, args := #[s, x], argTypes := #[T, T] })
    (i : TypeInfo) (z : Value) (bytes : Nat) (ht : Tryz.prog.underlying T = some (.slice e)) (hi : Tryz.prog.info? e = some i) (hz : i.zero = some z) (hs1 : i.size = 1) (hby : i.bytes = bytes) (hzs : z.cells.size = 1) (hb64 : bytes ≤ 64)
    (B : Nat) (u v : Value) (xs : List Value) (hs : a.eval s = v) (Wb : World) (h : Own Wb B v e xs) (hb : Below Wb.heap.size Wb w) (hx : ∃ ad, a.eval x = .slice (some ad) 1 1 ∧ w.cell? ad = some u) (h1 : u.oneCell' = true) (hl : xs.length < 1000000) (hB : B ≤ Wb.heap.size)
    (hK : ∀ v' w', Own w' B v' e (xs ++ [u]) → Wb.grownBy w' v.ownBlock → w.grownBy w' v.ownBlock → (v'.ownBlock = v.ownBlock ∨ ∃ g, v'.ownBlock = some g ∧ Wb.heap.size ≤ g) → K (a.put o.dst v') w') :
    if Region.wanted o (yielded ops a.tmps) = true then Oper.wp Tryz.prog o a w K Q else E := by
  have hw : Region.wanted o (yielded ops a.tmps) = true := by simp [Region.wanted, hgd]
  rw [if_pos hw]
  obtain ⟨ad, hx, hn⟩ := hx
  have hown : w.ownsRow B e 1 v xs.length xs := h.below hb
  obtain ⟨v', w', hr, h2, h3, _, h5⟩ := run_append_own_at (P := Tryz.prog) w B T o.type e i z 1 bytes ht hi hz hs1 hby hzs (by omega) v xs.length xs hown ad 1 1 [u] rfl (by
    intro j y hj
    match j, hj with
    | 0, hj => simp at hj; subst hj; simpa [Addr.add] using hn) (by intro y hy; rw [List.mem_singleton.1 hy]; exact h1) (by unfold maxLen; omega) (Nat.le_trans (Nat.mul_le_mul_left _ hb64) (by omega)) (Nat.le_trans hB hb.size)
  unfold Oper.wp execOp
  simp only [ho, resolve, invoke, builtin, Sem.run_bind, Sem.run_pure, Result.andThen_ok, List.map_toArray, List.map_cons, List.map_nil, hs, hx, hr]
  refine hK v' w' (by unfold Own; rw [List.length_append]; exact h2) ((grown_below hb _).trans h3) h3 ?_
  rcases h5 with h5 | h5
  · exact .inl h5
  · exact .inr ⟨_, h5, hb.size⟩
theorem box_set0 {W : World} {C : Nat} {a0 a1 a2 u : Value} (h : W.heap[C]? = some (.cells #[a0, a1, a2] 31)) : (W.setCell ⟨C, 0, none⟩ u).heap[C]? = some (.cells #[u, a1, a2] 31) := by
  have hl := (Array.getElem?_eq_some_iff.1 h).1
  have h2 : W.heap[C] = .cells #[a0, a1, a2] 31 := by rw [Array.getElem?_eq_getElem hl] at h; exact Option.some.inj h
  simp [World.setCell, Array.getElem_modify, hl, h2]
theorem box_set1 {W : World} {C : Nat} {a0 a1 a2 u : Value} (h : W.heap[C]? = some (.cells #[a0, a1, a2] 31)) : (W.setCell ⟨C, 1, none⟩ u).heap[C]? = some (.cells #[a0, u, a2] 31) := by
  have hl := (Array.getElem?_eq_some_iff.1 h).1
  have h2 : W.heap[C] = .cells #[a0, a1, a2] 31 := by rw [Array.getElem?_eq_getElem hl] at h; exact Option.some.inj h
  simp [World.setCell, Array.getElem_modify, hl, h2]
theorem box_set2 {W : World} {C : Nat} {a0 a1 a2 u : Value} (h : W.heap[C]? = some (.cells #[a0, a1, a2] 31)) : (W.setCell ⟨C, 2, none⟩ u).heap[C]? = some (.cells #[a0, a1, u] 31) := by
  have hl := (Array.getElem?_eq_some_iff.1 h).1
  have h2 : W.heap[C] = .cells #[a0, a1, a2] 31 := by rw [Array.getElem?_eq_getElem hl] at h; exact Option.some.inj h
  simp [World.setCell, Array.getElem_modify, hl, h2]
theorem box_cells {W : World} {C : Nat} {a0 a1 a2 : Value} (h : W.heap[C]? = some (.cells #[a0, a1, a2] 31)) :
    W.cell? ⟨C, 0, none⟩ = some a0 ∧ W.cell? ⟨C, 1, none⟩ = some a1 ∧ W.cell? ⟨C, 2, none⟩ = some a2 ∧ W.frozen? ⟨C, 1, none⟩ = false ∧ W.frozen? ⟨C, 2, none⟩ = false ∧ W.frozen? ⟨C, 0, none⟩ = false := by
  refine ⟨?_, ?_, ?_, ?_, ?_, ?_⟩ <;> simp [World.cell?, World.frozen?, h]
theorem Own.off {w w' : World} {B C : Nat} {v : Value} {e : TypeId} {xs : List Value} (h : Own w B v e xs) (hg : w.grownBy w' (some C)) (hC : C < B) : Own w' B v e xs :=
  h.kept hg (by
    rcases h.blk with e1 | ⟨g, _, e1, hB, _⟩
    · exact .inl e1
    · right; rw [e1]; intro e2; injection e2 with e2; omega)
theorem OwnRows.off {w w' : World} {B C : Nat} {cs : List Value} {xss : List (List Int)} (h : OwnRows w B 3 cs xss) (hg : w.grownBy w' (some C)) (hC : C < B) : OwnRows w' B 3 cs xss :=
  ⟨h.1, fun i u xs hu hx => (h.2 i u xs hu hx).off hg hC⟩
theorem OwnR2.off {w w' : World} {B C : Nat} {cs : List Value} {xsss : List (List (List Int))} (h : OwnR2 w B cs xsss) (hg : w.grownBy w' (some C)) (hC : C < B) : OwnR2 w' B cs xsss :=
  ⟨h.1, fun i u xss hu hx => by
    obtain ⟨us, h1, h2⟩ := h.2 i u xss hu hx
    exact ⟨us, h1.off hg hC, h2.off hg hC⟩⟩
theorem own_typ {w : World} {B : Nat} {v : Value} {e : TypeId} {xs : List Value} (h : Own w B v e xs) (h4 : e ≠ 40) (h3 : e ≠ 3) : ∀ g, v.ownBlock = some g → ∃ c e f, w.heap[g]? = some (.cells c e f) ∧ e ≠ 40 ∧ e ≠ 3 := fun g hg => by
  rcases h.blk with e1 | ⟨g', cur, e1, _, _, hb⟩
  · rw [e1] at hg; cases hg
  · rw [e1] at hg; cases hg
    exact ⟨_, _, _, hb, h4, h3⟩
theorem grp_box {w w' : World} {B C : Nat} {v : Value} {e : TypeId} {xs : List Value} {a0 a1 a2 : Value} (hC : w.heap[C]? = some (.cells #[a0, a1, a2] 31)) (h : Own w B v e xs) (hg : w.grownBy w' v.ownBlock) (he : e ≠ 31 := by decide) : w'.heap[C]? = some (.cells #[a0, a1, a2] 31) := by
  refine (hg.block C (Array.getElem?_eq_some_iff.1 hC).1 (fun e2 => ?_)).trans hC
  rcases h.blk with e1 | ⟨g, cur, e1, _, _, hb⟩
  · rw [e1] at e2; cases e2
  · rw [e1] at e2; cases e2
    rw [hC] at hb; cases hb; exact he rfl
theorem grp_keep {wi w w' : World} {B : Nat} {v : Value} {e : TypeId} {xs : List Value} (h : Own wi B v e xs) (hg : w.grownBy w' v.ownBlock) : ∀ (p : Addr) (u : Value), w.cell? p = some u → wi.heap.size ≤ p.block → w'.cell? p = some u := fun p u hu hp =>
  hg.cell hu (fun e2 => by
    rcases h.blk with e1 | ⟨g, cur, e1, _, hl, _⟩
    · rw [e1] at e2; cases e2
    · rw [e1] at e2; injection e2 with e2; omega)
theorem below_drw {B : Nat} {a w : World} (h : Below B a w) : Below B a w.drew := ⟨h.os, h.tape, h.output, h.size, h.block⟩
theorem own_above {w : World} {B : Nat} {v : Value} {e : TypeId} {xs : List Value} (h : Own w B v e xs) : ∀ g, v.ownBlock = some g → B ≤ g ∧ g < w.heap.size := fun g hg => by
  rcases h.blk with e1 | ⟨g', cur, e1, h1, h2, _⟩
  · rw [e1] at hg; cases hg
  · rw [e1] at hg; cases hg; exact ⟨h1, h2⟩
theorem grp_end {W1 wo wi w8 w9 : World} {X : Nat} {vO vR v8 v9 o p : Value} {csO csR us : List Value} {orbs : List (List Int)} {reps : List (List (List Int))} {xo : List Int} {xss : List (List Int)} {a0 : Value}
    (hO : Own wo (X + 3) vO 23 csO) (hOr : OwnRows wo (X + 3) 3 csO orbs) (hR : Own wo (X + 3) vR 43 csR) (hRr : OwnR2 wo (X + 3) csR reps) (hbl : Below (X + 2) W1 wo) (hso : X + 3 ≤ wo.heap.size) (hs1 : X + 2 ≤ W1.heap.size)
    (hbo : Below wo.heap.size wo wi) (ho : Own wi wo.heap.size o 3 (ints xo)) (hp : Own wi wo.heap.size p 40 us) (hus : OwnRows wi wo.heap.size 3 us xss)
    (h8 : Own w8 (X + 3) v8 23 (csO ++ [o])) (g8 : wi.grownBy w8 vO.ownBlock) (h9 : Own w9 (X + 3) v9 43 (csR ++ [p])) (g9 : w8.grownBy w9 vR.ownBlock) (hC : w9.heap[X + 2]? = some (.cells #[a0, vO, vR] 31)) :
    ((w9.setCell ⟨X + 2, 1, none⟩ v8).setCell ⟨X + 2, 2, none⟩ v9).heap[X + 2]? = some (.cells #[a0, v8, v9] 31) ∧
    Own ((w9.setCell ⟨X + 2, 1, none⟩ v8).setCell ⟨X + 2, 2, none⟩ v9) (X + 3) v8 23 (csO ++ [o]) ∧ OwnRows ((w9.setCell ⟨X + 2, 1, none⟩ v8).setCell ⟨X + 2, 2, none⟩ v9) (X + 3) 3 (csO ++ [o]) (orbs ++ [xo]) ∧
    Own ((w9.setCell ⟨X + 2, 1, none⟩ v8).setCell ⟨X + 2, 2, none⟩ v9) (X + 3) v9 43 (csR ++ [p]) ∧ OwnR2 ((w9.setCell ⟨X + 2, 1, none⟩ v8).setCell ⟨X + 2, 2, none⟩ v9) (X + 3) (csR ++ [p]) (reps ++ [xss]) ∧
    Below (X + 2) W1 ((w9.setCell ⟨X + 2, 1, none⟩ v8).setCell ⟨X + 2, 2, none⟩ v9) := by
  have gf : w9.grownBy ((w9.setCell ⟨X + 2, 1, none⟩ v8).setCell ⟨X + 2, 2, none⟩ v9) (some (X + 2)) := (grown_put 1 v8).trans (grown_put 2 v9)
  have hOi := hO.below hbo
  have hRi := hR.below hbo
  have hR8 := hRi.kept g8 (hRi.ne_type hOi (by decide))
  have t8 := own_typ hOi (by decide) (by decide)
  have t9 := own_typ hR8 (by decide) (by decide)
  have rk : ∀ {cs : List Value} {ys : List (List Int)}, OwnRows wi (X + 3) 3 cs ys → OwnRows ((w9.setCell ⟨X + 2, 1, none⟩ v8).setCell ⟨X + 2, 2, none⟩ v9) (X + 3) 3 cs ys := fun h =>
    (((h.kept g8 (fun u xs hu => hu.ne_type hOi (by decide))).kept g9 (fun u xs hu => hu.ne_type hR8 (by decide)))).off gf (by omega)
  have ok : ∀ {e : TypeId} {v : Value} {xs : List Value}, e ≠ 23 → e ≠ 43 → Own wi (X + 3) v e xs → Own ((w9.setCell ⟨X + 2, 1, none⟩ v8).setCell ⟨X + 2, 2, none⟩ v9) (X + 3) v e xs := fun n1 n2 h =>
    ((h.kept g8 (h.ne_type hOi n1)).kept g9 ((h.kept g8 (h.ne_type hOi n1)).ne_type hR8 n2)).off gf (by omega)
  have hOr' : OwnRows wi (X + 3) 3 csO orbs := hOr.below hbo
  have ho3 := ho.mono hso
  have hp3 := hp.mono hso
  have hus3 := hus.mono hso
  refine ⟨box_set2 (box_set1 hC), (h8.kept g9 (h8.ne_type hR8 (by decide))).off gf (by omega), (rk hOr').app (OwnRows.one (ok (by decide) (by decide) ho3)), h9.off gf (by omega), ((((hRr.below hbo).keptT g8 t8).keptT g9 t9).off gf (by omega)).app (ok (by decide) (by decide) hp3) (rk hus3), ?_⟩
  refine (((hbl.trans (hbo.mono (by omega))).grown g8 ?_ ?_).grown g9 ?_ ?_).grown gf ?_ ?_
  · have := hbo.size; omega
  · intro g hg; have := (own_above hOi g hg).1; omega
  · have := hbo.size; have := g8.size; omega
  · intro g hg; have := (own_above hR8 g hg).1; omega
  · have := hbo.size; have := g8.size; have := g9.size; omega
  · intro g hg; cases hg; exact Nat.le_refl _
theorem orbs_succ (A : Adj) (c : List Int) (n k : Nat) : orbsA A c n (k + 1) = orbsA A c n k ++ [nts (orbA A c n k)] := by unfold orbsA; rw [List.range_succ]; simp
theorem reps_succ (A : Adj) (c : List Int) (n k : Nat) : repsA A c n (k + 1) = repsA A c n k ++ [(repA A c n k).map nts] := by unfold repsA; rw [List.range_succ]; simp
theorem lev_len (A : Adj) (c : List Int) (n i : Nat) : (levA A c n i).length ≤ n := by
  have := List.length_filterMap_le (fun v => (extA A A c c n (List.range i ++ [v])).map fun q => (v, q)) (List.range n)
  simpa [levA] using this
theorem lev_mem {A : Adj} {c : List Int} {n i : Nat} {x : Nat × List Nat} (h : x ∈ levA A c n i) : x.1 < n ∧ extA A A c c n (List.range i ++ [x.1]) = some x.2 := by
  unfold levA at h
  obtain ⟨v, hv, h⟩ := List.mem_filterMap.1 h
  cases he : extA A A c c n (List.range i ++ [v]) with
  | none => rw [he] at h; cases h
  | some q => rw [he] at h; cases h; exact ⟨List.mem_range.1 hv, he⟩
theorem reps_ok (A : Adj) (c : List Int) (n : Nat) (hn : n ≤ 100) : ∀ xss ∈ repsA A c n n, xss.length ≤ 1000 ∧ ∀ xs ∈ xss, xs.length ≤ 1000 := fun xss h => by
  obtain ⟨i, hi, rfl⟩ := List.mem_map.1 h
  have hi := List.mem_range.1 hi
  refine ⟨by rw [List.length_map, repA, List.length_map]; have := lev_len A c n i; omega, fun xs hx => ?_⟩
  obtain ⟨q, hq, rfl⟩ := List.mem_map.1 hx
  obtain ⟨x, hx2, rfl⟩ := List.mem_map.1 hq
  obtain ⟨h1, h2⟩ := lev_mem hx2
  rw [nts_len]
  unfold extA at h2
  split at h2
  · have := (tryF_len h2).1; simp at this; omega
  · cases h2
theorem ext_len {A B : Adj} {cg ch : List Int} {n : Nat} {p q : List Nat} (h : extA A B cg ch n p = some q) (hp : p.length ≤ n) : q.length = n := by
  unfold extA at h
  split at h
  · have := (tryF_len h).1; omega
  · cases h
theorem keepX {W W' : World} {X : Nat} {u0 u1 u2 : Value} (h0 : W.cell? ⟨X, 0, none⟩ = some u0) (h1 : W.cell? ⟨X, 1, none⟩ = some u1) (h2 : W.cell? ⟨X, 2, none⟩ = some u2) (k : Below W.heap.size W W') :
    W'.cell? ⟨X, 0, none⟩ = some u0 ∧ W'.cell? ⟨X, 1, none⟩ = some u1 ∧ W'.cell? ⟨X, 2, none⟩ = some u2 ∧ Below W.heap.size W W' :=
  ⟨(k.cell (block_lt_of_cell h0)).trans h0, (k.cell (block_lt_of_cell h1)).trans h1, (k.cell (block_lt_of_cell h2)).trans h2, k⟩
theorem keepX2 {V W W' : World} {X : Nat} {u0 u1 u2 : Value} (h : W.cell? ⟨X, 0, none⟩ = some u0 ∧ W.cell? ⟨X, 1, none⟩ = some u1 ∧ W.cell? ⟨X, 2, none⟩ = some u2 ∧ Below V.heap.size V W) (k : Below W.heap.size W W') :
    W'.cell? ⟨X, 0, none⟩ = some u0 ∧ W'.cell? ⟨X, 1, none⟩ = some u1 ∧ W'.cell? ⟨X, 2, none⟩ = some u2 ∧ Below V.heap.size V W' :=
  ⟨(k.cell (block_lt_of_cell h.1)).trans h.1, (k.cell (block_lt_of_cell h.2.1)).trans h.2.1, (k.cell (block_lt_of_cell h.2.2.1)).trans h.2.2.1, below_two h.2.2.2 k⟩
theorem RowsA.below {w w' : World} {B : Nat} {cs : List Value} {xss : List (List Int)} {v : Value} (h : RowsA w B cs xss v) (k : Below w.heap.size w w') : RowsA w' B cs xss v := ⟨h.1.below k, h.2⟩
theorem grp_app {wi w7 w8 w9 : World} {D : Nat} {vo vo' vr vr' r : Value} {us : List Value} {xo : List Int} {xss : List (List Int)} {q : List Int} {x : Int} {o1 : Obj}
    (hvo : Own w7 D vo 3 (ints xo)) (hvr : Own w7 D vr 40 us) (hA : RowsA w7 D us xss vo) (hr : Own w7 wi.heap.size r 3 (ints q)) (hD : D ≤ wi.heap.size) (hlt : ∀ g, vo.ownBlock = some g → g < wi.heap.size)
    (h1 : Own w8 D vo' 3 (ints (xo ++ [x]))) (g1 : w7.grownBy w8 vo.ownBlock) (d1 : vo'.ownBlock = vo.ownBlock ∨ ∃ g, vo'.ownBlock = some g ∧ w7.heap.size ≤ g)
    (h2 : Own w9 D vr' 40 (us ++ [r])) (g2 : w8.grownBy w9 vr.ownBlock) :
    Own w9 D vo' 3 (ints (xo ++ [x])) ∧ RowsA w9 D (us ++ [r]) (xss ++ [q]) vo' := by
  have hvr8 : Own w8 D vr 40 us := hvr.kept g1 (hvr.ne_type hvo (by decide))
  have a1 : Own w9 D vo' 3 (ints (xo ++ [x])) := h1.kept g2 (h1.ne_type hvr8 (by decide))
  have hrne : r.ownBlock = none ∨ r.ownBlock ≠ vo.ownBlock := by
    rcases hr.blk with e | ⟨g, _, e, hg, _⟩
    · exact .inl e
    · right; rw [e]; intro e2; have := hlt g e2.symm; omega
  have r8 := hr.kept g1 hrne
  have r9 : Own w9 D r 3 (ints q) := (r8.kept g2 (r8.ne_type hvr8 (by decide))).mono hD
  have o8 := hA.kept1 g1
  have o9 : OwnRows w9 D 3 us xss := o8.kept g2 (fun u xs hu => hu.ne_type hvr8 (by decide))
  refine ⟨a1, o9.app (OwnRows.one r9), fun u hu => ?_⟩
  have fresh : ∀ (u : Value) (e : TypeId) (ys : List Value) (B : Nat), Own w7 B u e ys → (u.ownBlock = none ∨ u.ownBlock ≠ vo.ownBlock) → u.ownBlock = none ∨ u.ownBlock ≠ vo'.ownBlock := by
    intro u e ys B hu hne
    rcases d1 with e1 | ⟨g, e1, hg⟩
    · rw [e1]; exact hne
    · rcases hu.blk with e2 | ⟨g2, _, e2, _, hg2, _⟩
      · exact .inl e2
      · right; rw [e1, e2]; intro e3; injection e3 with e3; omega
  rcases List.mem_append.1 hu with hu | hu
  · obtain ⟨i, hi⟩ := List.mem_iff_getElem?.1 hu
    have hil : i < xss.length := by rw [← hA.1.1]; exact (List.getElem?_eq_some_iff.1 hi).1
    exact fresh u _ _ _ (hA.1.2 i u _ hi (List.getElem?_eq_getElem hil)) (hA.2 u hu)
  · rw [List.mem_singleton] at hu; subst hu
    exact fresh _ _ _ _ hr hrne
set_option maxRecDepth 100000 in
set_option maxHeartbeats 8000000 in
theorem group_own {w : World} {n : Nat} {es : List E2} {cs : List Int} {ea ca : Option Addr} {ec cc : Nat}
    (he : Edg w ea es) (hc : Ints w ca cs) (hE : ∀ x ∈ es, 0 ≤ x.1 ∧ x.1 < n ∧ 0 ≤ x.2 ∧ x.2 < n) (hl : cs.length = n) (hn : n ≤ 100) :
    Calls Tryz.prog 32 #[.agg #[.int .i64 (n : Int), .slice ea es.length ec, .slice ca n cc]] w fun e w' =>
      ∃ a c b d, e = .returned (.agg #[.int .i64 (n : Int), .slice a n c, .slice b n d]) ∧ Rows w' a (orbsA (adj es) cs n n) ∧ Rows2 w' b (repsA (adj es) cs n n) ∧ Below w.heap.size w w' ∧ ∃ csO csR, Own w' w.heap.size (.slice a n c) 23 csO ∧ OwnRows w' w.heap.size 3 csO (orbsA (adj es) cs n n) ∧ Own w' w.heap.size (.slice b n d) 43 csR ∧ OwnR2 w' w.heap.size csR (repsA (adj es) cs n n) := by
  obtain ⟨i3, hi3, hz3, hs3, hb3⟩ := info_parts Tryz.info3
  obtain ⟨i23, hi23, hz23, hs23, hb23⟩ := info_parts Tryz.info23
  obtain ⟨i40, hi40, hz40, hs40, hb40⟩ := info_parts Tryz.info40
  obtain ⟨i43, hi43, hz43, hs43, hb43⟩ := info_parts Tryz.info43
  have I3 := Lib.hid (And.intro hi3 (And.intro hz3 (And.intro hs3 hb3)))
  have I23 := Lib.hid (And.intro hi23 (And.intro hz23 (And.intro hs23 hb23)))
  have I40 := Lib.hid (And.intro hi40 (And.intro hz40 (And.intro hs40 hb40)))
  have I43 := Lib.hid (And.intro hi43 (And.intro hz43 (And.intro hs43 hb43)))
  clear hi3 hz3 hs3 hb3 hi23 hz23 hs23 hb23 hi40 hz40 hs40 hb40 hi43 hz43 hs43 hb43
  obtain ⟨L, hL⟩ : ∃ L, es.length = L := ⟨_, rfl⟩
  rw [hL]
  obtain ⟨X, hX⟩ : ∃ X, w.heap.size = X := ⟨_, rfl⟩
  obtain ⟨W1, hW1⟩ : ∃ W1, W1 = ((w.alloc (.cells #[.int .i64 (n : Int), .slice ea L ec, .slice ca n cc] 25)).alloc (.cells #[.int .i64 0, .slice none 0 0, .slice none 0 0] 31)).alloc (.cells #[.int .i64 (n : Int), .slice none 0 0, .slice none 0 0] 31) := ⟨_, rfl⟩
  have hbw : Below w.heap.size w W1 := by rw [hW1]; exact alloc_b (alloc_b (alloc_b (Below.refl _ _) _) _) _
  have hs1 : W1.heap.size = X + 3 := by rw [hW1, ← hX]; simp
  have hx : ∀ W, Below (X + 2) W1 W → W.cell? ⟨X, 0, none⟩ = some (.int .i64 (n : Int)) ∧ W.cell? ⟨X, 1, none⟩ = some (.slice ea L ec) ∧ W.cell? ⟨X, 2, none⟩ = some (.slice ca n cc) ∧ W.heap[X + 1]? = W1.heap[X + 1]? := fun W h => by
    have h0 : W1.heap[X]? = some (.cells #[.int .i64 (n : Int), .slice ea L ec, .slice ca n cc] 25) := by
      rw [hW1, ← hX]
      exact ((Below.heap_alloc _ _ _ (by simp; omega)).trans (Below.heap_alloc _ _ _ (by simp))).trans (World.alloc_heap_new w _)
    have h1 := (h.block X (by omega)).trans h0
    exact ⟨by simp [World.cell?, h1], by simp [World.cell?, h1], by simp [World.cell?, h1], h.block (X + 1) (by omega)⟩
  have hc1 : W1.heap[X + 2]? = some (.cells #[.int .i64 (n : Int), .slice none 0 0, .slice none 0 0] 31) := by
    rw [hW1, ← hX]
    have := World.alloc_heap_new ((w.alloc (.cells #[.int .i64 (n : Int), .slice ea L ec, .slice ca n cc] 25)).alloc (.cells #[.int .i64 0, .slice none 0 0, .slice none 0 0] 31)) (.cells #[.int .i64 (n : Int), .slice none 0 0, .slice none 0 0] 31)
    simpa using this
  have hr1 : W1.heap[X + 1]? = some (.cells #[.int .i64 0, .slice none 0 0, .slice none 0 0] 31) := by
    rw [hW1, ← hX]
    have := World.alloc_heap_new (w.alloc (.cells #[.int .i64 (n : Int), .slice ea L ec, .slice ca n cc] 25)) (.cells #[.int .i64 0, .slice none 0 0, .slice none 0 0] 31)
    rw [World.size_alloc] at this
    exact (Below.heap_alloc _ _ _ (by simp)).trans this
  have hgW : ∀ W, Below (X + 2) W1 W → Edg W ea es ∧ Ints W ca cs := fun W k => by
    have h1 : Below w.heap.size w W := hbw.trans (k.mono (by omega))
    exact ⟨he.below h1, hc.below h1⟩
  have H := Lib.hid (And.intro hgW (And.intro trivial (And.intro hbw (And.intro hx (And.intro hs1 (And.intro hr1 hL))))))
  have HE := Lib.hid (And.intro hE hl)
  have HW := Lib.hid hW1
  have HX := Lib.hid hX
  clear he hc hgW hbw hx hs1 hr1 hE hl
  go_enter Tryz.func32, Tryz.ntmps32
  go_wp2
  try rw [← hW1]
  clear hW1 hX hL
  go_loopw [17] (fun kk wr => ∃ (k : Nat) (vO vR : Value) (csO csR : List Value), k ≤ n ∧ kk = .int .i64 (k : Int) ∧ wr.heap[X + 2]? = some (.cells #[.int .i64 (n : Int), vO, vR] 31) ∧ Own wr (X + 3) vO 23 csO ∧ OwnRows wr (X + 3) 3 csO (orbsA (adj es) cs n k) ∧ Own wr (X + 3) vR 43 csR ∧ OwnR2 wr (X + 3) csR (repsA (adj es) cs n k) ∧ Below (X + 2) W1 wr) (fun kk _ => n - (intOf kk).toNat)
  case atStart => exact ⟨0, _, _, [], [], by omega, rfl, hc1, Own.nil _ _ _, OwnRows.nil _ _ _, Own.nil _ _ _, OwnR2.nil _ _, Below.refl _ _⟩
  case round =>
    clear hc1
    obtain ⟨k, vO, vR, csO, csR, hk, rfl, hC, hO, hOr, hR, hRr, hbl⟩ := hrel
    obtain ⟨wo, rfl⟩ : ∃ wo : World, wo = wr := ⟨_, rfl⟩
    obtain ⟨x0, x1, x2, _⟩ := H.out.2.2.2.1 wo hbl
    have hso : X + 3 ≤ wo.heap.size := by have := hbl.size; have := H.out.2.2.2.2.1; omega
    have HO := Lib.hid (And.intro hC (And.intro hO (And.intro hOr (And.intro hR (And.intro hRr (And.intro hbl hso))))))
    clear hC hO hOr hR hRr hbl
    by_cases hkn : k < n
    · go_wp2
      go_loopw [5, 6, 22] (fun vo vr kk wr => ∃ (m : Nat) (us : List Value) (acc : List (Nat × List Nat)), m ≤ n ∧ kk = .int .i64 (m : Int) ∧ Own wr wo.heap.size vo 3 (ints (nts (acc.map (·.1)))) ∧ Own wr wo.heap.size vr 40 us ∧ RowsA wr wo.heap.size us ((acc.map (·.2)).map nts) vo ∧ Below wo.heap.size wo wr ∧ acc.length ≤ m ∧ levA (adj es) cs n k = acc ++ (List.range' m (n - m)).filterMap (levF (adj es) cs n k)) (fun _ _ kk _ => n - (intOf kk).toNat)
      case atStart => exact ⟨0, [], [], by omega, rfl, Own.nil _ _ _, Own.nil _ _ _, ⟨OwnRows.nil _ _ _, fun u hu => by simp at hu⟩, Below.refl _ _, by simp, by rw [levA_eq]; rfl⟩
      case round =>
        obtain ⟨m, us, acc, hm, rfl, hvo, hvr, hA, hbo, hal, hlev⟩ := hrel
        obtain ⟨wi, rfl⟩ : ∃ wi : World, wi = wr := ⟨_, rfl⟩
        have hb1 : Below (X + 2) W1 wi := HO.out.2.2.2.2.2.1.trans (hbo.mono (by omega))
        obtain ⟨y0, y1, y2, _⟩ := H.out.2.2.2.1 wi hb1
        have HI := Lib.hid (And.intro hvo (And.intro hvr (And.intro hA (And.intro hbo (And.intro hal (And.intro hlev hb1))))))
        clear hvo hvr hA hbo hal hlev hb1
        by_cases hmn : m < n
        · go_wp2
          go_loopw [8, 26] (fun vi jj wr => ∃ (j : Nat) (row : Option Nat), j ≤ k ∧ jj = .int .i64 (j : Int) ∧ OwnC wr wi.heap.size vi (nts (List.range j)) row ∧ Below wi.heap.size wi wr) (fun _ jj _ => k - (intOf jj).toNat)
          case atStart => exact ⟨0, none, by omega, rfl, OwnC.nil' _ _, Below.refl _ _⟩
          case round =>
            obtain ⟨j, row, hj, rfl, hvi, hbi⟩ := hrel
            obtain ⟨wj, rfl⟩ : ∃ wj : World, wj = wr := ⟨_, rfl⟩
            have HJ := Lib.hid (And.intro hvi hbi)
            have hjs : wi.heap.size ≤ wj.heap.size := hbi.size
            have hjl : (nts (List.range j)).length < 1000000 := by rw [nts_len]; simp; omega
            clear hvi hbi
            by_cases hjk : j < k
            · go_wp2_with (at_builtin; refine appC rfl (.tmp 29) (.tmp 31) 40 rfl i3 Tryz.underlying40 I3.out.1 I3.out.2.1 I3.out.2.2.1 I3.out.2.2.2 wi.heap.size (j : Int) u8 (nts (List.range j)) row rfl HJ.out.1 rfl hjl hjs ?_; intro v' w' row' h2 h3; have H9 := Lib.hid (And.intro h2 (HJ.out.2.grown h3 hjs (fun g hg => by rcases HJ.out.1.blk with e | ⟨g', e, h, _⟩ <;> rw [e] at hg <;> cases hg; exact h))); clear h2 h3)
              refine ⟨⟨j + 1, row', by omega, by go_num, ?_, H9.out.2⟩, by simp [intOf]; omega⟩
              have := H9.out.1
              rw [← nts_app, ← List.range_succ] at this
              exact this
            · obtain rfl : j = k := by omega
              have hsi : X + 2 ≤ wi.heap.size := by have := HI.out.2.2.2.1.size; omega
              have hbi := HI.out.2.2.2.2.2.2
              have hx0 : wj.cell? ⟨X, 0, none⟩ = some (.int .i64 (n : Int)) ∧ wj.cell? ⟨X, 1, none⟩ = some (.slice ea L ec) ∧ wj.cell? ⟨X, 2, none⟩ = some (.slice ca n cc) ∧ Below wi.heap.size wi wj := by
                have hk := HJ.out.2
                exact ⟨(hk.cell (block_lt_of_cell y0)).trans y0, (hk.cell (block_lt_of_cell y1)).trans y1, (hk.cell (block_lt_of_cell y2)).trans y2, hk⟩
              have hpr : ∀ x ∈ List.range j ++ [m], x < n := fun x hx => by
                rcases List.mem_append.1 hx with h | h
                · have := List.mem_range.1 h; omega
                · rw [List.mem_singleton.1 h]; exact hmn
              have hext := fun (W : World) (row' : Option Nat) (pa : Option Addr) (pl pc : Nat) (h1 : OwnC W wi.heap.size (.slice pa pl pc) (nts (List.range j ++ [m])) row') (h2 : Below wi.heap.size wi W) =>
                extend_calls (p := List.range j ++ [m]) (i := pl) (pc := pc) (pa := pa) (gc := ec) (gd := cc) (hc := ec) (hd := cc) (H.out.1 W (hbi.trans (h2.mono hsi))).1 (H.out.1 W (hbi.trans (h2.mono hsi))).2 (H.out.1 W (hbi.trans (h2.mono hsi))).1 (H.out.1 W (hbi.trans (h2.mono hsi))).2 HE.out.1 HE.out.1 HE.out.2 HE.out.2 hn hpr (by simp; omega) (h1.ints (by rw [nts_len]; simp; omega)) (by have := h1.ext.1; rw [nts_len] at this; exact this.symm) h1.ext.2.1 h1.ext.2.2.1 h1.ext.2.2.2
              rw [H.out.2.2.2.2.2.2] at hext
              have HXT := Lib.hid hext
              clear hext hpr hbi
              have hjc : j < 1000000 := by omega
              have hpl9 : (nts (List.range j)).length < 1000000 := hjl
              have hlevS : (List.range' m (n - m)).filterMap (levF (adj es) cs n j) = (levF (adj es) cs n j m).toList ++ (List.range' (m + 1) (n - (m + 1))).filterMap (levF (adj es) cs n j) := by
                rw [show n - m = (n - (m + 1)) + 1 by omega, List.range'_succ, List.filterMap_cons]
                cases levF (adj es) cs n j m <;> rfl
              have HL9 := Lib.hid hlevS
              clear hlevS hjl
              cases ho : extA (adj es) (adj es) cs cs n (List.range j ++ [m]) with
              | none =>
                have HO2 := Lib.hid ho
                clear ho
                go_wp2
                go_region_held3 (fun W => W.cell? ⟨X, 0, none⟩ = some (.int .i64 (n : Int)) ∧ W.cell? ⟨X, 1, none⟩ = some (.slice ea L ec) ∧ W.cell? ⟨X, 2, none⟩ = some (.slice ca n cc) ∧ Below wi.heap.size wi W)
                  (first
                    | assumption
                    | exact hx0
                    | exact keepX y0 y1 y2 (by assumption)
                    | exact keepX2 (by assumption) (by first | assumption | exact alloc_b (Below.refl _ _) _ | exact below_self_drewN _ _)
                    | exact keepX2 hx0 (by first | assumption | exact alloc_b (Below.refl _ _) _ | exact below_self_drewN _ _))
                  (first
                    | (go_at_call 39; refine H6.out.1.mono ?_; rintro e w7 ⟨he, hb7⟩; subst he; have H7 := Lib.hid (And.intro True.intro (below_two H6.out.2.1 hb7)))
                    | (refine step_appC ?_ (.tmp 37) (.tmp 39) 40 ?_ i3 Tryz.underlying40 I3.out.1 I3.out.2.1 I3.out.2.2.1 I3.out.2.2.2 wi.heap.size (m : Int) u8 (nts (List.range j)) ?_ row wj HJ.out.1 ?_ ?_ hpl9 hjs ?_
                       rfl
                       rfl
                       rfl
                       first | exact alloc_b (Below.refl _ _) _ | exact alloc_b (below_self_drewN _ _) _
                       exact ⟨_, rfl, by simp⟩
                       intro v' w6 row' hA hgr
                       obtain ⟨wx, hxx, hA⟩ := hA
                       have hb6 : Below wi.heap.size wi w6 := app_at hA HJ.out.1 HJ.out.2 hxx
                       have hO6 := try_l3 hA.1
                       obtain ⟨pa, pc, rfl⟩ := hO6.form
                       have hE6 := HXT.out w6 row' pa _ pc hO6 hb6
                       rw [HO2.out] at hE6
                       have H6 := Lib.hid (And.intro hE6 (And.intro hb6 trivial))
                       clear hE6 hO6 hA hxx hgr))
                all_goals go_wp2
                all_goals exact ⟨⟨m + 1, us, acc, by omega, by go_num, HI.out.1.below H7.out.2, HI.out.2.1.below H7.out.2, HI.out.2.2.1.below H7.out.2, below_two HI.out.2.2.2.1 H7.out.2, by have := HI.out.2.2.2.2.1; omega, by rw [HI.out.2.2.2.2.2.1, HL9.out, levF, HO2.out]; rfl⟩, by simp [intOf]; omega⟩
              | some q =>
                have HO2 := Lib.hid ho
                clear ho
                go_wp2
                go_region_held3 (fun W => W.cell? ⟨X, 0, none⟩ = some (.int .i64 (n : Int)) ∧ W.cell? ⟨X, 1, none⟩ = some (.slice ea L ec) ∧ W.cell? ⟨X, 2, none⟩ = some (.slice ca n cc) ∧ Below wi.heap.size wi W)
                  (first
                    | assumption
                    | exact hx0
                    | exact keepX y0 y1 y2 (by assumption)
                    | exact keepX2 (by assumption) (by first | assumption | exact alloc_b (Below.refl _ _) _ | exact below_self_drewN _ _)
                    | exact keepX2 hx0 (by first | assumption | exact alloc_b (Below.refl _ _) _ | exact below_self_drewN _ _))
                  (first
                    | (go_at_call 39; refine H6.out.1.mono ?_; rintro e w7 ⟨he, hb7⟩; obtain ⟨r, rfl, he⟩ := he; have H7 := Lib.hid (And.intro (And.intro he H6.out.2.1.size) (below_two H6.out.2.1 hb7)))
                    | (refine step_appC ?_ (.tmp 37) (.tmp 39) 40 ?_ i3 Tryz.underlying40 I3.out.1 I3.out.2.1 I3.out.2.2.1 I3.out.2.2.2 wi.heap.size (m : Int) u8 (nts (List.range j)) ?_ row wj HJ.out.1 ?_ ?_ hpl9 hjs ?_
                       rfl
                       rfl
                       rfl
                       first | exact alloc_b (Below.refl _ _) _ | exact alloc_b (below_self_drewN _ _) _
                       exact ⟨_, rfl, by simp⟩
                       intro v' w6 row' hA hgr
                       obtain ⟨wx, hxx, hA⟩ := hA
                       have hb6 : Below wi.heap.size wi w6 := app_at hA HJ.out.1 HJ.out.2 hxx
                       have hO6 := try_l3 hA.1
                       obtain ⟨pa, pc, rfl⟩ := hO6.form
                       have hE6 := HXT.out w6 row' pa _ pc hO6 hb6
                       rw [HO2.out] at hE6
                       have H6 := Lib.hid (And.intro hE6 (And.intro hb6 trivial))
                       clear hE6 hO6 hA hxx hgr))
                have hql := ext_len HO2.out (by simp; omega)
                have hr7 := H7.out.1.1.mono H7.out.1.2
                obtain ⟨ra, rc, hrr, -⟩ := hr7.row (by rw [ints_len, nts_len, hql]; unfold maxLen; omega)
                rw [ints_len, nts_len, hql] at hrr
                subst hrr
                have hb7 := H7.out.2
                have hvo7 := HI.out.1.below hb7
                have hvr7 := HI.out.2.1.below hb7
                have hlo : (ints (nts (acc.map (·.1)))).length < 1099511627776 := by rw [ints_len, nts_len]; simp; have := HI.out.2.2.2.2.1; omega
                have hlr : us.length < 1099511627776 := by rw [HI.out.2.2.1.1.1]; simp; have := HI.out.2.2.2.2.1; omega
                have hw7 : wo.heap.size ≤ w7.heap.size := Nat.le_trans HI.out.2.2.2.1.size hb7.size
                have hvlt : ∀ g, u5.ownBlock = some g → g < wi.heap.size := fun g hg => by
                  rcases HI.out.1.blk with e | ⟨g', _, e, _, hlt, _⟩
                  · rw [e] at hg; cases hg
                  · rw [e] at hg; cases hg; exact hlt
                have HQ := Lib.hid (And.intro hr7 (And.intro hvo7 (And.intro hvr7 (And.intro (HI.out.2.2.1.below hb7) (And.intro hvlt (below_two HI.out.2.2.2.1 hb7))))))
                clear hr7 hvo7 hvr7 hb7 hvlt
                go_wp2_with (first
                  | (at_builtin
                     refine app1 rfl (.tmp 45) (.tmp 47) 23 3 rfl i3 (.int .i64 0) 8 Tryz.underlying23 I3.out.1 I3.out.2.1 I3.out.2.2.1 I3.out.2.2.2 rfl (by omega) wo.heap.size (.int .i64 (m : Int)) u5 (ints (nts (acc.map (·.1)))) rfl HQ.out.2.1 rfl rfl hlo hw7 ?_
                     intro v8 w8 k1 k2 k3
                     have hvr8 := HQ.out.2.2.1.kept k2 (HQ.out.2.2.1.ne_type HQ.out.2.1 (by decide))
                     have hw8 : wo.heap.size ≤ w8.heap.size := Nat.le_trans hw7 k2.size
                     have H8 := Lib.hid (And.intro k1 (And.intro k2 (And.intro k3 (And.intro hvr8 hw8))))
                     clear k1 k2 k3 hvr8 hw8)
                  | (at_builtin
                     refine app1 rfl (.tmp 49) (.tmp 51) 43 40 rfl i40 (.slice none 0 0) 24 Tryz.underlying43 I40.out.1 I40.out.2.1 I40.out.2.2.1 I40.out.2.2.2 rfl (by omega) wo.heap.size (.slice ra n rc) u6 us rfl H8.out.2.2.2.1 rfl rfl hlr H8.out.2.2.2.2 ?_
                     intro v9 w9 k1 k2 k3
                     have H9 := Lib.hid (And.intro k1 k2)
                     clear k1 k2 k3))
                have hints : ints (nts (acc.map (·.1))) ++ [Value.int .i64 (m : Int)] = ints (nts (acc.map (·.1)) ++ [(m : Int)]) := by simp [ints]
                have k1 := H8.out.1
                rw [hints] at k1
                obtain ⟨f1, f2⟩ := grp_app (xss := (acc.map (·.2)).map nts) (xo := nts (acc.map (·.1))) (q := nts q) (x := (m : Int)) (o1 := .cells #[] 3) HQ.out.2.1 HQ.out.2.2.1 HQ.out.2.2.2.1 HQ.out.1 HI.out.2.2.2.1.size HQ.out.2.2.2.2.1 k1 H8.out.2.1 H8.out.2.2.1 H9.out.1 H9.out.2
                have hbz : Below wo.heap.size wo w9 := by
                  refine (HQ.out.2.2.2.2.2.grown H8.out.2.1 hw7 (fun g hg => ?_)).grown H9.out.2 H8.out.2.2.2.2 (fun g hg => ?_)
                  · rcases HQ.out.2.1.blk with e | ⟨g', _, e, h, _⟩ <;> rw [e] at hg <;> cases hg; exact h
                  · rcases HQ.out.2.2.1.blk with e | ⟨g', _, e, h, _⟩ <;> rw [e] at hg <;> cases hg; exact h
                refine ⟨⟨m + 1, us ++ [.slice ra n rc], acc ++ [(m, q)], by omega, by go_num, ?_, H9.out.1, ?_, hbz, by simp; have := HI.out.2.2.2.2.1; omega, ?_⟩, by simp [intOf]; omega⟩
                · have e : nts ((acc ++ [(m, q)]).map (·.1)) = nts (acc.map (·.1)) ++ [(m : Int)] := by simp [nts]
                  rw [e]; exact f1
                · have e : ((acc ++ [(m, q)]).map (·.2)).map nts = (acc.map (·.2)).map nts ++ [nts q] := by simp
                  rw [e]; exact f2
                · rw [HI.out.2.2.2.2.2.1, HL9.out, levF, HO2.out]; simp
        · obtain rfl : m = n := by omega
          have hacc : levA (adj es) cs m k = acc := by rw [HI.out.2.2.2.2.2.1]; simp
          have hbo := HI.out.2.2.2.1
          have hC : wi.heap[X + 2]? = some (.cells #[.int .i64 (m : Int), vO, vR] 31) := (hbo.block (X + 2) (by omega)).trans HO.out.1
          obtain ⟨oa, oc, hov, -⟩ := HI.out.1.row (by rw [ints_len, nts_len]; simp; have := HI.out.2.2.2.2.1; unfold maxLen; omega)
          obtain ⟨pa, pc, hpv, -⟩ := HI.out.2.1.row (by rw [HI.out.2.2.1.1.1]; simp; have := HI.out.2.2.2.2.1; unfold maxLen; omega)
          rw [ints_len, nts_len] at hov
          obtain ⟨lo, hlo⟩ : ∃ l, (acc.map (·.1)).length = l := ⟨_, rfl⟩
          obtain ⟨lr, hlr⟩ : ∃ l, us.length = l := ⟨_, rfl⟩
          rw [hlo] at hov
          rw [hlr] at hpv
          subst hov
          subst hpv
          have hO' := HO.out.2.1.below hbo
          have hR' := HO.out.2.2.2.1.below hbo
          have hsw : X + 3 ≤ wi.heap.size := Nat.le_trans hso hbo.size
          have hcO : csO.length < 1000000 := by rw [HO.out.2.2.1.1]; simp [orbsA]; omega
          have hcR : csR.length < 1000000 := by rw [HO.out.2.2.2.2.1.1]; simp [repsA]; omega
          have nbi : X + 1 + 1 ≠ wi.heap.size := by omega
          have lbi : X + 1 + 1 < wi.heap.size := by omega
          have nbi2 : X + 1 + 1 ≠ wi.heap.size + 1 := by omega
          have lbi2 : X + 1 + 1 < wi.heap.size + 1 := by omega
          have hC0 := box_cells hC
          obtain ⟨z0, z1, z2, z3, z4, z5⟩ := hC0
          have HB := Lib.hid (And.intro hC (And.intro hO' (And.intro hR' (And.intro hacc hbo))))
          clear hC hO' hR' hacc hbo hlo hlr
          go_wp2
          go_region_law
            (first
              | (refine step_app1 ?_ (.tmp 55) (.tmp 57) 28 23 ?_ i23 (.slice none 0 0) 24 Tryz.underlying28 I23.out.1 I23.out.2.1 I23.out.2.2.1 I23.out.2.2.2 ?_ ?_ (X + 3) (.slice oa lo oc) vO csO ?_ wi HB.out.2.1 ?_ ?_ ?_ hcO hsw ?_
                 rfl
                 rfl
                 rfl
                 omega
                 rfl
                 (repeat (first | exact Below.refl _ _ | exact below_self_drewN _ _ | refine alloc_b ?_ _ | refine below_drw ?_ | refine below_drewN ?_ _))
                 exact ⟨_, rfl, by simp⟩
                 rfl
                 intro v8 w8 k1 k2 k3 k4
                 obtain ⟨G8, cap8, rfl, -⟩ := k1.form (by simp)
                 simp only [List.length_append, List.length_singleton] at k1
                 have hC8 := grp_box HB.out.1 HB.out.2.1 k2
                 have bc := box_cells hC8
                 obtain ⟨t0, t1, t2, t3, t4, t5⟩ := bc
                 have hR8 := HB.out.2.2.1.kept k2 (HB.out.2.2.1.ne_type HB.out.2.1 (by decide))
                 have hkeep := grp_keep HB.out.2.1 k3
                 have hsw8 : X + 3 ≤ w8.heap.size := Nat.le_trans hsw k2.size
                 have nb8 : X + 1 + 1 ≠ w8.heap.size := by omega
                 have lb8 : X + 1 + 1 < w8.heap.size := by omega
                 have nb82 : X + 1 + 1 ≠ w8.heap.size + 1 := by omega
                 have lb82 : X + 1 + 1 < w8.heap.size + 1 := by omega
                 have H8 := Lib.hid (And.intro k1 (And.intro k2 (And.intro trivial (And.intro hR8 hC8))))
                 clear k1 k2 k3 k4 hR8 hC8)
              | (refine step_app1 ?_ (.tmp 60) (.tmp 62) 29 43 ?_ i43 (.slice none 0 0) 24 Tryz.underlying29 I43.out.1 I43.out.2.1 I43.out.2.2.1 I43.out.2.2.2 ?_ ?_ (X + 3) (.slice pa lr pc) vR csR ?_ w8 H8.out.2.2.2.1 ?_ ?_ ?_ hcR hsw8 ?_
                 rfl
                 rfl
                 rfl
                 omega
                 rfl
                 (repeat (first | exact Below.refl _ _ | exact below_self_drewN _ _ | refine alloc_b ?_ _ | refine below_drw ?_ | refine below_drewN ?_ _))
                 first | exact ⟨_, rfl, by simp⟩ | exact ⟨_, rfl, hkeep ⟨wi.heap.size, 0, none⟩ _ (by simp) (by simp)⟩ | exact ⟨_, rfl, hkeep ⟨wi.heap.size + 1, 0, none⟩ _ (by simp) (by simp)⟩
                 rfl
                 intro v9 w9 k1 k2 k3 k4
                 obtain ⟨G9, cap9, rfl, -⟩ := k1.form (by simp)
                 simp only [List.length_append, List.length_singleton] at k1
                 have hC9 := grp_box H8.out.2.2.2.2 H8.out.2.2.2.1 k2
                 have bc := box_cells hC9
                 obtain ⟨t10, t11, t12, t13, t14, t15⟩ := bc
                 have H9 := Lib.hid (And.intro k1 (And.intro k2 (And.intro trivial hC9)))
                 clear k1 k2 k3 k4 hC9 hkeep))
          all_goals go_wp2
          all_goals
            have hfin := grp_end (v8 := .slice (some ⟨G8, 0, none⟩) (csO.length + 1) cap8) (v9 := .slice (some ⟨G9, 0, none⟩) (csR.length + 1) cap9) HO.out.2.1 HO.out.2.2.1 HO.out.2.2.2.1 HO.out.2.2.2.2.1 HO.out.2.2.2.2.2.1 hso (by have := H.out.2.2.2.2.1; omega) HB.out.2.2.2.2 HI.out.1 HI.out.2.1 HI.out.2.2.1.1 H8.out.1 H8.out.2.1 H9.out.1 H9.out.2.1 H9.out.2.2.2
            rw [show X + 1 + 1 = X + 2 from rfl]
            generalize ((w9.setCell ⟨X + 2, 1, none⟩ (.slice (some ⟨G8, 0, none⟩) (csO.length + 1) cap8)).setCell ⟨X + 2, 2, none⟩ (.slice (some ⟨G9, 0, none⟩) (csR.length + 1) cap9)) = WF at hfin ⊢
            have e1 := orbs_succ (adj es) cs m k
            have e2 := reps_succ (adj es) cs m k
            rw [orbA, HB.out.2.2.2.1] at e1
            rw [repA, HB.out.2.2.2.1] at e2
            rw [← e1, ← e2] at hfin
            exact ⟨⟨k + 1, .slice (some ⟨G8, 0, none⟩) (csO.length + 1) cap8, .slice (some ⟨G9, 0, none⟩) (csR.length + 1) cap9, _, _, by omega, by go_num, hfin⟩, by simp [intOf]; omega⟩
    · obtain rfl : k = n := by omega
      obtain ⟨_, _, _, hx4⟩ := H.out.2.2.2.1 wo HO.out.2.2.2.2.2.1
      have hR1 := hx4.trans H.out.2.2.2.2.2.1
      obtain ⟨aO, cO, hvO, _⟩ := HO.out.2.2.1.rows HO.out.2.1 (by rw [HO.out.2.2.1.1]; simp [orbsA]; unfold maxLen; omega) (fun xs hxs => by
        obtain ⟨i, _, rfl⟩ := List.mem_map.1 hxs
        rw [nts_len, orbA, List.length_map]; have := lev_len (adj es) cs k i; unfold maxLen; omega)
      obtain ⟨aR, cR, hvR, _⟩ := HO.out.2.2.2.2.1.rows2 HO.out.2.2.2.1 (by rw [HO.out.2.2.2.2.1.1]; simp [repsA]; omega) (reps_ok (adj es) cs k hn)
      rw [show (orbsA (adj es) cs k k).length = k by simp [orbsA]] at hvO
      rw [show (repsA (adj es) cs k k).length = k by simp [repsA]] at hvR
      subst hvO
      subst hvR
      obtain ⟨c0, c1, c2, _, _, _⟩ := box_cells HO.out.1
      obtain ⟨d0, d1, d2, d3, d4, d5⟩ := box_cells hR1
      go_wp2
      obtain ⟨WF, hWF⟩ : ∃ WF, WF = ((wo.setCell ⟨X + 1, 0, none⟩ (.int .i64 (k : Int))).setCell ⟨X + 1, 1, none⟩ (.slice aO k cO)).setCell ⟨X + 1, 2, none⟩ (.slice aR k cR) := ⟨_, rfl⟩
      have hF : WF.heap[X + 1]? = some (.cells #[.int .i64 (k : Int), .slice aO k cO, .slice aR k cR] 31) := by
        rw [hWF]; exact box_set2 (box_set1 (box_set0 hR1))
      have gF : wo.grownBy WF (some (X + 1)) := by rw [hWF]; exact ((grown_put 0 _).trans (grown_put 1 _)).trans (grown_put 2 _)
      rw [← hWF]
      clear hWF
      obtain ⟨f0, f1, f2, _, _, _⟩ := box_cells hF
      have hO9 := HO.out.2.1.off gF (by omega)
      have hR9 := HO.out.2.2.2.1.off gF (by omega)
      obtain ⟨aO', cO', hvO, hrO⟩ := (HO.out.2.2.1.off gF (by omega)).rows hO9 (by rw [HO.out.2.2.1.1]; simp [orbsA]; unfold maxLen; omega) (fun xs hxs => by
        obtain ⟨i, _, rfl⟩ := List.mem_map.1 hxs
        rw [nts_len, orbA, List.length_map]; have := lev_len (adj es) cs k i; unfold maxLen; omega)
      obtain ⟨aR', cR', hvR, hrR⟩ := (HO.out.2.2.2.2.1.off gF (by omega)).rows2 hR9 (by rw [HO.out.2.2.2.2.1.1]; simp [repsA]; omega) (reps_ok (adj es) cs k hn)
      rw [show (orbsA (adj es) cs k k).length = k by simp [orbsA]] at hvO
      rw [show (repsA (adj es) cs k k).length = k by simp [repsA]] at hvR
      cases hvO
      cases hvR
      have hbF : Below w.heap.size w WF := by
        refine (H.out.2.2.1.trans (HO.out.2.2.2.2.2.1.mono (by rw [HX.out]; omega))).grown gF (by rw [HX.out]; omega) (fun g hg => ?_)
        cases hg; rw [HX.out]; omega
      refine bodyPost_ret (v := .agg #[.int .i64 (k : Int), .slice aO k cO, .slice aR k cR]) (by simp [results, Tryz.results32, go_sem, f0, f1, f2]) rfl ?_
      have hXle : w.heap.size ≤ X + 3 := by rw [HX.out]; omega
      exact ⟨_, _, _, _, rfl, hrO, hrR, hbF, csO, csR, hO9.mono hXle, (HO.out.2.2.1.off gF (by omega)).mono hXle, hR9.mono hXle, (HO.out.2.2.2.2.1.off gF (by omega)).mono hXle⟩
end Go.Proofs.YtjjjohmppehejaaGreat
