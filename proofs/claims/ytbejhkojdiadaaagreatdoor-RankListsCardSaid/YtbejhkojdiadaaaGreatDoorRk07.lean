/- The chain of a tower: the words, and the region with two appends. -/
import Derived.Test.YtbejhkojdiadaaaGreatDoorRk01
import Derived.Test.YtbejhkojdiadaaaGreatDoorRk02
import Derived.Test.YtbejhkojdiadaaaGreatDoorRk03
import Derived.Test.YtbejhkojdiadaaaGreatDoorRk04
import Derived.Test.YtbejhkojdiadaaaGreatDoorRk06
import Derived.Test.YtbejhkojdiadaaaGreatDoorProg
import Derived.Deep.RegionLaw
import Derived.WalkKit
import Derived.WalkSpells
import Derived.BigQuiet
import Derived.Deep.QuietTactic
import Derived.Deep.LoopGhost
import Derived.Lib.Hide
import Derived.Maps.AppendAt
import Derived.Deep.AppendLies
import Derived.StillTailTactics
import Derived.Laws.CopyOwn
import Derived.Deep.OwnRows
import Derived.Deep.DeepCutAuto
import Derived.Laws.Cover3
import Derived.Deep.RegionHeld3
import Derived.RangeFuncBox
import Derived.RangeFuncLeaves
import Derived.RangeFuncWrites
import Derived.RangeFuncFrom
import Derived.Shelf.Abstract
import Derived.OwnWalkIn
import Derived.TacticsInMore
import Derived.LoopNIn
import Derived.LoopIn
import Derived.Shelf.GgSortFunc.Insertion
import Derived.Shelf.SlIter.Collect
import Derived.Shelf.Sort.Plain
set_option linter.unusedSimpArgs false
set_option linter.unusedVariables false
namespace Go.Proofs.YtbejhkojdiadaaaGreatDoor
open Go.RowKit PlainPm
theorem Tryz.info40 : (Tryz.prog.info? 40).map (fun i => (i.zero, i.size, i.bytes)) = some (some (.slice none 0 0), 1, 24) := by kernel_rfl
theorem Tryz.info28 : (Tryz.prog.info? 28).map (fun i => (i.zero, i.size, i.bytes)) = some (some (.slice none 0 0), 1, 24) := by kernel_rfl
theorem OwnRows.below {w w' : World} {B : Nat} {e : TypeId} {cs : List Value} {xss : List (List Int)} (h : OwnRows w B e cs xss) (k : Below w.heap.size w w') : OwnRows w' B e cs xss :=
  h.kept (grown_below k none) (fun u xs hu => by
    rcases hu.blk with e | ⟨g, _, e, _⟩
    · exact .inl e
    · exact .inr (by rw [e]; simp))
def OwnR2 (w : World) (B : Nat) (cs : List Value) (xsss : List (List (List Int))) : Prop :=
  cs.length = xsss.length ∧ ∀ (i : Nat) u xss, cs[i]? = some u → xsss[i]? = some xss → ∃ us, Own w B u 41 us ∧ OwnRows w B 3 us xss
theorem OwnR2.nil (w : World) (B : Nat) : OwnR2 w B [] [] := ⟨rfl, fun i u xs h => by simp at h⟩
theorem OwnR2.keptT {w w' : World} {B : Nat} {row : Option Nat} {cs : List Value} {xsss : List (List (List Int))} (h : OwnR2 w B cs xsss) (hg : w.grownBy w' row) (ht : ∀ g, row = some g → ∃ c e f, w.heap[g]? = some (.cells c e f) ∧ e ≠ 41 ∧ e ≠ 3) : OwnR2 w' B cs xsss := by
  have key : ∀ (e : TypeId) (u : Value) (xs : List Value), e = 41 ∨ e = 3 → Own w B u e xs → u.ownBlock = none ∨ u.ownBlock ≠ row := by
    intro e u xs he hu
    rcases hu.blk with e1 | ⟨g, cur, e1, _, _, hb⟩
    · exact .inl e1
    · right
      intro e2
      rw [e1] at e2
      obtain ⟨c, e3, f, h1, h2, h3⟩ := ht g e2.symm
      rw [hb] at h1; cases h1
      rcases he with h | h <;> contradiction
  exact ⟨h.1, fun i u xss hu hx => by
    obtain ⟨us, h1, h2⟩ := h.2 i u xss hu hx
    exact ⟨us, h1.kept hg (key 41 _ _ (.inl rfl) h1), h2.kept hg (fun u xs hu => key 3 u _ (.inr rfl) hu)⟩⟩
theorem OwnR2.below {w w' : World} {B : Nat} {cs : List Value} {xsss : List (List (List Int))} (h : OwnR2 w B cs xsss) (k : Below w.heap.size w w') : OwnR2 w' B cs xsss :=
  ⟨h.1, fun i u xss hu hx => by
    obtain ⟨us, h1, h2⟩ := h.2 i u xss hu hx
    exact ⟨us, h1.below k, h2.below k⟩⟩
theorem OwnR2.app {w : World} {B : Nat} {cs us : List Value} {xsss : List (List (List Int))} {u : Value} {xss : List (List Int)} (h : OwnR2 w B cs xsss) (h1 : Own w B u 41 us) (h2 : OwnRows w B 3 us xss) : OwnR2 w B (cs ++ [u]) (xsss ++ [xss]) := by
  refine ⟨by simp [h.1], fun i v ys hv hy => ?_⟩
  by_cases hi : i < cs.length
  · rw [List.getElem?_append_left hi] at hv
    rw [List.getElem?_append_left (by rw [← h.1]; exact hi)] at hy
    exact h.2 i v ys hv hy
  · rw [List.getElem?_append_right (by omega)] at hv
    rw [List.getElem?_append_right (by rw [← h.1]; omega), ← h.1] at hy
    generalize i - cs.length = k at hv hy
    match k, hv, hy with
    | 0, hv, hy => simp at hv hy; subst hv; subst hy; exact ⟨us, h1, h2⟩
    | k + 1, hv, hy => simp at hv
theorem OwnR2.mono {w : World} {B B' : Nat} {cs : List Value} {xsss : List (List (List Int))} (h : OwnR2 w B cs xsss) (hb : B' ≤ B) : OwnR2 w B' cs xsss :=
  ⟨h.1, fun i u xss hu hx => by
    obtain ⟨us, h1, h2⟩ := h.2 i u xss hu hx
    exact ⟨us, h1.mono hb, h2.mono hb⟩⟩
def Rows2 (w : World) (a : Option Addr) (xsss : List (List (List Int))) : Prop :=
  ∃ vs, Row w a vs ∧ vs.length = xsss.length ∧ ∀ (i : Nat) u xss, vs[i]? = some u → xsss[i]? = some xss → ∃ b c, u = .slice b xss.length c ∧ Rows w b xss
theorem Rows2.below {w w' : World} {a : Option Addr} {xsss : List (List (List Int))} (h : Rows2 w a xsss) (k : Below w.heap.size w w') : Rows2 w' a xsss := by
  obtain ⟨vs, h1, h2, h3⟩ := h
  exact ⟨vs, h1.below k, h2, fun i u xss hu hx => by obtain ⟨b, c, e, h⟩ := h3 i u xss hu hx; exact ⟨b, c, e, h.below k⟩⟩
theorem OwnR2.rows2 {w : World} {B : Nat} {v : Value} {cs : List Value} {xsss : List (List (List Int))} (h : OwnR2 w B cs xsss) (hv : Own w B v 28 cs) (hl : cs.length ≤ 1000) (hs : ∀ xss ∈ xsss, xss.length ≤ 1000 ∧ ∀ xs ∈ xss, xs.length ≤ 1000) :
    ∃ a c, v = .slice a xsss.length c ∧ Rows2 w a xsss := by
  obtain ⟨a, c, rfl, hr⟩ := hv.row (by unfold maxLen; omega)
  refine ⟨a, c, by rw [h.1], cs, hr, h.1, fun i u xss hu hx => ?_⟩
  obtain ⟨us, h1, h2⟩ := h.2 i u xss hu hx
  obtain ⟨l1, l2⟩ := hs xss (List.mem_of_getElem? hx)
  obtain ⟨b, d, e, hrw⟩ := h2.rows h1 (by rw [h2.1]; unfold maxLen; omega) (fun xs hxs => by have := l2 xs hxs; unfold maxLen; omega)
  exact ⟨b, d, e, hrw⟩
theorem box_set0 {W : World} {C : Nat} {a0 a1 a2 u : Value} (h : W.heap[C]? = some (.cells #[a0, a1, a2] 25)) : (W.setCell ⟨C, 0, none⟩ u).heap[C]? = some (.cells #[u, a1, a2] 25) := by
  have hl := (Array.getElem?_eq_some_iff.1 h).1
  have h2 : W.heap[C] = .cells #[a0, a1, a2] 25 := by rw [Array.getElem?_eq_getElem hl] at h; exact Option.some.inj h
  simp [World.setCell, Array.getElem_modify, hl, h2]
theorem box_set1 {W : World} {C : Nat} {a0 a1 a2 u : Value} (h : W.heap[C]? = some (.cells #[a0, a1, a2] 25)) : (W.setCell ⟨C, 1, none⟩ u).heap[C]? = some (.cells #[a0, u, a2] 25) := by
  have hl := (Array.getElem?_eq_some_iff.1 h).1
  have h2 : W.heap[C] = .cells #[a0, a1, a2] 25 := by rw [Array.getElem?_eq_getElem hl] at h; exact Option.some.inj h
  simp [World.setCell, Array.getElem_modify, hl, h2]
theorem box_set2 {W : World} {C : Nat} {a0 a1 a2 u : Value} (h : W.heap[C]? = some (.cells #[a0, a1, a2] 25)) : (W.setCell ⟨C, 2, none⟩ u).heap[C]? = some (.cells #[a0, a1, u] 25) := by
  have hl := (Array.getElem?_eq_some_iff.1 h).1
  have h2 : W.heap[C] = .cells #[a0, a1, a2] 25 := by rw [Array.getElem?_eq_getElem hl] at h; exact Option.some.inj h
  simp [World.setCell, Array.getElem_modify, hl, h2]
theorem box_cells {W : World} {C : Nat} {a0 a1 a2 : Value} (h : W.heap[C]? = some (.cells #[a0, a1, a2] 25)) :
    W.cell? ⟨C, 0, none⟩ = some a0 ∧ W.cell? ⟨C, 1, none⟩ = some a1 ∧ W.cell? ⟨C, 2, none⟩ = some a2 ∧ W.frozen? ⟨C, 1, none⟩ = false ∧ W.frozen? ⟨C, 2, none⟩ = false ∧ W.frozen? ⟨C, 0, none⟩ = false := by
  refine ⟨?_, ?_, ?_, ?_, ?_, ?_⟩ <;> simp [World.cell?, World.frozen?, h]
theorem Own.off {w w' : World} {B C : Nat} {v : Value} {e : TypeId} {xs : List Value} (h : Own w B v e xs) (hg : w.grownBy w' (some C)) (hC : C < B) : Own w' B v e xs :=
  h.kept hg (by
    rcases h.blk with e1 | ⟨g, _, e1, hB, _⟩
    · exact .inl e1
    · right; rw [e1]; intro e2; injection e2 with e2; omega)
theorem OwnRows.off {w w' : World} {B C : Nat} {cs : List Value} {xss : List (List Int)} (h : OwnRows w B 3 cs xss) (hg : w.grownBy w' (some C)) (hC : C < B) : OwnRows w' B 3 cs xss :=
  ⟨h.1, fun i u xs hu hx => (h.2 i u xs hu hx).off hg hC⟩
theorem OwnR2.off {w w' : World} {B C : Nat} {cs : List Value} {xsss : List (List (List Int))} (h : OwnR2 w B cs xsss) (hg : w.grownBy w' (some C)) (hC : C < B) : OwnR2 w' B cs xsss :=
  ⟨h.1, fun i u xss hu hx => by
    obtain ⟨us, h1, h2⟩ := h.2 i u xss hu hx
    exact ⟨us, h1.off hg hC, h2.off hg hC⟩⟩
theorem own_typ {w : World} {B : Nat} {v : Value} {e : TypeId} {xs : List Value} (h : Own w B v e xs) (h4 : e ≠ 41) (h3 : e ≠ 3) : ∀ g, v.ownBlock = some g → ∃ c e f, w.heap[g]? = some (.cells c e f) ∧ e ≠ 41 ∧ e ≠ 3 := fun g hg => by
  rcases h.blk with e1 | ⟨g', cur, e1, _, _, hb⟩
  · rw [e1] at hg; cases hg
  · rw [e1] at hg; cases hg
    exact ⟨_, _, _, hb, h4, h3⟩
theorem grp_box {w w' : World} {B C : Nat} {v : Value} {e : TypeId} {xs : List Value} {a0 a1 a2 : Value} (hC : w.heap[C]? = some (.cells #[a0, a1, a2] 25)) (h : Own w B v e xs) (hg : w.grownBy w' v.ownBlock) (he : e ≠ 25 := by decide) : w'.heap[C]? = some (.cells #[a0, a1, a2] 25) := by
  refine (hg.block C (Array.getElem?_eq_some_iff.1 hC).1 (fun e2 => ?_)).trans hC
  rcases h.blk with e1 | ⟨g, cur, e1, _, _, hb⟩
  · rw [e1] at e2; cases e2
  · rw [e1] at e2; cases e2
    rw [hC] at hb; cases hb; exact he rfl
theorem grp_keep {wi w w' : World} {B : Nat} {v : Value} {e : TypeId} {xs : List Value} (h : Own wi B v e xs) (hg : w.grownBy w' v.ownBlock) : ∀ (p : Addr) (u : Value), w.cell? p = some u → wi.heap.size ≤ p.block → w'.cell? p = some u := fun p u hu hp =>
  hg.cell hu (fun e2 => by
    rcases h.blk with e1 | ⟨g, cur, e1, _, hl, _⟩
    · rw [e1] at e2; cases e2
    · rw [e1] at e2; injection e2 with e2; omega)
theorem own_above {w : World} {B : Nat} {v : Value} {e : TypeId} {xs : List Value} (h : Own w B v e xs) : ∀ g, v.ownBlock = some g → B ≤ g ∧ g < w.heap.size := fun g hg => by
  rcases h.blk with e1 | ⟨g', cur, e1, h1, h2, _⟩
  · rw [e1] at hg; cases hg
  · rw [e1] at hg; cases hg; exact ⟨h1, h2⟩
theorem grp_end {W1 wo wi w8 w9 : World} {X : Nat} {vO vR v8 v9 o p : Value} {csO csR us : List Value} {orbs : List (List Int)} {reps : List (List (List Int))} {xo : List Int} {xss : List (List Int)} {a0 : Value}
    (hO : Own wo (X + 2) vO 40 csO) (hOr : OwnRows wo (X + 2) 3 csO orbs) (hR : Own wo (X + 2) vR 28 csR) (hRr : OwnR2 wo (X + 2) csR reps) (hbl : Below (X + 1) W1 wo) (hso : X + 2 ≤ wo.heap.size) (hs1 : X + 1 ≤ W1.heap.size)
    (hbo : Below wo.heap.size wo wi) (ho : Own wi wo.heap.size o 3 (ints xo)) (hp : Own wi wo.heap.size p 41 us) (hus : OwnRows wi wo.heap.size 3 us xss)
    (h8 : Own w8 (X + 2) v8 40 (csO ++ [o])) (g8 : wi.grownBy w8 vO.ownBlock) (h9 : Own w9 (X + 2) v9 28 (csR ++ [p])) (g9 : w8.grownBy w9 vR.ownBlock) (hC : w9.heap[X + 1]? = some (.cells #[a0, vO, vR] 25)) :
    ((w9.setCell ⟨X + 1, 1, none⟩ v8).setCell ⟨X + 1, 2, none⟩ v9).heap[X + 1]? = some (.cells #[a0, v8, v9] 25) ∧
    Own ((w9.setCell ⟨X + 1, 1, none⟩ v8).setCell ⟨X + 1, 2, none⟩ v9) (X + 2) v8 40 (csO ++ [o]) ∧ OwnRows ((w9.setCell ⟨X + 1, 1, none⟩ v8).setCell ⟨X + 1, 2, none⟩ v9) (X + 2) 3 (csO ++ [o]) (orbs ++ [xo]) ∧
    Own ((w9.setCell ⟨X + 1, 1, none⟩ v8).setCell ⟨X + 1, 2, none⟩ v9) (X + 2) v9 28 (csR ++ [p]) ∧ OwnR2 ((w9.setCell ⟨X + 1, 1, none⟩ v8).setCell ⟨X + 1, 2, none⟩ v9) (X + 2) (csR ++ [p]) (reps ++ [xss]) ∧
    Below (X + 1) W1 ((w9.setCell ⟨X + 1, 1, none⟩ v8).setCell ⟨X + 1, 2, none⟩ v9) := by
  have gf : w9.grownBy ((w9.setCell ⟨X + 1, 1, none⟩ v8).setCell ⟨X + 1, 2, none⟩ v9) (some (X + 1)) := (grown_put 1 v8).trans (grown_put 2 v9)
  have hOi := hO.below hbo
  have hRi := hR.below hbo
  have hR8 := hRi.kept g8 (hRi.ne_type hOi (by decide))
  have t8 := own_typ hOi (by decide) (by decide)
  have t9 := own_typ hR8 (by decide) (by decide)
  have rk : ∀ {cs : List Value} {ys : List (List Int)}, OwnRows wi (X + 2) 3 cs ys → OwnRows ((w9.setCell ⟨X + 1, 1, none⟩ v8).setCell ⟨X + 1, 2, none⟩ v9) (X + 2) 3 cs ys := fun h =>
    (((h.kept g8 (fun u xs hu => hu.ne_type hOi (by decide))).kept g9 (fun u xs hu => hu.ne_type hR8 (by decide)))).off gf (by omega)
  have ok : ∀ {e : TypeId} {v : Value} {xs : List Value}, e ≠ 40 → e ≠ 28 → Own wi (X + 2) v e xs → Own ((w9.setCell ⟨X + 1, 1, none⟩ v8).setCell ⟨X + 1, 2, none⟩ v9) (X + 2) v e xs := fun n1 n2 h =>
    ((h.kept g8 (h.ne_type hOi n1)).kept g9 ((h.kept g8 (h.ne_type hOi n1)).ne_type hR8 n2)).off gf (by omega)
  have hOr' : OwnRows wi (X + 2) 3 csO orbs := hOr.below hbo
  have ho3 := ho.mono hso
  have hp3 := hp.mono hso
  have hus3 := hus.mono hso
  refine ⟨box_set2 (box_set1 hC), (h8.kept g9 (h8.ne_type hR8 (by decide))).off gf (by omega), (rk hOr').app (OwnRows.one (ok (by decide) (by decide) ho3)), h9.off gf (by omega), ((((hRr.below hbo).keptT g8 t8).keptT g9 t9).off gf (by omega)).app (ok (by decide) (by decide) hp3) (rk hus3), ?_⟩
  refine (((hbl.trans (hbo.mono (by omega))).grown g8 ?_ ?_).grown g9 ?_ ?_).grown gf ?_ ?_
  · have := hbo.size; omega
  · intro g hg; have := (own_above hOi g hg).1; omega
  · have := hbo.size; have := g8.size; omega
  · intro g hg; have := (own_above hR8 g hg).1; omega
  · have := hbo.size; have := g8.size; have := g9.size; omega
  · intro g hg; cases hg; exact Nat.le_refl _
set_option maxHeartbeats 400000 in
theorem clone67 (a : Option Addr) (c : Nat) (xs : List Int) (w : World) (ha : Ints w a xs) (hn : xs.length ≤ 1000000) :
    Calls Tryz.prog 40 #[.slice a xs.length c] w fun e w' => ∃ v, e = .returned v ∧ Own w' w.heap.size v 3 (ints xs) ∧ Below w.heap.size w w' := by
  have hA := Lib.hid ha
  clear ha
  obtain ⟨n, hnx⟩ : ∃ n, n = xs.length := ⟨_, rfl⟩
  rw [← hnx] at hn ⊢
  have Hn := Lib.hid hnx
  clear hnx
  obtain ⟨i3, hi3, hz3, hs3, hb3⟩ := info_parts Tryz.info3
  have I3 := Lib.hid (And.intro hi3 (And.intro hz3 (And.intro hs3 hb3)))
  clear hi3 hz3 hs3 hb3
  cases a with
  | none =>
    have h0 : xs = [] := by
      cases hx : xs with
      | nil => rfl
      | cons x r =>
        have := hA.out.at_ (k := 0) (by rw [hx]; simp)
        obtain ⟨_, _, e, _⟩ := this
        cases e
    have hn0 : n = 0 := by rw [Hn.out, h0]; rfl
    subst hn0
    have he := fun W : World => Lib.run_eql_slice_nil (P := Tryz.prog) W 41 3 none 0 c 0 0 Tryz.underlying41
    go_enter Tryz.func40, Tryz.ntmps40
    go_wp2
    go_ret
    exact ⟨_, rfl, by rw [h0]; exact Own.nil _ _ _, Below.refl _ _⟩
  | some ad =>
    have he := fun W : World => Lib.run_eql_slice_nil (P := Tryz.prog) W 41 3 (some ad) n c 0 0 Tryz.underlying41
    have hem := Own.new (w := w) (B := w.heap.size) 3 [] (Nat.le_refl _) (Nat.zero_le _)
    have hb : Below w.heap.size w (w.alloc (.cells #[] 3)) := (Below.refl _ _).alloc (Nat.le_refl _) _
    have H := Lib.hid (And.intro hem (And.intro hb (hA.out.below hb)))
    clear hem hb
    go_enter Tryz.func40, Tryz.ntmps40
    go_wp2_with (at_builtin; refine appA rfl (.tmp 5) (.tmp 6) 41 3 rfl i3 (.int .i64 0) 8 Tryz.underlying41 I3.out.1 I3.out.2.1 I3.out.2.2.1 I3.out.2.2.2 rfl (by omega) w.heap.size (.slice (some ⟨w.heap.size, 0, none⟩) 0 0) [] (ints xs) rfl H.out.1 ad n c rfl (by rw [ints_len, ← Hn.out]) H.out.2.2.src (ints_one xs) (by simp; omega) H.out.2.1.size ?_; intro v' w' h2 h3; have H9 := Lib.hid (And.intro h2 h3); clear h2 h3)
    go_ret
    refine ⟨_, rfl, H9.out.1, H.out.2.1.grown H9.out.2 H.out.2.1.size (fun k hk => by cases hk; exact Nat.le_refl _)⟩

theorem srt_pts {n : Nat} {l : List Nat} (hd : l.Nodup) (hl : ∀ p ∈ l, p < n) : srtI (nts l) = nts (ptsOf n l) := by
  have h1 : (srtI (nts l)).Pairwise (fun x y => x ≤ y) := by
    have := List.pairwise_mergeSort (le := fun x y : Int => decide (x ≤ y)) (fun a b c h1 h2 => by simp at *; omega) (fun a b => by simp; omega) (nts l)
    exact this.imp (by simp)
  have h2 : (nts (ptsOf n l)).Pairwise (fun x y => x ≤ y) := by
    unfold nts ptsOf
    refine List.pairwise_map.2 ?_
    exact ((List.pairwise_lt_range (n := n)).sublist List.filter_sublist).imp (fun h => by omega)
  have hp : (ptsOf n l).Perm l := by
    refine (List.perm_ext_iff_of_nodup (List.Nodup.sublist List.filter_sublist List.nodup_range) hd).2 fun p => ?_
    show p ∈ ptsOf n l ↔ p ∈ l
    rw [mem_ptsOf]
    exact ⟨fun h => h.2, fun h => ⟨hl p h, h⟩⟩
  have h3 : (srtI (nts l)).Perm (nts (ptsOf n l)) := (List.mergeSort_perm _ _).trans (hp.symm.map _)
  exact h3.eq_of_pairwise (fun a b _ _ h1 h2 => by omega) h1 h2
def orbI {n : Nat} (T : Tw n) (k : Nat) : List (List Int) := (List.range k).map fun i => nts (ptsOf n (T i).orb)
def repI {n : Nat} (T : Tw n) (k : Nat) : List (List (List Int)) := (List.range k).map fun i => (ptsOf n (T i).orb).map fun p => (repT T i p).l
theorem orbI_succ {n : Nat} (T : Tw n) (k : Nat) : orbI T (k + 1) = orbI T k ++ [nts (ptsOf n (T k).orb)] := by unfold orbI; rw [List.range_succ]; simp
theorem repI_succ {n : Nat} (T : Tw n) (k : Nat) : repI T (k + 1) = repI T k ++ [(ptsOf n (T k).orb).map fun p => (repT T k p).l] := by unfold repI; rw [List.range_succ]; simp
theorem ptsOf_len {n : Nat} (l : List Nat) : (ptsOf n l).length ≤ n := by
  have := List.length_filter_le (fun p => decide (p ∈ l)) (List.range n)
  simpa [ptsOf] using this
theorem PmV.ints {n : Nat} {w : World} {M : List Nat} {v : Value} {x : Pm n} (hn : n ≤ 1000) (h : PmV w M v x) : ∃ a c, v = .slice a x.l.length c ∧ Ints w a x.l := by
  obtain ⟨b, o, c, rfl, _, h2, h3⟩ := h
  have hl := x.ok.1
  refine ⟨_, c, by rw [hl], by rw [List.length_map, hl]; unfold maxLen; omega, fun i u hu => ?_⟩
  have hi : i < n := by have := (List.getElem?_eq_some_iff.1 hu).1; rw [List.length_map, hl] at this; exact this
  refine ⟨b, o, rfl, h2, ?_⟩
  rw [h3 i hi, ← hu, List.getElem?_map, x.get hi]; rfl
theorem pms_len {n : Nat} (T : Tw n) (hn : n ≤ 64) (k : Nat) : ∀ xss ∈ repI T k, xss.length ≤ 1000 ∧ ∀ xs ∈ xss, xs.length ≤ 1000 := fun xss h => by
  obtain ⟨i, _, rfl⟩ := List.mem_map.1 h
  refine ⟨by rw [List.length_map]; have := ptsOf_len (n := n) (T i).orb; omega, fun xs hx => ?_⟩
  obtain ⟨p, _, rfl⟩ := List.mem_map.1 hx
  rw [(repT T i p).ok.1]; omega
theorem pts_len {n : Nat} (T : Tw n) (hn : n ≤ 64) (k : Nat) : ∀ xs ∈ orbI T k, xs.length ≤ maxLen := fun xs h => by
  obtain ⟨i, _, rfl⟩ := List.mem_map.1 h
  rw [nts_len]; have := ptsOf_len (n := n) (T i).orb; unfold maxLen; omega
def cL : Code → Code
  | .seq a _ => a
  | c => c
def cR : Code → Code
  | .seq _ b => b
  | c => c
def cB : Code → Code
  | .block _ c => c
  | c => c
def cO : Code → Code
  | .loop c => c
  | c => c
def OnlyNormal (R : Act → World → Prop) : Exit → Act → World → Prop
  | .normal, a, w => R a w
  | _, _, _ => False
noncomputable def reg104 : Code := cR (cR (cR (cR (cB (cL (cR (cR (cO (cB (cR (cL (cR (cR (Tryz.f76.body.getD .skip))))))))))))))
set_option maxRecDepth 100000 in
set_option maxHeartbeats 8000000 in
theorem reg104_wp {wi : World} {X L lr : Nat} {pa ra : Option Addr} {pc rc : Nat} {vO vR a0 : Value} {csO csR : List Value} (c0 c1 c2 c4 c7 c8 c9 c10 c11 c12 c13 c14 c15 c16 c17 c18 c19 c20 c21 c22 c23 c24 c25 c26 c27 c28 c29 c30 c31 c32 c33 c34 c35 c36 c37 c38 c39 c40 c41 c42 c43 c44 c45 c46 c47 c48 c49 c50 c51 c52 c53 c54 c55 c56 c57 c58 c59 c60 c61 c62 c63 c64 c65 c66 c67 c68 c69 : Value)
    (hC : wi.heap[X + 1]? = some (.cells #[a0, vO, vR] 25)) (hO : Own wi (X + 2) vO 40 csO) (hR : Own wi (X + 2) vR 28 csR) (hsw : X + 2 ≤ wi.heap.size) (hcO : csO.length < 1000000) (hcR : csR.length < 1000000) :
    Code.wp Tryz.prog reg104 (OnlyNormal fun a W => ∃ (v8 v9 : Value) (w8 w9 : World) (d56 d57 d58 d59 d60 d61 d62 d63 d64 d65 d66 d67 : Value), Own w8 (X + 2) v8 40 (csO ++ [.slice pa L pc]) ∧ wi.grownBy w8 vO.ownBlock ∧ Own w9 (X + 2) v9 28 (csR ++ [.slice ra lr rc]) ∧ w8.grownBy w9 vR.ownBlock ∧ w9.heap[X + 1]? = some (.cells #[a0, vO, vR] 25) ∧
      W = (w9.setCell ⟨X + 1, 1, none⟩ v8).setCell ⟨X + 1, 2, none⟩ v9 ∧ a = ⟨#[c0, c1, c2, .pointer (some ⟨X + 1, 0, none⟩), c4, .slice pa L pc, .slice ra lr rc, c7, c8, c9, c10, c11, c12, c13, c14, c15, c16, c17, c18, c19, c20, c21, c22, c23, c24, c25, c26, c27, c28, c29, c30, c31, c32, c33, c34, c35, c36, c37, c38, c39, c40, c41, c42, c43, c44, c45, c46, c47, c48, c49, c50, c51, c52, c53, c54, c55, d56, d57, d58, d59, d60, d61, d62, d63, d64, d65, d66, d67, c68, c69], []⟩) ⟨#[c0, c1, c2, .pointer (some ⟨X + 1, 0, none⟩), c4, .slice pa L pc, .slice ra lr rc, c7, c8, c9, c10, c11, c12, c13, c14, c15, c16, c17, c18, c19, c20, c21, c22, c23, c24, c25, c26, c27, c28, c29, c30, c31, c32, c33, c34, c35, c36, c37, c38, c39, c40, c41, c42, c43, c44, c45, c46, c47, c48, c49, c50, c51, c52, c53, c54, c55, c56, c57, c58, c59, c60, c61, c62, c63, c64, c65, c66, c67, c68, c69], []⟩ wi := by
  obtain ⟨i26, hi26, hz26, hs26, hb26⟩ := info_parts Tryz.info40
  obtain ⟨i44, hi44, hz44, hs44, hb44⟩ := info_parts Tryz.info28
  have I26 := Lib.hid (And.intro hi26 (And.intro hz26 (And.intro hs26 hb26)))
  have I44 := Lib.hid (And.intro hi44 (And.intro hz44 (And.intro hs44 hb44)))
  clear hi26 hz26 hs26 hb26 hi44 hz44 hs44 hb44
  have nbi : X + 1 ≠ wi.heap.size := by omega
  have lbi : X + 1 < wi.heap.size := by omega
  have nbi2 : X + 1 ≠ wi.heap.size + 1 := by omega
  have lbi2 : X + 1 < wi.heap.size + 1 := by omega
  have hC0 := box_cells hC
  obtain ⟨z0, z1, z2, z3, z4, z5⟩ := hC0
  have HB := Lib.hid (And.intro hC (And.intro hO hR))
  clear hC hO hR
  conv => arg 2; whnf
  go_region_law
    (first
      | (
         refine step_app1 ?_ (.tmp 57) (.tmp 59) 22 40 ?_ i26 (.slice none 0 0) 24 Tryz.underlying22 I26.out.1 I26.out.2.1 I26.out.2.2.1 I26.out.2.2.2 ?_ ?_ (X + 2) (.slice pa L pc) vO csO ?_ wi HB.out.2.1 ?_ ?_ ?_ hcO hsw ?_
         rfl
         rfl
         rfl
         omega
         rfl
         (repeat (first | exact Below.refl _ _ | exact below_self_drewN _ _ | refine alloc_b ?_ _ | refine below_drw ?_ | refine below_drewN ?_ _))
         exact ⟨_, rfl, by simp⟩
         rfl
         intro v8 w8 k1 k2 k3 k4
         obtain ⟨G8, cap8, rfl, -⟩ := k1.form (by simp)
         simp only [List.length_append, List.length_singleton] at k1
         have hC8 := grp_box HB.out.1 HB.out.2.1 k2
         have bc := box_cells hC8
         obtain ⟨t0, t1, t2, t3, t4, t5⟩ := bc
         have hR8 := HB.out.2.2.kept k2 (HB.out.2.2.ne_type HB.out.2.1 (by decide))
         have hkeep := grp_keep HB.out.2.1 k3
         have hsw8 : X + 2 ≤ w8.heap.size := Nat.le_trans hsw k2.size
         have nb8 : X + 1 ≠ w8.heap.size := by omega
         have lb8 : X + 1 < w8.heap.size := by omega
         have nb82 : X + 1 ≠ w8.heap.size + 1 := by omega
         have lb82 : X + 1 < w8.heap.size + 1 := by omega
         have H8 := Lib.hid (And.intro k1 (And.intro k2 (And.intro trivial (And.intro hR8 hC8))))
         clear k1 k2 k3 k4 hR8 hC8)
      | (refine step_app1 ?_ (.tmp 62) (.tmp 64) 23 28 ?_ i44 (.slice none 0 0) 24 Tryz.underlying23 I44.out.1 I44.out.2.1 I44.out.2.2.1 I44.out.2.2.2 ?_ ?_ (X + 2) (.slice ra lr rc) vR csR ?_ w8 H8.out.2.2.2.1 ?_ ?_ ?_ hcR hsw8 ?_
         rfl
         rfl
         rfl
         omega
         rfl
         (repeat (first | exact Below.refl _ _ | exact below_self_drewN _ _ | refine alloc_b ?_ _ | refine below_drw ?_ | refine below_drewN ?_ _))
         first | exact ⟨_, rfl, by simp⟩ | exact ⟨_, rfl, hkeep ⟨wi.heap.size, 0, none⟩ _ (by simp) (by simp)⟩ | exact ⟨_, rfl, hkeep ⟨wi.heap.size + 1, 0, none⟩ _ (by simp) (by simp)⟩
         rfl
         intro v9 w9 k1 k2 k3 k4
         obtain ⟨G9, cap9, rfl, -⟩ := k1.form (by simp)
         simp only [List.length_append, List.length_singleton] at k1
         have hC9 := grp_box H8.out.2.2.2.2 H8.out.2.2.2.1 k2
         have bc := box_cells hC9
         obtain ⟨t10, t11, t12, t13, t14, t15⟩ := bc
         have H9 := Lib.hid (And.intro k1 (And.intro k2 (And.intro trivial hC9)))
         clear k1 k2 k3 k4 hC9 hkeep))
  all_goals exact ⟨_, _, _, _, _, _, _, _, _, _, _, _, _, _, _, _, H8.out.1, H8.out.2.1, H9.out.1, H9.out.2.1, H9.out.2.2.2, rfl, rfl⟩
end Go.Proofs.YtbejhkojdiadaaaGreatDoor
