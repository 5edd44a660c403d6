/- The reference's table closed under products. · The reference's orbits. · The reference's least element of a coset. · The reference's sifting, least elements and elements by rank. -/
import Derived.Test.YtbejhkojdiadaaaGreatDoorRk01
import Derived.Test.YtbejhkojdiadaaaGreatDoorRk02
import Derived.Test.YtbejhkojdiadaaaGreatDoorRk03
import Derived.Test.YtbejhkojdiadaaaGreatDoorRk04
import Derived.Test.YtbejhkojdiadaaaGreatDoorRk05
import Derived.Test.YtbejhkojdiadaaaGreatDoorRk06
import Derived.Test.YtbejhkojdiadaaaGreatDoorRk07
import Derived.Test.YtbejhkojdiadaaaGreatDoorRk08
import Derived.Test.YtbejhkojdiadaaaGreatDoorProg
import Derived.Deep.RegionHeld3
import Derived.WalkKit
import Derived.WalkSpells
import Derived.BigQuiet
import Derived.Deep.QuietTactic
import Derived.Deep.LoopGhost
import Derived.Lib.Hide
import Derived.Maps.AppendAt
import Derived.Deep.AppendLies
import Derived.StillTailTactics
import Derived.Laws.CopyOwn
import Derived.Deep.OwnRows
import Derived.Deep.DeepCutAuto
import Derived.Laws.Cover3
import Derived.RangeFuncBox
import Derived.RangeFuncLeaves
import Derived.RangeFuncWrites
import Derived.RangeFuncFrom
import Derived.Shelf.Abstract
import Derived.OwnWalkIn
import Derived.TacticsInMore
import Derived.LoopNIn
import Derived.LoopIn
import Derived.Shelf.GgSortFunc.Insertion
import Derived.Shelf.SlIter.Collect
import Derived.Shelf.Sort.Plain
import Derived.Deep.RegionLaw
import Derived.RangeFuncRecord
import Derived.Lib.SlicesSearch
set_option linter.unusedSimpArgs false
set_option linter.unusedVariables false
namespace Go.Proofs.YtbejhkojdiadaaaGreatDoor
open Go.RowKit PlainPm
theorem ins_no {n B g c : Nat} {w : World} {R : Nat → Nat} {t : Nat → Nat → Option (Pm n)} {x r : Pm n} {vx : Value} (hT : TabW n B g w R t) (hx : PmV w (rowsM n R) vx x) (h : sft (tabTw t) n 0 x = (n, r)) :
    Calls Tryz.prog 69 #[.slice (some ⟨g, 0, none⟩) n c, vx] w fun e w' => e = .returned (.bool false) ∧ TabW n B g w' R t ∧ Stp w (rowsM n R) w' (rowsM n R) ∧ ∀ b, b < w.heap.size → (∀ i, i < n → R i ≠ b) → w'.heap[b]? = w.heap[b]? :=
  (insert129 hT hx).mono fun e w' ⟨h1, h2⟩ => by
    rcases h1 with ⟨_, h3, h4⟩ | ⟨h3, _⟩
    · exact ⟨h3, h4, h2⟩
    · rw [h] at h3; exact absurd h3 (Nat.lt_irrefl _)
theorem ins_yes {n B g c a : Nat} {w : World} {R : Nat → Nat} {t : Nat → Nat → Option (Pm n)} {x r : Pm n} {vx : Value} (hT : TabW n B g w R t) (hx : PmV w (rowsM n R) vx x) (h : sft (tabTw t) n 0 x = (a, r)) (ha : a < n) :
    Calls Tryz.prog 69 #[.slice (some ⟨g, 0, none⟩) n c, vx] w fun e w' => e = .returned (.bool true) ∧ TabW n B g w' R (setE t a (r.at a) r) ∧ Stp w (rowsM n R) w' (rowsM n R) ∧ ∀ b, b < w.heap.size → (∀ i, i < n → R i ≠ b) → w'.heap[b]? = w.heap[b]? :=
  (insert129 hT hx).mono fun e w' ⟨h1, h2⟩ => by
    rcases h1 with ⟨h3, _⟩ | ⟨_, h3, h4⟩
    · rw [h] at h3; simp only at h3; omega
    · rw [h] at h4; exact ⟨h3, h4, h2⟩
theorem mem_setR {n b m : Nat} {R : Nat → Nat} (h : m ∈ rowsM n (fun i => if i = n then b else R i)) : m ∈ rowsM n R ∨ m = b := by
  obtain ⟨i, hi, e⟩ := mem_rowsM.1 h
  by_cases e1 : i = n
  · rw [if_pos e1] at e; exact .inr e.symm
  · rw [if_neg e1] at e; exact .inl (mem_rowsM.2 ⟨i, hi, e⟩)
theorem Own.move {w w' : World} {B : Nat} {v : Value} {e : TypeId} {xs : List Value} (h : Own w B v e xs) (hb : ∀ q, v.ownBlock = some q → w'.heap[q]? = w.heap[q]?) : Own w' B v e xs := by
  refine ⟨h.1, ?_⟩
  rcases h.2 with h0 | ⟨g, cap, cur, hv, hB, hh, r⟩
  · exact .inl h0
  · exact .inr ⟨g, cap, cur, hv, hB, (hb g (by rw [hv]; rfl)).trans hh, r⟩
structure ClW (n B g D : Nat) (w0 : World) (R : Nat → Nat) (L : List (Pm n)) (v : Value) (i k m : Nat) (l : List (Pm n)) (w : World) : Prop where
  st : ∃ R' t us, TabW n B g w R' t ∧ TabC L t l i k m ∧ Own w D v 41 us ∧ PmL w (rowsM n R') us l ∧ (∀ j, j < n → R' j = R j) ∧ (∀ b, v.ownBlock = some b → R' n = b) ∧ Stp w0 (rowsM n R) w (rowsM n R')
theorem ClW.len {n B g D : Nat} {w0 w : World} {R : Nat → Nat} {L l : List (Pm n)} {v : Value} {i k m : Nat} (h : ClW n B g D w0 R L v i k m l w) : l.length ≤ n * n := by
  obtain ⟨R', t, us, _, hc, _, _⟩ := h.st
  rw [hc.len]; exact entL_len t
theorem ClW.form {n B g D : Nat} {w0 w : World} {R : Nat → Nat} {L l : List (Pm n)} {v : Value} {i k m : Nat} (h : ClW n B g D w0 R L v i k m l w) (hn : n ≤ 64) : ∃ a c us, v = .slice a l.length c ∧ Row w a us ∧ us.length = l.length := by
  obtain ⟨R', t, us, _, hc, ho, hp, _⟩ := h.st
  have h1 := h.len
  have h2 : n * n ≤ 64 * 64 := Nat.mul_le_mul hn hn
  obtain ⟨a, c, e, hr⟩ := ho.row (by rw [hp.1]; unfold maxLen; omega)
  exact ⟨a, c, us, by rw [e, hp.1], hr, hp.1⟩
theorem keep2 {V A B : World} {p q : Addr} {u0 u1 : Value} (h : A.cell? p = some u0 ∧ A.cell? q = some u1 ∧ Below V.heap.size V A) (k : Below A.heap.size A B) : B.cell? p = some u0 ∧ B.cell? q = some u1 ∧ Below V.heap.size V B :=
  ⟨(k.cell (block_lt_of_cell h.1)).trans h.1, (k.cell (block_lt_of_cell h.2.1)).trans h.2.1, below_trans h.2.2 k⟩
theorem sft_le {n : Nat} {t : Nat → Nat → Option (Pm n)} (h : TabOk t) (x : Pm n) : (sft (tabTw t) n 0 x).1 ≤ n := (sft_spec (f := n) (i := 0) (x := x) (tab_wf h) (by omega) (fun j hj => by omega)).2.1
theorem entN {n B g c : Nat} {w : World} {R : Nat → Nat} {t : Nat → Nat → Option (Pm n)} (hT : TabW n B g w R t) (hn : n ≤ 64) :
    Calls Tryz.prog 97 #[.slice (some ⟨g, 0, none⟩) n c] w fun e w' => ∃ a c', e = .returned (.slice a (entL n t).length c') ∧ Below w.heap.size w w' :=
  (entries152 (c := c) hT).mono fun e w' ⟨v, us, he, h1, h2, h3, _⟩ => by
    have h4 : n * n ≤ 64 * 64 := Nat.mul_le_mul hn hn
    have h5 := entL_len (n := n) t
    obtain ⟨a, c', rfl, _⟩ := h1.row (by rw [h2.1]; unfold maxLen; omega)
    exact ⟨a, c', by rw [he, h2.1], h3⟩
theorem PmL.app {n : Nat} {w : World} {M : List Nat} {gs gs' : List Value} {l l' : List (Pm n)} (h : PmL w M gs l) (h' : PmL w M gs' l') : PmL w M (gs ++ gs') (l ++ l') := by
  refine ⟨by simp [h.1, h'.1], fun k s hs => ?_⟩
  by_cases hk : k < l.length
  · rw [List.getElem?_append_left hk] at hs
    rw [List.getElem?_append_left (by rw [h.1]; exact hk)]; exact h.2 k s hs
  · rw [List.getElem?_append_right (by omega)] at hs
    rw [List.getElem?_append_right (by rw [h.1]; omega), h.1]; exact h'.2 _ s hs
theorem ClW.start {n B g : Nat} {w w1 : World} {R : Nat → Nat} {t : Nat → Nat → Option (Pm n)} {L : List (Pm n)} {v : Value} {us : List Value} (hT : TabW n B g w R t) (hS : TabS L t) (ho : Own w1 w.heap.size v 41 us) (hb : Below w.heap.size w w1) (hp : PmL w (rowsM n R) us (entL n t)) : ClW n B g w.heap.size w R L v 0 0 0 (entL n t) w1 := by
  rcases ho.blk with e | ⟨b, cur, e, h1, h2, _⟩
  · exact ⟨R, t, us, hT.below hb, TabC.start hS, ho, hp.stp (Stp.below hb), fun _ _ => rfl, fun b hb => (by rw [e] at hb; cases hb), Stp.below hb⟩
  · have k : Stp w (rowsM n R) w1 (rowsM n (fun i => if i = n then b else R i)) := ⟨(Stp.below (M := rowsM n R) hb).kept, fun m hm => (mem_setR hm).imp id (fun e2 => by rw [e2]; exact h1)⟩
    have htg := hT.tg.1
    exact ⟨_, t, us, hT.move (fun i hi => hb.block _ (hT.mlt _ (mem_rowsM.2 ⟨i, by omega, rfl⟩))) (hb.block _ hT.tg.1) k (fun i hi => if_neg (Nat.ne_of_lt hi)) (by simp only [if_true]; exact h2) (by simp only [if_true]; omega), TabC.start hS, ho, hp.stp k, fun i hi => if_neg (Nat.ne_of_lt hi), fun c hc => (by rw [e] at hc; cases hc; simp only [if_true]), k⟩
theorem ClW.app {n B g D ab i k m : Nat} {w0 w9 w10 : World} {R R' : Nat → Nat} {t : Nat → Nat → Option (Pm n)} {L l : List (Pm n)} {v' : Value} {us : List Value} (hT : TabW n B g w9 R' t) (hC : TabC L t l i k m) (ho : Own w10 D v' 41 us) (hp : PmL w9 (rowsM n R') us l)
    (hRR : ∀ j, j < n → R' j = R j) (hob : R' n = ab) (hne : ∀ i, i < n → R' i ≠ ab) (hg : g ≠ ab) (hst : Stp w0 (rowsM n R) w9 (rowsM n R')) (hgr : w9.grownBy w10 (some ab)) (hnew : v'.ownBlock = some ab ∨ ∃ g', v'.ownBlock = some g' ∧ w9.heap.size ≤ g') : ClW n B g D w0 R L v' i k m l w10 := by
  have hrow : ∀ i, i < n → w10.heap[R' i]? = w9.heap[R' i]? := fun i hi => hgr.block _ (hT.mlt _ (mem_rowsM.2 ⟨i, by omega, rfl⟩)) (fun e => hne i hi (Option.some.inj e))
  have hgb : w10.heap[g]? = w9.heap[g]? := hgr.block _ hT.tg.1 (fun e => hg (Option.some.inj e))
  have hk : Kept w9 w10 (rowsM n R') := Kept.ofGrown hgr (fun b e => by cases e; exact mem_rowsM.2 ⟨n, by omega, hob⟩)
  rcases hnew with e | ⟨g', e, h1⟩
  · have k : Stp w9 (rowsM n R') w10 (rowsM n R') := ⟨hk, fun m hm => .inl hm⟩
    exact ⟨R', t, us, hT.move hrow hgb k (fun _ _ => rfl) (Nat.lt_of_lt_of_le hT.ex k.kept.size) (by rw [hob]; exact hg), hC, ho, hp.stp k, hRR, fun b hb => (by rw [e] at hb; cases hb; exact hob), hst.trans k⟩
  · have k : Stp w9 (rowsM n R') w10 (rowsM n (fun i => if i = n then g' else R' i)) := ⟨hk, fun m hm => (mem_setR hm).imp id (fun e2 => by rw [e2]; exact h1)⟩
    have htg := hT.tg.1
    exact ⟨_, t, us, hT.move hrow hgb k (fun i hi => if_neg (Nat.ne_of_lt hi)) (by simp only [if_true]; exact (ho.block_lt e).1) (by simp only [if_true]; omega), hC, ho, hp.stp k, fun i hi => (if_neg (Nat.ne_of_lt hi)).trans (hRR i hi), fun c hc => (by rw [e] at hc; cases hc; simp only [if_true]), hst.trans k⟩
theorem own_round {n D : Nat} {wr w6 w7 w8 : World} {R : Nat → Nat} {v : Value} {us : List Value} (ho : Own wr D v 41 us) (b6 : Below wr.heap.size wr w6) (hi : ∀ b, b < w6.heap.size → (∀ i, i < n → R i ≠ b) → w7.heap[b]? = w6.heap[b]?) (h7 : w6.heap.size ≤ w7.heap.size) (b8 : Below w7.heap.size w7 w8) (hne : ∀ b, v.ownBlock = some b → ∀ i, i < n → R i ≠ b) : Own w8 D v 41 us :=
  ho.move fun q hq => by
    have h1 := (ho.block_lt hq).1
    have h6 := b6.size
    rw [b8.block q (by omega), hi q (by omega) (hne q hq), b6.block q h1]
theorem new_round {n D : Nat} {wr w5 w6 w7 w8 : World} {R : Nat → Nat} {v : Value} {us : List Value} {l : List (Pm n)} (b5 : Below wr.heap.size wr w5) (b6 : Below w5.heap.size w5 w6) (k7 : Stp w6 (rowsM n R) w7 (rowsM n R)) (hi : ∀ b, b < w6.heap.size → (∀ i, i < n → R i ≠ b) → w7.heap[b]? = w6.heap[b]?) (b8 : Below w7.heap.size w7 w8) (ho : Own wr D v 41 us) (hp : PmL wr (rowsM n R) us l) {ab : Nat} (hv : ∀ b, v.ownBlock = some b → b = ab) (hne : ∀ i, i < n → R i ≠ ab) : Own w8 D v 41 us ∧ PmL w8 (rowsM n R) us l ∧ Stp wr (rowsM n R) w8 (rowsM n R) :=
  have hstp := (Stp.below b5).trans ((Stp.below b6).trans (k7.trans (Stp.below b8)))
  ⟨own_round ho (below_trans b5 b6) hi k7.kept.size b8 (fun b hb => by rw [hv b hb]; exact hne), hp.stp hstp, hstp⟩
theorem pms_own {n D : Nat} {W : World} {M : List Nat} {v : Value} {us : List Value} {l : List (Pm n)} (ho : Own W D v 41 us) (hp : PmL W M us l) (hl : l.length ≤ 4096) : PmsV W [] v l := by
  obtain ⟨a, c, e, hr⟩ := ho.row (by rw [hp.1]; unfold maxLen; omega)
  exact ⟨a, c, us, by rw [e, hp.1], hr, hp.1, fun k s hs => by
    obtain ⟨v, h1, h2⟩ := hp.2 k s hs
    exact ⟨v, h1, h2.weak⟩⟩
theorem own_addr {D : Nat} {W : World} {v : Value} {us : List Value} (ho : Own W D v 41 us) (h0 : 0 < us.length) (hl : us.length ≤ 4096) : ∃ b o c m, v = .slice (some ⟨b, o, none⟩) m c ∧ us.length = m ∧ ∀ j y, us[j]? = some y → W.cell? ⟨b, o + j, none⟩ = some y := by
  obtain ⟨a, c, e, hr⟩ := ho.row (by unfold maxLen; omega)
  obtain ⟨b, o, ea, _, _⟩ := hr.2 0 us[0] (List.getElem?_eq_getElem h0)
  subst ea
  refine ⟨b, o, c, _, e, rfl, fun j y hy => ?_⟩
  obtain ⟨b', o', ea, _, h⟩ := hr.2 j y hy
  cases ea; exact h
theorem PmL.one_ {n : Nat} {w : World} {M : List Nat} {gs : List Value} {l : List (Pm n)} (h : PmL w M gs l) : ∀ y ∈ gs, y.oneCell' = true := fun y hy => by
  obtain ⟨k, hk⟩ := List.mem_iff_getElem?.1 hy
  have hkl : k < l.length := by rw [← h.1]; exact (List.getElem?_eq_some_iff.1 hk).1
  obtain ⟨v, h1, h2⟩ := h.2 k _ (List.getElem?_eq_getElem hkl)
  rw [hk] at h1; cases h1
  obtain ⟨b, o, c, rfl⟩ := h2.form; rfl
set_option maxRecDepth 100000 in
set_option maxHeartbeats 4000000 in
theorem close130 {n B g c : Nat} {w : World} {R : Nat → Nat} {t : Nat → Nat → Option (Pm n)} {L : List (Pm n)} (hT : TabW n B g w R t) (hS : TabS L t) (hg : g < w.heap.size) :
    Calls Tryz.prog 70 #[.slice (some ⟨g, 0, none⟩) n c] w fun e w' => e = .returned (.tuple #[]) ∧ ∃ R' t', TabW n B g w' R' t' ∧ Of (Grp (· ∈ L)) (tabTw t') ∧ TabOk t' ∧ (∀ j, j < n → R' j = R j) ∧ Stp w (rowsM n R) w' (rowsM n R') := by
  obtain ⟨i27, hi27, hz27, hs27, hb27⟩ := info_parts Tryz.info41
  have I27 := Lib.hid (And.intro hi27 (And.intro hz27 (And.intro hs27 hb27)))
  clear hi27 hz27 hs27 hb27
  have hn := hT.hn
  have hn1 := hn.2
  have hnn : n * n ≤ 4096 := Nat.mul_le_mul hn1 hn1
  have HE := Lib.hid (entries152 (c := c) hT)
  have hmw := hT.mlt
  have H := Lib.hid (And.intro hT (And.intro hS (And.intro hg hmw)))
  clear hT hS hg hmw
  go_enter Tryz.func70, Tryz.ntmps70
  go_wp2_with (go_at_call 97; refine HE.out.mono ?_; rintro e w1 ⟨v1, us1, rfl, k1, k2, k3, k4⟩; have H1 := Lib.hid (ClW.start H.out.1 H.out.2.1 k1 k3 k4); clear k1 k2 k3 k4)
  go_loopw [2, 3] (fun v i wr => ∃ (k : Nat) (l : List (Pm n)), i = .int .i64 (k : Int) ∧ ClW n B g w.heap.size w R L v k 0 0 l wr ∧ k ≤ l.length) (fun _ i _ => n * n + 1 - (intOf i).toNat)
  case atStart => exact ⟨0, _, rfl, H1.out, Nat.zero_le _⟩
  case round =>
    obtain ⟨i, l, rfl, hC, hil⟩ := hrel
    have hll := hC.len
    by_cases hi : i < l.length
    · obtain ⟨la, lc, us, hve, _, _⟩ := hC.form hn1
      obtain ⟨l0, hl0⟩ : ∃ m, l.length = m := ⟨_, rfl⟩
      rw [hl0] at hve hi hil hll
      have hi1 : (i : Int) < l0 := by omega
      have HC := Lib.hid (And.intro hC hl0)
      clear hC hl0
      subst hve
      go_wp2_with fail
      go_loopw [2, 4] (fun v kv wr => ∃ (k : Nat) (l : List (Pm n)), k ≤ i + 1 ∧ kv = .int .i64 (k : Int) ∧ ClW n B g w.heap.size w R L v i k 0 l wr ∧ i < l.length) (fun _ kv _ => i + 1 - (intOf kv).toNat)
      case atStart => exact ⟨0, l, by omega, rfl, HC.out.1, by rw [HC.out.2]; exact hi⟩
      case round =>
        obtain ⟨k, l, hk, rfl, hC, hil⟩ := hrel
        clear hi1
        have hCH := Lib.hid (And.intro hC hil)
        clear hC hil
        by_cases hki : k ≤ i
        · have hki1 : (k : Int) ≤ (i : Int) := by omega
          go_wp2_with fail
          go_loopw [2, 5] (fun v mv wr => ∃ (m : Nat) (l : List (Pm n)), m ≤ 2 ∧ mv = .int .i64 (m : Int) ∧ ClW n B g w.heap.size w R L v i k m l wr ∧ i < l.length) (fun _ mv _ => 2 - (intOf mv).toNat)
          case atStart => exact ⟨0, l, by omega, rfl, hCH.out.1, hCH.out.2⟩
          case round =>
            obtain ⟨m, l, hm, rfl, hC, hil⟩ := hrel
            by_cases hm2 : m < 2
            · obtain ⟨RR, t2, us2, hT2, hC2, ho2, hp2, hRR, hob, hst2⟩ := hC.st
              clear hC
              have hkl : k < l.length := by omega
              have hll2 : l.length ≤ n * n := by rw [hC2.len]; exact entL_len t2
              obtain ⟨x, hx⟩ : ∃ x, l[i]? = some x := ⟨_, List.getElem?_eq_getElem hil⟩
              obtain ⟨y, hy⟩ : ∃ y, l[k]? = some y := ⟨_, List.getElem?_eq_getElem hkl⟩
              obtain ⟨ux, hux, hpx⟩ := hp2.2 i x hx
              obtain ⟨uy, huy, hpy⟩ := hp2.2 k y hy
              obtain ⟨va, vc, hve, hvr⟩ := ho2.row (by rw [hp2.1]; unfold maxLen; omega)
              obtain ⟨ab, ao, hae, _, hcx⟩ := hvr.2 i ux hux
              obtain ⟨ab2, ao2, hae2, _, hcy⟩ := hvr.2 k uy huy
              subst hae
              cases hae2
              obtain ⟨xb, xo, xc, rfl⟩ := hpx.form
              obtain ⟨yb, yo, yc, rfl⟩ := hpy.form
              obtain ⟨l0, hl0⟩ : ∃ m, l.length = m := ⟨_, rfl⟩
              rw [hp2.1, hl0] at hve
              have hvb : ∀ q, (Value.slice (some ⟨ab, ao, none⟩) l0 vc).ownBlock = some q → w.heap.size ≤ q := fun q hq => (ho2.block_lt (by rw [hve]; exact hq)).2
              rw [hve] at hob ho2
              have hi1 : (i : Int) < l0 := by omega
              have hk1 : (k : Int) < l0 := by omega
              obtain ⟨z, hz⟩ : ∃ z, (if m = 1 then y.mul x else x.mul y) = z := ⟨_, rfl⟩
              obtain ⟨a, ha⟩ : ∃ a, (sft (tabTw t2) n 0 z).1 = a := ⟨_, rfl⟩
              obtain ⟨r, hr⟩ : ∃ r, (sft (tabTw t2) n 0 z).2 = r := ⟨_, rfl⟩
              have hsf : sft (tabTw t2) n 0 z = (a, r) := by rw [← ha, ← hr]
              have han : a ≤ n := by rw [← ha]; exact sft_le hC2.tab.ok z
              have hM2 := hT2.mlt
              have hob1 := hob ab rfl
              have hne2 : ∀ i, i < n → RR i ≠ ab := fun i hi e => by
                have h1 := hvb ab rfl
                have h2 := H.out.2.2.2 (R i) (mem_rowsM.2 ⟨i, by omega, rfl⟩)
                rw [hRR i hi] at e; omega
              have hgab : g ≠ ab := fun e => by
                have h1 := hvb ab rfl
                have h2 := H.out.2.2.1
                omega
              have HR := Lib.hid (And.intro hRR (And.intro hob (And.intro hob1 (And.intro hne2 hgab))))
              obtain ⟨N1, hN1⟩ : ∃ m, (entL n t2).length = m := ⟨_, rfl⟩
              have HX := Lib.hid (And.intro hpx (And.intro hpy (And.intro hT2 (And.intro hC2 (And.intro ho2 (And.intro hp2 (And.intro hst2 (And.intro hx (And.intro hy (And.intro hz (And.intro hsf (And.intro hl0 (And.intro hM2 (And.intro hne2 (And.intro hN1 (And.intro hil hvb))))))))))))))))
              have hN1b : N1 ≤ 4096 := by have := entL_len (n := n) t2; omega
              have hsz0 := hst2.kept.size
              have hl0b : l0 ≤ 4096 := by omega
              clear hpx hpy hT2 hC2 ho2 hp2 hst2 hx hy hz hsf hl0 hM2 hN1 hil hRR hob hob1 hne2 hgab ha hr hux huy hvr hkl hll2 hvb
              by_cases han2 : a = n
              · have hno := Lib.hid (fun (W : World) (vz : Value) (hW : TabW n B g W RR t2) (hv : PmV W (rowsM n RR) vz z) => ins_no (c := c) (r := r) hW hv (by rw [HX.out.2.2.2.2.2.2.2.2.2.2.1, han2]))
                have HA := Lib.hid han2
                clear han2
                subst hve
                rcases (by omega : m = 0 ∨ m = 1) with rfl | rfl
                · have hm1 : ((0 : Int) == 1) = false := rfl
                  go_wp2_with fail
                  go_region_held3 (fun V => V.cell? ⟨ab, ao + i, none⟩ = some (.slice (some ⟨xb, xo, none⟩) n xc) ∧ V.cell? ⟨ab, ao + k, none⟩ = some (.slice (some ⟨yb, yo, none⟩) n yc) ∧ Below wr.heap.size wr V)
                    (first
                      | assumption
                      | exact ⟨hcx, hcy, Below.refl _ _⟩
                      | exact keep2 (by assumption) (by first | assumption | exact below_self_drewN _ _)
                      | exact keep2 ⟨hcx, hcy, Below.refl _ _⟩ (by first | assumption | exact below_self_drewN _ _))
                    (first
                      | (go_at_call 28; refine (mul49 hn1 hn.1 (HX.out.1.weak.below (by first | exact Below.refl _ _ | exact below_self_drewN _ _)) (HX.out.2.1.weak.below (by first | exact Below.refl _ _ | exact below_self_drewN _ _))).mono ?_; rintro e w5 ⟨v5, rfl, k4, k5⟩; obtain ⟨zb, zc, rfl⟩ := k4.form; have b5 : Below wr.heap.size wr w5 := below_trans (by first | exact Below.refl _ _ | exact below_self_drewN _ _) k5; have H5 := Lib.hid (And.intro (show PmV w5 (rowsM n RR) (.slice (some ⟨zb, 0, none⟩) n zc) z from by rw [← HX.out.2.2.2.2.2.2.2.2.2.1]; exact k4.pm (fun q hq => HX.out.2.2.2.2.2.2.2.2.2.2.2.2.1 q hq)) (And.intro (HX.out.2.2.1.below b5) b5)); clear k4 b5))
                  go_wp2_with (first
                    | (go_at_call 97; refine HE2.out.mono ?_; rintro e w8 ⟨ea2, ec2, rfl, k3⟩; have H8 := Lib.hid k3; clear k3)
                    | (go_at_call 97; refine (entN (c := c) H5.out.2.1 hn1).mono ?_; rintro e w6 ⟨ea, ec, rfl, k3⟩; have HI := Lib.hid (hno.out w6 _ (H5.out.2.1.below k3) (H5.out.1.below k3)); have H6 := Lib.hid k3; clear k3)
                    | (go_at_call 69; refine HI.out.mono ?_; rintro e w7 ⟨rfl, k1, k2⟩; have HE2 := Lib.hid (entN (c := c) k1 hn1); have H7 := Lib.hid (And.intro k1 k2); clear k1 k2))
                  have hstp : Stp wr (rowsM n RR) w8 (rowsM n RR) := (Stp.below H5.out.2.2).trans ((Stp.below H6.out).trans (H7.out.2.1.trans (Stp.below H8.out)))
                  have ho8 := own_round HX.out.2.2.2.2.1 (below_trans H5.out.2.2 H6.out) H7.out.2.2 H7.out.2.1.kept.size H8.out (fun b hb => by cases hb; exact HR.out.2.2.2.1)
                  have hcl : ClW n B g w.heap.size w R L (.slice (some ⟨ab, ao, none⟩) l0 vc) i k (0 + 1) l w8 := ⟨RR, t2, us2, H7.out.1.below H8.out, HX.out.2.2.2.1.have (by omega) HX.out.2.2.2.2.2.2.2.1 HX.out.2.2.2.2.2.2.2.2.1 HX.out.2.2.2.2.2.2.2.2.2.1.symm (by rw [HX.out.2.2.2.2.2.2.2.2.2.2.1, HA.out]), ho8, HX.out.2.2.2.2.2.1.stp hstp, HR.out.1, HR.out.2.1, HX.out.2.2.2.2.2.2.1.trans hstp⟩
                  exact ⟨⟨0 + 1, l, by omega, by first | rfl | go_num, hcl, HX.out.2.2.2.2.2.2.2.2.2.2.2.2.2.2.2.1⟩, by simp [intOf]⟩
                · have hm1 : ((1 : Int) == 1) = true := rfl
                  go_wp2_with fail
                  go_region_held3 (fun V => V.cell? ⟨ab, ao + i, none⟩ = some (.slice (some ⟨xb, xo, none⟩) n xc) ∧ V.cell? ⟨ab, ao + k, none⟩ = some (.slice (some ⟨yb, yo, none⟩) n yc) ∧ Below wr.heap.size wr V)
                    (first
                      | assumption
                      | exact ⟨hcx, hcy, Below.refl _ _⟩
                      | exact keep2 (by assumption) (by first | assumption | exact below_self_drewN _ _)
                      | exact keep2 ⟨hcx, hcy, Below.refl _ _⟩ (by first | assumption | exact below_self_drewN _ _))
                    (first
                      | (go_at_call 28; refine (mul49 hn1 hn.1 (HX.out.1.weak.below (by first | exact Below.refl _ _ | exact below_self_drewN _ _)) (HX.out.2.1.weak.below (by first | exact Below.refl _ _ | exact below_self_drewN _ _))).mono ?_; rintro e w5 ⟨v5, rfl, k4, k5⟩; obtain ⟨zb, zc, rfl⟩ := k4.form; have b5 : Below wr.heap.size wr w5 := below_trans (by first | exact Below.refl _ _ | exact below_self_drewN _ _) k5; have B5 := Lib.hid b5; have hcx5 := (b5.cell (p := ⟨ab, ao + i, none⟩) (block_lt_of_cell hcx)).trans hcx; have hcy5 := (b5.cell (p := ⟨ab, ao + k, none⟩) (block_lt_of_cell hcy)).trans hcy; clear k4 b5))
                  go_wp2_with fail
                  go_region_held3 (fun V => V.cell? ⟨ab, ao + k, none⟩ = some (.slice (some ⟨yb, yo, none⟩) n yc) ∧ V.cell? ⟨ab, ao + i, none⟩ = some (.slice (some ⟨xb, xo, none⟩) n xc) ∧ Below w5.heap.size w5 V)
                    (first
                      | assumption
                      | exact ⟨hcy5, hcx5, Below.refl _ _⟩
                      | exact keep2 (by assumption) (by first | assumption | exact below_self_drewN _ _)
                      | exact keep2 ⟨hcy5, hcx5, Below.refl _ _⟩ (by first | assumption | exact below_self_drewN _ _))
                    (first
                      | (go_at_call 28; refine (mul49 hn1 hn.1 (HX.out.2.1.weak.below (below_trans B5.out (by first | exact Below.refl _ _ | exact below_self_drewN _ _))) (HX.out.1.weak.below (below_trans B5.out (by first | exact Below.refl _ _ | exact below_self_drewN _ _)))).mono ?_; rintro e w5b ⟨v5b, rfl, k4, k5⟩; obtain ⟨zb2, zc2, rfl⟩ := k4.form; have b5 : Below wr.heap.size wr w5b := below_trans (below_trans B5.out (by first | exact Below.refl _ _ | exact below_self_drewN _ _)) k5; have H5 := Lib.hid (And.intro (show PmV w5b (rowsM n RR) (.slice (some ⟨zb2, 0, none⟩) n zc2) z from by rw [← HX.out.2.2.2.2.2.2.2.2.2.1]; exact k4.pm (fun q hq => Nat.lt_of_lt_of_le (HX.out.2.2.2.2.2.2.2.2.2.2.2.2.1 q hq) (by have h5 := B5.out.size; first | exact h5 | omega))) (And.intro (HX.out.2.2.1.below b5) b5)); clear k4 b5))
                  go_wp2_with (first
                    | (go_at_call 97; refine HE2.out.mono ?_; rintro e w8 ⟨ea2, ec2, rfl, k3⟩; have H8 := Lib.hid k3; clear k3)
                    | (go_at_call 97; refine (entN (c := c) H5.out.2.1 hn1).mono ?_; rintro e w6 ⟨ea, ec, rfl, k3⟩; have HI := Lib.hid (hno.out w6 _ (H5.out.2.1.below k3) (H5.out.1.below k3)); have H6 := Lib.hid k3; clear k3)
                    | (go_at_call 69; refine HI.out.mono ?_; rintro e w7 ⟨rfl, k1, k2⟩; have HE2 := Lib.hid (entN (c := c) k1 hn1); have H7 := Lib.hid (And.intro k1 k2); clear k1 k2))
                  have hstp : Stp wr (rowsM n RR) w8 (rowsM n RR) := (Stp.below H5.out.2.2).trans ((Stp.below H6.out).trans (H7.out.2.1.trans (Stp.below H8.out)))
                  have ho8 := own_round HX.out.2.2.2.2.1 (below_trans H5.out.2.2 H6.out) H7.out.2.2 H7.out.2.1.kept.size H8.out (fun b hb => by cases hb; exact HR.out.2.2.2.1)
                  have hcl : ClW n B g w.heap.size w R L (.slice (some ⟨ab, ao, none⟩) l0 vc) i k (1 + 1) l w8 := ⟨RR, t2, us2, H7.out.1.below H8.out, HX.out.2.2.2.1.have (by omega) HX.out.2.2.2.2.2.2.2.1 HX.out.2.2.2.2.2.2.2.2.1 HX.out.2.2.2.2.2.2.2.2.2.1.symm (by rw [HX.out.2.2.2.2.2.2.2.2.2.2.1, HA.out]), ho8, HX.out.2.2.2.2.2.1.stp hstp, HR.out.1, HR.out.2.1, HX.out.2.2.2.2.2.2.1.trans hstp⟩
                  exact ⟨⟨1 + 1, l, by omega, by first | rfl | go_num, hcl, HX.out.2.2.2.2.2.2.2.2.2.2.2.2.2.2.2.1⟩, by simp [intOf]⟩
              · have hyes := Lib.hid (fun (W : World) (vz : Value) (hW : TabW n B g W RR t2) (hv : PmV W (rowsM n RR) vz z) => ins_yes (c := c) (a := a) (r := r) hW hv HX.out.2.2.2.2.2.2.2.2.2.2.1 (by omega))
                have hmore := (tab_set HX.out.2.2.2.1.tab.ok (x := z) (r := r) (a := a) HX.out.2.2.2.2.2.2.2.2.2.2.1 (by omega)).2.2.2.2.1
                have hadd := (HX.out.2.2.2.1.add hm2 HX.out.2.2.2.2.2.2.2.1 HX.out.2.2.2.2.2.2.2.2.1 HX.out.2.2.2.2.2.2.2.2.2.1.symm HX.out.2.2.2.2.2.2.2.2.2.2.1 (by omega)).len
                rw [List.length_append] at hadd
                have hln := HX.out.2.2.2.1.len
                have he3 := entL_len (n := n) (setE t2 a (r.at a) r)
                have hFpos := Lib.hid (show 0 < (freshL (entL n (setE t2 a (r.at a) r)) l).length from by unfold freshL; omega)
                have hFle := Lib.hid (show (freshL (entL n (setE t2 a (r.at a) r)) l).length ≤ 4096 from by unfold freshL; omega)
                clear hadd hln
                subst hve
                rcases (by omega : m = 0 ∨ m = 1) with rfl | rfl
                · have hm1 : ((0 : Int) == 1) = false := rfl
                  go_wp2_with fail
                  go_region_held3 (fun V => V.cell? ⟨ab, ao + i, none⟩ = some (.slice (some ⟨xb, xo, none⟩) n xc) ∧ V.cell? ⟨ab, ao + k, none⟩ = some (.slice (some ⟨yb, yo, none⟩) n yc) ∧ Below wr.heap.size wr V)
                    (first
                      | assumption
                      | exact ⟨hcx, hcy, Below.refl _ _⟩
                      | exact keep2 (by assumption) (by first | assumption | exact below_self_drewN _ _)
                      | exact keep2 ⟨hcx, hcy, Below.refl _ _⟩ (by first | assumption | exact below_self_drewN _ _))
                    (first
                      | (go_at_call 28; refine (mul49 hn1 hn.1 (HX.out.1.weak.below (by first | exact Below.refl _ _ | exact below_self_drewN _ _)) (HX.out.2.1.weak.below (by first | exact Below.refl _ _ | exact below_self_drewN _ _))).mono ?_; rintro e w5 ⟨v5, rfl, k4, k5⟩; obtain ⟨zb, zc, rfl⟩ := k4.form; have b5 : Below wr.heap.size wr w5 := below_trans (by first | exact Below.refl _ _ | exact below_self_drewN _ _) k5; have H5 := Lib.hid (And.intro (show PmV w5 (rowsM n RR) (.slice (some ⟨zb, 0, none⟩) n zc) z from by rw [← HX.out.2.2.2.2.2.2.2.2.2.1]; exact k4.pm (fun q hq => HX.out.2.2.2.2.2.2.2.2.2.2.2.2.1 q hq)) (And.intro (HX.out.2.2.1.below b5) b5)); clear k4 b5))
                  go_wp2_with (first
                    | (go_at_call 97; refine HE2.out.mono ?_; rintro e w8 ⟨ea2, ec2, rfl, k3⟩; have HS8 := Lib.hid (new_round H5.out.2.2 H6.out H7.out.2.1 H7.out.2.2 k3 HX.out.2.2.2.2.1 HX.out.2.2.2.2.2.1 (fun b hb => by cases hb; rfl) HR.out.2.2.2.1); have HF := Lib.hid (fresh153 (c := c) (H7.out.1.below k3) (pms_own HS8.out.1 HS8.out.2.1 (by rw [HX.out.2.2.2.2.2.2.2.2.2.2.2.1]; omega)) (by rw [HX.out.2.2.2.2.2.2.2.2.2.2.2.1]; omega)); have HT8 := Lib.hid (H7.out.1.below k3); have H8 := Lib.hid k3; have hgt : (N1 : Int) < ((entL n (setE t2 a (r.at a) r)).length : Int) := (by have h3 := HX.out.2.2.2.2.2.2.2.2.2.2.2.2.2.2.1; omega); clear k3)
                    | (go_at_call 97; refine (entN (c := c) H5.out.2.1 hn1).mono ?_; rintro e w6 ⟨ea, ec, rfl, k3⟩; have HI := Lib.hid (hyes.out w6 _ (H5.out.2.1.below k3) (H5.out.1.below k3)); have H6 := Lib.hid k3; clear k3)
                    | (go_at_call 69; refine HI.out.mono ?_; rintro e w7 ⟨rfl, k1, k2⟩; have HE2 := Lib.hid (entN (c := c) k1 hn1); have H7 := Lib.hid (And.intro k1 k2); clear k1 k2)
                    | (go_at_call 98; refine HF.out.mono ?_; rintro e w9 ⟨v9, us9, rfl, k1, k2, k3⟩; obtain ⟨fb, fo, fc, fm, rfl, hfm, hsrc⟩ := own_addr k1 (by rw [k2.1]; exact hFpos.out) (by rw [k2.1]; exact hFle.out); have H9 := Lib.hid (And.intro k2 (And.intro k3 (And.intro hfm hsrc))); have hfm4 : fm ≤ 4096 := (by rw [← hfm, k2.1]; exact hFle.out); have ho9 := Lib.hid (HS8.out.1.move fun q hq => k3.block q (HS8.out.1.block_lt hq).1); have hD9 : w.heap.size ≤ w9.heap.size := (by have h1 := HX.out.2.2.2.2.2.2.1.kept.size; have h2 := HS8.out.2.2.kept.size; have h3 := k3.size; omega); clear k1 k2 k3 hfm hsrc)
                    | (at_builtin; refine appN rfl (.tmp 56) (.tmp 59) 28 41 rfl i27 (.slice none 0 0) 24 Tryz.underlying28 I27.out.1 I27.out.2.1 I27.out.2.2.1 I27.out.2.2.2 rfl (by omega) w.heap.size _ us2 us9 rfl ho9.out fb fo fm fc rfl H9.out.2.2.1 H9.out.2.2.2 H9.out.1.one_ (by rw [HX.out.2.2.2.2.2.1.1, HX.out.2.2.2.2.2.2.2.2.2.2.2.1]; omega) hD9 ?_; intro v10 w10 k1 k2 k3; have H10 := Lib.hid (And.intro k1 (And.intro k2 k3)); clear k1 k2 k3))
                  have hst9 : Stp wr (rowsM n RR) w9 (rowsM n RR) := HS8.out.2.2.trans (Stp.below H9.out.2.1)
                  have hcl : ClW n B g w.heap.size w R L v10 i k (0 + 1) (l ++ freshL (entL n (setE t2 a (r.at a) r)) l) w10 := ClW.app (HT8.out.below H9.out.2.1) (HX.out.2.2.2.1.add (by omega) HX.out.2.2.2.2.2.2.2.1 HX.out.2.2.2.2.2.2.2.2.1 HX.out.2.2.2.2.2.2.2.2.2.1.symm HX.out.2.2.2.2.2.2.2.2.2.2.1 (by omega)) H10.out.1 (PmL.app (HX.out.2.2.2.2.2.1.stp hst9) H9.out.1) HR.out.1 HR.out.2.2.1 HR.out.2.2.2.1 HR.out.2.2.2.2 (HX.out.2.2.2.2.2.2.1.trans hst9) H10.out.2.1 H10.out.2.2
                  exact ⟨⟨0 + 1, l ++ freshL (entL n (setE t2 a (r.at a) r)) l, by omega, by first | rfl | go_num, hcl, by rw [List.length_append]; have := HX.out.2.2.2.2.2.2.2.2.2.2.2.2.2.2.2.1; omega⟩, by simp [intOf]⟩
                · have hm1 : ((1 : Int) == 1) = true := rfl
                  go_wp2_with fail
                  go_region_held3 (fun V => V.cell? ⟨ab, ao + i, none⟩ = some (.slice (some ⟨xb, xo, none⟩) n xc) ∧ V.cell? ⟨ab, ao + k, none⟩ = some (.slice (some ⟨yb, yo, none⟩) n yc) ∧ Below wr.heap.size wr V)
                    (first
                      | assumption
                      | exact ⟨hcx, hcy, Below.refl _ _⟩
                      | exact keep2 (by assumption) (by first | assumption | exact below_self_drewN _ _)
                      | exact keep2 ⟨hcx, hcy, Below.refl _ _⟩ (by first | assumption | exact below_self_drewN _ _))
                    (first
                      | (go_at_call 28; refine (mul49 hn1 hn.1 (HX.out.1.weak.below (by first | exact Below.refl _ _ | exact below_self_drewN _ _)) (HX.out.2.1.weak.below (by first | exact Below.refl _ _ | exact below_self_drewN _ _))).mono ?_; rintro e w5 ⟨v5, rfl, k4, k5⟩; obtain ⟨zb, zc, rfl⟩ := k4.form; have b5 : Below wr.heap.size wr w5 := below_trans (by first | exact Below.refl _ _ | exact below_self_drewN _ _) k5; have B5 := Lib.hid b5; have hcx5 := (b5.cell (p := ⟨ab, ao + i, none⟩) (block_lt_of_cell hcx)).trans hcx; have hcy5 := (b5.cell (p := ⟨ab, ao + k, none⟩) (block_lt_of_cell hcy)).trans hcy; clear k4 b5))
                  go_wp2_with fail
                  go_region_held3 (fun V => V.cell? ⟨ab, ao + k, none⟩ = some (.slice (some ⟨yb, yo, none⟩) n yc) ∧ V.cell? ⟨ab, ao + i, none⟩ = some (.slice (some ⟨xb, xo, none⟩) n xc) ∧ Below w5.heap.size w5 V)
                    (first
                      | assumption
                      | exact ⟨hcy5, hcx5, Below.refl _ _⟩
                      | exact keep2 (by assumption) (by first | assumption | exact below_self_drewN _ _)
                      | exact keep2 ⟨hcy5, hcx5, Below.refl _ _⟩ (by first | assumption | exact below_self_drewN _ _))
                    (first
                      | (go_at_call 28; refine (mul49 hn1 hn.1 (HX.out.2.1.weak.below (below_trans B5.out (by first | exact Below.refl _ _ | exact below_self_drewN _ _))) (HX.out.1.weak.below (below_trans B5.out (by first | exact Below.refl _ _ | exact below_self_drewN _ _)))).mono ?_; rintro e w5b ⟨v5b, rfl, k4, k5⟩; obtain ⟨zb2, zc2, rfl⟩ := k4.form; have b5 : Below wr.heap.size wr w5b := below_trans (below_trans B5.out (by first | exact Below.refl _ _ | exact below_self_drewN _ _)) k5; have H5 := Lib.hid (And.intro (show PmV w5b (rowsM n RR) (.slice (some ⟨zb2, 0, none⟩) n zc2) z from by rw [← HX.out.2.2.2.2.2.2.2.2.2.1]; exact k4.pm (fun q hq => Nat.lt_of_lt_of_le (HX.out.2.2.2.2.2.2.2.2.2.2.2.2.1 q hq) (by have h5 := B5.out.size; first | exact h5 | omega))) (And.intro (HX.out.2.2.1.below b5) b5)); clear k4 b5))
                  go_wp2_with (first
                    | (go_at_call 97; refine HE2.out.mono ?_; rintro e w8 ⟨ea2, ec2, rfl, k3⟩; have HS8 := Lib.hid (new_round H5.out.2.2 H6.out H7.out.2.1 H7.out.2.2 k3 HX.out.2.2.2.2.1 HX.out.2.2.2.2.2.1 (fun b hb => by cases hb; rfl) HR.out.2.2.2.1); have HF := Lib.hid (fresh153 (c := c) (H7.out.1.below k3) (pms_own HS8.out.1 HS8.out.2.1 (by rw [HX.out.2.2.2.2.2.2.2.2.2.2.2.1]; omega)) (by rw [HX.out.2.2.2.2.2.2.2.2.2.2.2.1]; omega)); have HT8 := Lib.hid (H7.out.1.below k3); have H8 := Lib.hid k3; have hgt : (N1 : Int) < ((entL n (setE t2 a (r.at a) r)).length : Int) := (by have h3 := HX.out.2.2.2.2.2.2.2.2.2.2.2.2.2.2.1; omega); clear k3)
                    | (go_at_call 97; refine (entN (c := c) H5.out.2.1 hn1).mono ?_; rintro e w6 ⟨ea, ec, rfl, k3⟩; have HI := Lib.hid (hyes.out w6 _ (H5.out.2.1.below k3) (H5.out.1.below k3)); have H6 := Lib.hid k3; clear k3)
                    | (go_at_call 69; refine HI.out.mono ?_; rintro e w7 ⟨rfl, k1, k2⟩; have HE2 := Lib.hid (entN (c := c) k1 hn1); have H7 := Lib.hid (And.intro k1 k2); clear k1 k2)
                    | (go_at_call 98; refine HF.out.mono ?_; rintro e w9 ⟨v9, us9, rfl, k1, k2, k3⟩; obtain ⟨fb, fo, fc, fm, rfl, hfm, hsrc⟩ := own_addr k1 (by rw [k2.1]; exact hFpos.out) (by rw [k2.1]; exact hFle.out); have H9 := Lib.hid (And.intro k2 (And.intro k3 (And.intro hfm hsrc))); have hfm4 : fm ≤ 4096 := (by rw [← hfm, k2.1]; exact hFle.out); have ho9 := Lib.hid (HS8.out.1.move fun q hq => k3.block q (HS8.out.1.block_lt hq).1); have hD9 : w.heap.size ≤ w9.heap.size := (by have h1 := HX.out.2.2.2.2.2.2.1.kept.size; have h2 := HS8.out.2.2.kept.size; have h3 := k3.size; omega); clear k1 k2 k3 hfm hsrc)
                    | (at_builtin; refine appN rfl (.tmp 56) (.tmp 59) 28 41 rfl i27 (.slice none 0 0) 24 Tryz.underlying28 I27.out.1 I27.out.2.1 I27.out.2.2.1 I27.out.2.2.2 rfl (by omega) w.heap.size _ us2 us9 rfl ho9.out fb fo fm fc rfl H9.out.2.2.1 H9.out.2.2.2 H9.out.1.one_ (by rw [HX.out.2.2.2.2.2.1.1, HX.out.2.2.2.2.2.2.2.2.2.2.2.1]; omega) hD9 ?_; intro v10 w10 k1 k2 k3; have H10 := Lib.hid (And.intro k1 (And.intro k2 k3)); clear k1 k2 k3))
                  have hst9 : Stp wr (rowsM n RR) w9 (rowsM n RR) := HS8.out.2.2.trans (Stp.below H9.out.2.1)
                  have hcl : ClW n B g w.heap.size w R L v10 i k (1 + 1) (l ++ freshL (entL n (setE t2 a (r.at a) r)) l) w10 := ClW.app (HT8.out.below H9.out.2.1) (HX.out.2.2.2.1.add (by omega) HX.out.2.2.2.2.2.2.2.1 HX.out.2.2.2.2.2.2.2.2.1 HX.out.2.2.2.2.2.2.2.2.2.1.symm HX.out.2.2.2.2.2.2.2.2.2.2.1 (by omega)) H10.out.1 (PmL.app (HX.out.2.2.2.2.2.1.stp hst9) H9.out.1) HR.out.1 HR.out.2.2.1 HR.out.2.2.2.1 HR.out.2.2.2.2 (HX.out.2.2.2.2.2.2.1.trans hst9) H10.out.2.1 H10.out.2.2
                  exact ⟨⟨1 + 1, l ++ freshL (entL n (setE t2 a (r.at a) r)) l, by omega, by first | rfl | go_num, hcl, by rw [List.length_append]; have := HX.out.2.2.2.2.2.2.2.2.2.2.2.2.2.2.2.1; omega⟩, by simp [intOf]⟩
            · obtain rfl : m = 2 := by omega
              have HC2 := Lib.hid (And.intro hC hil)
              clear hC hil
              go_wp2_with fail
              obtain ⟨R', t2, us2, c1, c2, c3, c4, c5⟩ := HC2.out.1.st
              exact ⟨⟨k + 1, l, by omega, by go_num, ⟨R', t2, us2, c1, c2.next, c3, c4, c5⟩, HC2.out.2⟩, by simp [intOf]; omega⟩
        · have hki1 : ¬ (k : Int) ≤ (i : Int) := by omega
          obtain rfl : k = i + 1 := by omega
          go_wp2_with fail
          obtain ⟨R', t2, us2, c1, c2, c3, c4, c5⟩ := hCH.out.1.st
          have := hCH.out.2
          exact ⟨⟨i + 1, l, by go_num, ⟨R', t2, us2, c1, c2.row, c3, c4, c5⟩, by omega⟩, by simp [intOf]; omega⟩
    · obtain ⟨la, lc, us, hve, _, _⟩ := hC.form hn1
      have hi1 : ¬ (i : Int) < l.length := by omega
      have HC := Lib.hid hC
      clear hC
      subst hve
      go_wp2_with fail
      go_end0
      obtain ⟨R', t2, us2, c1, c2, c3, c4, c5, _, c7⟩ := HC.out.st
      exact ⟨rfl, R', t2, c1, c2.finish (by omega), c2.tab.ok, c5, c7⟩
end Go.Proofs.YtbejhkojdiadaaaGreatDoor
namespace Go.Proofs.YtbejhkojdiadaaaGreatDoor
open Go.RowKit PlainPm
def orbR {n : Nat} (t : Nat → Nat → Option (Pm n)) (k m : Nat) : List Nat := (List.range m).filter fun q => decide (k ≤ q) && (decide (q = k) || (t k q).isSome)
theorem orbR_snoc {n : Nat} {t : Nat → Nat → Option (Pm n)} {k m : Nat} (h : k ≤ m) : orbR t k (m + 1) = orbR t k m ++ (if m = k ∨ (t k m).isSome = true then [m] else []) := by
  unfold orbR
  rw [List.range_succ, List.filter_append]
  congr 1
  by_cases e : m = k ∨ (t k m).isSome = true
  · rw [if_pos e, List.filter_cons_of_pos (by simpa [h] using e)]; rfl
  · rw [if_neg e, List.filter_cons_of_neg (by simpa [h] using e)]; rfl
theorem orbR_len {n : Nat} (t : Nat → Nat → Option (Pm n)) (k m : Nat) : (orbR t k m).length ≤ m := by
  have := List.length_filter_le (fun q => decide (k ≤ q) && (decide (q = k) || (t k q).isSome)) (List.range m)
  rw [List.length_range] at this; exact this
theorem orbR_start {n : Nat} (t : Nat → Nat → Option (Pm n)) (k : Nat) : orbR t k k = [] := by
  unfold orbR
  rw [List.filter_eq_nil_iff]
  intro q hq h
  have := List.mem_range.1 hq
  simp at h; omega
theorem orbR_pts {n : Nat} {t : Nat → Nat → Option (Pm n)} (h : TabOk t) {i : Nat} : ptsOf n (tabTw t i).orb = orbR t i n := by
  unfold ptsOf orbR tabTw
  apply List.filter_congr
  intro q hq
  have hqn := List.mem_range.1 hq
  have key : (t i q).isSome = true → i ≤ q := fun hs => by
    obtain ⟨y, hy⟩ := Option.isSome_iff_exists.1 hs
    obtain ⟨h1, h2, h3, h4, h5⟩ := h.ok i q y hy
    by_cases hlt : q < i
    · have := h5 q hlt
      exact absurd (y.inj h1 (by omega) (h4.trans this.symm)) (by omega)
    · omega
  by_cases hq2 : q = i
  · subst hq2; simp [hqn]
  · by_cases hs : (t i q).isSome = true
    · have := key hs; simp [hqn, hs, hq2, this]
    · simp [hqn, hs, hq2]
set_option maxRecDepth 100000 in
set_option maxHeartbeats 2000000 in
theorem orbit154 {n B g c k : Nat} {w : World} {R : Nat → Nat} {t : Nat → Nat → Option (Pm n)} (hT : TabW n B g w R t) (hk : k < n) :
    Calls Tryz.prog 99 #[.slice (some ⟨g, 0, none⟩) n c, .int .i64 (k : Int)] w fun e w' => ∃ v, e = .returned v ∧ Own w' w.heap.size v 3 (ints (nts (orbR t k n))) ∧ Below w.heap.size w w' := by
  obtain ⟨i3, hi3, hz3, hs3, hb3⟩ := info_parts Tryz.info3
  have I3 := Lib.hid (And.intro hi3 (And.intro hz3 (And.intro hs3 hb3)))
  clear hi3 hz3 hs3 hb3
  have hn := hT.hn
  have H := Lib.hid hT
  clear hT
  have hn1 := hn.2
  go_enter Tryz.func99, Tryz.ntmps99
  go_wp2_with fail
  go_loopw [5, 6] (fun v i wr => ∃ (q : Nat) (us : List Value), k ≤ q ∧ q ≤ n ∧ i = .int .i64 (q : Int) ∧ Own wr w.heap.size v 3 us ∧ us = ints (nts (orbR t k q)) ∧ Below w.heap.size w wr) (fun _ i _ => n - (intOf i).toNat)
  case atStart => exact ⟨k, [], by omega, by omega, rfl, Own.nil _ _ _, by rw [orbR_start]; rfl, Below.refl _ _⟩
  case round =>
    obtain ⟨q, us, hkq, hq, rfl, ho, hu, hb⟩ := hrel
    have hsz := hb.size
    have hul : us.length < 1099511627776 := by
      have h1 := orbR_len t k q
      rw [hu, ints_len]; simp only [nts, List.length_map]; omega
    by_cases hqn : q < n
    · have hT' := H.out.below hb
      have tp := hT'.top k hk
      obtain ⟨u, hu0, _, hov⟩ := H.out.at_ hk hqn
      have hu1 := (hb.cell (block_lt_of_cell hu0)).trans hu0
      have HQ := Lib.hid (And.intro ho (And.intro hu hb))
      have hq1 : (q : Int) < n := by omega
      have hk1 : (k : Int) < n := by omega
      clear ho hu hb hT' hu0
      by_cases e : q = k
      · have he : ((q : Int) == (k : Int)) = true := by simp [e]
        have Hs := Lib.hid (show q = k ∨ (t k q).isSome = true from .inl e)
        clear hov e
        go_wp2_with (at_builtin; refine app1 rfl (.tmp 27) (.tmp 29) 40 3 rfl i3 (.int .i64 0) 8 Tryz.underlying40 I3.out.1 I3.out.2.1 I3.out.2.2.1 I3.out.2.2.2 rfl (by omega) w.heap.size (.int .i64 (q : Int)) u5 us rfl HQ.out.1 rfl rfl hul hsz ?_; intro v8 w8 k1 k2 k3; have H8 := Lib.hid (And.intro k1 (And.intro k2 k3)); clear k1 k2 k3)
        have hb8 := HQ.out.2.2.grown H8.out.2.1 hsz (fun g hg => (HQ.out.1.block_lt hg).2)
        refine ⟨⟨q + 1, us ++ [.int .i64 (q : Int)], by omega, by omega, by go_num, H8.out.1, ?_, hb8⟩, by simp [intOf]; omega⟩
        rw [orbR_snoc hkq, if_pos Hs.out, HQ.out.2.1]; simp [ints, nts]
      · have he : ((q : Int) == (k : Int)) = false := by simp; omega
        cases hto : t k q with
        | none =>
          rw [hto] at hov
          have hun : u = .slice none 0 0 := hov
          subst hun
          have hnil : ∀ W, (binOp .neq 41 (.slice none 0 0) (.slice none 0 0)).run Tryz.prog W = .ok (.bool false) W := fun W => neq_nil27 W none 0 0
          have Hs := Lib.hid (show ¬ (q = k ∨ (t k q).isSome = true) from by rw [hto]; simp; exact e)
          clear hov hto e
          go_wp2_with fail
          exact ⟨⟨q + 1, us, by omega, by omega, by go_num, HQ.out.1, by rw [orbR_snoc hkq, if_neg Hs.out, List.append_nil]; exact HQ.out.2.1, HQ.out.2.2⟩, by simp [intOf]; omega⟩
        | some y =>
          rw [hto] at hov
          have hov : PmV w (rowsM n R) u y := hov
          obtain ⟨ub, uo, uc, rfl⟩ := hov.form
          have hnil : ∀ W, (binOp .neq 41 (.slice (some ⟨ub, uo, none⟩) n uc) (.slice none 0 0)).run Tryz.prog W = .ok (.bool true) W := fun W => neq_nil27 W _ _ _
          have Hs := Lib.hid (show q = k ∨ (t k q).isSome = true from by rw [hto]; simp)
          clear hov hto e
          go_wp2_with (at_builtin; refine app1 rfl (.tmp 27) (.tmp 29) 40 3 rfl i3 (.int .i64 0) 8 Tryz.underlying40 I3.out.1 I3.out.2.1 I3.out.2.2.1 I3.out.2.2.2 rfl (by omega) w.heap.size (.int .i64 (q : Int)) u5 us rfl HQ.out.1 rfl rfl hul hsz ?_; intro v8 w8 k1 k2 k3; have H8 := Lib.hid (And.intro k1 (And.intro k2 k3)); clear k1 k2 k3)
          have hb8 := HQ.out.2.2.grown H8.out.2.1 hsz (fun g hg => (HQ.out.1.block_lt hg).2)
          refine ⟨⟨q + 1, us ++ [.int .i64 (q : Int)], by omega, by omega, by go_num, H8.out.1, ?_, hb8⟩, by simp [intOf]; omega⟩
          rw [orbR_snoc hkq, if_pos Hs.out, HQ.out.2.1]; simp [ints, nts]
    · obtain rfl : q = n := by omega
      have HQ := Lib.hid (And.intro ho (And.intro hu hb))
      clear ho hu hb
      go_wp2_with fail
      go_ret
      exact ⟨_, rfl, by rw [← HQ.out.2.1]; exact HQ.out.1, HQ.out.2.2⟩
end Go.Proofs.YtbejhkojdiadaaaGreatDoor
namespace Go.Proofs.YtbejhkojdiadaaaGreatDoor
open Go.RowKit PlainPm
theorem orb_eq {n : Nat} {t : Nat → Nat → Option (Pm n)} (h : TabOk t) {i : Nat} : (tabTw t i).orb = orbR t i n := by
  rw [← orbR_pts h]
  unfold ptsOf tabTw
  apply List.filter_congr
  intro q hq
  have hqn := List.mem_range.1 hq
  simp [hqn]
set_option maxRecDepth 100000 in
set_option maxHeartbeats 1000000 in
theorem own115 {n c : Nat} {ad : Addr} {w : World} {xs : List Int} (hA : Ints w (some ad) xs) (hl : xs.length = n) (hn : n ≤ 64) :
    Calls Tryz.prog 58 #[.slice (some ad) n c] w fun e w' => ∃ v, e = .returned v ∧ Own w' w.heap.size v 3 (ints xs) ∧ Below w.heap.size w w' := by
  obtain ⟨i3, hi3, hz3, hs3, hb3⟩ := info_parts Tryz.info3
  have I3 := Lib.hid (And.intro hi3 (And.intro hz3 (And.intro hs3 hb3)))
  clear hi3 hz3 hs3 hb3
  have Hn := Lib.hid hl
  clear hl
  have hem := Own.new (w := w) (B := w.heap.size) 3 [] (Nat.le_refl _) (Nat.zero_le _)
  have hb : Below w.heap.size w (w.alloc (.cells #[] 3)) := (Below.refl _ _).alloc (Nat.le_refl _) _
  have H := Lib.hid (And.intro hem (And.intro hb (hA.below hb)))
  clear hem hb
  go_enter Tryz.func58, Tryz.ntmps58
  go_wp2_with (at_builtin; refine appA rfl (.tmp 3) (.tmp 4) 40 3 rfl i3 (.int .i64 0) 8 Tryz.underlying40 I3.out.1 I3.out.2.1 I3.out.2.2.1 I3.out.2.2.2 rfl (by omega) w.heap.size (.slice (some ⟨w.heap.size, 0, none⟩) 0 0) [] (ints xs) rfl H.out.1 ad n c rfl (by rw [ints_len, Hn.out]) H.out.2.2.src (ints_one xs) (by simp; omega) H.out.2.1.size ?_; intro v' w' h2 h3; have H9 := Lib.hid (And.intro h2 h3); clear h2 h3)
  go_ret
  exact ⟨_, rfl, H9.out.1, H.out.2.1.grown H9.out.2 H.out.2.1.size (fun k hk => by cases hk; exact Nat.le_refl _)⟩
set_option maxRecDepth 100000 in
set_option maxHeartbeats 4000000 in
theorem least155 {n B g c i p : Nat} {w : World} {R : Nat → Nat} {t : Nat → Nat → Option (Pm n)} (hT : TabW n B g w R t) (hok : TabOk t) (hi : i < n) (hp : p < n) (hpo : p = i ∨ (t i p).isSome = true) :
    Calls Tryz.prog 100 #[.slice (some ⟨g, 0, none⟩) n c, .int .i64 (i : Int), .int .i64 (p : Int)] w fun e w' => ∃ v, e = .returned v ∧ Own w' w.heap.size v 3 (ints (repT (tabTw t) i p).l) ∧ Below w.heap.size w w' := by
  have hn := hT.hn
  have hn1 := hn.2
  have hw := tab_wf hok
  have hT1 := hT.mlt
  have tp := hT.top i hi
  obtain ⟨u, hu, _, hov⟩ := hT.at_ hi hp
  have H := Lib.hid (And.intro hT (And.intro hok (And.intro hw hT1)))
  obtain ⟨x0, hx0⟩ : ∃ x, ((tabTw t i).to p).getD (PlainPm.one n) = x := ⟨_, rfl⟩
  have hrep : repT (tabTw t) i p = leastT (tabTw t) (n - (i + 1)) (i + 1) x0 := by rw [← hx0]; rfl
  have HR := Lib.hid hrep
  clear hT hok hw hT1 hrep
  have hi1 : (i : Int) < n := by omega
  have hp1 : (p : Int) < n := by omega
  by_cases hpi : p = i
  · have hne : ((p : Int) != (i : Int)) = false := by simp [hpi]
    have hx1 : x0 = PlainPm.one n := by
      rw [← hx0, hpi]; show (if i = i then some (PlainPm.one n) else t i i).getD (PlainPm.one n) = PlainPm.one n; rw [if_pos rfl]; rfl
    have HX0 := Lib.hid hx1
    clear hx1 hx0 hpi hov hpo
    go_enter Tryz.func100, Tryz.ntmps100
    go_wp2_with (go_at_call 26; refine (one65 hn1 hn.1).mono ?_; rintro e w1 ⟨v1, rfl, k1, k2⟩; have H1 := Lib.hid (And.intro k1 k2); clear k1 k2)
    go_loopw [7, 8] (fun v i' wr => ∃ (k : Nat) (x' : Pm n), i + 1 ≤ k ∧ k ≤ n ∧ i' = .int .i64 (k : Int) ∧ PmV wr (rowsM n R) v x' ∧ Below w.heap.size w wr ∧ leastT (tabTw t) (n - (i + 1)) (i + 1) x0 = leastT (tabTw t) (n - k) k x') (fun _ i' _ => n - (intOf i').toNat)
    case atStart => exact ⟨i + 1, x0, by omega, hi, by go_num, by rw [HX0.out]; exact H1.out.1.pm H.out.2.2.2, H1.out.2, rfl⟩
    case round =>
      obtain ⟨k, x', hik, hk, rfl, hx', hb, hs⟩ := hrel
      obtain ⟨bx, ox, cx, rfl, hxm, hxl, hxc⟩ := id hx'
      by_cases hkn : k < n
      · have HP := Lib.hid (And.intro (H.out.1.below hb) (And.intro hx' (And.intro hb hs)))
        clear hx' hb hs hxc hxl hxm
        have hk1 : (k : Int) < n := by omega
        have HO := Lib.hid (orbit154 (c := c) HP.out.1 hkn)
        go_wp2_with (go_at_call 99; refine HO.out.mono ?_; rintro e w4 ⟨v4, rfl, k1, k2⟩; obtain ⟨oa, oc, rfl, hor⟩ := k1.row (by rw [ints_len, nts_len]; have := orbR_len t k n; unfold maxLen; omega); rw [ints_len, nts_len]; have H4 := Lib.hid (And.intro k2 (show Ints w4 oa (nts (orbR t k n)) from hor)); clear k1 k2 hor)
        obtain ⟨L, hL⟩ : ∃ L, (orbR t k n).length = L := ⟨_, rfl⟩
        have hol : L ≤ n := by rw [← hL]; exact orbR_len t k n
        have HL := Lib.hid hL
        rw [hL]
        clear hL
        have hT4 := HP.out.1.below H4.out.1
        have tp4 := hT4.top k hkn
        have HT4 := Lib.hid hT4
        have hx4 := HP.out.2.1.below H4.out.1
        obtain ⟨bx', ox', cx', he4, _, _, hxc⟩ := id hx4
        cases he4
        have HX4 := Lib.hid (And.intro hx4 hxc)
        clear hT4 hx4 hxc
        go_wp2_with fail
        go_loopw [10, 11] (fun b j wi => ∃ (bb jj q : Nat), jj ≤ L ∧ j = .int .i64 (jj : Int) ∧ b = .int .i64 (bb : Int) ∧ bb < n ∧ bb = best x' ((orbR t k n).take jj) k ∧ wi = w4.drewN q) (fun _ j _ => L - (intOf j).toNat)
        case atStart => exact ⟨k, 0, 0, by omega, rfl, rfl, hkn, by rw [List.take_zero]; rfl, rfl⟩
        case round =>
          obtain ⟨bb, jj, qq, hjj, rfl, rfl, hbn, hbb, rfl⟩ := hrel
          have HB := Lib.hid hbb
          clear hbb
          by_cases hjl : jj < L
          · obtain ⟨z, hz⟩ : ∃ z, (orbR t k n)[jj]? = some z := ⟨_, List.getElem?_eq_getElem (by rw [HL.out]; exact hjl)⟩
            have hzn : z < n := by
              have h1 := List.mem_of_getElem? hz
              unfold orbR at h1
              exact List.mem_range.1 (List.mem_filter.1 h1).1
            obtain ⟨ob, oo, hoa, _, oce⟩ := H4.out.2.at_ (k := jj) (by rw [nts_len, HL.out]; exact hjl)
            subst hoa
            rw [nts_get (by rw [HL.out]; exact hjl), hz, Option.getD_some] at oce
            have cp := HX4.out.2 z hzn
            have cb := HX4.out.2 bb hbn
            obtain ⟨r1, hr1⟩ : ∃ r, x'.at z = r := ⟨_, rfl⟩
            obtain ⟨r2, hr2⟩ : ∃ r, x'.at bb = r := ⟨_, rfl⟩
            rw [hr1] at cp
            rw [hr2] at cb
            have hst : best x' ((orbR t k n).take (jj + 1)) k = if r1 < r2 then z else bb := by
              rw [List.take_add_one, hz, Option.toList_some, best_snoc, ← HB.out, hr1, hr2]
            have HQ := Lib.hid hst
            clear hst hr1 hr2 hz
            have hz1 : (z : Int) < n := by omega
            have hb1 : (bb : Int) < n := by omega
            have hj1 : (jj : Int) < L := by omega
            by_cases hlt : r1 < r2
            · go_wp2_with fail
              go_quiet (fail)
              go_wp2_with fail
              exact ⟨⟨z, jj + 1, qq + nq, by omega, by go_num, rfl, hzn, by rw [HQ.out, if_pos hlt], rfl⟩, by simp [intOf]; omega⟩
            · go_wp2_with fail
              go_quiet (fail)
              go_wp2_with fail
              exact ⟨⟨bb, jj + 1, qq + nq, by omega, by go_num, rfl, hbn, by rw [HQ.out, if_neg hlt], rfl⟩, by simp [intOf]; omega⟩
          · have hjL : jj = L := by omega
            have hbe : bb = best x' (tabTw t k).orb k := by
              rw [HB.out, orb_eq H.out.2.1, List.take_of_length_le (by rw [HL.out]; omega)]
            have hls : leastT (tabTw t) (n - k) k x' = leastT (tabTw t) (n - (k + 1)) (k + 1) (if bb = k then x' else (((tabTw t k).to bb).getD (PlainPm.one n)).mul x') := by
              rw [hbe, show n - k = n - (k + 1) + 1 by omega]; rfl
            have hno : ((tabTw t k).to bb).isSome = true := by
              obtain ⟨y, h1, _⟩ := least_next H.out.2.2.1 hkn x'
              rw [hbe, h1]; rfl
            obtain ⟨y, hy⟩ := Option.isSome_iff_exists.1 hno
            rw [hy, Option.getD_some] at hls
            have HLs := Lib.hid hls
            clear hls hno hbe
            have hb4 : Below w.heap.size w w4 := below_trans HP.out.2.2.1 H4.out.1
            have Hb4 := Lib.hid hb4
            clear hb4
            by_cases hbk : bb = k
            · have hne : ((bb : Int) != (k : Int)) = false := by simp [hbk]
              have hbk' := Lib.hid hbk
              clear hbk
              go_wp2_with fail
              refine ⟨⟨k + 1, x', by omega, by omega, by go_num, HX4.out.1.drewN _, below_drewN Hb4.out _, ?_⟩, by simp [intOf]; omega⟩
              rw [HP.out.2.2.2, HLs.out, if_pos hbk'.out]
            · have hne : ((bb : Int) != (k : Int)) = true := by simp; omega
              obtain ⟨f, hct, _, hto⟩ := HT4.out.at_ hkn hbn
              have hy2 : t k bb = some y := by
                have : (tabTw t k).to bb = t k bb := if_neg hbk
                rw [← this]; exact hy
              rw [hy2] at hto
              have hto : PmV w4 (rowsM n R) f y := hto
              obtain ⟨fb, fo, fc, rfl⟩ := hto.form
              have HT := Lib.hid (And.intro hto hbk)
              clear hto hy hy2 hbk
              have hb1 : (bb : Int) < n := by omega
              go_wp2_with (go_at_call 28; refine (mul49 hn1 hn.1 (HT.out.1.weak.drewN qq) (HX4.out.1.weak.drewN qq)).mono ?_; rintro e w5 ⟨v5, rfl, k4, k5⟩; have HM := Lib.hid (And.intro k4 k5); clear k4 k5)
              refine ⟨⟨k + 1, y.mul x', by omega, by omega, by go_num, ?_, ?_, ?_⟩, by simp [intOf]; omega⟩
              · exact HM.out.1.pm fun m hm => HT4.out.mlt m hm
              · exact below_trans (below_drewN Hb4.out qq) HM.out.2
              · rw [HP.out.2.2.2, HLs.out, if_neg HT.out.2]
      · obtain rfl : k = n := by omega
        have HP := Lib.hid (And.intro hx' (And.intro hb hs))
        clear hx' hb hs hxc hxl hxm
        obtain ⟨xa, xc2, hxe, hxi⟩ := HP.out.1.ints (by omega)
        have hlx := x'.ok.1
        rw [hlx] at hxe
        cases hxe
        have HO := Lib.hid (own115 (c := cx) hxi hlx hn1)
        clear hxi
        go_wp2_with (go_at_call 58; refine HO.out.mono ?_; rintro e w6 ⟨v6, rfl, k1, k2⟩; have H6 := Lib.hid (And.intro k1 k2); clear k1 k2)
        go_ret
        rw [HR.out, HP.out.2.2, Nat.sub_self]
        exact ⟨_, rfl, H6.out.1.mono HP.out.2.1.size, below_trans HP.out.2.1 H6.out.2⟩
  · have hne : ((p : Int) != (i : Int)) = true := by simp; omega
    obtain ⟨y, hy⟩ := Option.isSome_iff_exists.1 (hpo.resolve_left hpi)
    rw [hy] at hov
    have hov : PmV w (rowsM n R) u y := hov
    obtain ⟨ub, uo, uc, rfl⟩ := hov.form
    have hx1 : x0 = y := by
      rw [← hx0]; show (if p = i then some (PlainPm.one n) else t i p).getD (PlainPm.one n) = y; rw [if_neg hpi, hy]; rfl
    have HX0 := Lib.hid (And.intro hx1 hov)
    clear hx1 hx0 hpi hov hpo hy
    go_enter Tryz.func100, Tryz.ntmps100
    go_wp2_with (go_at_call 26; refine (one65 hn1 hn.1).mono ?_; rintro e w1 ⟨v1, rfl, k1, k2⟩; have H1 := Lib.hid (And.intro k1 k2); have tp1 := (H.out.1.below k2).top i hi; have hu1 := (k2.cell (block_lt_of_cell hu)).trans hu; clear k1 k2)
    go_loopw [7, 8] (fun v i' wr => ∃ (k : Nat) (x' : Pm n), i + 1 ≤ k ∧ k ≤ n ∧ i' = .int .i64 (k : Int) ∧ PmV wr (rowsM n R) v x' ∧ Below w.heap.size w wr ∧ leastT (tabTw t) (n - (i + 1)) (i + 1) x0 = leastT (tabTw t) (n - k) k x') (fun _ i' _ => n - (intOf i').toNat)
    case atStart => exact ⟨i + 1, x0, by omega, hi, by go_num, by rw [HX0.out.1]; exact HX0.out.2.below H1.out.2, H1.out.2, rfl⟩
    case round =>
      obtain ⟨k, x', hik, hk, rfl, hx', hb, hs⟩ := hrel
      obtain ⟨bx, ox, cx, rfl, hxm, hxl, hxc⟩ := id hx'
      by_cases hkn : k < n
      · have HP := Lib.hid (And.intro (H.out.1.below hb) (And.intro hx' (And.intro hb hs)))
        clear hx' hb hs hxc hxl hxm
        have hk1 : (k : Int) < n := by omega
        have HO := Lib.hid (orbit154 (c := c) HP.out.1 hkn)
        go_wp2_with (go_at_call 99; refine HO.out.mono ?_; rintro e w4 ⟨v4, rfl, k1, k2⟩; obtain ⟨oa, oc, rfl, hor⟩ := k1.row (by rw [ints_len, nts_len]; have := orbR_len t k n; unfold maxLen; omega); rw [ints_len, nts_len]; have H4 := Lib.hid (And.intro k2 (show Ints w4 oa (nts (orbR t k n)) from hor)); clear k1 k2 hor)
        obtain ⟨L, hL⟩ : ∃ L, (orbR t k n).length = L := ⟨_, rfl⟩
        have hol : L ≤ n := by rw [← hL]; exact orbR_len t k n
        have HL := Lib.hid hL
        rw [hL]
        clear hL
        have hT4 := HP.out.1.below H4.out.1
        have tp4 := hT4.top k hkn
        have HT4 := Lib.hid hT4
        have hx4 := HP.out.2.1.below H4.out.1
        obtain ⟨bx', ox', cx', he4, _, _, hxc⟩ := id hx4
        cases he4
        have HX4 := Lib.hid (And.intro hx4 hxc)
        clear hT4 hx4 hxc
        go_wp2_with fail
        go_loopw [10, 11] (fun b j wi => ∃ (bb jj q : Nat), jj ≤ L ∧ j = .int .i64 (jj : Int) ∧ b = .int .i64 (bb : Int) ∧ bb < n ∧ bb = best x' ((orbR t k n).take jj) k ∧ wi = w4.drewN q) (fun _ j _ => L - (intOf j).toNat)
        case atStart => exact ⟨k, 0, 0, by omega, rfl, rfl, hkn, by rw [List.take_zero]; rfl, rfl⟩
        case round =>
          obtain ⟨bb, jj, qq, hjj, rfl, rfl, hbn, hbb, rfl⟩ := hrel
          have HB := Lib.hid hbb
          clear hbb
          by_cases hjl : jj < L
          · obtain ⟨z, hz⟩ : ∃ z, (orbR t k n)[jj]? = some z := ⟨_, List.getElem?_eq_getElem (by rw [HL.out]; exact hjl)⟩
            have hzn : z < n := by
              have h1 := List.mem_of_getElem? hz
              unfold orbR at h1
              exact List.mem_range.1 (List.mem_filter.1 h1).1
            obtain ⟨ob, oo, hoa, _, oce⟩ := H4.out.2.at_ (k := jj) (by rw [nts_len, HL.out]; exact hjl)
            subst hoa
            rw [nts_get (by rw [HL.out]; exact hjl), hz, Option.getD_some] at oce
            have cp := HX4.out.2 z hzn
            have cb := HX4.out.2 bb hbn
            obtain ⟨r1, hr1⟩ : ∃ r, x'.at z = r := ⟨_, rfl⟩
            obtain ⟨r2, hr2⟩ : ∃ r, x'.at bb = r := ⟨_, rfl⟩
            rw [hr1] at cp
            rw [hr2] at cb
            have hst : best x' ((orbR t k n).take (jj + 1)) k = if r1 < r2 then z else bb := by
              rw [List.take_add_one, hz, Option.toList_some, best_snoc, ← HB.out, hr1, hr2]
            have HQ := Lib.hid hst
            clear hst hr1 hr2 hz
            have hz1 : (z : Int) < n := by omega
            have hb1 : (bb : Int) < n := by omega
            have hj1 : (jj : Int) < L := by omega
            by_cases hlt : r1 < r2
            · go_wp2_with fail
              go_quiet (fail)
              go_wp2_with fail
              exact ⟨⟨z, jj + 1, qq + nq, by omega, by go_num, rfl, hzn, by rw [HQ.out, if_pos hlt], rfl⟩, by simp [intOf]; omega⟩
            · go_wp2_with fail
              go_quiet (fail)
              go_wp2_with fail
              exact ⟨⟨bb, jj + 1, qq + nq, by omega, by go_num, rfl, hbn, by rw [HQ.out, if_neg hlt], rfl⟩, by simp [intOf]; omega⟩
          · have hjL : jj = L := by omega
            have hbe : bb = best x' (tabTw t k).orb k := by
              rw [HB.out, orb_eq H.out.2.1, List.take_of_length_le (by rw [HL.out]; omega)]
            have hls : leastT (tabTw t) (n - k) k x' = leastT (tabTw t) (n - (k + 1)) (k + 1) (if bb = k then x' else (((tabTw t k).to bb).getD (PlainPm.one n)).mul x') := by
              rw [hbe, show n - k = n - (k + 1) + 1 by omega]; rfl
            have hno : ((tabTw t k).to bb).isSome = true := by
              obtain ⟨y, h1, _⟩ := least_next H.out.2.2.1 hkn x'
              rw [hbe, h1]; rfl
            obtain ⟨y, hy⟩ := Option.isSome_iff_exists.1 hno
            rw [hy, Option.getD_some] at hls
            have HLs := Lib.hid hls
            clear hls hno hbe
            have hb4 : Below w.heap.size w w4 := below_trans HP.out.2.2.1 H4.out.1
            have Hb4 := Lib.hid hb4
            clear hb4
            by_cases hbk : bb = k
            · have hne : ((bb : Int) != (k : Int)) = false := by simp [hbk]
              have hbk' := Lib.hid hbk
              clear hbk
              go_wp2_with fail
              refine ⟨⟨k + 1, x', by omega, by omega, by go_num, HX4.out.1.drewN _, below_drewN Hb4.out _, ?_⟩, by simp [intOf]; omega⟩
              rw [HP.out.2.2.2, HLs.out, if_pos hbk'.out]
            · have hne : ((bb : Int) != (k : Int)) = true := by simp; omega
              obtain ⟨f, hct, _, hto⟩ := HT4.out.at_ hkn hbn
              have hy2 : t k bb = some y := by
                have : (tabTw t k).to bb = t k bb := if_neg hbk
                rw [← this]; exact hy
              rw [hy2] at hto
              have hto : PmV w4 (rowsM n R) f y := hto
              obtain ⟨fb, fo, fc, rfl⟩ := hto.form
              have HT := Lib.hid (And.intro hto hbk)
              clear hto hy hy2 hbk
              have hb1 : (bb : Int) < n := by omega
              go_wp2_with (go_at_call 28; refine (mul49 hn1 hn.1 (HT.out.1.weak.drewN qq) (HX4.out.1.weak.drewN qq)).mono ?_; rintro e w5 ⟨v5, rfl, k4, k5⟩; have HM := Lib.hid (And.intro k4 k5); clear k4 k5)
              refine ⟨⟨k + 1, y.mul x', by omega, by omega, by go_num, ?_, ?_, ?_⟩, by simp [intOf]; omega⟩
              · exact HM.out.1.pm fun m hm => HT4.out.mlt m hm
              · exact below_trans (below_drewN Hb4.out qq) HM.out.2
              · rw [HP.out.2.2.2, HLs.out, if_neg HT.out.2]
      · obtain rfl : k = n := by omega
        have HP := Lib.hid (And.intro hx' (And.intro hb hs))
        clear hx' hb hs hxc hxl hxm
        obtain ⟨xa, xc2, hxe, hxi⟩ := HP.out.1.ints (by omega)
        have hlx := x'.ok.1
        rw [hlx] at hxe
        cases hxe
        have HO := Lib.hid (own115 (c := cx) hxi hlx hn1)
        clear hxi
        go_wp2_with (go_at_call 58; refine HO.out.mono ?_; rintro e w6 ⟨v6, rfl, k1, k2⟩; have H6 := Lib.hid (And.intro k1 k2); clear k1 k2)
        go_ret
        rw [HR.out, HP.out.2.2, Nat.sub_self]
        exact ⟨_, rfl, H6.out.1.mono HP.out.2.1.size, below_trans HP.out.2.1 H6.out.2⟩
end Go.Proofs.YtbejhkojdiadaaaGreatDoor
namespace Go.Proofs.YtbejhkojdiadaaaGreatDoor
open Go.RowKit PlainPm
theorem LvW.at_ {n ab ao bb bo : Nat} {w w' : World} {O : Nat → List Nat} {R : Nat → Nat → Pm n} (h : LvW n w O R ab ao bb bo) (hb : Below w.heap.size w w') {i : Nat} (hi : i < n) :
    ∃ go oo oc gr ro rc, w'.cell? ⟨ab, ao + i, none⟩ = some (.slice (some ⟨go, oo, none⟩) (O i).length oc) ∧ w'.cell? ⟨bb, bo + i, none⟩ = some (.slice (some ⟨gr, ro, none⟩) (O i).length rc) ∧
      (∀ V, Below w.heap.size w V → ∀ (k q : Nat), (O i)[k]? = some q → V.cell? ⟨go, oo + k, none⟩ = some (.int .i64 (q : Int)) ∧ ∃ u, V.cell? ⟨gr, ro + k, none⟩ = some u ∧ PmV V [] u (R i q)) := by
  obtain ⟨vo, h1, go, oo, oc, rfl, h2, _, _, h3⟩ := h.orb i hi
  obtain ⟨vr, k1, gr, ro, rc, rfl, k2, _, _, k3⟩ := h.rep i hi
  rw [List.length_map] at k1
  refine ⟨go, oo, oc, gr, ro, rc, (hb.cell (block_lt_of_cell h1)).trans h1, (hb.cell (block_lt_of_cell k1)).trans k1, fun V hV k q hq => ⟨(hV.cell (p := ⟨go, oo + k, none⟩) h2).trans (h3 k q hq), ?_⟩⟩
  obtain ⟨u, k4, k5⟩ := k3 k (R i q) (by rw [List.getElem?_map, hq]; rfl)
  exact ⟨u, (hV.cell (p := ⟨gr, ro + k, none⟩) k2).trans k4, k5.below hV⟩
end Go.Proofs.YtbejhkojdiadaaaGreatDoor
