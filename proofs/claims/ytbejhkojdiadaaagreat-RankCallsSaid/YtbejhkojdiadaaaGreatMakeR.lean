/- The reference's Make of a list of permutations. -/
import Derived.Test.YtbejhkojdiadaaaGreatChainR
import Derived.Test.YtbejhkojdiadaaaGreatCheckX
set_option linter.unusedSimpArgs false
set_option linter.unusedVariables false
namespace Go.Proofs.YtbejhkojdiadaaaGreat
open Go.RowKit PlainPm
theorem Stp.toBelow {D : Nat} {w0 w1 w2 : World} {M M' : List Nat} (hb : Below D w0 w1) (k : Stp w1 M w2 M') (hD : D ≤ w0.heap.size) (hM : ∀ m ∈ M, D ≤ m) : Below D w0 w2 :=
  ⟨k.kept.os.trans hb.os, k.kept.tape.trans hb.tape, k.kept.output.trans hb.output, Nat.le_trans hb.size k.kept.size, fun i hi => (k.kept.block i (by have := hb.size; omega) (fun hm => by have := hM i hm; omega)).trans (hb.block i hi)⟩
/-- The ghost block is one of the rows. -/
theorem TabW.rows0 {n B g : Nat} {w : World} {R : Nat → Nat} {t : Nat → Nat → Option (Pm n)} (h : TabW n B g w R t) : ∃ R', TabW n B g w R' t ∧ ∀ m ∈ rowsM n R', B ≤ m := by
  have h0 := h.hn.1
  have k : Stp w (rowsM n R) w (rowsM n (fun i => if i = n then R 0 else R i)) := ⟨Kept.refl _ _, fun m hm => (mem_setR hm).elim .inl (fun e => .inl (mem_rowsM.2 ⟨0, by omega, e.symm⟩))⟩
  have hg := h.tg.2
  refine ⟨_, h.move (fun _ _ => rfl) rfl k (fun i hi => if_neg (Nat.ne_of_lt hi)) (by simp only [if_true]; exact h.mlt _ (mem_rowsM.2 ⟨0, by omega, rfl⟩)) (by simp only [if_true]; exact fun e => hg (mem_rowsM.2 ⟨0, by omega, e.symm⟩)), fun m hm => ?_⟩
  obtain ⟨i, hi, e⟩ := mem_rowsM.1 hm
  by_cases e1 : i = n
  · rw [if_pos e1] at e; rw [← e]; exact h.low 0 h0
  · rw [if_neg e1] at e; rw [← e]; exact h.low i (by omega)
theorem ins_any {n B g : Nat} {R : Nat → Nat} {t : Nat → Nat → Option (Pm n)} {x : Pm n} {L : List (Pm n)} {e : Ending} {w' : World} (hS : TabS L t) (h : InsR B g R t x e w') : ∃ (b : Bool) (t' : Nat → Nat → Option (Pm n)), e = .returned (.bool b) ∧ TabW n B g w' R t' ∧ TabS (L ++ [x]) t' := by
  rcases h with ⟨h1, h2, h3⟩ | ⟨h1, h2, h3⟩
  · exact ⟨false, t, h2, h3, hS.snocEnd (r := (sft (tabTw t) n 0 x).2) (Prod.ext h1 rfl)⟩
  · exact ⟨true, _, h2, h3, hS.snocSet (a := (sft (tabTw t) n 0 x).1) (r := (sft (tabTw t) n 0 x).2) rfl h1⟩
/-- The slices in a row are not longer than their rows. -/
def CapR (W : World) (a : Option Addr) (l : Nat) : Prop := ∀ ad, a = some ad → ∀ i, i < l → ∀ x l' k, W.cell? (ad.add i) = some (.slice x l' k) → l' ≤ k
theorem own_cap {W : World} {B : Nat} {e : TypeId} {a : Option Addr} {n c : Nat} {cs : List Value} (h : Own W B (.slice a n c) e cs) (hc : ∀ u ∈ cs, ∃ e' xs, Own W B u e' xs) : CapR W a n := fun ad ea i hi x l' k hcell => by
  subst ea
  obtain ⟨g, e2, _, _, hn, _, _⟩ := h.at_form (by omega)
  cases e2
  have h1 := h.cell i (by omega)
  rw [add_zero_addr, Nat.zero_add, h1] at hcell
  obtain ⟨e', xs, ho⟩ := hc _ (List.mem_of_getElem? hcell)
  rcases ho.2 with ⟨h2, _⟩ | ⟨g2, cap2, cur2, h2, _, _, h3, _⟩
  · injection h2 with _ e1 e3; omega
  · injection h2 with _ e1 e3; omega
set_option maxRecDepth 100000 in
set_option maxHeartbeats 4000000 in
theorem make96c {n : Nat} (hn : 0 < n ∧ n ≤ 64) {w : World} {v : Value} {l : List (Pm n)} (hl : l.length ≤ 4096) (hv : PmsV w [] v l) :
    Calls Tryz.prog 96 #[.int .i64 (n : Int), v] w fun e w' => ∃ T a c0 b d, Of (Grp (· ∈ l)) T ∧ e = .returned (.tuple #[.agg #[.int .i64 (n : Int), .slice a n c0, .slice b n d], .int .i64 0]) ∧ Below w.heap.size w w' ∧ ∀ W', w'.heap.size ≤ W'.heap.size → (∀ k, w.heap.size ≤ k → k < w'.heap.size → W'.heap[k]? = w'.heap[k]?) → Rows W' a (orbI T n) ∧ Rows2 W' b (repI T n) ∧ CapR W' a n ∧ CapR W' b n := by
  obtain ⟨a, c, vs, rfl, hr, hp⟩ := hv
  have H := Lib.hid (And.intro hr hp)
  clear hr hp
  obtain ⟨L, hL⟩ : ∃ L, l.length = L := ⟨_, rfl⟩
  have hL0 := Lib.hid hL
  rw [hL] at hl ⊢
  clear hL
  obtain ⟨X, hX⟩ : ∃ X, w.heap.size = X := ⟨_, rfl⟩
  obtain ⟨W1, hW1⟩ : ∃ W1, W1 = w.alloc (.cells #[.int .i64 0, .slice none 0 0, .slice none 0 0] 25) := ⟨_, rfl⟩
  have hbw : Below w.heap.size w W1 := by rw [hW1]; exact alloc_b (Below.refl _ _) _
  have hs1 : W1.heap.size = X + 1 := by rw [hW1, ← hX]; simp
  have hr1 : W1.heap[X]? = some (.cells #[.int .i64 0, .slice none 0 0, .slice none 0 0] 25) := by rw [hW1, ← hX]; exact World.alloc_heap_new w _
  have HW := Lib.hid (And.intro hbw (And.intro hs1 hr1))
  have HX := Lib.hid hX
  have hn1 : ¬ (n : Int) < 1 := by omega
  have hn2 : ¬ (64 : Int) < n := by omega
  have hl1 : ¬ (4096 : Int) < L := by omega
  clear hbw hs1 hr1
  go_enter Tryz.func96, Tryz.ntmps96
  go_wp2_with fail
  try rw [← hW1]
  clear hW1
  go_loopw [6] (fun i wr => ∃ (k : Nat), k ≤ L ∧ i = .int .i64 (k : Int) ∧ Below W1.heap.size W1 wr) (fun i _ => L - (intOf i).toNat)
  case atStart => exact ⟨0, by omega, rfl, Below.refl _ _⟩
  case round =>
    obtain ⟨k, hk, rfl, hb⟩ := hrel
    have hbw := below_trans HW.out.1 hb
    have HB := Lib.hid (And.intro hb hbw)
    clear hb hbw
    by_cases hkl : k < L
    · obtain ⟨x, hx⟩ : ∃ x, l[k]? = some x := ⟨_, List.getElem?_eq_getElem (by rw [hL0.out]; exact hkl)⟩
      obtain ⟨u, hu, hpm⟩ := H.out.2.2 k x hx
      obtain ⟨ab, ao, hae, _, hac⟩ := (H.out.1.below HB.out.2).2 k u hu
      subst hae
      obtain ⟨ua, uc, rfl, hui⟩ := (hpm.below HB.out.2).ints (by omega)
      have hck : chkPerm x.l = 0 := (chk_iff x.ok.1 hn.1 hn.2).2 x.ok
      have hpc := rperm_calls (c := uc) hui
      rw [hck] at hpc
      have hxl := x.ok.1
      rw [hxl] at hpc hac
      have HC := Lib.hid hpc
      have hk1 : (k : Int) < L := by omega
      clear hpc hck hui hx hu hpm hxl
      go_wp2_with (go_at_call 91; refine HC.out.mono ?_; rintro e w2 ⟨rfl, k1⟩; have hac2 := (k1.cell (block_lt_of_cell hac)).trans hac; have H2 := Lib.hid k1; clear k1)
      exact ⟨⟨k + 1, by omega, by go_num, below_trans HB.out.1 H2.out⟩, by simp [intOf]; omega⟩
    · obtain rfl : k = L := by omega
      have hk1 : ¬ (k : Int) < k := by omega
      obtain ⟨wo, rfl⟩ : ∃ wo : World, wo = wr := ⟨_, rfl⟩
      go_wp2_with (go_at_call 128; refine (empty128 hn).mono ?_; rintro e w3 ⟨g, gc, R0, rfl, k1, k2, k3⟩; obtain ⟨R, k4, k5⟩ := k1.rows0; have H3 := Lib.hid (And.intro k4 (And.intro k5 (And.intro k2 k3))); clear k1 k2 k3 k4 k5)
      have hb3 : Below W1.heap.size W1 w3 := below_trans HB.out.1 H3.out.2.2.2
      have hso : W1.heap.size ≤ wo.heap.size := HB.out.1.size
      have hM3 : ∀ m ∈ rowsM n R, wo.heap.size ≤ m := H3.out.2.1
      have HM := Lib.hid (And.intro hb3 (And.intro hso hM3))
      clear hb3 hso hM3
      go_loopw [9] (fun i wr => ∃ (q : Nat) (t : Nat → Nat → Option (Pm n)), q ≤ k ∧ i = .int .i64 (q : Int) ∧ TabW n wo.heap.size g wr R t ∧ TabS (l.take q) t ∧ Stp w3 (rowsM n R) wr (rowsM n R)) (fun i _ => k - (intOf i).toNat)
      case atStart => exact ⟨0, _, by omega, rfl, H3.out.1, by rw [List.take_zero]; exact TabS.start, Stp.refl _ _⟩
      case round =>
        obtain ⟨q, t, hq, rfl, hT, hS, hst⟩ := hrel
        have hbw1 := Stp.toBelow HM.out.1 hst (Nat.le_refl _) (fun m hm => by have h1 := HM.out.2.2 m hm; have h2 := HM.out.2.1; omega)
        have hbw := below_trans HW.out.1 hbw1
        by_cases hqk : q < k
        · obtain ⟨x, hx⟩ : ∃ x, l[q]? = some x := ⟨_, List.getElem?_eq_getElem (by rw [hL0.out]; exact hqk)⟩
          obtain ⟨u, hu, hpm⟩ := H.out.2.2 q x hx
          obtain ⟨ab, ao, hae, _, hac⟩ := (H.out.1.below hbw).2 q u hu
          subst hae
          have hpm2 := hpm.fresh (M := rowsM n R) hbw (fun m hm => by have h1 := HM.out.2.2 m hm; have h2 := HM.out.2.1; have h3 := HW.out.1.size; omega)
          have hins := insert129 (c := gc) hT hpm2
          obtain ⟨ub, uo, uc, rfl⟩ := hpm.form
          have hs : l.take (q + 1) = l.take q ++ [x] := by rw [List.take_add_one, hx]; rfl
          have HI := Lib.hid (And.intro hins (And.intro hS (And.intro hs hst)))
          have hq1 : (q : Int) < k := by omega
          clear hins hS hs hst hT hbw hbw1 hx hu hpm hpm2
          go_wp2_with (go_at_call 129; refine HI.out.1.mono ?_; rintro e w4 ⟨k1, k2, _⟩; obtain ⟨bb, t4, rfl, k3⟩ := ins_any HI.out.2.1 k1; have H4 := Lib.hid (And.intro k2 k3); clear k1 k2 k3)
          exact ⟨⟨q + 1, t4, by omega, by go_num, H4.out.2.1, by rw [HI.out.2.2.1]; exact H4.out.2.2, HI.out.2.2.2.trans H4.out.1⟩, by simp [intOf]; omega⟩
        · obtain rfl : q = k := by omega
          have hk2 : ¬ (q : Int) < q := by omega
          rw [List.take_of_length_le (by rw [hL0.out]; omega)] at hS
          have hgl : g < wr.heap.size := hT.tg.1
          have hcl := close130 (c := gc) hT hS hgl
          have HT := Lib.hid (And.intro hcl (And.intro hst hbw1))
          clear hcl hst hbw hbw1 hT hS hgl
          go_wp2_with (first
            | (go_at_call 131; refine H5.out.2.2.mono ?_; rintro e w6 ⟨ra, rc, rb, rd, rfl, k1, k2, k3, csO, csR, o1, o2, o3, o4⟩; have hb6 := below_trans H5.out.1 k3; have hx6 := (hb6.block X (by rw [HW.out.2.1]; omega)).trans HW.out.2.2; obtain ⟨d0, d1, d2, d3, d4, d5⟩ := box_cells hx6; have H6 := Lib.hid (And.intro o1 (And.intro o2 (And.intro o3 (And.intro o4 (And.intro hb6 hx6))))); clear k1 k2 k3 o1 o2 o3 o4 hb6 hx6)
            | (go_at_call 130; refine HT.out.1.mono ?_; rintro e w5 ⟨rfl, R', t', k1, k2, k3, k4, k5⟩; have H5 := Lib.hid (And.intro (Stp.toBelow HT.out.2.2 k5 (Nat.le_refl _) (fun m hm => by have h1 := HM.out.2.2 m hm; have h2 := HM.out.2.1; omega)) (And.intro k2 (chain131 (c := gc) k1 k3))); clear k1 k2 k3 k4 k5))
          obtain ⟨WF, hWF⟩ : ∃ WF, WF = ((w6.setCell ⟨X, 0, none⟩ (.int .i64 (n : Int))).setCell ⟨X, 1, none⟩ (.slice ra n rc)).setCell ⟨X, 2, none⟩ (.slice rb n rd) := ⟨_, rfl⟩
          have hF : WF.heap[X]? = some (.cells #[.int .i64 (n : Int), .slice ra n rc, .slice rb n rd] 25) := by
            rw [hWF]; exact box_set2 (box_set1 (box_set0 H6.out.2.2.2.2.2))
          have gF : w6.grownBy WF (some X) := by rw [hWF]; exact ((grown_put 0 _).trans (grown_put 1 _)).trans (grown_put 2 _)
          rw [← hWF]
          clear hWF d0 d1 d2 d3 d4 d5
          obtain ⟨f0, f1, f2, _, _, _⟩ := box_cells hF
          have h5 : X < w5.heap.size := by have h1 := H5.out.1.size; have h2 := HW.out.2.1; omega
          have hO9 := H6.out.1.off gF h5
          have hR9 := H6.out.2.2.1.off gF h5
          have hOO := H6.out.2.1.off gF h5
          have hRR := H6.out.2.2.2.1.off gF h5
          have hb6 := below_trans HW.out.1 H6.out.2.2.2.2.1
          have hbF : Below w.heap.size w WF := hb6.grown gF hb6.size (fun g hg => by cases hg; rw [HX.out]; exact Nat.le_refl _)
          refine bodyPost_ret (v := .tuple #[.agg #[.int .i64 (n : Int), .slice ra n rc, .slice rb n rd], .int .i64 0]) (by simp [results, Tryz.results96, go_sem, f0, f1, f2]) rfl ?_
          have hX5 : w.heap.size ≤ w5.heap.size := by have h1 := H5.out.1.size; have h2 := HW.out.1.size; omega
          have keep : ∀ W' : World, WF.heap.size ≤ W'.heap.size → (∀ k, w.heap.size ≤ k → k < WF.heap.size → W'.heap[k]? = WF.heap[k]?) → ∀ {u : Value} {e : TypeId} {xs : List Value}, Own WF w5.heap.size u e xs → Own W' w5.heap.size u e xs := fun W' _ hW' {u e xs} ho =>
            ownsRow_block ho (fun g hg => hW' g (by have := (ho.block_lt hg).2; omega) (ho.block_lt hg).1)
          refine ⟨tabTw t', _, _, _, _, H5.out.2.1, rfl, hbF, fun W' hs' hW' => ?_⟩
          have kO := keep W' hs' hW' hO9
          have kR := keep W' hs' hW' hR9
          have kOO : OwnRows W' w5.heap.size 3 csO (orbI (tabTw t') n) := ⟨hOO.1, fun i u xs hu hx => keep W' hs' hW' (hOO.2 i u xs hu hx)⟩
          have kRR : OwnR2 W' w5.heap.size csR (repI (tabTw t') n) := ⟨hRR.1, fun i u xss hu hx => by
            obtain ⟨us, h1, h2⟩ := hRR.2 i u xss hu hx
            exact ⟨us, keep W' hs' hW' h1, h2.1, fun i' u' xs' hu' hx' => keep W' hs' hW' (h2.2 i' u' xs' hu' hx')⟩⟩
          obtain ⟨aO', cO', hvO, hrO⟩ := kOO.rows kO (by rw [kOO.1]; simp [orbI]; unfold maxLen; omega) (pts_len (tabTw t') hn.2 n)
          obtain ⟨aR', cR', hvR, hrR⟩ := kRR.rows2 kR (by rw [kRR.1]; simp [repI]; omega) (pms_len (tabTw t') hn.2 n)
          rw [show (orbI (tabTw t') n).length = n by simp [orbI]] at hvO
          rw [show (repI (tabTw t') n).length = n by simp [repI]] at hvR
          cases hvO
          cases hvR
          have cO := own_cap kO (fun u hu => by
            obtain ⟨i, hi⟩ := List.mem_iff_getElem?.1 hu
            have hil : i < (orbI (tabTw t') n).length := by rw [← kOO.1]; exact (List.getElem?_eq_some_iff.1 hi).1
            exact ⟨_, _, kOO.2 i u _ hi (List.getElem?_eq_getElem hil)⟩)
          have cR := own_cap kR (fun u hu => by
            obtain ⟨i, hi⟩ := List.mem_iff_getElem?.1 hu
            have hil : i < (repI (tabTw t') n).length := by rw [← kRR.1]; exact (List.getElem?_eq_some_iff.1 hi).1
            obtain ⟨us, h1, _⟩ := kRR.2 i u _ hi (List.getElem?_eq_getElem hil)
            exact ⟨_, _, h1⟩)
          exact ⟨hrO, hrR, cO, cR⟩
theorem make96 {n : Nat} (hn : 0 < n ∧ n ≤ 64) {w : World} {v : Value} {l : List (Pm n)} (hl : l.length ≤ 4096) (hv : PmsV w [] v l) :
    Calls Tryz.prog 96 #[.int .i64 (n : Int), v] w fun e w' => ∃ T a c0 b d, Of (Grp (· ∈ l)) T ∧ e = .returned (.tuple #[.agg #[.int .i64 (n : Int), .slice a n c0, .slice b n d], .int .i64 0]) ∧ Rows w' a (orbI T n) ∧ Rows2 w' b (repI T n) ∧ Below w.heap.size w w' :=
  (make96c hn hl hv).mono fun _ w' ⟨T, a, c0, b, d, h1, h2, h3, h4⟩ => by
    obtain ⟨k1, k2, _⟩ := h4 w' (Nat.le_refl _) (fun _ _ _ => rfl)
    exact ⟨T, a, c0, b, d, h1, h2, k1, k2, h3⟩
end Go.Proofs.YtbejhkojdiadaaaGreat
