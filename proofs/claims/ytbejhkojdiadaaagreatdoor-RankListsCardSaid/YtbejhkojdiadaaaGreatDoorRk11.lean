/- The chain of the reference's table. · The levels of a chain with their representatives: an iterator. · Two chains compared; the check of a chain. · The check of a chain: the words, and the walk up to the levels. -/
import Derived.Test.YtbejhkojdiadaaaGreatDoorRk01
import Derived.Test.YtbejhkojdiadaaaGreatDoorRk02
import Derived.Test.YtbejhkojdiadaaaGreatDoorRk03
import Derived.Test.YtbejhkojdiadaaaGreatDoorRk04
import Derived.Test.YtbejhkojdiadaaaGreatDoorRk05
import Derived.Test.YtbejhkojdiadaaaGreatDoorRk06
import Derived.Test.YtbejhkojdiadaaaGreatDoorRk07
import Derived.Test.YtbejhkojdiadaaaGreatDoorRk08
import Derived.Test.YtbejhkojdiadaaaGreatDoorRk09
import Derived.Test.YtbejhkojdiadaaaGreatDoorRk10
import Derived.Test.YtbejhkojdiadaaaGreatDoorProg
import Derived.ControlIn
import Derived.Deep.RegionHeld3
import Derived.WalkKit
import Derived.WalkSpells
import Derived.BigQuiet
import Derived.Deep.QuietTactic
import Derived.Deep.LoopGhost
import Derived.Lib.Hide
import Derived.Maps.AppendAt
import Derived.Deep.AppendLies
import Derived.StillTailTactics
import Derived.Laws.CopyOwn
import Derived.Deep.OwnRows
import Derived.Deep.DeepCutAuto
import Derived.Laws.Cover3
import Derived.RangeFuncBox
import Derived.RangeFuncLeaves
import Derived.RangeFuncWrites
import Derived.RangeFuncFrom
import Derived.Shelf.Abstract
import Derived.OwnWalkIn
import Derived.TacticsInMore
import Derived.LoopNIn
import Derived.LoopIn
import Derived.Shelf.GgSortFunc.Insertion
import Derived.Shelf.SlIter.Collect
import Derived.Shelf.Sort.Plain
import Derived.Deep.RegionLaw
set_option linter.unusedSimpArgs false
set_option linter.unusedVariables false
namespace Go.Proofs.YtbejhkojdiadaaaGreatDoor
open Go.RowKit PlainPm
set_option maxRecDepth 100000 in
set_option maxHeartbeats 8000000 in
theorem chain131 {n B g c : Nat} {w : World} {R : Nat → Nat} {t : Nat → Nat → Option (Pm n)} (hT : TabW n B g w R t) (hw : TabOk t) :
    Calls Tryz.prog 71 #[.slice (some ⟨g, 0, none⟩) n c] w fun e w' =>
      ∃ a c0 b d, e = .returned (.agg #[.int .i64 (n : Int), .slice a n c0, .slice b n d]) ∧ Rows w' a (orbI (tabTw t) n) ∧ Rows2 w' b (repI (tabTw t) n) ∧ Below w.heap.size w w' ∧ ∃ csO csR, Own w' w.heap.size (.slice a n c0) 40 csO ∧ OwnRows w' w.heap.size 3 csO (orbI (tabTw t) n) ∧ Own w' w.heap.size (.slice b n d) 28 csR ∧ OwnR2 w' w.heap.size csR (repI (tabTw t) n) := by
  obtain ⟨i3, hi3, hz3, hs3, hb3⟩ := info_parts Tryz.info3
  obtain ⟨i26, hi26, hz26, hs26, hb26⟩ := info_parts Tryz.info40
  obtain ⟨i27, hi27, hz27, hs27, hb27⟩ := info_parts Tryz.info41
  obtain ⟨i44, hi44, hz44, hs44, hb44⟩ := info_parts Tryz.info28
  have I3 := Lib.hid (And.intro hi3 (And.intro hz3 (And.intro hs3 hb3)))
  have I26 := Lib.hid (And.intro hi26 (And.intro hz26 (And.intro hs26 hb26)))
  have I27 := Lib.hid (And.intro hi27 (And.intro hz27 (And.intro hs27 hb27)))
  have I44 := Lib.hid (And.intro hi44 (And.intro hz44 (And.intro hs44 hb44)))
  clear hi3 hz3 hs3 hb3 hi26 hz26 hs26 hb26 hi27 hz27 hs27 hb27 hi44 hz44 hs44 hb44
  have hn := hT.hn
  have hn1 := hn.2
  obtain ⟨T, hTT⟩ : ∃ T, tabTw t = T := ⟨_, rfl⟩
  rw [hTT]
  have HTT := Lib.hid hTT
  clear hTT
  obtain ⟨X, hX⟩ : ∃ X, w.heap.size = X := ⟨_, rfl⟩
  obtain ⟨W1, hW1⟩ : ∃ W1, W1 = (w.alloc (.cells #[.int .i64 0, .slice none 0 0, .slice none 0 0] 25)).alloc (.cells #[.int .i64 (n : Int), .slice none 0 0, .slice none 0 0] 25) := ⟨_, rfl⟩
  have hbw : Below w.heap.size w W1 := by rw [hW1]; exact alloc_b (alloc_b (Below.refl _ _) _) _
  have hs1 : W1.heap.size = X + 2 := by rw [hW1, ← hX]; simp
  have hc1 : W1.heap[X + 1]? = some (.cells #[.int .i64 (n : Int), .slice none 0 0, .slice none 0 0] 25) := by
    rw [hW1, ← hX]
    have := World.alloc_heap_new (w.alloc (.cells #[.int .i64 0, .slice none 0 0, .slice none 0 0] 25)) (.cells #[.int .i64 (n : Int), .slice none 0 0, .slice none 0 0] 25)
    rw [World.size_alloc] at this
    exact this
  have hr1 : W1.heap[X]? = some (.cells #[.int .i64 0, .slice none 0 0, .slice none 0 0] 25) := by
    rw [hW1, ← hX, Below.heap_alloc _ _ _ (by simp)]
    exact World.alloc_heap_new w _
  have H := Lib.hid (And.intro hT (And.intro hw (And.intro hbw (And.intro hs1 hr1))))
  have HX := Lib.hid hX
  clear hT hw hbw hs1 hr1
  go_enter Tryz.func71, Tryz.ntmps71
  go_wp2_with fail
  try rw [← hW1]
  have hx1 : ∀ W, Below (X + 1) W1 W → Below w.heap.size w W ∧ W.heap[X]? = W1.heap[X]? ∧ TabW n B g W R t := fun W h => by
    have hb : Below w.heap.size w W := H.out.2.2.1.trans (h.mono (by omega))
    exact ⟨hb, h.block X (by omega), H.out.1.below hb⟩
  have Hx := Lib.hid hx1
  clear hW1 hX hx1
  go_loopw [4] (fun kk wr => ∃ (k : Nat) (vO vR : Value) (csO csR : List Value), k ≤ n ∧ kk = .int .i64 (k : Int) ∧ wr.heap[X + 1]? = some (.cells #[.int .i64 (n : Int), vO, vR] 25) ∧ Own wr (X + 2) vO 40 csO ∧ OwnRows wr (X + 2) 3 csO (orbI T k) ∧ Own wr (X + 2) vR 28 csR ∧ OwnR2 wr (X + 2) csR (repI T k) ∧ Below (X + 1) W1 wr) (fun kk _ => n - (intOf kk).toNat)
  case atStart => exact ⟨0, _, _, [], [], by omega, rfl, hc1, Own.nil _ _ _, OwnRows.nil _ _ _, Own.nil _ _ _, OwnR2.nil _ _, Below.refl _ _⟩
  case round =>
    clear hc1
    obtain ⟨k, vO, vR, csO, csR, hk, rfl, hC, hO, hOr, hR, hRr, hbl⟩ := hrel
    obtain ⟨wo, rfl⟩ : ∃ wo : World, wo = wr := ⟨_, rfl⟩
    have hso : X + 2 ≤ wo.heap.size := by have := hbl.size; have := H.out.2.2.2.1; omega
    obtain ⟨hb1, _, hTo⟩ := Hx.out wo hbl
    have HO := Lib.hid (And.intro hC (And.intro hO (And.intro hOr (And.intro hR (And.intro hRr (And.intro hbl (And.intro hso (And.intro hb1 hTo))))))))
    have hCk := hC
    clear hO hOr hR hRr hbl hb1
    by_cases hkn : k < n
    · obtain ⟨pts, hpts⟩ : ∃ pts, orbR t k n = pts := ⟨_, rfl⟩
      have hcall := orbit154 (c := c) hTo hkn
      rw [hpts] at hcall
      have hpl : pts.length ≤ n := by rw [← hpts]; exact orbR_len _ _ _
      have hpm : ∀ p ∈ pts, p < n ∧ (p = k ∨ (t k p).isSome = true) := fun p hp => by
        rw [← hpts] at hp
        unfold orbR at hp
        obtain ⟨h1, h2⟩ := List.mem_filter.1 hp
        refine ⟨List.mem_range.1 h1, ?_⟩
        simp at h2
        rcases h2.2 with h | h
        · exact .inl h
        · exact .inr (by simpa using h)
      have hptsT : ptsOf n (T k).orb = pts := by rw [← HTT.out, orbR_pts H.out.2.1]; exact hpts
      have HV := Lib.hid (And.intro trivial (And.intro trivial (And.intro hptsT (And.intro hpl hpm))))
      have H3 := Lib.hid (Below.refl wo.heap.size wo)
      have HC := Lib.hid hcall
      clear hpts hpl hpm hTo hC hCk hcall hptsT
      have hk1 : (k : Int) < n := by omega
      go_wp2_with (go_at_call 99; refine HC.out.mono ?_; rintro e w4 ⟨v4, rfl, k4, k5⟩; obtain ⟨pa, pc, rfl, -⟩ := k4.row (by rw [ints_len, nts_len]; have := HV.out.2.2.2.1; unfold maxLen; omega); have H4 := Lib.hid (And.intro k4 k5); clear k4 k5)
      have hb4 : Below wo.heap.size wo w4 := H4.out.2
      have HB4 := Lib.hid hb4
      clear hb4
      obtain ⟨Lp, hLp⟩ : ∃ Lp, pts.length = Lp := ⟨_, rfl⟩
      rw [ints_len, nts_len, hLp]
      have hLp64 : Lp ≤ 64 := by have := HV.out.2.2.2.1; omega
      go_loopw [6, 7] (fun vr jj wr => ∃ (j : Nat) (us : List Value), j ≤ Lp ∧ jj = .int .i64 (j : Int) ∧ Own wr w4.heap.size vr 41 us ∧ OwnRows wr w4.heap.size 3 us ((pts.take j).map fun p => (repT T k p).l) ∧ Below w4.heap.size w4 wr) (fun _ jj _ => Lp - (intOf jj).toNat)
      case atStart => exact ⟨0, [], by omega, rfl, Own.nil _ _ _, OwnRows.nil _ _ _, Below.refl _ _⟩
      case round =>
        obtain ⟨j, us, hj, rfl, hvr, hus, hbr⟩ := hrel
        obtain ⟨wi, rfl⟩ : ∃ wi : World, wi = wr := ⟨_, rfl⟩
        have hbi : Below wo.heap.size wo wi := HB4.out.trans (hbr.mono HB4.out.size)
        have hTi := HO.out.2.2.2.2.2.2.2.2.below hbi
        have HI := Lib.hid (And.intro hvr (And.intro hus (And.intro hbr (And.intro hbi hTi))))
        clear hvr hus hbr hbi
        by_cases hjl : j < Lp
        · obtain ⟨p, hp⟩ : ∃ p, pts[j]? = some p := ⟨_, List.getElem?_eq_getElem (by omega)⟩
          obtain ⟨hpn, hpo⟩ := HV.out.2.2.2.2 p (List.mem_of_getElem? hp)
          have hip : Ints w4 pa (nts pts) := H4.out.1.toInts (by rw [nts_len]; have := HV.out.2.2.2.1; unfold maxLen; omega)
          obtain ⟨pb, po, hpa, hpB, pce⟩ := (hip.below HI.out.2.2.1).at_ (k := j) (by rw [nts_len]; omega)
          subst hpa
          rw [nts_get (by omega), hp, Option.getD_some] at pce
          have hls := least155 (c := c) hTi H.out.2.1 hkn hpn hpo
          rw [HTT.out] at hls
          have hsw : w4.heap.size ≤ wi.heap.size := HI.out.2.2.1.size
          have hul : us.length < 1000000 := by rw [HI.out.2.1.1, List.length_map, List.length_take]; have := HV.out.2.2.2.1; omega
          have HL := Lib.hid (And.intro hls (And.intro hp (And.intro hsw hjl)))
          clear hls hp hTi hip hpo
          have hj1 : (j : Int) < Lp := by omega
          go_wp2_with (first
            | (at_builtin; refine app1 rfl (.tmp 26) (.tmp 34) 28 41 rfl i27 (.slice none 0 0) 24 Tryz.underlying28 I27.out.1 I27.out.2.1 I27.out.2.2.1 I27.out.2.2.2 rfl (by omega) w4.heap.size (.slice qa (ints (repT T k p).l).length qc) u6 us rfl (HI.out.1.below H7.out.2.1) rfl rfl (by omega) (Nat.le_trans HL.out.2.2.1 H7.out.2.1.size) ?_; intro v8 w8 k1 k2 k3; have H8 := Lib.hid (And.intro k1 (And.intro k2 k3)); clear k1 k2 k3)
            | (go_at_call 100; refine HL.out.1.mono ?_; rintro e w7 ⟨v7, rfl, k4, k5⟩; obtain ⟨qa, qc, rfl, -⟩ := k4.row (by rw [ints_len, (repT T k p).ok.1]; unfold maxLen; omega); have H7 := Lib.hid (And.intro k4 (And.intro k5 k5)); clear k4 k5))
          have hA8 : Below w4.heap.size w4 w8 := ((HI.out.2.2.1.trans (H7.out.2.1.mono HL.out.2.2.1)).grown H8.out.2.1 (Nat.le_trans HL.out.2.2.1 H7.out.2.1.size) (fun g hg => (HI.out.1.block_lt hg).2))
          have hown7 := HI.out.1.below H7.out.2.1
          have hjl2 : j < Lp := HL.out.2.2.2
          refine ⟨⟨j + 1, us ++ [.slice qa (ints (repT T k p).l).length qc], by omega, by go_num, ?_, ?_, hA8⟩, by simp [intOf]; omega⟩
          · exact H8.out.1
          · rw [List.take_add_one, HL.out.2.1, Option.toList_some, List.map_append]
            refine ((HI.out.2.1.below H7.out.2.1).kept H8.out.2.1 (fun u xs hu => hu.ne_type hown7 (by decide))).app (OwnRows.one ?_)
            exact (H7.out.1.kept H8.out.2.1 (H7.out.1.ne_type hown7 (by decide))).mono HL.out.2.2.1
        · obtain rfl : j = Lp := by omega
          have hbo := HI.out.2.2.2.1
          have hC : wi.heap[X + 1]? = some (.cells #[.int .i64 (n : Int), vO, vR] 25) := (hbo.block (X + 1) (by omega)).trans HO.out.1
          have hpn2 := HV.out.2.2.2.1
          obtain ⟨ra, rc, hrv, -⟩ := HI.out.1.row (by rw [HI.out.2.1.1, List.length_map, List.length_take]; unfold maxLen; omega)
          obtain ⟨lr, hlr⟩ : ∃ l, us.length = l := ⟨_, rfl⟩
          rw [hlr] at hrv
          subst hrv
          have hO' := HO.out.2.1.below hbo
          have hR' := HO.out.2.2.2.1.below hbo
          have hsw : X + 2 ≤ wi.heap.size := Nat.le_trans hso hbo.size
          have hcO : csO.length < 1000000 := by rw [HO.out.2.2.1.1]; simp [orbI]; omega
          have hcR : csR.length < 1000000 := by rw [HO.out.2.2.2.2.1.1]; simp [repI]; omega
          have ho4 : Own wi wo.heap.size (.slice pa j pc) 3 (ints (nts pts)) := by
            have h4 := H4.out.1
            rw [ints_len, nts_len, hLp] at h4
            exact h4.below HI.out.2.2.1
          have hp4 := HI.out.1.mono HB4.out.size
          have hus4 := HI.out.2.1.mono HB4.out.size
          rw [List.take_of_length_le (by omega)] at hus4
          have HB := Lib.hid (And.intro hC (And.intro hO' (And.intro hR' (And.intro hlr (And.intro hbo (And.intro ho4 (And.intro hp4 hus4)))))))
          clear hC hO' hR' hbo ho4 hp4 hus4 hlr hTi hLp
          go_upto_region 11 with (fail)
          refine Code.wp_mono (OnlyNormal.imp fun a' W h => ?_) (reg131_wp (X := X) (L := j) (lr := lr) (pa := pa) (ra := ra) (pc := pc) (rc := rc) _ _ _ _ _ _ _ _ _ _ _ _ _ _ _ _ _ _ _ _ _ _ _ _ _ _ _ _ _ _ _ _ _ _ _ _ _ _ _ _ _ _ _ _ _ _ HB.out.1 HB.out.2.1 HB.out.2.2.1 hsw hcO hcR)
          obtain ⟨v8, v9, w8, w9, d36, d37, d38, d39, d40, d41, d42, d43, d44, d45, d46, d47, k1, k2, k3, k4, k5, k6, rfl⟩ := h
          have hfin := grp_end HO.out.2.1 HO.out.2.2.1 HO.out.2.2.2.1 HO.out.2.2.2.2.1 HO.out.2.2.2.2.2.1 hso (by have := H.out.2.2.2.1; omega) HB.out.2.2.2.2.1 HB.out.2.2.2.2.2.1 HB.out.2.2.2.2.2.2.1 HB.out.2.2.2.2.2.2.2 k1 k2 k3 k4 k5
          rw [← k6] at hfin
          have e1 := orbI_succ T k
          have e2 := repI_succ T k
          rw [HV.out.2.2.1] at e1 e2
          rw [← e1, ← e2] at hfin
          have HF := Lib.hid hfin
          clear hfin k1 k2 k3 k4 k5 k6 e1 e2
          go_wp2
          exact ⟨⟨k + 1, v8, v9, _, _, by omega, by go_num, HF.out⟩, by simp [intOf]; omega⟩
    · obtain rfl : k = n := by omega
      obtain ⟨_, hx4, _⟩ := Hx.out wo HO.out.2.2.2.2.2.1
      have hR1 := hx4.trans H.out.2.2.2.2
      obtain ⟨aO, cO, hvO, _⟩ := HO.out.2.2.1.rows HO.out.2.1 (by rw [HO.out.2.2.1.1]; simp [orbI]; unfold maxLen; omega) (pts_len T hn.2 k)
      obtain ⟨aR, cR, hvR, _⟩ := HO.out.2.2.2.2.1.rows2 HO.out.2.2.2.1 (by rw [HO.out.2.2.2.2.1.1]; simp [repI]; omega) (pms_len T hn.2 k)
      rw [show (orbI T k).length = k by simp [orbI]] at hvO
      rw [show (repI T k).length = k by simp [repI]] at hvR
      subst hvO
      subst hvR
      obtain ⟨c0, c1, c2, _, _, _⟩ := box_cells HO.out.1
      obtain ⟨d0, d1, d2, d3, d4, d5⟩ := box_cells hR1
      clear hTo hC hCk
      go_wp2
      obtain ⟨WF, hWF⟩ : ∃ WF, WF = ((wo.setCell ⟨X, 0, none⟩ (.int .i64 (k : Int))).setCell ⟨X, 1, none⟩ (.slice aO k cO)).setCell ⟨X, 2, none⟩ (.slice aR k cR) := ⟨_, rfl⟩
      have hF : WF.heap[X]? = some (.cells #[.int .i64 (k : Int), .slice aO k cO, .slice aR k cR] 25) := by
        rw [hWF]; exact box_set2 (box_set1 (box_set0 hR1))
      have gF : wo.grownBy WF (some X) := by rw [hWF]; exact ((grown_put 0 _).trans (grown_put 1 _)).trans (grown_put 2 _)
      rw [← hWF]
      clear hWF
      obtain ⟨f0, f1, f2, _, _, _⟩ := box_cells hF
      have hO9 := HO.out.2.1.off gF (by omega)
      have hR9 := HO.out.2.2.2.1.off gF (by omega)
      obtain ⟨aO', cO', hvO, hrO⟩ := (HO.out.2.2.1.off gF (by omega)).rows hO9 (by rw [HO.out.2.2.1.1]; simp [orbI]; unfold maxLen; omega) (pts_len T hn.2 k)
      obtain ⟨aR', cR', hvR, hrR⟩ := (HO.out.2.2.2.2.1.off gF (by omega)).rows2 hR9 (by rw [HO.out.2.2.2.2.1.1]; simp [repI]; omega) (pms_len T hn.2 k)
      rw [show (orbI T k).length = k by simp [orbI]] at hvO
      rw [show (repI T k).length = k by simp [repI]] at hvR
      cases hvO
      cases hvR
      have hbF : Below w.heap.size w WF := by
        refine (H.out.2.2.1.trans (HO.out.2.2.2.2.2.1.mono (by rw [HX.out]; omega))).grown gF (by rw [HX.out]; omega) (fun g hg => ?_)
        cases hg; rw [HX.out]; exact Nat.le_refl _
      refine bodyPost_ret (v := .agg #[.int .i64 (k : Int), .slice aO k cO, .slice aR k cR]) (by simp [results, Tryz.results71, go_sem, f0, f1, f2]) rfl ?_
      have hXle : w.heap.size ≤ X + 2 := by rw [HX.out]; omega
      exact ⟨_, _, _, _, rfl, hrO, hrR, hbF, csO, csR, hO9.mono hXle, (HO.out.2.2.1.off gF (by omega)).mono hXle, hR9.mono hXle, (HO.out.2.2.2.2.1.off gF (by omega)).mono hXle⟩
end Go.Proofs.YtbejhkojdiadaaaGreatDoor
namespace Go.Proofs.YtbejhkojdiadaaaGreatDoor
open Go.RowKit Go.Shelf PlainPm

attribute [local go_sem] Oper.semAt_some

def encR (vs : List Value) (i : Fin vs.length) : Array Value := #[.int .i64 (i.val : Int), vs[i.val]]
theorem fin_take {m k : Nat} (h : k < m) : (List.finRange m).take (k + 1) = (List.finRange m).take k ++ [⟨k, h⟩] := by
  rw [List.take_add_one, List.getElem?_eq_getElem (by simpa using h)]
  simp
set_option maxRecDepth 100000 in
set_option maxHeartbeats 2000000 in
theorem reps1_in (F : Fence) (nn : Nat) (hfn : F.fn 101) (hro : F.round = none) (hn1 : 1 ≤ nn) (lp Y n0 : Nat) (a : Option Addr) (c : Nat) (vs : List Value)
    (J Jx : List (Fin vs.length) → World → Prop)
    (hY : ∀ pre x W, J pre W → pre.length < vs.length → YieldAt F (nn - 1) Tryz.prog lp (encR vs x) W fun e W' =>
      (e = .returned (.bool true) ∧ J (pre ++ [x]) W' ∧ Below n0 W W') ∨ (e = .returned (.bool false) ∧ Jx (pre ++ [x]) W'))
    (W w : World) (hBs : W.cell? ⟨Y, 2, none⟩ = some (.slice a vs.length c)) (hl : Row w a vs) (hw0 : w.heap.size = n0) (hWw : Below n0 w W) (h0 : J [] W) :
    CallsIn F nn Tryz.prog 101 #[.func (.yield lp) #[] #[], .pointer (some ⟨Y, 0, none⟩)] W fun e W' => (∃ v, e = .returned v) ∧
      (J (List.finRange vs.length) W' ∨ (∃ pre, Jx pre W')) := by
  have hlen := hl.len'
  have H0 := Lib.hid (And.intro hl (And.intro hw0 hWw))
  clear hl hw0 hWw
  obtain ⟨m, hm⟩ : ∃ m, m = vs.length := ⟨_, rfl⟩
  rw [← hm] at hBs hlen
  have Hm := Lib.hid hm
  clear hm
  refine callsIn_of_wp Tryz.func101 rfl hfn ?_ hro
  simp only [Tryz.ntmps101, List.size_toArray, List.length_cons, List.length_nil, Nat.reduceAdd, Nat.reduceSub, Array.replicate_succ, Array.replicate_zero, List.push_toArray, List.append_toArray, List.nil_append, List.cons_append]
  gi_wp2
  gi_loopw [8] (fun i wr => ∃ k : Nat, k ≤ m ∧ i = .int .i64 k ∧ J ((List.finRange vs.length).take k) wr ∧ Below n0 W wr) (fun i _ => m - (intOf i).toNat)
  case atStart => exact ⟨0, Nat.zero_le _, rfl, by simpa using h0, Below.refl _ _⟩
  case round =>
    obtain ⟨k, hk, rfl, hJs, hnx⟩ := hrel
    by_cases hlt : k < m
    · have hkl : k < vs.length := by rw [← Hm.out]; exact hlt
      obtain ⟨g, o, rfl, hg, hc1⟩ := H0.out.1.2 k vs[k] (List.getElem?_eq_getElem hkl)
      have hcx : wr.cell? ⟨g, o + k, none⟩ = some vs[k] := by
        rw [(H0.out.2.2.trans hnx).cell (by rw [← H0.out.2.1]; exact hg)]; exact hc1
      obtain ⟨fn, tmps, assign, body, hy, hR⟩ := hY _ ⟨k, hkl⟩ wr hJs (by rw [List.length_take]; simp; omega)
      obtain ⟨x, hx⟩ : ∃ x, vs[k] = x := ⟨_, rfl⟩
      unfold encR at hy
      dsimp only at hy
      rw [hx] at hcx hy
      have Hx := Lib.hid (And.intro hx hnx)
      clear hx hnx hc1 h0 hJs
      gi_wp2
      refine hR.mono ?_
      rintro e W3 (⟨rfl, hJ3, hk3⟩ | ⟨rfl, hJx3⟩)
      · have H3 := Lib.hid (And.intro hJ3 hk3)
        clear hJ3 hk3
        gi_wp2
        go_roundw
        case rel => exact ⟨k + 1, by omega, by go_num, by rw [fin_take hkl]; exact H3.out.1, Hx.out.2.trans H3.out.2⟩
        case measure => simp [intOf]; omega
      · have H3 := Lib.hid hJx3
        clear hJx3
        gi_wp2
        refine bodyPost_ret (results_none rfl _ _ _) rfl ?_
        exact ⟨⟨_, rfl⟩, .inr ⟨_, H3.out⟩⟩
    · have HJ := Lib.hid hJs
      clear hJs
      gi_wp2
      go_end0
      refine ⟨⟨_, rfl⟩, .inl ?_⟩
      have := HJ.out
      rwa [List.take_of_length_le (by simp; rw [← Hm.out]; omega)] at this
theorem reps_stops (F : Fence) (nn : Nat) (hfn : F.fn 101) (hro : F.round = none) (hn1 : 1 ≤ nn) (Y n0 : Nat) (a : Option Addr) (c : Nat) (vs : List Value) (w0 w : World)
    (hBs : w.cell? ⟨Y, 2, none⟩ = some (.slice a vs.length c)) (hl : Row w0 a vs) (hw0 : w0.heap.size = n0) (hb : Below n0 w0 w) :
    SeqStopsK F nn Tryz.prog 101 #[.pointer (some ⟨Y, 0, none⟩)] (encR vs) (Below n0) (fun ys => ys = List.finRange vs.length) (fun _ => True) vs.length w := fun lp J Jx W hW _ _ hY h0 => by
  have hlt := block_lt_of_cell hBs
  have hc' := (hW.cell (p := ⟨Y, 2, none⟩) hlt).trans hBs
  refine (reps1_in F nn hfn hro hn1 lp Y n0 a c vs J Jx hY W w0 hc' hl hw0 (hb.trans (hW.mono (by have := hb.size; omega))) h0).mono ?_
  rintro e W' ⟨he, hj | ⟨pre, hj⟩⟩
  · exact ⟨he, .inl ⟨_, rfl, hj⟩⟩
  · exact ⟨he, .inr ⟨_, trivial, hj⟩⟩
theorem reps_calls (u0 u1 u2 : Value) (w : World) :
    Calls Tryz.prog 72 #[.agg #[u0, u1, u2]] w fun e w' => e = .returned (.func (.func 101) #[] #[.pointer (some ⟨w.heap.size, 0, none⟩)]) ∧ w' = w.alloc (.cells #[u0, u1, u2] 25) := by
  go_enter Tryz.func72, Tryz.ntmps72
  go_wp2
  go_ret
  exact ⟨rfl, rfl⟩
end Go.Proofs.YtbejhkojdiadaaaGreatDoor
namespace Go.Proofs.YtbejhkojdiadaaaGreatDoor
open Go.RowKit PlainPm
def ChV (w : World) (v : Value) (d : Int) (os : List (List Int)) (rs : List (List (List Int))) : Prop :=
  ∃ a c b e, v = .agg #[.int .i64 d, .slice a os.length c, .slice b rs.length e] ∧ Rows w a os ∧ Rows2 w b rs
theorem ChV.below {w w' : World} {v : Value} {d : Int} {os : List (List Int)} {rs : List (List (List Int))} (h : ChV w v d os rs) (k : Below w.heap.size w w') : ChV w' v d os rs := by
  obtain ⟨a, c, b, e, h1, h2, h3⟩ := h
  exact ⟨a, c, b, e, h1, h2.below k, h3.below k⟩
set_option maxRecDepth 100000 in
set_option maxHeartbeats 1000000 in
theorem same102 {w : World} {v v' : Value} {d d' : Int} {os os' : List (List Int)} {rs rs' : List (List (List Int))} (h : ChV w v d os rs) (h' : ChV w v' d' os' rs') :
    Calls Tryz.prog 74 #[v, v'] w fun e w' => e = .returned (.bool (decide (d = d' ∧ os = os' ∧ rs = rs'))) ∧ Below w.heap.size w w' := by
  obtain ⟨a, c, b, e, rfl, h1, h2⟩ := h
  obtain ⟨a', c', b', e', rfl, h1', h2'⟩ := h'
  obtain ⟨W, hW⟩ : ∃ W, (w.alloc (.cells #[.int .i64 d, .slice a os.length c, .slice b rs.length e] 25)).alloc (.cells #[.int .i64 d', .slice a' os'.length c', .slice b' rs'.length e'] 25) = W := ⟨_, rfl⟩
  have hb : Below w.heap.size w W := by rw [← hW]; exact alloc_b (alloc_b (Below.refl _ _) _) _
  have HO := Lib.hid (fun q => eq137 a a' c c' os os' (W.drewN q) (h1.below (below_drewN hb q)) (h1'.below (below_drewN hb q)))
  have HR := Lib.hid (fun q => eq139 b b' e e' rs rs' (W.drewN q) (h2.below (below_drewN hb q)) (h2'.below (below_drewN hb q)))
  have hb' : ∀ q, Below w.heap.size w (W.drewN q) := fun q => below_drewN hb q
  have HB := Lib.hid hb'
  obtain ⟨l1, hl1⟩ : ∃ l, os.length = l := ⟨_, rfl⟩
  obtain ⟨l2, hl2⟩ : ∃ l, rs.length = l := ⟨_, rfl⟩
  obtain ⟨l1', hl1'⟩ : ∃ l, os'.length = l := ⟨_, rfl⟩
  obtain ⟨l2', hl2'⟩ : ∃ l, rs'.length = l := ⟨_, rfl⟩
  rw [hl1, hl2, hl1', hl2'] at hW
  rw [hl1, hl1'] at HO
  rw [hl2, hl2'] at HR
  rw [hl1, hl2, hl1', hl2']
  obtain ⟨B2, hB2⟩ : ∃ B, decide (os = os') = B := ⟨_, rfl⟩
  obtain ⟨B3, hB3⟩ : ∃ B, decide (rs = rs') = B := ⟨_, rfl⟩
  obtain ⟨R, hR⟩ : ∃ R, decide (d = d' ∧ os = os' ∧ rs = rs') = R := ⟨_, rfl⟩
  rw [hB2] at HO
  rw [hB3] at HR
  have hres : R = (decide (d = d') && B2 && B3) := by rw [← hR, ← hB2, ← hB3]; simp [Bool.decide_and, Bool.and_assoc]
  rw [hR, hres]
  have e0 : W.heap[w.heap.size]? = some (.cells #[.int .i64 d, .slice a l1 c, .slice b l2 e] 25) := by
    rw [← hW, Below.heap_alloc _ _ _ (by rw [heap_new0]; omega)]; exact heap_new _ _
  have e1 : W.heap[w.heap.size + 1]? = some (.cells #[.int .i64 d', .slice a' l1' c', .slice b' l2' e'] 25) := by
    rw [← hW, ← heap_new0 w (.cells #[.int .i64 d, .slice a l1 c, .slice b l2 e] 25)]; exact heap_new _ _
  obtain ⟨x0, x1, x2, _, _, _⟩ := box_cells e0
  obtain ⟨x3, x4, x5, _, _, _⟩ := box_cells e1
  clear e0 e1
  clear h1 h2 h1' h2' hb hb' hl1 hl2 hl1' hl2' hB2 hB3 hR hres
  by_cases hd : d = d'
  · subst hd
    cases B2 with
    | false =>
      go_enter Tryz.func74, Tryz.ntmps74
      go_wp2_with (first
        | (go_at_call 102; refine (HO.out 0).mono ?_; rintro e1 w1 ⟨rfl, q1, rfl⟩))
      go_ret
      exact ⟨by simp, HB.out _⟩
    | true =>
      go_enter Tryz.func74, Tryz.ntmps74
      go_wp2_with (first
        | (go_at_call 102; refine (HO.out 0).mono ?_; rintro e1 w1 ⟨rfl, q1, rfl⟩)
        | (go_at_call 104; refine (HR.out q1).mono ?_; rintro e1 w1 ⟨rfl, q2, rfl⟩))
      go_ret
      exact ⟨by simp, HB.out _⟩
  · have hdd : (d == d') = false := by simp [hd]
    have Hd := Lib.hid hd
    clear hd
    go_enter Tryz.func74, Tryz.ntmps74
    go_wp2_with fail
    go_ret
    exact ⟨by simp [Hd.out], HB.out 0⟩
end Go.Proofs.YtbejhkojdiadaaaGreatDoor
namespace Go.Proofs.YtbejhkojdiadaaaGreatDoor
open Go.RowKit Go.Shelf PlainPm

attribute [local go_sem] Oper.semAt_some
theorem callsR {P : Program} {f : FuncId} {args : Array Value} {w : World} {R : Ending → World → Prop} {l n : Nat} (h : Calls P f args w R) : CallsIn (Fence.wide.inRound l) n P f args w R := callsIn_wide.2 h
structure ChkI (w : World) (X : Nat) (d : Int) (a b : Option Addr) (n c e : Nat) (L : List (List Int)) (W : World) : Prop where
  bel : Below X w W
  c0 : W.heap[X]? = some (.cells #[.int .i64 d, .slice a n c, .slice b n e] 25 (0, 0))
  c1 : W.heap[X + 1]? = some (.cells #[.int .i64 0] 29 (0, 0))
  c2 : W.heap[X + 1 + 1]? = some (.cells #[.int .i64 d] 3 (0, 0))
  l : ∃ v us, W.heap[X + 1 + 1 + 1]? = some (.cells #[v] 28 (0, 0)) ∧ Own W (X + 1 + 1 + 1 + 1) v 41 us ∧ us.length = L.length ∧ ∀ (j : Nat) u x, us[j]? = some u → L[j]? = some x → IsInts w u x
theorem ChkI.keptRow {w W W' : World} {X n c e B : Nat} {d : Int} {a b : Option Addr} {L : List (List Int)} (h : ChkI w X d a b n c e L W) (hX : w.heap.size = X) (hB : X ≤ B) {row : Option Nat} (hg : W.grownBy W' row) (hr : ∀ r, row = some r → B ≤ r ∧ ∃ o : Obj, W.heap[r]? = some o ∧ o.isCells = false) : ChkI w X d a b n c e L W' := by
  have hr2 : ∀ r, row = some r → ∃ o : Obj, W.heap[r]? = some o ∧ o.isCells = false := fun r e => (hr r e).2
  obtain ⟨v, us, h1, h2, h3⟩ := h.l
  exact ⟨h.bel.grown hg (by rw [← hX]; exact h.bel.size) (fun k e => Nat.le_trans hB (hr k e).1), (grownBy_keeps_cells hg hr2 h.c0 rfl).trans h.c0, (grownBy_keeps_cells hg hr2 h.c1 rfl).trans h.c1, (grownBy_keeps_cells hg hr2 h.c2 rfl).trans h.c2,
    v, us, (grownBy_keeps_cells hg hr2 h1 rfl).trans h1, h2.cellsKept hg hr2, h3⟩
theorem ChkI.below {w W W' : World} {X n c e : Nat} {d : Int} {a b : Option Addr} {L : List (List Int)} (h : ChkI w X d a b n c e L W) (hX : w.heap.size = X) (hb : Below W.heap.size W W') : ChkI w X d a b n c e L W' := by
  obtain ⟨v, us, h1, h2, h3⟩ := h.l
  have k : ∀ {i : Nat} {o : Obj}, W.heap[i]? = some o → W'.heap[i]? = some o := fun {i o} hi => (hb.block i (Array.getElem?_eq_some_iff.1 hi).1).trans hi
  exact ⟨h.bel.trans (hb.mono (by rw [← hX]; exact h.bel.size)), k h.c0, k h.c1, k h.c2, v, us, k h1, h2.below hb, h3⟩
def OkLv (n i : Nat) (os : List (List Int)) (rs : List (List (List Int))) : Prop :=
  ∃ o r, os[i]? = some o ∧ rs[i]? = some r ∧ r.length = o.length ∧ r.length ≤ n - i ∧ ∀ x ∈ r, x.length = n ∧ chkPerm x = 0
def repL (rs : List (List (List Int))) {m : Nat} (pre : List (Fin m)) : List (List Int) := pre.flatMap fun i => (rs[i.val]?).getD []
theorem repL_len {n m : Nat} {os : List (List Int)} {rs : List (List (List Int))} (hn : n ≤ 64) : ∀ {pre : List (Fin m)}, (∀ i ∈ pre, OkLv n i.val os rs) → (repL rs pre).length ≤ 64 * pre.length
  | [], _ => by simp [repL]
  | i :: pre, h => by
    have ih := repL_len hn (pre := pre) (fun k hk => h k (by simp [hk]))
    obtain ⟨o, r, _, e2, _, e4, _⟩ := h i (by simp)
    have : repL rs (i :: pre) = r ++ repL rs pre := by unfold repL; rw [List.flatMap_cons, e2]; rfl
    rw [this, List.length_append, List.length_cons]
    omega
theorem others_below {W W' : World} (h : Below W.heap.size W W') : KeepsOthers W W' := KeepsOthers.of_grownBy (grown_below h none) (fun j o e => by cases e)
theorem own_cells {w : World} {B : Nat} {v : Value} {e : TypeId} {xs : List Value} (h : Own w B v e xs) : ∀ (j : Nat) (o : Obj), v.ownBlock = some j → w.heap[j]? = some o → o.isCells = true := fun j o e1 ho => by
  rcases h.blk with e2 | ⟨g, cur, e2, _, _, hh⟩
  · rw [e2] at e1; cases e1
  · rw [e2] at e1; cases e1; rw [hh] at ho; cases ho; rfl
theorem b1 {W : World} {k : Nat} {v : Value} {e : TypeId} (h : W.heap[k]? = some (.cells #[v] e (0, 0))) : W.cell? ⟨k, 0, none⟩ = some v ∧ W.frozen? ⟨k, 0, none⟩ = false := by
  constructor <;> simp [World.cell?, World.frozen?, h]
def Valid (n : Nat) (os : List (List Int)) (rs : List (List (List Int))) : Prop :=
  ∃ (L : List (Pm n)) (T : Tw n), Of (Grp (· ∈ L)) T ∧ L.map (·.l) = rs.flatten ∧ os = orbI T n ∧ rs = repI T n
theorem chk_iff {n : Nat} {x : List Int} (hl : x.length = n) (h0 : 1 ≤ n) (h64 : n ≤ 64) : chkPerm x = 0 ↔ IsPm n x := by
  unfold chkPerm
  rw [if_neg (by omega)]
  have h := okFrom_iff x.length x []
  constructor
  · intro hx
    have hf : fine x = true := by
      by_cases hf : fine x = true
      · exact hf
      · rw [if_neg hf] at hx; cases hx
    obtain ⟨h1, h2, _⟩ := h.1 hf
    exact ⟨hl, fun y hy => by have := h1 y hy; rw [hl] at this; exact this, h2⟩
  · rintro ⟨_, h1, h2⟩
    have hf : fine x = true := h.2 ⟨fun y hy => by rw [hl]; exact h1 y hy, h2, by simp⟩
    rw [if_pos hf]
theorem Valid.lv {n i : Nat} {os : List (List Int)} {rs : List (List (List Int))} (h : Valid n os rs) (h0 : 1 ≤ n) (h64 : n ≤ 64) (hi : i < n) : OkLv n i os rs := by
  obtain ⟨L, T, hO, _, rfl, rfl⟩ := h
  refine ⟨nts (ptsOf n (T i).orb), (ptsOf n (T i).orb).map fun p => (repT T i p).l, ?_, ?_, ?_, ?_, ?_⟩
  · unfold orbI; rw [List.getElem?_map, List.getElem?_range hi]; rfl
  · unfold repI; rw [List.getElem?_map, List.getElem?_range hi]; rfl
  · rw [List.length_map, nts_len]
  · rw [List.length_map]
    have := sub_len (l := ptsOf n (T i).orb) (m := List.range' i (n - i)) (List.Nodup.sublist List.filter_sublist List.nodup_range) (fun p hp => by
      obtain ⟨hpn, hpo⟩ := mem_ptsOf.1 hp
      obtain ⟨y, _, hf, hy⟩ := (hO.orb hi p).1 hpo
      rw [List.mem_range'_1]
      refine ⟨?_, by omega⟩
      rcases Nat.lt_or_ge p i with hlt | hge
      · have h1 := hf p hlt
        have := y.inj (i := p) (k := i) (by omega) hi (by rw [h1, hy])
        omega
      · exact hge)
    simpa using this
  · intro x hx
    obtain ⟨p, _, rfl⟩ := List.mem_map.1 hx
    exact ⟨(repT T i p).ok.1, (chk_iff (repT T i p).ok.1 h0 h64).2 (repT T i p).ok⟩
theorem perms_of {n : Nat} (h0 : 1 ≤ n) (h64 : n ≤ 64) : ∀ {l : List (List Int)}, (∀ x ∈ l, x.length = n ∧ chkPerm x = 0) → ∃ L : List (Pm n), L.map (·.l) = l
  | [], _ => ⟨[], rfl⟩
  | x :: l, h => by
    obtain ⟨L, hL⟩ := perms_of h0 h64 (l := l) (fun y hy => h y (by simp [hy]))
    have hx := h x (by simp)
    exact ⟨⟨x, (chk_iff hx.1 h0 h64).1 hx.2⟩ :: L, by rw [List.map_cons, hL]⟩
theorem map_l_inj {n : Nat} : ∀ {L L' : List (Pm n)}, L.map (·.l) = L'.map (·.l) → L = L'
  | [], [], _ => rfl
  | [], _ :: _, h => by simp at h
  | _ :: _, [], h => by simp at h
  | x :: L, y :: L', h => by
    simp only [List.map_cons, List.cons.injEq] at h
    rw [Pm.ext' h.1, map_l_inj h.2]
theorem orbI_eq {n : Nat} (T : Tw n) : orbI T n = (orbsT T).map nts := by unfold orbI orbsT; rw [List.map_map]; rfl
theorem repI_eq {n : Nat} (T : Tw n) : repI T n = (repsT T).map (·.map (·.l)) := by unfold repI repsT; rw [List.map_map]; simp [Function.comp_def]
theorem of_same_I {n : Nat} {G : Pm n → Prop} (hG : IsG G) {T T' : Tw n} (h : Of G T) (h' : Of G T') : orbI T n = orbI T' n ∧ repI T n = repI T' n := by
  obtain ⟨e1, e2⟩ := h.same hG h'
  rw [orbI_eq, orbI_eq, repI_eq, repI_eq, e1, e2]
  exact ⟨rfl, rfl⟩
theorem valid_iff {n : Nat} {os : List (List Int)} {rs : List (List (List Int))} {L : List (Pm n)} {T : Tw n} (hO : Of (Grp (· ∈ L)) T) (hL : L.map (·.l) = rs.flatten) : Valid n os rs ↔ (os = orbI T n ∧ rs = repI T n) := by
  constructor
  · rintro ⟨L', T', hO', hL', rfl, hr⟩
    have : L' = L := map_l_inj (hL'.trans hL.symm)
    subst this
    obtain ⟨e1, e2⟩ := of_same_I Grp.isG hO' hO
    exact ⟨e1, hr.trans e2⟩
  · rintro ⟨h1, h2⟩
    exact ⟨L, T, hO, hL, h1, h2⟩
theorem repL_all {rs : List (List (List Int))} {m : Nat} (hm : m = rs.length) : repL rs (List.finRange m) = rs.flatten := by
  subst hm
  unfold repL
  rw [← List.flatMap_id', List.flatMap_def, List.flatMap_def]
  congr 1
  apply List.ext_getElem?
  intro i
  by_cases hi : i < rs.length
  · simp [hi]
  · simp [hi]
theorem same102B {w : World} {v v' : Value} {d d' : Int} {os os' : List (List Int)} {rs rs' : List (List (List Int))} (h : ChV w v d os rs) (h' : ChV w v' d' os' rs') :
    Calls Tryz.prog 74 #[v, v'] w fun e w' => ∃ B, e = .returned (.bool B) ∧ (B = true ↔ (d = d' ∧ os = os' ∧ rs = rs')) ∧ Below w.heap.size w w' :=
  (same102 h h').mono fun e w' ⟨he, hb⟩ => ⟨_, he, by rw [decide_eq_true_iff], hb⟩
theorem below_obj {B D : Nat} {W : World} {o o' : Obj} (hB : B ≤ D) (h : W.heap[D]? = some o) (hc : o.isCells = false) : Below B W (W.putObj D o') :=
  (Below.refl B W).grown (grownBy_putObj' W D o') (by have := (Array.getElem?_eq_some_iff.1 h).1; omega) (fun k e => by cases e; exact hB)
theorem keepC {V A B : World} {X : Nat} {u0 u1 u2 u3 u4 : Value} (h : A.cell? ⟨X, 0, none⟩ = some u0 ∧ A.cell? ⟨X, 1, none⟩ = some u1 ∧ A.cell? ⟨X, 2, none⟩ = some u2 ∧ A.cell? ⟨X + 1 + 1, 0, none⟩ = some u3 ∧ A.cell? ⟨X + 1 + 1 + 1, 0, none⟩ = some u4 ∧ Below V.heap.size V A) (k : Below A.heap.size A B) :
    B.cell? ⟨X, 0, none⟩ = some u0 ∧ B.cell? ⟨X, 1, none⟩ = some u1 ∧ B.cell? ⟨X, 2, none⟩ = some u2 ∧ B.cell? ⟨X + 1 + 1, 0, none⟩ = some u3 ∧ B.cell? ⟨X + 1 + 1 + 1, 0, none⟩ = some u4 ∧ Below V.heap.size V B :=
  ⟨(k.cell (block_lt_of_cell h.1)).trans h.1, (k.cell (block_lt_of_cell h.2.1)).trans h.2.1, (k.cell (block_lt_of_cell h.2.2.1)).trans h.2.2.1, (k.cell (block_lt_of_cell h.2.2.2.1)).trans h.2.2.2.1, (k.cell (block_lt_of_cell h.2.2.2.2.1)).trans h.2.2.2.2.1, below_trans h.2.2.2.2.2 k⟩
def frC (n X c e : Nat) (a b : Option Addr) (vs : List Value) (x : Fin vs.length) : Act := { tmps := #[.agg #[.int .i64 (n : Int), .slice a n c, .slice b n e], .pointer (some ⟨X, 0, none⟩), .pointer (some ⟨X + 1, 0, none⟩), .pointer (some ⟨X + 1 + 1, 0, none⟩), .pointer (some ⟨X + 1 + 1 + 1, 0, none⟩), .int .i64 (x.val : Int), vs[x.val], undef, undef, .pointer (some ⟨X, 0, none⟩), .int .i64 (n : Int), .int .i64 (n : Int), .bool false, .bool false, .int .i64 (n : Int), .bool false, .bool false, .pointer (some ⟨X, 1, none⟩), .slice a n c, .int .i64 (n : Int), .int .i64 (n : Int), .bool false, .bool false, .pointer (some ⟨X, 2, none⟩), .slice b n e, .int .i64 (n : Int), .int .i64 (n : Int), .bool false, .bool false, .agg #[.int .i64 (n : Int), .slice a n c, .slice b n e], .func (.func 101) #[] #[.pointer (some ⟨X + 1 + 1 + 1 + 1, 0, none⟩)], .int .i64 (x.val : Int), vs[x.val], undef, undef, undef, undef, undef, undef, undef, undef, undef, undef, undef, undef, undef, undef, undef, undef, undef, undef, undef, undef, undef, undef, undef, undef, undef, undef, undef, undef, undef, undef, undef, undef, undef, undef, undef, undef, undef, undef, undef, undef, undef, undef, undef, undef], defers := [] }
set_option maxRecDepth 100000 in
set_option maxHeartbeats 4000000 in
theorem chk_loop {w : World} {a b : Option Addr} {c e n : Nat} {os : List (List Int)} {rs : List (List (List Int))} (h1 : Rows w a os) (h2 : Rows2 w b rs) (hn : os.length = n) (hm : rs.length = n) (hn0 : 1 ≤ n) (hn64 : n ≤ 64) :
    Calls Tryz.prog 37 #[.agg #[.int .i64 (n : Int), .slice a n c, .slice b n e]] w fun e w' => (∃ E : Int, e = .returned (.int .i64 E) ∧ ((E = 3 ∧ ¬ Valid n os rs) ∨ (E = 0 ∧ Valid n os rs))) ∧ Below w.heap.size w w' := by
  obtain ⟨vs, hvr, hvl, hvi⟩ := id h2
  have hvn : vs.length = n := by omega
  obtain ⟨X, hX⟩ : ∃ X, w.heap.size = X := ⟨_, rfl⟩
  have hd1 : decide ((n : Int) < 1) = false := by simp; omega
  have hd2 : decide ((64 : Int) < n) = false := by simp; omega
  obtain ⟨W0, hW0⟩ : ∃ W0, ((((w.alloc (.cells #[.int .i64 (n : Int), .slice a n c, .slice b n e] 25)).alloc (.cells #[.int .i64 0] 29)).alloc (.cells #[.int .i64 (n : Int)] 3)).alloc (.cells #[.slice none 0 0] 28)).alloc (.cells #[.int .i64 (n : Int), .slice a n c, .slice b n e] 25) = W0 := ⟨_, rfl⟩
  have hI0 : ChkI w X n a b n c e [] W0 ∧ W0.heap[X + 1 + 1 + 1 + 1]? = some (.cells #[.int .i64 (n : Int), .slice a n c, .slice b n e] 25 (0, 0)) ∧ W0.heap.size = X + 5 := by
    have s1 : ∀ (V : World) (o : Obj), (V.alloc o).heap.size = V.heap.size + 1 := fun V o => heap_new0 V o
    have g : ∀ (V : World) (o : Obj) (k : Nat), k < V.heap.size → (V.alloc o).heap[k]? = V.heap[k]? := fun V o k hk => Below.heap_alloc _ _ _ hk
    subst hX
    refine ⟨⟨?_, ?_, ?_, ?_, .slice none 0 0, [], ?_, Own.nil _ _ _, rfl, fun j u x hu => by simp at hu⟩, ?_, ?_⟩
    · rw [← hW0]; exact alloc_b (alloc_b (alloc_b (alloc_b (alloc_b (Below.refl _ _) _) _) _) _) _
    · rw [← hW0, g _ _ _ (by simp only [s1]; omega), g _ _ _ (by simp only [s1]; omega), g _ _ _ (by simp only [s1]; omega), g _ _ _ (by simp only [s1]; omega)]; exact heap_new _ _
    · rw [← hW0, g _ _ _ (by simp only [s1]; omega), g _ _ _ (by simp only [s1]; omega), g _ _ _ (by simp only [s1]; omega)]
      have := heap_new (w.alloc (.cells #[.int .i64 (n : Int), .slice a n c, .slice b n e] 25)) (.cells #[.int .i64 0] 29)
      rwa [s1] at this
    · rw [← hW0, g _ _ _ (by simp only [s1]; omega), g _ _ _ (by simp only [s1]; omega)]
      have := heap_new ((w.alloc (.cells #[.int .i64 (n : Int), .slice a n c, .slice b n e] 25)).alloc (.cells #[.int .i64 0] 29)) (.cells #[.int .i64 (n : Int)] 3)
      rwa [s1, s1] at this
    · rw [← hW0, g _ _ _ (by simp only [s1]; omega)]
      have := heap_new (((w.alloc (.cells #[.int .i64 (n : Int), .slice a n c, .slice b n e] 25)).alloc (.cells #[.int .i64 0] 29)).alloc (.cells #[.int .i64 (n : Int)] 3)) (.cells #[.slice none 0 0] 28)
      rwa [s1, s1, s1] at this
    · rw [← hW0]
      have := heap_new ((((w.alloc (.cells #[.int .i64 (n : Int), .slice a n c, .slice b n e] 25)).alloc (.cells #[.int .i64 0] 29)).alloc (.cells #[.int .i64 (n : Int)] 3)).alloc (.cells #[.slice none 0 0] 28)) (.cells #[.int .i64 (n : Int), .slice a n c, .slice b n e] 25)
      rwa [s1, s1, s1, s1] at this
    · rw [← hW0]; simp only [s1]
  have H := Lib.hid (And.intro h1 (And.intro h2 (And.intro hn (And.intro hm (And.intro hvr (And.intro hvl (And.intro hvi (And.intro hvn (And.intro hX hI0)))))))))
  clear h1 h2 hn hm hvr hvl hvi hvn hI0
  refine (callsIn_wide (n := 9)).1 ?_
  have w101 : Fence.wide.fn 72 := trivial
  refine callsIn_of_wp_marks Tryz.func37 rfl trivial ?_ rfl
  simp only [Tryz.ntmps37, List.size_toArray, List.length_cons, List.length_nil, Nat.reduceAdd, Nat.reduceSub, Array.replicate_succ, Array.replicate_zero, List.push_toArray, List.append_toArray, List.nil_append, List.cons_append]
  gi_wp2_with (gi_at_call 72; refine (callsIn_wide.2 (reps_calls _ _ _ _)).mono ?_; rintro e w3 ⟨rfl, hw3⟩)
  try rw [hW0] at hw3
  try subst hw3
  clear hW0 hX
  have hlv := b1 H.out.2.2.2.2.2.2.2.2.2.1.c1
  have hbx := (box_cells H.out.2.2.2.2.2.2.2.2.2.2.1).2.2.1
  refine wpIn_rangeFunc_ownF (n := 9) rfl (by omega) (gf := 101) (lb := #[.pointer (some ⟨X + 1 + 1 + 1 + 1, 0, none⟩)]) rfl trivial (enters_of Tryz.func101 (by kernel_rfl) rfl)
    (reps_stops Fence.wide 8 trivial rfl (by omega) (X + 1 + 1 + 1 + 1) X b e vs w _ (by rw [H.out.2.2.2.2.2.2.2.1]; exact hbx) H.out.2.2.2.2.1 H.out.2.2.2.2.2.2.2.2.1 H.out.2.2.2.2.2.2.2.2.2.1.bel) belowK_t (belowK_b (by have := H.out.2.2.2.2.2.2.2.2.2.2.2; omega)) (Below.refl _ _) (fun _ => rfl)
    (fun pre W => ChkI w X n a b n c e (repL rs pre) W ∧ ∀ i ∈ pre, OkLv n i.val os rs)
    (fun k pre W => k = .ret ∧ (∃ i, i < n ∧ ¬ OkLv n i os rs) ∧ Below X w W ∧ W.heap[X + 1]? = some (.cells #[.int .i64 3] 29 (0, 0)))
    ?own ?ownx ?start (frC n X c e a b vs) ?assign ?body ?done ?stop
  case own =>
    intro pre W W' row h hg hr
    exact ⟨h.1.keptRow H.out.2.2.2.2.2.2.2.2.1 (by have := H.out.2.2.2.2.2.2.2.2.2.2.2; omega) hg hr, h.2⟩
  case ownx =>
    intro k pre W W' row h hg hr
    exact ⟨h.1, h.2.1, h.2.2.1.grown hg (by have := H.out.2.2.2.2.2.2.2.2.1; rw [← this]; exact h.2.2.1.size) (fun k e => by have := (hr k e).1; have := H.out.2.2.2.2.2.2.2.2.2.2.2; omega), (grownBy_keeps_cells hg (fun r e => (hr r e).2) h.2.2.2 rfl).trans h.2.2.2⟩
  case start => exact ⟨H.out.2.2.2.2.2.2.2.2.2.1, fun i hi => by simp at hi⟩
  case assign =>
    intro l x W K hK
    unfold encR
    gi_wp2
    exact hK
  case body =>
    rintro l pre ⟨i, hi⟩ W ⟨hI, hpre⟩ hlen
    have hin : i < n := by have := H.out.2.2.2.2.2.2.2.1; omega
    obtain ⟨r, hr⟩ : ∃ r, rs[i]? = some r := ⟨_, List.getElem?_eq_getElem (by rw [H.out.2.2.2.1]; exact hin)⟩
    obtain ⟨o, ho⟩ : ∃ o, os[i]? = some o := ⟨_, List.getElem?_eq_getElem (by rw [H.out.2.2.1]; exact hin)⟩
    obtain ⟨rb, rc, hrv, hrr⟩ := H.out.2.2.2.2.2.2.1 i vs[i] r (List.getElem?_eq_getElem hi) hr
    obtain ⟨ga, oa, ob, oc, hae, hgl, hoc, _⟩ := H.out.1.at_ (k := i) (by rw [H.out.2.2.1]; exact hin)
    rw [ho, Option.getD_some] at hoc
    have hoc := (hI.bel.cell (p := ⟨ga, oa + i, none⟩) (by rw [← H.out.2.2.2.2.2.2.2.2.1]; exact hgl)).trans hoc
    obtain ⟨z0, z1, z2, _, _, _⟩ := box_cells hI.c0
    obtain ⟨y1, y2⟩ := b1 hI.c1
    obtain ⟨n1, n2⟩ := b1 hI.c2
    obtain ⟨R, hR⟩ : ∃ R, r.length = R := ⟨_, rfl⟩
    obtain ⟨O, hO⟩ : ∃ O, o.length = O := ⟨_, rfl⟩
    rw [hR] at hrv
    rw [hO] at hoc
    subst hae
    unfold frC
    dsimp only
    rw [hrv]
    have HI := Lib.hid (And.intro hI (And.intro hpre (And.intro hr (And.intro ho (And.intro hrr (And.intro hR (And.intro hO hrv)))))))
    clear hI hpre hr ho hrr hR hO hrv
    have hi1 : (i : Int) < n := by omega
    have hwr : IntKind.i64.wrap ((n : Int) - (i : Int)) = (n : Int) - (i : Int) := IntWalk.i64_in _ (by omega)
    have hbad : ¬ (R = O ∧ R ≤ n - i) → ¬ OkLv n i os rs := fun hn h => by
      obtain ⟨o', r', e1, e2, e3, e4, _⟩ := h
      rw [HI.out.2.2.2.1] at e1; cases e1
      rw [HI.out.2.2.1] at e2; cases e2
      rw [HI.out.2.2.2.2.2.1, HI.out.2.2.2.2.2.2.1] at e3
      rw [HI.out.2.2.2.2.2.1] at e4
      exact hn ⟨e3, e4⟩
    have HBad := Lib.hid hbad
    clear hbad
    by_cases hRO : R = O
    · subst hRO
      by_cases hRn : R ≤ n - i
      · have hg : decide ((n : Int) - (i : Int) < (R : Int)) = false := by simp; omega
        have w92 : Fence.wide.fn 73 := trivial
        have wd : Fence.wide.depth = none := rfl
        obtain ⟨i27, hi27, hz27, hs27, hb27⟩ := info_parts Tryz.info41
        have I27 := Lib.hid (And.intro hi27 (And.intro hz27 (And.intro hs27 hb27)))
        clear hi27 hz27 hs27 hb27
        have HRn := Lib.hid hRn
        clear hRn
        gi_wp2
        clear z0 z1 z2 y1 y2 n1 n2 hoc hg hwr
        gi_loopw [52] (fun jj wr => ∃ j : Nat, j ≤ R ∧ jj = .int .i64 (j : Int) ∧ ChkI w X n (some ⟨ga, oa, none⟩) b n c e (repL rs pre ++ r.take j) wr ∧ (∀ x ∈ r.take j, x.length = n ∧ chkPerm x = 0) ∧ KeepsOthers W wr ∧ Below X W wr) (fun jj _ => R - (intOf jj).toNat)
        case atStart => exact ⟨0, by omega, rfl, by simpa using HI.out.1, by simp, KeepsOthers.refl _, Below.refl _ _⟩
        case round =>
          obtain ⟨j, hj, rfl, hJ, hok, hko, hbk⟩ := hrel
          obtain ⟨y1, y2⟩ := b1 hJ.c1
          obtain ⟨n1, n2⟩ := b1 hJ.c2
          obtain ⟨v, us, hl, hown, hul, hur⟩ := hJ.l
          obtain ⟨l1, l2⟩ := b1 hl
          by_cases hjR : j < R
          · obtain ⟨x, hx⟩ : ∃ x, r[j]? = some x := ⟨_, List.getElem?_eq_getElem (by rw [HI.out.2.2.2.2.2.1]; exact hjR)⟩
            obtain ⟨rg, ro, xb, xc, hrb, hrgl, hrc, hxi⟩ := HI.out.2.2.2.2.1.at_ (k := j) (by rw [HI.out.2.2.2.2.2.1]; exact hjR)
            rw [hx, Option.getD_some] at hrc hxi
            have hrc := (hJ.bel.cell (p := ⟨rg, ro + j, none⟩) (by rw [← H.out.2.2.2.2.2.2.2.2.1]; exact hrgl)).trans hrc
            subst hrb
            have hxw := hxi.below (by rw [H.out.2.2.2.2.2.2.2.2.1]; exact hJ.bel)
            obtain ⟨XL, hXL⟩ : ∃ l, x.length = l := ⟨_, rfl⟩
            have K := perm_calls (c := xc) hxw
            rw [hXL] at hrc K
            obtain ⟨E, hE⟩ : ∃ E, chkPerm x = E := ⟨_, rfl⟩
            rw [hE] at K
            have hbad : ¬ (XL = n ∧ E = 0) → ¬ OkLv n i os rs := fun hn h => by
              obtain ⟨o', r', e1, e2, _, _, e5⟩ := h
              rw [HI.out.2.2.1] at e2; cases e2
              have := e5 x (List.mem_of_getElem? hx)
              rw [hXL, hE] at this
              exact hn this
            have hXw : w.heap.size = X := H.out.2.2.2.2.2.2.2.2.1
            have hR64 : R ≤ 64 := by have := HRn.out; omega
            have hul2 : us.length < 1000000 := by
              rw [hul, List.length_append, List.length_take]
              have h1 : (repL rs pre).length ≤ 64 * pre.length := repL_len hn64 HI.out.2.1
              have h2 := H.out.2.2.2.2.2.2.2.1
              omega
            have HJ := Lib.hid (And.intro hJ (And.intro hok (And.intro hko (And.intro hbk (And.intro hl (And.intro hown (And.intro hul (And.intro hur (And.intro hx (And.intro hxi (And.intro hbad (And.intro K (And.intro hXL hE)))))))))))))
            have hW5 : X + 1 + 1 + 1 + 1 ≤ wr.heap.size := (Array.getElem?_eq_some_iff.1 HJ.out.2.2.2.2.1).1
            clear hJ hok hko hbk hl hown hul hur hx hxi hbad K hXL hE hxw
            have hj1 : (j : Int) < R := by omega
            by_cases hxn : XL = n
            · subst hxn
              by_cases hE0 : E = 0
              · subst hE0
                have hEd : ((0 : Int) != 0) = false := rfl
                have hhl : ∀ W6, Below wr.heap.size wr W6 → W6.heap[X + 1 + 1 + 1]? = some (.cells #[v] 28 (0, 0)) := fun W6 hb => (hb.block _ (Array.getElem?_eq_some_iff.1 HJ.out.2.2.2.2.1).1).trans HJ.out.2.2.2.2.1
                have HHL := Lib.hid hhl
                clear hhl
                gi_wp2_with (first
                  | (gi_at_call 73; refine (callsR HJ.out.2.2.2.2.2.2.2.2.2.2.2.1).mono ?_; rintro e6 w6 ⟨rfl, hw6⟩; have q1 := (b1 (HHL.out _ hw6)).1; have H6 := Lib.hid hw6; clear hw6)
                  | (gi_at_builtin; refine wpListIn_append_own _ rfl _ _ 28 rfl (X + 1 + 1 + 1 + 1) 41 i27 (.slice none 0 0) 1 24 Tryz.underlying28 I27.out.1 I27.out.2.1 I27.out.2.2.1 I27.out.2.2.2 rfl (by decide) v us.length us rfl ((HJ.out.2.2.2.2.2.1.below H6.out).alloc _) ⟨w6.heap.size, 0, none⟩ 1 1 [.slice xb XL xc] rfl rfl (cell_one_new _ _ _) (by simp [Value.oneCell']) (by unfold maxLen; omega) (by omega) (by have := H6.out.size; simp; omega) ?_; intro v' w7 hown' hg7 hnil7; clear hnil7
                     have hne : some (X + 1 + 1 + 1) ≠ v.ownBlock := by
                       rcases HJ.out.2.2.2.2.2.1.blk with e | ⟨g9, _, e, hB9, _⟩
                       · rw [e]; simp
                       · rw [e]; intro h; cases h; omega
                     have hlt6 : X + 1 + 1 + 1 < w6.heap.size := (Array.getElem?_eq_some_iff.1 (HHL.out _ H6.out)).1
                     have hv7 : w7.heap[X + 1 + 1 + 1]? = some (.cells #[v] 28 (0, 0)) := (hg7.block _ (by simp; omega) hne).trans ((Below.heap_alloc _ _ _ hlt6).trans (HHL.out _ H6.out))
                     obtain ⟨hc7, hf7⟩ := b1 hv7
                     obtain ⟨g', cap', rfl⟩ : ∃ g' cap', v' = .slice (some ⟨g', 0, none⟩) (us.length + 1) cap' := by
                       rcases hown'.2 with ⟨_, h0⟩ | ⟨g, cap, cur, h, _⟩
                       · exact absurd h0 (by omega)
                       · exact ⟨g, cap, h⟩
                     have H7 := Lib.hid (And.intro hown' (And.intro hg7 hv7))
                     clear hown' hg7 hv7 hne
                     go_frame))
                have hj6 := HJ.out.1.below hXw H6.out
                have hown6 := HJ.out.2.2.2.2.2.1.below H6.out
                have hob : ∀ g, v.ownBlock = some g → X + 1 + 1 + 1 + 1 ≤ g := fun g hg => (hown6.block_lt hg).2
                have hs6 := H6.out.size
                have g7 : w6.grownBy w7 v.ownBlock := (grown_alloc w6 _ _).trans H7.out.2.1
                have keep : ∀ k (o : Obj), k < X + 1 + 1 + 1 → w6.heap[k]? = some o → (w7.setCell ⟨X + 1 + 1 + 1, 0, none⟩ (.slice (some ⟨g', 0, none⟩) (us.length + 1) cap')).heap[k]? = some o := fun k o hk ho => by
                  rw [Below.heap_setCell _ _ _ _ (by show k ≠ X + 1 + 1 + 1; omega), g7.block k (Array.getElem?_eq_some_iff.1 ho).1 (fun e => by have := hob k e.symm; omega)]
                  exact ho
                have hbW : Below X w6 (w7.setCell ⟨X + 1 + 1 + 1, 0, none⟩ (.slice (some ⟨g', 0, none⟩) (us.length + 1) cap')) :=
                  ((Below.refl X w6).grown g7 (by omega) (fun g hg => by have := hob g hg; omega)).setCell (p := ⟨X + 1 + 1 + 1, 0, none⟩) (by simp; omega) _
                have how7 : Own w7 (X + 1 + 1 + 1 + 1) (.slice (some ⟨g', 0, none⟩) (us.length + 1) cap') 41 (us ++ [.slice xb XL xc]) := by
                  unfold Own; rw [List.length_append]; exact H7.out.1
                have htk : r.take (j + 1) = r.take j ++ [x] := by rw [List.take_add_one, HJ.out.2.2.2.2.2.2.2.2.1]; rfl
                refine ⟨⟨j + 1, by omega, by go_num, ⟨hj6.bel.trans hbW, keep _ _ (by omega) hj6.c0, keep _ _ (by omega) hj6.c1, keep _ _ (by omega) hj6.c2, _, _, heap_setCell_box_a _ H7.out.2.2, how7.kept (grown_put 0 _) ?_, ?_, ?_⟩, ?_, ?_, ?_⟩, by simp [intOf]; omega⟩
                · right
                  intro e
                  have := (how7.block_lt e).2
                  omega
                · rw [htk, ← List.append_assoc]; simp [HJ.out.2.2.2.2.2.2.1]; omega
                · intro j' u' x' hu' hx'
                  rw [htk, ← List.append_assoc] at hx'
                  by_cases hlt : j' < us.length
                  · rw [List.getElem?_append_left hlt] at hu'
                    rw [List.getElem?_append_left (by rw [← HJ.out.2.2.2.2.2.2.1]; exact hlt)] at hx'
                    exact HJ.out.2.2.2.2.2.2.2.1 j' u' x' hu' hx'
                  · rw [List.getElem?_append_right (by omega)] at hu'
                    rw [List.getElem?_append_right (by rw [← HJ.out.2.2.2.2.2.2.1]; omega), ← HJ.out.2.2.2.2.2.2.1] at hx'
                    generalize j' - us.length = q at hu' hx'
                    match q, hu', hx' with
                    | 0, hu', hx' =>
                      simp at hu' hx'
                      subst hu'
                      subst hx'
                      exact ⟨xb, xc, by rw [HJ.out.2.2.2.2.2.2.2.2.2.2.2.2.1], HJ.out.2.2.2.2.2.2.2.2.2.1⟩
                    | q + 1, hu', hx' => simp at hu'
                · intro x' hx'
                  rw [htk] at hx'
                  rcases List.mem_append.1 hx' with h | h
                  · exact HJ.out.2.1 x' h
                  · rw [List.mem_singleton] at h; subst h
                    exact ⟨HJ.out.2.2.2.2.2.2.2.2.2.2.2.2.1, HJ.out.2.2.2.2.2.2.2.2.2.2.2.2.2⟩
                · refine (HJ.out.2.2.1.trans (others_below H6.out)).trans ((KeepsOthers.alloc w6 (.cells #[.slice xb XL xc] 41)).trans ((KeepsOthers.of_grownBy H7.out.2.1 (own_cells (hown6.alloc _))).trans (KeepsOthers.setCell _ _ _)))
                · exact HJ.out.2.2.2.1.trans ((H6.out.mono (by omega)).trans hbW)
              · have hEd : (E != 0) = true := by simp [hE0]
                have hbb := Lib.hid (HJ.out.2.2.2.2.2.2.2.2.2.2.1 (fun h => hE0 h.2))
                clear hE0
                gi_wp2_with (gi_at_call 73; refine (callsR HJ.out.2.2.2.2.2.2.2.2.2.2.2.1).mono ?_; rintro e6 w6 ⟨rfl, hw6⟩; have q1 := (hw6.cell (block_lt_of_cell y1)).trans y1; have q2 := (hw6.frozen (p := ⟨X + 1, 0, none⟩) (show X + 1 < wr.heap.size by omega)).trans y2; have H6 := Lib.hid hw6; clear hw6)
                have hh := HJ.out.1.below hXw H6.out
                exact ⟨(HJ.out.2.2.1.trans (others_below H6.out)).trans (KeepsOthers.setCell _ _ _), rfl, ⟨i, hin, hbb.out⟩, hh.bel.setCell (p := ⟨X + 1, 0, none⟩) (by simp) _, heap_setCell_box_a _ hh.c1⟩
            · have hne : ((XL : Int) != (n : Int)) = true := by simp; omega
              have hbb := Lib.hid (HJ.out.2.2.2.2.2.2.2.2.2.2.1 (fun h => hxn h.1))
              clear hxn
              gi_wp2
              exact ⟨HJ.out.2.2.1.trans (KeepsOthers.setCell _ _ _), rfl, ⟨i, hin, hbb.out⟩, HJ.out.1.bel.setCell (p := ⟨X + 1, 0, none⟩) (by simp) _, heap_setCell_box_a _ HJ.out.1.c1⟩
          · obtain rfl : j = R := by omega
            have HJ := Lib.hid (And.intro hJ (And.intro hok (And.intro hko hbk)))
            clear hJ hok hko hbk hl hown hul hur
            gi_wp2
            have htk : r.take j = r := List.take_of_length_le (by rw [HI.out.2.2.2.2.2.1]; exact Nat.le_refl _)
            refine ⟨HJ.out.2.2.1, HJ.out.2.2.2, ?_, ?_⟩
            · have := HJ.out.1
              rw [htk] at this
              have e : repL rs (pre ++ [⟨i, hi⟩]) = repL rs pre ++ r := by
                unfold repL; rw [List.flatMap_append]; simp [HI.out.2.2.1]
              rw [e]; exact this
            · intro i' hi'
              rcases List.mem_append.1 hi' with h | h
              · exact HI.out.2.1 i' h
              · rw [List.mem_singleton] at h; subst h
                refine ⟨o, r, HI.out.2.2.2.1, HI.out.2.2.1, by rw [HI.out.2.2.2.2.2.1, HI.out.2.2.2.2.2.2.1], by rw [HI.out.2.2.2.2.2.1]; exact HRn.out, ?_⟩
                rw [← htk]; exact HJ.out.2.1
      · have hg : decide ((n : Int) - (i : Int) < (R : Int)) = true := by simp; omega
        have hbb := Lib.hid (HBad.out (fun h => hRn h.2))
        clear hRn
        gi_wp2
        exact ⟨KeepsOthers.setCell _ _ _, rfl, ⟨i, hin, hbb.out⟩, HI.out.1.bel.setCell (p := ⟨X + 1, 0, none⟩) (by simp) _, heap_setCell_box_a _ HI.out.1.c1⟩
    · have hg : ((R : Int) != (O : Int)) = true := by simp; omega
      have hbb := Lib.hid (HBad.out (fun h => hRO h.1))
      clear hRO
      gi_wp2
      exact ⟨KeepsOthers.setCell _ _ _, rfl, ⟨i, hin, hbb.out⟩, HI.out.1.bel.setCell (p := ⟨X + 1, 0, none⟩) (by simp) _, heap_setCell_box_a _ HI.out.1.c1⟩
  case stop =>
    rintro D k pre W hD _ ⟨rfl, ⟨i, hin, hbad⟩, hb, hc⟩ hK
    have hXw := H.out.2.2.2.2.2.2.2.2.1
    have hs0 := H.out.2.2.2.2.2.2.2.2.2.2.2
    gi_wp2
    refine ⟨by simp, .inl ⟨_, _, rfl, run_takeDeferred hK, ?_⟩⟩
    have hc5 := cell_kept (b1 hc).1 (grownBy_putObj' _ D (.deferred none)) (fun r e => by cases e; exact ⟨_, hK, rfl⟩)
    refine ⟨.int .i64 3, ?_, ⟨3, rfl, .inl ⟨rfl, fun hv => hbad (hv.lv hn0 hn64 hin)⟩⟩, ?_⟩
    · simp [results, Tryz.results37, go_sem, hc5]
    · rw [hXw]
      exact hb.trans (belowK_b (by omega) W D _ _ hD hK rfl rfl)
  case done =>
    rintro D ys W hD rfl ⟨hI, hok⟩ hK
    have hXw := H.out.2.2.2.2.2.2.2.2.1
    have hs0 := H.out.2.2.2.2.2.2.2.2.2.2.2
    have hall := repL_all (rs := rs) (m := vs.length) (by rw [H.out.2.2.2.2.2.2.2.1, H.out.2.2.2.1])
    rw [hall] at hI
    obtain ⟨L, hL⟩ := perms_of (n := n) hn0 hn64 (l := rs.flatten) (fun x hx => by
      obtain ⟨r, hr, hxr⟩ := List.mem_flatten.1 hx
      obtain ⟨i, hi⟩ := List.mem_iff_getElem?.1 hr
      have hil := (List.getElem?_eq_some_iff.1 hi).1
      obtain ⟨_, r', _, e2, _, _, e5⟩ := hok ⟨i, by rw [H.out.2.2.2.2.2.2.2.1, ← H.out.2.2.2.1]; exact hil⟩ (List.mem_finRange _)
      simp only at e2
      rw [hi] at e2; cases e2
      exact e5 x hxr)
    obtain ⟨z0, z1, z2, _, _, _⟩ := box_cells hI.c0
    obtain ⟨y1, y2⟩ := b1 hI.c1
    obtain ⟨n1, n2⟩ := b1 hI.c2
    obtain ⟨v, us, hl, hown, hul, hur⟩ := hI.l
    obtain ⟨l1, l2⟩ := b1 hl
    have w103 : Fence.wide.fn 75 := trivial
    have w104 : Fence.wide.fn 76 := trivial
    have w102 : Fence.wide.fn 74 := trivial
    have wd : Fence.wide.depth = none := rfl
    have hLl : L.length = us.length := by rw [hul, ← hL, List.length_map]
    have husl : us.length ≤ 64 * 64 := by
      have h1 := repL_len hn64 hok
      rw [hall, ← hul] at h1
      have h2 := H.out.2.2.2.2.2.2.2.1
      simp at h1
      omega
    obtain ⟨la, lc, hle, hlr⟩ := hown.row (by unfold maxLen; omega)
    have hpms : PmsV W [] v L := by
      refine ⟨la, lc, us, by rw [hle, hLl], hlr, hLl.symm, fun k s hs => ?_⟩
      have hk : k < us.length := by rw [← hLl]; exact (List.getElem?_eq_some_iff.1 hs).1
      refine ⟨us[k], List.getElem?_eq_getElem hk, ?_⟩
      have hf : rs.flatten[k]? = some s.l := by rw [← hL, List.getElem?_map, hs]; rfl
      obtain ⟨xa, xc, hxe, hxi⟩ := hur k us[k] s.l (List.getElem?_eq_getElem hk) hf
      have hxl := s.ok.1
      obtain ⟨gb, go, hae, hgl, _⟩ := hxi.at_ (k := 0) (by omega)
      subst hae
      refine ⟨gb, go, xc, by rw [hxe, hxl], by simp, Nat.lt_of_lt_of_le hgl hI.bel.size, fun i hi => ?_⟩
      obtain ⟨gb2, go2, hae2, hgl2, hce2⟩ := hxi.at_ (k := i) (by omega)
      cases hae2
      rw [(hI.bel.cell (p := ⟨gb, go + i, none⟩) (by rw [← hXw]; exact hgl2)), hce2, s.get hi]; rfl
    have HBld := fun W' (hb : Below W.heap.size W W') => build_calls (n := n) (w := W') ⟨hn0, hn64⟩ (by rw [hLl]; omega) (hpms.below hb)
    obtain ⟨us2, hle2⟩ : ∃ m, us.length = m := ⟨_, rfl⟩
    rw [hle2] at hle
    subst hle
    have HI := Lib.hid (And.intro hI (And.intro hL (And.intro HBld (And.intro hXw hs0))))
    have hXW : X + 1 + 1 + 1 < W.heap.size := (Array.getElem?_eq_some_iff.1 hl).1
    clear hI hL hpms HBld hown hul hur hlr hok hall hLl hl
    gi_wp2
    refine wpIn_wide.2 ?_
    go_region_held3 (fun V => V.cell? ⟨X, 0, none⟩ = some (.int .i64 (n : Int)) ∧ V.cell? ⟨X, 1, none⟩ = some (.slice a n c) ∧ V.cell? ⟨X, 2, none⟩ = some (.slice b n e) ∧ V.cell? ⟨X + 1 + 1, 0, none⟩ = some (.int .i64 (n : Int)) ∧ V.cell? ⟨X + 1 + 1 + 1, 0, none⟩ = some (.slice la us2 lc) ∧ Below W.heap.size W V)
      (first
        | assumption
        | exact ⟨z0, z1, z2, n1, l1, Below.refl _ _⟩
        | exact ⟨z0, z1, z2, n1, l1, below_self_drewN _ _⟩
        | exact keepC (by assumption) (by first | assumption | exact below_self_drewN _ _)
        | exact keepC ⟨z0, z1, z2, n1, l1, Below.refl _ _⟩ (by first | assumption | exact below_self_drewN _ _)
        | exact keepC ⟨z0, z1, z2, n1, l1, below_self_drewN _ _⟩ (by first | assumption | exact below_self_drewN _ _))
      (first
        | (go_at_call 74; refine (same102B H7.out.1 H7.out.2).mono ?_; rintro e8 w8 ⟨B, rfl, hB, k8⟩; have H8 := Lib.hid k8; have HBd := Lib.hid hB; clear hB k8)
        | (go_at_call 76; refine (chain_calls H6.out.1 H6.out.2.1.inv.wf).mono ?_; rintro e7 w7 ⟨ca, cc, cb, cd, rfl, k1, k2, k3, k4⟩; have B7 : Below W.heap.size W w7 := below_trans H6.out.2.2 k3; have H7 := Lib.hid (And.intro (show ChV w7 (.agg #[.int .i64 (n : Int), .slice a n c, .slice b n e]) (n : Int) os rs from ⟨a, c, b, e, by rw [H.out.2.2.1, H.out.2.2.2.1], H.out.1.below (by rw [HI.out.2.2.2.1]; exact HI.out.1.bel.trans (B7.mono (by have := HI.out.1.bel.size; have := HI.out.2.2.2.1; omega))), H.out.2.1.below (by rw [HI.out.2.2.2.1]; exact HI.out.1.bel.trans (B7.mono (by have := HI.out.1.bel.size; have := HI.out.2.2.2.1; omega)))⟩) (show ChV w7 (.agg #[.int .i64 (n : Int), .slice ca n cc, .slice cb n cd]) (n : Int) (orbI _ n) (repI _ n) from ⟨ca, cc, cb, cd, by simp [orbI, repI], k1, k2⟩)); have HB7 := Lib.hid B7; clear k1 k2 k4 B7)
        | (go_at_call 75; refine (HI.out.2.2.1 _ (by first | exact Below.refl _ _ | exact below_self_drewN _ _)).mono ?_; rintro e6 w6 ⟨t, G, M, T, F, rfl, k1, k2, k3⟩; have H6 := Lib.hid (And.intro k1 (And.intro k2 (show Below W.heap.size W w6 from below_trans (by first | exact Below.refl _ _ | exact below_self_drewN _ _) k3))); clear k1 k2))
    have B8 : Below W.heap.size W w8 := below_trans HB7.out H8.out
    have q1 := (B8.cell (p := ⟨X + 1, 0, none⟩) (block_lt_of_cell y1)).trans y1
    have q2 := (B8.frozen (p := ⟨X + 1, 0, none⟩) (show X + 1 < W.heap.size by omega)).trans y2
    have hK8 := (B8.block D (Array.getElem?_eq_some_iff.1 hK).1).trans hK
    have hc8 := (B8.block (X + 1) (by omega)).trans HI.out.1.c1
    have hv := valid_iff (os := os) (rs := rs) H6.out.2.1.of HI.out.2.1
    have hDB : X + 1 + 1 + 1 + 1 ≤ D := by have := HI.out.2.2.2.2; omega
    have hXn : w.heap.size = X := HI.out.2.2.2.1
    have hbw : Below X w w8 := HI.out.1.bel.trans (B8.mono (by have := HI.out.1.bel.size; omega))
    have HE := Lib.hid (And.intro hv (And.intro hK8 (And.intro hc8 (And.intro hDB (And.intro hXn hbw)))))
    clear hv hK8 hc8 hbw B8 hK z0 z1 z2 y1 y2 n1 n2 l1 l2 hXn
    cases B with
    | true =>
      gi_wp2
      have hK' := (KeepsOthers.setCell w8 ⟨X + 1, 0, none⟩ (.int .i64 0)).same D _ HE.out.2.1 rfl
      refine ⟨by simp, .inl ⟨_, _, rfl, run_takeDeferred hK', ?_⟩⟩
      have hc5 := cell_kept (World.cell?_setCell_same' w8 ⟨X + 1, 0, none⟩ (.int .i64 0) (by rw [q1]; rfl)) (grownBy_putObj' _ D (.deferred none)) (fun r e => by cases e; exact ⟨_, hK', rfl⟩)
      refine ⟨.int .i64 0, by simp [results, Tryz.results37, go_sem, hc5], ⟨0, rfl, .inr ⟨rfl, HE.out.1.2 ?_⟩⟩, ?_⟩
      · exact (HBd.out.1 (by simp)).2
      · try rw [HE.out.2.2.2.2.1]
        exact (HE.out.2.2.2.2.2.setCell (p := ⟨X + 1, 0, none⟩) (by simp) _).trans (below_obj (by omega) hK' rfl)
    | false =>
      gi_wp2
      have hK' := (KeepsOthers.setCell w8 ⟨X + 1, 0, none⟩ (.int .i64 3)).same D _ HE.out.2.1 rfl
      refine ⟨by simp, .inl ⟨_, _, rfl, run_takeDeferred hK', ?_⟩⟩
      have hc5 := cell_kept (World.cell?_setCell_same' w8 ⟨X + 1, 0, none⟩ (.int .i64 3) (by rw [q1]; rfl)) (grownBy_putObj' _ D (.deferred none)) (fun r e => by cases e; exact ⟨_, hK', rfl⟩)
      refine ⟨.int .i64 3, by simp [results, Tryz.results37, go_sem, hc5], ⟨3, rfl, .inl ⟨rfl, fun hV => ?_⟩⟩, ?_⟩
      · have := HBd.out.2 ⟨by simp, HE.out.1.1 hV⟩; simp at this
      · try rw [HE.out.2.2.2.2.1]
        exact (HE.out.2.2.2.2.2.setCell (p := ⟨X + 1, 0, none⟩) (by simp) _).trans (below_obj (by omega) hK' rfl)
end Go.Proofs.YtbejhkojdiadaaaGreatDoor
