/- The chain of a tower. · Lists are compared: the kit, the library, the program. · The reference's table in memory: made empty, a permutation inserted, its entries. · The reference's table: a permutation inserted. · The reference's table: its entries. · The reference's table: the entries that a list lacks. -/
import Derived.Test.YtbejhkojdiadaaaGreatDoorRk01
import Derived.Test.YtbejhkojdiadaaaGreatDoorRk02
import Derived.Test.YtbejhkojdiadaaaGreatDoorRk03
import Derived.Test.YtbejhkojdiadaaaGreatDoorRk04
import Derived.Test.YtbejhkojdiadaaaGreatDoorRk05
import Derived.Test.YtbejhkojdiadaaaGreatDoorRk06
import Derived.Test.YtbejhkojdiadaaaGreatDoorRk07
import Derived.Test.YtbejhkojdiadaaaGreatDoorProg
import Derived.WalkKit
import Derived.WalkSpells
import Derived.BigQuiet
import Derived.Deep.QuietTactic
import Derived.Deep.LoopGhost
import Derived.Lib.Hide
import Derived.Maps.AppendAt
import Derived.Deep.AppendLies
import Derived.StillTailTactics
import Derived.Laws.CopyOwn
import Derived.Deep.OwnRows
import Derived.Deep.DeepCutAuto
import Derived.Laws.Cover3
import Derived.Deep.RegionHeld3
import Derived.RangeFuncBox
import Derived.RangeFuncLeaves
import Derived.RangeFuncWrites
import Derived.RangeFuncFrom
import Derived.Shelf.Abstract
import Derived.OwnWalkIn
import Derived.TacticsInMore
import Derived.LoopNIn
import Derived.LoopIn
import Derived.Shelf.GgSortFunc.Insertion
import Derived.Shelf.SlIter.Collect
import Derived.Shelf.Sort.Plain
import Derived.Deep.RegionLaw
set_option linter.unusedSimpArgs false
set_option linter.unusedVariables false
namespace Go.Proofs.YtbejhkojdiadaaaGreatDoor
open Go.RowKit PlainPm
theorem OnlyNormal.imp {R : Act → World → Prop} {Q : Exit → Act → World → Prop} (h : ∀ a w, R a w → Q .normal a w) : ∀ e a w, OnlyNormal R e a w → Q e a w := fun e a w k => by
  cases e with
  | normal => exact h a w k
  | _ => exact (k : False).elim
set_option maxRecDepth 100000 in
set_option maxHeartbeats 8000000 in
theorem chain_calls {n B t G : Nat} {w : World} {M : List Nat} {T : Tw n} {F : Nat → Value} (hT : TowW n B t G w M T F) (hw : Wf T) :
    Calls Tryz.prog 76 #[.pointer (some ⟨t, 0, none⟩)] w fun e w' =>
      ∃ a c b d, e = .returned (.agg #[.int .i64 (n : Int), .slice a n c, .slice b n d]) ∧ Rows w' a (orbI T n) ∧ Rows2 w' b (repI T n) ∧ Below w.heap.size w w' ∧ ∃ csO csR, Own w' w.heap.size (.slice a n c) 40 csO ∧ OwnRows w' w.heap.size 3 csO (orbI T n) ∧ Own w' w.heap.size (.slice b n d) 28 csR ∧ OwnR2 w' w.heap.size csR (repI T n) := by
  obtain ⟨i3, hi3, hz3, hs3, hb3⟩ := info_parts Tryz.info3
  obtain ⟨i26, hi26, hz26, hs26, hb26⟩ := info_parts Tryz.info40
  obtain ⟨i27, hi27, hz27, hs27, hb27⟩ := info_parts Tryz.info41
  obtain ⟨i44, hi44, hz44, hs44, hb44⟩ := info_parts Tryz.info28
  have I3 := Lib.hid (And.intro hi3 (And.intro hz3 (And.intro hs3 hb3)))
  have I26 := Lib.hid (And.intro hi26 (And.intro hz26 (And.intro hs26 hb26)))
  have I27 := Lib.hid (And.intro hi27 (And.intro hz27 (And.intro hs27 hb27)))
  have I44 := Lib.hid (And.intro hi44 (And.intro hz44 (And.intro hs44 hb44)))
  clear hi3 hz3 hs3 hb3 hi26 hz26 hs26 hb26 hi27 hz27 hs27 hb27 hi44 hz44 hs44 hb44
  have hn := hT.hn
  have t0 := hT.tb
  have t1 := hT.tl
  have tlt := hT.tm.2
  obtain ⟨X, hX⟩ : ∃ X, w.heap.size = X := ⟨_, rfl⟩
  have tne : t ≠ X := by omega
  have tltX : t < X := by omega
  obtain ⟨W1, hW1⟩ : ∃ W1, W1 = (w.alloc (.cells #[.int .i64 0, .slice none 0 0, .slice none 0 0] 25)).alloc (.cells #[.int .i64 (n : Int), .slice none 0 0, .slice none 0 0] 25) := ⟨_, rfl⟩
  have hbw : Below w.heap.size w W1 := by rw [hW1]; exact alloc_b (alloc_b (Below.refl _ _) _) _
  have hs1 : W1.heap.size = X + 2 := by rw [hW1, ← hX]; simp
  have hc1 : W1.heap[X + 1]? = some (.cells #[.int .i64 (n : Int), .slice none 0 0, .slice none 0 0] 25) := by
    rw [hW1, ← hX]
    have := World.alloc_heap_new (w.alloc (.cells #[.int .i64 0, .slice none 0 0, .slice none 0 0] 25)) (.cells #[.int .i64 (n : Int), .slice none 0 0, .slice none 0 0] 25)
    rw [World.size_alloc] at this
    exact this
  have hr1 : W1.heap[X]? = some (.cells #[.int .i64 0, .slice none 0 0, .slice none 0 0] 25) := by
    rw [hW1, ← hX, Below.heap_alloc _ _ _ (by simp)]
    exact World.alloc_heap_new w _
  have H := Lib.hid (And.intro hT (And.intro hw (And.intro hbw (And.intro hs1 hr1))))
  have HX := Lib.hid hX
  clear hT hw hbw hs1 hr1
  go_enter Tryz.func76, Tryz.ntmps76
  go_wp2_with fail
  try rw [← hW1]
  have hx1 : ∀ W, Below (X + 1) W1 W → Below w.heap.size w W ∧ W.heap[X]? = W1.heap[X]? ∧ TowW n B t G W M T F := fun W h => by
    have hb : Below w.heap.size w W := H.out.2.2.1.trans (h.mono (by omega))
    exact ⟨hb, h.block X (by omega), H.out.1.below hb⟩
  have Hx := Lib.hid hx1
  clear hW1 hX hx1 t0 t1 tlt tne tltX
  go_loopw [19] (fun kk wr => ∃ (k : Nat) (vO vR : Value) (csO csR : List Value), k ≤ n ∧ kk = .int .i64 (k : Int) ∧ wr.heap[X + 1]? = some (.cells #[.int .i64 (n : Int), vO, vR] 25) ∧ Own wr (X + 2) vO 40 csO ∧ OwnRows wr (X + 2) 3 csO (orbI T k) ∧ Own wr (X + 2) vR 28 csR ∧ OwnR2 wr (X + 2) csR (repI T k) ∧ Below (X + 1) W1 wr) (fun kk _ => n - (intOf kk).toNat)
  case atStart => exact ⟨0, _, _, [], [], by omega, rfl, hc1, Own.nil _ _ _, OwnRows.nil _ _ _, Own.nil _ _ _, OwnR2.nil _ _, Below.refl _ _⟩
  case round =>
    clear hc1
    obtain ⟨k, vO, vR, csO, csR, hk, rfl, hC, hO, hOr, hR, hRr, hbl⟩ := hrel
    obtain ⟨wo, rfl⟩ : ∃ wo : World, wo = wr := ⟨_, rfl⟩
    have hso : X + 2 ≤ wo.heap.size := by have := hbl.size; have := H.out.2.2.2.1; omega
    obtain ⟨hb1, _, hTo⟩ := Hx.out wo hbl
    have HO := Lib.hid (And.intro hC (And.intro hO (And.intro hOr (And.intro hR (And.intro hRr (And.intro hbl (And.intro hso (And.intro hb1 hTo))))))))
    have hCk := hC
    clear hO hOr hR hRr hbl hb1
    by_cases hkn : k < n
    · have t1 := hTo.tl
      have o1 := hTo.orb_ hkn
      have g1 := hTo.cell (c := 1) hkn (by omega)
      have hol := orb_le H.out.2.1 hkn
      obtain ⟨ov, hov⟩ : ∃ ov, F (194 * k + 1) = ov := ⟨_, rfl⟩
      rw [hov] at o1 g1
      rw [show 194 * k + 1 = k * 194 + 1 by omega] at g1
      obtain ⟨oa, oc, hoe, hor⟩ := o1.row (by rw [ints_len, nts_len]; unfold maxLen; omega)
      rw [ints_len, nts_len] at hoe
      obtain ⟨L, hL⟩ : ∃ L, (T k).orb.length = L := ⟨_, rfl⟩
      rw [hL] at hoe hol
      subst hoe
      have hoi : Ints wo oa (nts (T k).orb) := hor
      obtain ⟨pts, hpts⟩ : ∃ pts, ptsOf n (T k).orb = pts := ⟨_, rfl⟩
      have hsrt := srt_pts (n := n) (l := (T k).orb) (H.out.2.1 k hkn).nd (fun p hp => by
        obtain ⟨z, hz⟩ := Option.isSome_iff_exists.1 (((H.out.2.1 k hkn).orb p).1 hp)
        exact ((H.out.2.1 k hkn).img p z hz).1)
      rw [hpts] at hsrt
      have hval := values_calls oa L oc wo
      have hsor := fun (w' : World) (hw' : w' = wo.alloc (.cells #[.slice oa L oc] 40)) => sorted_calls wo.heap.size oa oc (nts (T k).orb) w' (by rw [hw']; exact hoi.below ((Below.refl _ _).alloc (Nat.le_refl _) _)) (by rw [nts_len]; omega) (by rw [hw', nts_len, hL]; simp only [World.cell?, heap_new wo (.cells #[.slice oa L oc] 40)]; rfl)
      rw [hsrt] at hsor
      have hpl : pts.length ≤ n := by rw [← hpts]; exact ptsOf_len _
      have hpm : ∀ p ∈ pts, ∃ y, (T k).to p = some y := fun p hp => by
        rw [← hpts, mem_ptsOf] at hp
        exact Option.isSome_iff_exists.1 (((H.out.2.1 k hkn).orb p).1 hp.2)
      have HV := Lib.hid (And.intro hval (And.intro hsor (And.intro hpts (And.intro hpl hpm))))
      clear hval hsor hpts hpl hpm hoi hor o1 hov hL hsrt hTo hC hCk
      have hk1 : (k : Int) < n := by omega
      go_wp2_with (first
        | (go_at_call 111; refine H2.out.mono ?_; rintro e w4 ⟨v4, rfl, k4, k5⟩; obtain ⟨pa, pc, rfl, -⟩ := k4.row (by rw [ints_len, nts_len]; have := HV.out.2.2.2.1; unfold maxLen; omega); have H4 := Lib.hid (And.intro k4 k5); clear k4 k5)
        | (go_at_call 112; refine HV.out.1.mono ?_; rintro e w3 ⟨rfl, hw3⟩; have H2 := Lib.hid (HV.out.2.1 w3 hw3); have H3 := Lib.hid (by rw [hw3]; exact (Below.refl _ wo).alloc (Nat.le_refl _) _ : Below wo.heap.size wo w3); clear hw3))
      have hb4 : Below wo.heap.size wo w4 := H3.out.trans (H4.out.2.mono H3.out.size)
      have HB4 := Lib.hid hb4
      clear hb4 g1 t1
      obtain ⟨Lp, hLp⟩ : ∃ Lp, pts.length = Lp := ⟨_, rfl⟩
      rw [ints_len, nts_len, hLp]
      have hLp64 : Lp ≤ 64 := by have := HV.out.2.2.2.1; omega
      go_loopw [6, 34] (fun vr jj wr => ∃ (j : Nat) (us : List Value), j ≤ Lp ∧ jj = .int .i64 (j : Int) ∧ Own wr w4.heap.size vr 41 us ∧ OwnRows wr w4.heap.size 3 us ((pts.take j).map fun p => (repT T k p).l) ∧ Below w4.heap.size w4 wr) (fun _ jj _ => Lp - (intOf jj).toNat)
      case atStart => exact ⟨0, [], by omega, rfl, Own.nil _ _ _, OwnRows.nil _ _ _, Below.refl _ _⟩
      case round =>
        obtain ⟨j, us, hj, rfl, hvr, hus, hbr⟩ := hrel
        obtain ⟨wi, rfl⟩ : ∃ wi : World, wi = wr := ⟨_, rfl⟩
        have hbi : Below wo.heap.size wo wi := HB4.out.trans (hbr.mono HB4.out.size)
        have hTi := HO.out.2.2.2.2.2.2.2.2.below hbi
        have HI := Lib.hid (And.intro hvr (And.intro hus (And.intro hbr (And.intro hbi hTi))))
        clear hvr hus hbr hbi
        by_cases hjl : j < Lp
        · obtain ⟨p, hp⟩ : ∃ p, pts[j]? = some p := ⟨_, List.getElem?_eq_getElem (by omega)⟩
          obtain ⟨y, hy⟩ := HV.out.2.2.2.2 p (List.mem_of_getElem? hp)
          have hpn : p < n := ((H.out.2.1 k hkn).img p y hy).1
          have t1 := hTi.tl
          have hto := hTi.to_ hkn (p := p) (by omega)
          have hct := hTi.cell hkn (c := 2 + p) (by omega)
          rw [hy] at hto
          obtain ⟨f, hf⟩ : ∃ f, F (194 * k + (2 + p)) = f := ⟨_, rfl⟩
          rw [hf] at hto hct
          rw [show 194 * k + (2 + p) = k * 194 + 2 + p by omega] at hct
          have hto : PmV wi M f y := hto
          obtain ⟨fb, fo, fc, rfl⟩ := hto.form
          have hip : Ints w4 pa (nts pts) := H4.out.1.toInts (by rw [nts_len]; have := HV.out.2.2.2.1; unfold maxLen; omega)
          obtain ⟨pb, po, hpa, hpB, pce⟩ := (hip.below HI.out.2.2.1).at_ (k := j) (by rw [nts_len]; omega)
          subst hpa
          rw [nts_get (by omega), hp, Option.getD_some] at pce
          have hls := least_calls hTi H.out.2.1 hto hkn
          have hrt : leastT T (n - (k + 1)) (k + 1) y = repT T k p := by unfold repT; rw [hy]; rfl
          rw [hrt] at hls
          have hsw : w4.heap.size ≤ wi.heap.size := HI.out.2.2.1.size
          have hul : us.length < 1000000 := by rw [HI.out.2.1.1, List.length_map, List.length_take]; have := HV.out.2.2.2.1; omega
          have HL := Lib.hid (And.intro hls (And.intro hp (And.intro hsw hjl)))
          clear hls hp hy hf hto hTi hip hrt
          have hp64 : (p : Int) < 64 := by omega
          have hj1 : (j : Int) < Lp := by omega
          go_wp2_with (first
            | (at_builtin; refine app1 rfl (.tmp 38) (.tmp 53) 28 41 rfl i27 (.slice none 0 0) 24 Tryz.underlying28 I27.out.1 I27.out.2.1 I27.out.2.2.1 I27.out.2.2.2 rfl (by omega) w4.heap.size (.slice qa (ints (repT T k p).l).length qc) u6 us rfl (HI.out.1.below H7.out.2.1) rfl rfl (by omega) (Nat.le_trans HL.out.2.2.1 H7.out.2.1.size) ?_; intro v8 w8 k1 k2 k3; have H8 := Lib.hid (And.intro k1 (And.intro k2 k3)); clear k1 k2 k3)
            | (go_at_call 40; refine H6.out.2.2.mono ?_; rintro e w7 ⟨v7, rfl, k4, k5⟩; obtain ⟨qa, qc, rfl, -⟩ := k4.row (by rw [ints_len, (repT T k p).ok.1]; unfold maxLen; omega); have H7 := Lib.hid (And.intro k4 (And.intro (H6.out.2.1.trans (k5.mono H6.out.2.1.size)) k5)); clear k4 k5)
            | (go_at_call 113; refine HL.out.1.mono ?_; rintro e w6 ⟨v6, rfl, k4, k5⟩; obtain ⟨ra, rc, rfl, k6⟩ := k4.ints (by omega); have H6 := Lib.hid (And.intro k4 (And.intro k5 (clone67 ra rc _ w6 k6 (by rw [(repT T k p).ok.1]; omega)))); clear k4 k5 k6))
          have hA8 : Below w4.heap.size w4 w8 := ((HI.out.2.2.1.trans (H7.out.2.1.mono HL.out.2.2.1)).grown H8.out.2.1 (Nat.le_trans HL.out.2.2.1 H7.out.2.1.size) (fun g hg => (HI.out.1.block_lt hg).2))
          have hown7 := HI.out.1.below H7.out.2.1
          have hjl2 : j < Lp := HL.out.2.2.2
          refine ⟨⟨j + 1, us ++ [.slice qa (ints (repT T k p).l).length qc], by omega, by go_num, ?_, ?_, hA8⟩, by simp [intOf]; omega⟩
          · exact H8.out.1
          · rw [List.take_add_one, HL.out.2.1, Option.toList_some, List.map_append]
            refine ((HI.out.2.1.below H7.out.2.1).kept H8.out.2.1 (fun u xs hu => hu.ne_type hown7 (by decide))).app (OwnRows.one ?_)
            exact (H7.out.1.kept H8.out.2.1 (H7.out.1.ne_type hown7 (by decide))).mono (Nat.le_trans HL.out.2.2.1 H6.out.2.1.size)
        · obtain rfl : j = Lp := by omega
          have hbo := HI.out.2.2.2.1
          have hC : wi.heap[X + 1]? = some (.cells #[.int .i64 (n : Int), vO, vR] 25) := (hbo.block (X + 1) (by omega)).trans HO.out.1
          have hpn2 := HV.out.2.2.2.1
          obtain ⟨ra, rc, hrv, -⟩ := HI.out.1.row (by rw [HI.out.2.1.1, List.length_map, List.length_take]; unfold maxLen; omega)
          obtain ⟨lr, hlr⟩ : ∃ l, us.length = l := ⟨_, rfl⟩
          rw [hlr] at hrv
          subst hrv
          have hO' := HO.out.2.1.below hbo
          have hR' := HO.out.2.2.2.1.below hbo
          have hsw : X + 2 ≤ wi.heap.size := Nat.le_trans hso hbo.size
          have hcO : csO.length < 1000000 := by rw [HO.out.2.2.1.1]; simp [orbI]; omega
          have hcR : csR.length < 1000000 := by rw [HO.out.2.2.2.2.1.1]; simp [repI]; omega
          have ho4 : Own wi wo.heap.size (.slice pa j pc) 3 (ints (nts pts)) := by
            have h4 := H4.out.1
            rw [ints_len, nts_len, hLp] at h4
            exact (h4.below HI.out.2.2.1).mono H3.out.size
          have hp4 := HI.out.1.mono HB4.out.size
          have hus4 := HI.out.2.1.mono HB4.out.size
          rw [List.take_of_length_le (by omega)] at hus4
          have HB := Lib.hid (And.intro hC (And.intro hO' (And.intro hR' (And.intro hlr (And.intro hbo (And.intro ho4 (And.intro hp4 hus4)))))))
          clear hC hO' hR' hbo ho4 hp4 hus4 hlr hTi hLp
          go_upto_region 12 with (fail)
          refine Code.wp_mono (OnlyNormal.imp fun a' W h => ?_) (reg104_wp (X := X) (L := j) (lr := lr) (pa := pa) (ra := ra) (pc := pc) (rc := rc) _ _ _ _ _ _ _ _ _ _ _ _ _ _ _ _ _ _ _ _ _ _ _ _ _ _ _ _ _ _ _ _ _ _ _ _ _ _ _ _ _ _ _ _ _ _ _ _ _ _ _ _ _ _ _ _ _ _ _ _ _ _ _ _ _ _ _ HB.out.1 HB.out.2.1 HB.out.2.2.1 hsw hcO hcR)
          obtain ⟨v8, v9, w8, w9, d56, d57, d58, d59, d60, d61, d62, d63, d64, d65, d66, d67, k1, k2, k3, k4, k5, k6, rfl⟩ := h
          have hfin := grp_end HO.out.2.1 HO.out.2.2.1 HO.out.2.2.2.1 HO.out.2.2.2.2.1 HO.out.2.2.2.2.2.1 hso (by have := H.out.2.2.2.1; omega) HB.out.2.2.2.2.1 HB.out.2.2.2.2.2.1 HB.out.2.2.2.2.2.2.1 HB.out.2.2.2.2.2.2.2 k1 k2 k3 k4 k5
          rw [← k6] at hfin
          have e1 := orbI_succ T k
          have e2 := repI_succ T k
          rw [HV.out.2.2.1] at e1 e2
          rw [← e1, ← e2] at hfin
          have HF := Lib.hid hfin
          clear hfin k1 k2 k3 k4 k5 k6 e1 e2
          go_wp2
          exact ⟨⟨k + 1, v8, v9, _, _, by omega, by go_num, HF.out⟩, by simp [intOf]; omega⟩
    · obtain rfl : k = n := by omega
      obtain ⟨_, hx4, _⟩ := Hx.out wo HO.out.2.2.2.2.2.1
      have hR1 := hx4.trans H.out.2.2.2.2
      obtain ⟨aO, cO, hvO, _⟩ := HO.out.2.2.1.rows HO.out.2.1 (by rw [HO.out.2.2.1.1]; simp [orbI]; unfold maxLen; omega) (pts_len T hn.2 k)
      obtain ⟨aR, cR, hvR, _⟩ := HO.out.2.2.2.2.1.rows2 HO.out.2.2.2.1 (by rw [HO.out.2.2.2.2.1.1]; simp [repI]; omega) (pms_len T hn.2 k)
      rw [show (orbI T k).length = k by simp [orbI]] at hvO
      rw [show (repI T k).length = k by simp [repI]] at hvR
      subst hvO
      subst hvR
      obtain ⟨c0, c1, c2, _, _, _⟩ := box_cells HO.out.1
      obtain ⟨d0, d1, d2, d3, d4, d5⟩ := box_cells hR1
      clear hTo hC hCk
      go_wp2
      obtain ⟨WF, hWF⟩ : ∃ WF, WF = ((wo.setCell ⟨X, 0, none⟩ (.int .i64 (k : Int))).setCell ⟨X, 1, none⟩ (.slice aO k cO)).setCell ⟨X, 2, none⟩ (.slice aR k cR) := ⟨_, rfl⟩
      have hF : WF.heap[X]? = some (.cells #[.int .i64 (k : Int), .slice aO k cO, .slice aR k cR] 25) := by
        rw [hWF]; exact box_set2 (box_set1 (box_set0 hR1))
      have gF : wo.grownBy WF (some X) := by rw [hWF]; exact ((grown_put 0 _).trans (grown_put 1 _)).trans (grown_put 2 _)
      rw [← hWF]
      clear hWF
      obtain ⟨f0, f1, f2, _, _, _⟩ := box_cells hF
      have hO9 := HO.out.2.1.off gF (by omega)
      have hR9 := HO.out.2.2.2.1.off gF (by omega)
      obtain ⟨aO', cO', hvO, hrO⟩ := (HO.out.2.2.1.off gF (by omega)).rows hO9 (by rw [HO.out.2.2.1.1]; simp [orbI]; unfold maxLen; omega) (pts_len T hn.2 k)
      obtain ⟨aR', cR', hvR, hrR⟩ := (HO.out.2.2.2.2.1.off gF (by omega)).rows2 hR9 (by rw [HO.out.2.2.2.2.1.1]; simp [repI]; omega) (pms_len T hn.2 k)
      rw [show (orbI T k).length = k by simp [orbI]] at hvO
      rw [show (repI T k).length = k by simp [repI]] at hvR
      cases hvO
      cases hvR
      have hbF : Below w.heap.size w WF := by
        refine (H.out.2.2.1.trans (HO.out.2.2.2.2.2.1.mono (by rw [HX.out]; omega))).grown gF (by rw [HX.out]; omega) (fun g hg => ?_)
        cases hg; rw [HX.out]; exact Nat.le_refl _
      refine bodyPost_ret (v := .agg #[.int .i64 (k : Int), .slice aO k cO, .slice aR k cR]) (by simp [results, Tryz.results76, go_sem, f0, f1, f2]) rfl ?_
      have hXle : w.heap.size ≤ X + 2 := by rw [HX.out]; omega
      exact ⟨_, _, _, _, rfl, hrO, hrR, hbF, csO, csR, hO9.mono hXle, (HO.out.2.2.1.off gF (by omega)).mono hXle, hR9.mono hXle, (HO.out.2.2.2.2.1.off gF (by omega)).mono hXle⟩
end Go.Proofs.YtbejhkojdiadaaaGreatDoor
namespace Go.Proofs.YtbejhkojdiadaaaGreatDoor
open Go.RowKit PlainPm
def agreeTo {α : Type} (xs ys : List α) (k : Nat) : Prop := ∀ i, i < k → xs[i]? = ys[i]?
theorem agreeTo_all {α : Type} {xs ys : List α} (h : xs.length = ys.length) (k : Nat) (hk : xs.length ≤ k) (ha : agreeTo xs ys k) : xs = ys := by
  apply List.ext_getElem? ; intro i
  by_cases hi : i < k
  · exact ha i hi
  · rw [List.getElem?_eq_none (by omega), List.getElem?_eq_none (by omega)]
theorem agreeTo_succ {α : Type} {xs ys : List α} {k : Nat} (ha : agreeTo xs ys k) (h : xs[k]? = ys[k]?) : agreeTo xs ys (k + 1) := by
  intro i hi
  by_cases he : i = k
  · rw [he]; exact h
  · exact ha i (by omega)

theorem getD_eq_iff {α : Type} {xs ys : List α} {d : α} {k : Nat} (h1 : k < xs.length) (h2 : k < ys.length) : xs[k]?.getD d = ys[k]?.getD d ↔ xs[k]? = ys[k]? := by
  rw [List.getElem?_eq_getElem h1, List.getElem?_eq_getElem h2]; simp

set_option maxHeartbeats 400000 in
theorem same20 (a b : Option Addr) (c d : Nat) (xs ys : List Int) (w : World) (ha : Ints w a xs) (hb : Ints w b ys) :
    Calls Tryz.prog 20 #[.slice a xs.length c, .slice b ys.length d] w fun e w' => e = .returned (.bool (decide (xs = ys))) ∧ ∃ q, w' = w.drewN q := by
  have hA := Lib.hid ha
  have hB := Lib.hid hb
  have hmx := ha.len
  clear ha hb
  obtain ⟨n, hn⟩ : ∃ n, n = xs.length := ⟨_, rfl⟩
  obtain ⟨m, hm⟩ : ∃ m, m = ys.length := ⟨_, rfl⟩
  rw [← hn, ← hm]
  rw [← hn] at hmx
  by_cases h : n = m
  · subst h
    have Hn := Lib.hid hn
    have Hm := Lib.hid hm
    clear hn hm
    go_enter Tryz.func20, Tryz.ntmps20
    go_wp2
    go_loopw [5] (fun i wr => ∃ k q : Nat, k ≤ n ∧ i = .int .i64 k ∧ wr = w.drewN q ∧ agreeTo xs ys k) (fun i _ => n - (intOf i).toNat)
    case atStart => exact ⟨0, 0, Nat.zero_le _, rfl, rfl, fun i hi => by omega⟩
    case round =>
      obtain ⟨k, q, hk, rfl, rfl, he⟩ := hrel
      have He := Lib.hid he
      clear he
      by_cases hlt : k < n
      · obtain ⟨a', oa, rfl, _, hca⟩ := hA.out.at_ (k := k) (by have := Hn.out; omega)
        obtain ⟨b', ob, rfl, _, hcb⟩ := hB.out.at_ (k := k) (by have := Hm.out; omega)
        go_wp2
        go_quiet (fail)
        go_wp2
        · rename_i hne
          go_ret
          refine ⟨ret_bool ?_, _, World.drewN_drewN _ _ _⟩
          symm; rw [decide_eq_false_iff_not]
          rintro rfl
          simp at hne
        · rename_i heq
          refine ⟨⟨k + 1, q + nq, by omega, by go_num, rfl, agreeTo_succ He.out ?_⟩, by simp [intOf]; omega⟩
          have h1 : xs[k]?.getD 0 = ys[k]?.getD 0 := by simpa using heq
          exact (getD_eq_iff (by have := Hn.out; omega) (by have := Hm.out; omega)).1 h1
      · go_wp2
        go_ret
        refine ⟨ret_bool ?_, _, rfl⟩
        symm; rw [decide_eq_true_iff]
        exact agreeTo_all (by rw [← Hn.out, ← Hm.out]) k (by have := Hn.out; omega) He.out
  · have hne' : ((n : Int) != m) = true := by simp; omega
    have H := Lib.hid hn
    have H' := Lib.hid hm
    clear hn hm
    go_enter Tryz.func20, Tryz.ntmps20
    go_wp2
    go_ret
    refine ⟨ret_bool ?_, 0, rfl⟩
    symm; rw [decide_eq_false_iff_not]
    rintro rfl
    exact h (by rw [H.out, H'.out])

set_option maxHeartbeats 400000 in
theorem equal138 (a b : Option Addr) (c d : Nat) (xs ys : List Int) (w : World) (ha : Ints w a xs) (hb : Ints w b ys) :
    Calls Tryz.prog 103 #[.slice a xs.length c, .slice b ys.length d] w fun e w' => e = .returned (.bool (decide (xs = ys))) ∧ ∃ q, w' = w.drewN q := by
  have hA := Lib.hid ha
  have hB := Lib.hid hb
  have hmx := ha.len
  clear ha hb
  obtain ⟨n, hn⟩ : ∃ n, n = xs.length := ⟨_, rfl⟩
  obtain ⟨m, hm⟩ : ∃ m, m = ys.length := ⟨_, rfl⟩
  rw [← hn, ← hm]
  rw [← hn] at hmx
  by_cases h : n = m
  · subst h
    have Hn := Lib.hid hn
    have Hm := Lib.hid hm
    clear hn hm
    go_enter Tryz.func103, Tryz.ntmps103
    go_wp2
    go_loopw [13] (fun i wr => ∃ k q : Nat, k ≤ n ∧ i = .int .i64 k ∧ wr = w.drewN q ∧ agreeTo xs ys k) (fun i _ => n - (intOf i).toNat)
    case atStart => exact ⟨0, 0, Nat.zero_le _, rfl, rfl, fun i hi => by omega⟩
    case round =>
      obtain ⟨k, q, hk, rfl, rfl, he⟩ := hrel
      have He := Lib.hid he
      clear he
      by_cases hlt : k < n
      · obtain ⟨a', oa, rfl, _, hca⟩ := hA.out.at_ (k := k) (by have := Hn.out; omega)
        obtain ⟨b', ob, rfl, _, hcb⟩ := hB.out.at_ (k := k) (by have := Hm.out; omega)
        go_wp2
        go_quiet (fail)
        go_wp2
        · rename_i hne
          go_ret
          refine ⟨ret_bool ?_, _, World.drewN_drewN _ _ _⟩
          symm; rw [decide_eq_false_iff_not]
          rintro rfl
          simp at hne
        · rename_i heq
          refine ⟨⟨k + 1, q + nq, by omega, by go_num, rfl, agreeTo_succ He.out ?_⟩, by simp [intOf]; omega⟩
          have h1 : xs[k]?.getD 0 = ys[k]?.getD 0 := by simpa using heq
          exact (getD_eq_iff (by have := Hn.out; omega) (by have := Hm.out; omega)).1 h1
      · go_wp2
        go_ret
        refine ⟨ret_bool ?_, _, rfl⟩
        symm; rw [decide_eq_true_iff]
        exact agreeTo_all (by rw [← Hn.out, ← Hm.out]) k (by have := Hn.out; omega) He.out
  · have hne' : ((n : Int) != m) = true := by simp; omega
    have H := Lib.hid hn
    have H' := Lib.hid hm
    clear hn hm
    go_enter Tryz.func103, Tryz.ntmps103
    go_wp2
    go_ret
    refine ⟨ret_bool ?_, 0, rfl⟩
    symm; rw [decide_eq_false_iff_not]
    rintro rfl
    exact h (by rw [H.out, H'.out])

set_option maxHeartbeats 400000 in
theorem equal95 (a b : Option Addr) (c d : Nat) (xs ys : List Int) (w : World) (ha : Ints w a xs) (hb : Ints w b ys) :
    Calls Tryz.prog 108 #[.slice a xs.length c, .slice b ys.length d] w fun e w' => e = .returned (.bool (decide (xs = ys))) ∧ ∃ q, w' = w.drewN q := by
  have hA := Lib.hid ha
  have hB := Lib.hid hb
  have hmx := ha.len
  clear ha hb
  obtain ⟨n, hn⟩ : ∃ n, n = xs.length := ⟨_, rfl⟩
  obtain ⟨m, hm⟩ : ∃ m, m = ys.length := ⟨_, rfl⟩
  rw [← hn, ← hm]
  rw [← hn] at hmx
  by_cases h : n = m
  · subst h
    have Hn := Lib.hid hn
    have Hm := Lib.hid hm
    clear hn hm
    go_enter Tryz.func108, Tryz.ntmps108
    go_wp2
    go_loopw [13] (fun i wr => ∃ k q : Nat, k ≤ n ∧ i = .int .i64 k ∧ wr = w.drewN q ∧ agreeTo xs ys k) (fun i _ => n - (intOf i).toNat)
    case atStart => exact ⟨0, 0, Nat.zero_le _, rfl, rfl, fun i hi => by omega⟩
    case round =>
      obtain ⟨k, q, hk, rfl, rfl, he⟩ := hrel
      have He := Lib.hid he
      clear he
      by_cases hlt : k < n
      · obtain ⟨a', oa, rfl, _, hca⟩ := hA.out.at_ (k := k) (by have := Hn.out; omega)
        obtain ⟨b', ob, rfl, _, hcb⟩ := hB.out.at_ (k := k) (by have := Hm.out; omega)
        go_wp2
        go_quiet (fail)
        go_wp2
        · rename_i hne
          go_ret
          refine ⟨ret_bool ?_, _, World.drewN_drewN _ _ _⟩
          symm; rw [decide_eq_false_iff_not]
          rintro rfl
          simp at hne
        · rename_i heq
          refine ⟨⟨k + 1, q + nq, by omega, by go_num, rfl, agreeTo_succ He.out ?_⟩, by simp [intOf]; omega⟩
          have h1 : xs[k]?.getD 0 = ys[k]?.getD 0 := by simpa using heq
          exact (getD_eq_iff (by have := Hn.out; omega) (by have := Hm.out; omega)).1 h1
      · go_wp2
        go_ret
        refine ⟨ret_bool ?_, _, rfl⟩
        symm; rw [decide_eq_true_iff]
        exact agreeTo_all (by rw [← Hn.out, ← Hm.out]) k (by have := Hn.out; omega) He.out
  · have hne' : ((n : Int) != m) = true := by simp; omega
    have H := Lib.hid hn
    have H' := Lib.hid hm
    clear hn hm
    go_enter Tryz.func108, Tryz.ntmps108
    go_wp2
    go_ret
    refine ⟨ret_bool ?_, 0, rfl⟩
    symm; rw [decide_eq_false_iff_not]
    rintro rfl
    exact h (by rw [H.out, H'.out])

set_option maxHeartbeats 400000 in
theorem same47 (a b : Option Addr) (c d : Nat) (xs ys : List (List Int)) (w : World) (ha : Rows w a xs) (hb : Rows w b ys) :
    Calls Tryz.prog 16 #[.slice a xs.length c, .slice b ys.length d] w fun e w' => e = .returned (.bool (decide (xs = ys))) ∧ ∃ q, w' = w.drewN q := by
  have hA := Lib.hid ha
  have hB := Lib.hid hb
  have hmx := ha.len
  clear ha hb
  obtain ⟨n, hn⟩ : ∃ n, n = xs.length := ⟨_, rfl⟩
  obtain ⟨m, hm⟩ : ∃ m, m = ys.length := ⟨_, rfl⟩
  rw [← hn, ← hm]
  rw [← hn] at hmx
  by_cases h : n = m
  · subst h
    have Hn := Lib.hid hn
    have Hm := Lib.hid hm
    clear hn hm
    go_enter Tryz.func16, Tryz.ntmps16
    go_wp2
    go_loopw [5] (fun i wr => ∃ k q : Nat, k ≤ n ∧ i = .int .i64 k ∧ wr = w.drewN q ∧ agreeTo xs ys k) (fun i _ => n - (intOf i).toNat)
    case atStart => exact ⟨0, 0, Nat.zero_le _, rfl, rfl, fun i hi => by omega⟩
    case round =>
      obtain ⟨k, q, hk, rfl, rfl, he⟩ := hrel
      have He := Lib.hid he
      clear he
      by_cases hlt : k < n
      · obtain ⟨a', oa, a2, ac, rfl, _, hca, hia⟩ := hA.out.at_ (k := k) (by have := Hn.out; omega)
        obtain ⟨b', ob, b2, bc, rfl, _, hcb, hib⟩ := hB.out.at_ (k := k) (by have := Hm.out; omega)
        have hxl : k < xs.length := by have := Hn.out; omega
        have hyl : k < ys.length := by have := Hm.out; omega
        obtain ⟨x, hx⟩ : ∃ x, xs[k]?.getD [] = x := ⟨_, rfl⟩
        obtain ⟨y, hy⟩ : ∃ y, ys[k]?.getD [] = y := ⟨_, rfl⟩
        rw [hx] at hca hia
        rw [hy] at hcb hib
        have Hc := Lib.hid (fun n => same20 a2 b2 ac bc x y (w.drewN n) hia hib)
        have Hx := Lib.hid hx
        have Hy := Lib.hid hy
        obtain ⟨r, hr⟩ : ∃ r, decide (x = y) = r := ⟨_, rfl⟩
        rw [hr] at Hc
        have Hr := Lib.hid hr
        clear hia hib hx hy hr hxl hyl
        go_wp2
        go_quiet ((go_at_call 20; exact quiet_add (Hc.out _)))
        go_wp2
        · rename_i hr0
          go_ret
          refine ⟨ret_bool ?_, _, World.drewN_drewN _ _ _⟩
          symm; rw [decide_eq_false_iff_not]
          rintro rfl
          have := Hr.out
          rw [← Hx.out, ← Hy.out] at this
          simp at this hr0
          simp_all
        · rename_i hr0
          refine ⟨⟨k + 1, q + nq, by omega, by go_num, rfl, agreeTo_succ He.out ?_⟩, by simp [intOf]; omega⟩
          have h1 : x = y := by have := Hr.out; simp at hr0; simp_all
          rw [← Hx.out, ← Hy.out] at h1
          exact (getD_eq_iff (by have := Hn.out; omega) (by have := Hm.out; omega)).1 h1
      · go_wp2
        go_ret
        refine ⟨ret_bool ?_, _, rfl⟩
        symm; rw [decide_eq_true_iff]
        exact agreeTo_all (by rw [← Hn.out, ← Hm.out]) k (by have := Hn.out; omega) He.out
  · have hne' : ((n : Int) != m) = true := by simp; omega
    have H := Lib.hid hn
    have H' := Lib.hid hm
    clear hn hm
    go_enter Tryz.func16, Tryz.ntmps16
    go_wp2
    go_ret
    refine ⟨ret_bool ?_, 0, rfl⟩
    symm; rw [decide_eq_false_iff_not]
    rintro rfl
    exact h (by rw [H.out, H'.out])
theorem Rows2.len {w : World} {a : Option Addr} {xs : List (List (List Int))} (h : Rows2 w a xs) : xs.length ≤ 9223372036854775807 := by
  obtain ⟨vs, hr, hl, _⟩ := h
  have := hr.len'; omega
theorem Rows2.at_ {w : World} {a : Option Addr} {xs : List (List (List Int))} (h : Rows2 w a xs) {k : Nat} (hk : k < xs.length) :
    ∃ g o b c, a = some ⟨g, o, none⟩ ∧ g < w.heap.size ∧ w.cell? ⟨g, o + k, none⟩ = some (.slice b (xs[k]?.getD []).length c) ∧ Rows w b (xs[k]?.getD []) := by
  obtain ⟨vs, hr, hl, hi⟩ := h
  have hv : vs[k]? = some vs[k] := List.getElem?_eq_getElem (by omega)
  have hx : xs[k]? = some xs[k] := List.getElem?_eq_getElem hk
  obtain ⟨g, o, e, hb, hc⟩ := hr.2 k _ hv
  obtain ⟨b, c, hs, hn⟩ := hi k _ _ hv hx
  exact ⟨g, o, b, c, e, hb, by rw [hc, hs, hx]; rfl, by rw [hx]; exact hn⟩
theorem eq142 (a b : Option Addr) (c d : Nat) (xs ys : List Int) (w : World) (ha : Ints w a xs) (hb : Ints w b ys) :
    Calls Tryz.prog 107 #[.slice a xs.length c, .slice b ys.length d] w fun e w' => e = .returned (.bool (decide (xs = ys))) ∧ ∃ q, w' = w.drewN q := by
  have H := Lib.hid (equal95 a b c d xs ys w ha hb)
  clear ha hb
  go_enter Tryz.func107, Tryz.ntmps107
  go_wp2_with (go_at_call 108; refine H.out.mono ?_; rintro e w4 ⟨rfl, nq, rfl⟩)
  go_ret
  exact ⟨rfl, _, rfl⟩
set_option maxHeartbeats 400000 in
theorem eq137 (a b : Option Addr) (c d : Nat) (xs ys : List (List Int)) (w : World) (ha : Rows w a xs) (hb : Rows w b ys) :
    Calls Tryz.prog 102 #[.slice a xs.length c, .slice b ys.length d, .func (.func 103) #[] #[]] w fun e w' => e = .returned (.bool (decide (xs = ys))) ∧ ∃ q, w' = w.drewN q := by
  have hA := Lib.hid ha
  have hB := Lib.hid hb
  have hmx := ha.len
  clear ha hb
  obtain ⟨n, hn⟩ : ∃ n, n = xs.length := ⟨_, rfl⟩
  obtain ⟨m, hm⟩ : ∃ m, m = ys.length := ⟨_, rfl⟩
  rw [← hn, ← hm]
  rw [← hn] at hmx
  by_cases h : n = m
  · subst h
    have Hn := Lib.hid hn
    have Hm := Lib.hid hm
    clear hn hm
    go_enter Tryz.func102, Tryz.ntmps102
    go_wp2
    go_loopw [17] (fun i wr => ∃ k q : Nat, k ≤ n ∧ i = .int .i64 k ∧ wr = w.drewN q ∧ agreeTo xs ys k) (fun i _ => n - (intOf i).toNat)
    case atStart => exact ⟨0, 0, Nat.zero_le _, rfl, rfl, fun i hi => by omega⟩
    case round =>
      obtain ⟨k, q, hk, rfl, rfl, he⟩ := hrel
      have He := Lib.hid he
      clear he
      by_cases hlt : k < n
      · obtain ⟨a', oa, a2, ac, rfl, _, hca, hia⟩ := hA.out.at_ (k := k) (by have := Hn.out; omega)
        obtain ⟨b', ob, b2, bc, rfl, _, hcb, hib⟩ := hB.out.at_ (k := k) (by have := Hm.out; omega)
        have hxl : k < xs.length := by have := Hn.out; omega
        have hyl : k < ys.length := by have := Hm.out; omega
        obtain ⟨x, hx⟩ : ∃ x, xs[k]?.getD [] = x := ⟨_, rfl⟩
        obtain ⟨y, hy⟩ : ∃ y, ys[k]?.getD [] = y := ⟨_, rfl⟩
        rw [hx] at hca hia
        rw [hy] at hcb hib
        have Hc := Lib.hid (fun n => equal138 a2 b2 ac bc x y (w.drewN n) hia hib)
        have Hx := Lib.hid hx
        have Hy := Lib.hid hy
        obtain ⟨r, hr⟩ : ∃ r, decide (x = y) = r := ⟨_, rfl⟩
        rw [hr] at Hc
        have Hr := Lib.hid hr
        clear hia hib hx hy hr hxl hyl
        go_wp2_with (go_at_call 103; refine (Hc.out q).mono ?_; rintro e w4 ⟨rfl, nq, rfl⟩)
        · rename_i hr0
          go_ret
          refine ⟨ret_bool ?_, _, rfl⟩
          symm; rw [decide_eq_false_iff_not]
          rintro rfl
          have := Hr.out
          rw [← Hx.out, ← Hy.out] at this
          simp at this hr0
          simp_all
        · rename_i hr0
          refine ⟨⟨k + 1, q + nq, by omega, by go_num, rfl, agreeTo_succ He.out ?_⟩, by simp [intOf]; omega⟩
          have h1 : x = y := by have := Hr.out; simp at hr0; simp_all
          rw [← Hx.out, ← Hy.out] at h1
          exact (getD_eq_iff (by have := Hn.out; omega) (by have := Hm.out; omega)).1 h1
      · go_wp2
        go_ret
        refine ⟨ret_bool ?_, _, rfl⟩
        symm; rw [decide_eq_true_iff]
        exact agreeTo_all (by rw [← Hn.out, ← Hm.out]) k (by have := Hn.out; omega) He.out
  · have hne' : ((n : Int) != m) = true := by simp; omega
    have H := Lib.hid hn
    have H' := Lib.hid hm
    clear hn hm
    go_enter Tryz.func102, Tryz.ntmps102
    go_wp2
    go_ret
    refine ⟨ret_bool ?_, 0, rfl⟩
    symm; rw [decide_eq_false_iff_not]
    rintro rfl
    exact h (by rw [H.out, H'.out])
set_option maxHeartbeats 400000 in
theorem eq141 (a b : Option Addr) (c d : Nat) (xs ys : List (List Int)) (w : World) (ha : Rows w a xs) (hb : Rows w b ys) :
    Calls Tryz.prog 106 #[.slice a xs.length c, .slice b ys.length d, .func (.func 107) #[] #[]] w fun e w' => e = .returned (.bool (decide (xs = ys))) ∧ ∃ q, w' = w.drewN q := by
  have hA := Lib.hid ha
  have hB := Lib.hid hb
  have hmx := ha.len
  clear ha hb
  obtain ⟨n, hn⟩ : ∃ n, n = xs.length := ⟨_, rfl⟩
  obtain ⟨m, hm⟩ : ∃ m, m = ys.length := ⟨_, rfl⟩
  rw [← hn, ← hm]
  rw [← hn] at hmx
  by_cases h : n = m
  · subst h
    have Hn := Lib.hid hn
    have Hm := Lib.hid hm
    clear hn hm
    go_enter Tryz.func106, Tryz.ntmps106
    go_wp2
    go_loopw [17] (fun i wr => ∃ k q : Nat, k ≤ n ∧ i = .int .i64 k ∧ wr = w.drewN q ∧ agreeTo xs ys k) (fun i _ => n - (intOf i).toNat)
    case atStart => exact ⟨0, 0, Nat.zero_le _, rfl, rfl, fun i hi => by omega⟩
    case round =>
      obtain ⟨k, q, hk, rfl, rfl, he⟩ := hrel
      have He := Lib.hid he
      clear he
      by_cases hlt : k < n
      · obtain ⟨a', oa, a2, ac, rfl, _, hca, hia⟩ := hA.out.at_ (k := k) (by have := Hn.out; omega)
        obtain ⟨b', ob, b2, bc, rfl, _, hcb, hib⟩ := hB.out.at_ (k := k) (by have := Hm.out; omega)
        have hxl : k < xs.length := by have := Hn.out; omega
        have hyl : k < ys.length := by have := Hm.out; omega
        obtain ⟨x, hx⟩ : ∃ x, xs[k]?.getD [] = x := ⟨_, rfl⟩
        obtain ⟨y, hy⟩ : ∃ y, ys[k]?.getD [] = y := ⟨_, rfl⟩
        rw [hx] at hca hia
        rw [hy] at hcb hib
        have Hc := Lib.hid (fun n => eq142 a2 b2 ac bc x y (w.drewN n) hia hib)
        have Hx := Lib.hid hx
        have Hy := Lib.hid hy
        obtain ⟨r, hr⟩ : ∃ r, decide (x = y) = r := ⟨_, rfl⟩
        rw [hr] at Hc
        have Hr := Lib.hid hr
        clear hia hib hx hy hr hxl hyl
        go_wp2_with (go_at_call 107; refine (Hc.out q).mono ?_; rintro e w4 ⟨rfl, nq, rfl⟩)
        · rename_i hr0
          go_ret
          refine ⟨ret_bool ?_, _, rfl⟩
          symm; rw [decide_eq_false_iff_not]
          rintro rfl
          have := Hr.out
          rw [← Hx.out, ← Hy.out] at this
          simp at this hr0
          simp_all
        · rename_i hr0
          refine ⟨⟨k + 1, q + nq, by omega, by go_num, rfl, agreeTo_succ He.out ?_⟩, by simp [intOf]; omega⟩
          have h1 : x = y := by have := Hr.out; simp at hr0; simp_all
          rw [← Hx.out, ← Hy.out] at h1
          exact (getD_eq_iff (by have := Hn.out; omega) (by have := Hm.out; omega)).1 h1
      · go_wp2
        go_ret
        refine ⟨ret_bool ?_, _, rfl⟩
        symm; rw [decide_eq_true_iff]
        exact agreeTo_all (by rw [← Hn.out, ← Hm.out]) k (by have := Hn.out; omega) He.out
  · have hne' : ((n : Int) != m) = true := by simp; omega
    have H := Lib.hid hn
    have H' := Lib.hid hm
    clear hn hm
    go_enter Tryz.func106, Tryz.ntmps106
    go_wp2
    go_ret
    refine ⟨ret_bool ?_, 0, rfl⟩
    symm; rw [decide_eq_false_iff_not]
    rintro rfl
    exact h (by rw [H.out, H'.out])
theorem eq140 (a b : Option Addr) (c d : Nat) (xs ys : List (List Int)) (w : World) (ha : Rows w a xs) (hb : Rows w b ys) :
    Calls Tryz.prog 105 #[.slice a xs.length c, .slice b ys.length d] w fun e w' => e = .returned (.bool (decide (xs = ys))) ∧ ∃ q, w' = w.drewN q := by
  have H := Lib.hid (eq141 a b c d xs ys w ha hb)
  clear ha hb
  go_enter Tryz.func105, Tryz.ntmps105
  go_wp2_with (go_at_call 106; refine H.out.mono ?_; rintro e w4 ⟨rfl, nq, rfl⟩)
  go_ret
  exact ⟨rfl, _, rfl⟩
set_option maxHeartbeats 400000 in
theorem eq139 (a b : Option Addr) (c d : Nat) (xs ys : List (List (List Int))) (w : World) (ha : Rows2 w a xs) (hb : Rows2 w b ys) :
    Calls Tryz.prog 104 #[.slice a xs.length c, .slice b ys.length d, .func (.func 105) #[] #[]] w fun e w' => e = .returned (.bool (decide (xs = ys))) ∧ ∃ q, w' = w.drewN q := by
  have hA := Lib.hid ha
  have hB := Lib.hid hb
  have hmx := ha.len
  clear ha hb
  obtain ⟨n, hn⟩ : ∃ n, n = xs.length := ⟨_, rfl⟩
  obtain ⟨m, hm⟩ : ∃ m, m = ys.length := ⟨_, rfl⟩
  rw [← hn, ← hm]
  rw [← hn] at hmx
  by_cases h : n = m
  · subst h
    have Hn := Lib.hid hn
    have Hm := Lib.hid hm
    clear hn hm
    go_enter Tryz.func104, Tryz.ntmps104
    go_wp2
    go_loopw [17] (fun i wr => ∃ k q : Nat, k ≤ n ∧ i = .int .i64 k ∧ wr = w.drewN q ∧ agreeTo xs ys k) (fun i _ => n - (intOf i).toNat)
    case atStart => exact ⟨0, 0, Nat.zero_le _, rfl, rfl, fun i hi => by omega⟩
    case round =>
      obtain ⟨k, q, hk, rfl, rfl, he⟩ := hrel
      have He := Lib.hid he
      clear he
      by_cases hlt : k < n
      · obtain ⟨a', oa, a2, ac, rfl, _, hca, hia⟩ := hA.out.at_ (k := k) (by have := Hn.out; omega)
        obtain ⟨b', ob, b2, bc, rfl, _, hcb, hib⟩ := hB.out.at_ (k := k) (by have := Hm.out; omega)
        have hxl : k < xs.length := by have := Hn.out; omega
        have hyl : k < ys.length := by have := Hm.out; omega
        obtain ⟨x, hx⟩ : ∃ x, xs[k]?.getD [] = x := ⟨_, rfl⟩
        obtain ⟨y, hy⟩ : ∃ y, ys[k]?.getD [] = y := ⟨_, rfl⟩
        rw [hx] at hca hia
        rw [hy] at hcb hib
        have Hc := Lib.hid (fun n => eq140 a2 b2 ac bc x y (w.drewN n) hia hib)
        have Hx := Lib.hid hx
        have Hy := Lib.hid hy
        obtain ⟨r, hr⟩ : ∃ r, decide (x = y) = r := ⟨_, rfl⟩
        rw [hr] at Hc
        have Hr := Lib.hid hr
        clear hia hib hx hy hr hxl hyl
        go_wp2_with (go_at_call 105; refine (Hc.out q).mono ?_; rintro e w4 ⟨rfl, nq, rfl⟩)
        · rename_i hr0
          go_ret
          refine ⟨ret_bool ?_, _, rfl⟩
          symm; rw [decide_eq_false_iff_not]
          rintro rfl
          have := Hr.out
          rw [← Hx.out, ← Hy.out] at this
          simp at this hr0
          simp_all
        · rename_i hr0
          refine ⟨⟨k + 1, q + nq, by omega, by go_num, rfl, agreeTo_succ He.out ?_⟩, by simp [intOf]; omega⟩
          have h1 : x = y := by have := Hr.out; simp at hr0; simp_all
          rw [← Hx.out, ← Hy.out] at h1
          exact (getD_eq_iff (by have := Hn.out; omega) (by have := Hm.out; omega)).1 h1
      · go_wp2
        go_ret
        refine ⟨ret_bool ?_, _, rfl⟩
        symm; rw [decide_eq_true_iff]
        exact agreeTo_all (by rw [← Hn.out, ← Hm.out]) k (by have := Hn.out; omega) He.out
  · have hne' : ((n : Int) != m) = true := by simp; omega
    have H := Lib.hid hn
    have H' := Lib.hid hm
    clear hn hm
    go_enter Tryz.func104, Tryz.ntmps104
    go_wp2
    go_ret
    refine ⟨ret_bool ?_, 0, rfl⟩
    symm; rw [decide_eq_false_iff_not]
    rintro rfl
    exact h (by rw [H.out, H'.out])
end Go.Proofs.YtbejhkojdiadaaaGreatDoor
namespace Go.Proofs.YtbejhkojdiadaaaGreatDoor
open Go.RowKit PlainPm
def rowsM (n : Nat) (R : Nat → Nat) : List Nat := (List.range (n + 1)).map R
theorem mem_rowsM {n : Nat} {R : Nat → Nat} {b : Nat} : b ∈ rowsM n R ↔ ∃ i, i < n + 1 ∧ R i = b := by simp [rowsM]
structure TabW (n B g : Nat) (w : World) (R : Nat → Nat) (t : Nat → Nat → Option (Pm n)) : Prop where
  hn : 0 < n ∧ n ≤ 64
  top : ∀ i, i < n → w.cell? ⟨g, i, none⟩ = some (.slice (some ⟨R i, 0, none⟩) n n)
  tg : g < w.heap.size ∧ g ∉ rowsM n R
  row : ∀ i, i < n → ∃ F, w.rowIs (R i) 41 n F ∧ ∀ p, p < n → OptV w (rowsM n R) (F p) (t i p)
  dis : ∀ i j, i < n → j < n → R i = R j → i = j
  low : ∀ i, i < n → B ≤ R i
  ex : R n < w.heap.size
section
variable {n B g : Nat} {w w' : World} {R : Nat → Nat} {t : Nat → Nat → Option (Pm n)}
theorem TabW.below (h : TabW n B g w R t) (k : Below w.heap.size w w') : TabW n B g w' R t :=
  ⟨h.hn, fun i hi => (k.cell (p := ⟨g, i, none⟩) h.tg.1).trans (h.top i hi), ⟨Nat.lt_of_lt_of_le h.tg.1 k.size, h.tg.2⟩, fun i hi => by
    obtain ⟨F, h1, h2⟩ := h.row i hi
    exact ⟨F, h1.of_block (k.block _ h1.lt), fun p hp => OptV.stp (h2 p hp) (Stp.below k)⟩, h.dis, h.low, Nat.lt_of_lt_of_le h.ex k.size⟩
theorem TabW.at_ (h : TabW n B g w R t) {i p : Nat} (hi : i < n) (hp : p < n) : ∃ v, w.cell? ⟨R i, p, none⟩ = some v ∧ w.frozen? ⟨R i, p, none⟩ = false ∧ OptV w (rowsM n R) v (t i p) := by
  obtain ⟨F, h1, h2⟩ := h.row i hi
  exact ⟨F p, h1.cell hp, h1.frozen p, h2 p hp⟩
theorem TabW.mlt (h : TabW n B g w R t) : ∀ m ∈ rowsM n R, m < w.heap.size := fun m hm => by
  obtain ⟨i, hi, rfl⟩ := mem_rowsM.1 hm
  by_cases e : i = n
  · rw [e]; exact h.ex
  · obtain ⟨F, h1, _⟩ := h.row i (by omega)
    exact h1.lt
theorem TabW.move (h : TabW n B g w R t) {R' : Nat → Nat} (hb : ∀ i, i < n → w'.heap[R i]? = w.heap[R i]?) (hg : w'.heap[g]? = w.heap[g]?) (k : Stp w (rowsM n R) w' (rowsM n R')) (hR : ∀ i, i < n → R' i = R i) (hx : R' n < w'.heap.size) (hgR : g ≠ R' n) : TabW n B g w' R' t :=
  ⟨h.hn, fun i hi => by rw [hR i hi, World.cell?_of_block (w := w) hg]; exact h.top i hi, ⟨Nat.lt_of_lt_of_le h.tg.1 k.kept.size, fun hm => by
    obtain ⟨i, hi, e⟩ := mem_rowsM.1 hm
    by_cases e1 : i = n
    · subst e1; exact hgR e.symm
    · exact h.tg.2 (mem_rowsM.2 ⟨i, hi, by rw [← hR i (by omega)]; exact e⟩)⟩, fun i hi => by
    obtain ⟨F, h1, h2⟩ := h.row i hi
    exact ⟨F, by rw [hR i hi]; exact h1.of_block (hb i hi), fun p hp => OptV.stp (h2 p hp) k⟩, fun i j hi hj e => h.dis i j hi hj (by rw [← hR i hi, ← hR j hj]; exact e), fun i hi => by rw [hR i hi]; exact h.low i hi, hx⟩
theorem TabW.set (h : TabW n B g w R t) {a p : Nat} {v : Value} {r : Pm n} (ha : a < n) (hp : p < n) (hv : PmV w (rowsM n R) v r) :
    TabW n B g (w.setCell ⟨R a, p, none⟩ v) R (setE t a p r) ∧ Stp w (rowsM n R) (w.setCell ⟨R a, p, none⟩ v) (rowsM n R) := by
  have k : Stp w (rowsM n R) (w.setCell ⟨R a, p, none⟩ v) (rowsM n R) := ⟨Kept.ofGrown (grown_put p v) (fun b e => by cases e; exact mem_rowsM.2 ⟨a, Nat.lt_succ_of_lt ha, rfl⟩), fun m hm => .inl hm⟩
  have hs : (w.setCell ⟨R a, p, none⟩ v).heap.size = w.heap.size := by simp [World.setCell]
  refine ⟨⟨h.hn, fun i hi => ?_, ⟨by rw [hs]; exact h.tg.1, h.tg.2⟩, fun i hi => ?_, h.dis, h.low, by rw [hs]; exact h.ex⟩, k⟩
  · rw [cell_set_other (by intro e; cases e; exact h.tg.2 (mem_rowsM.2 ⟨a, Nat.lt_succ_of_lt ha, rfl⟩))]; exact h.top i hi
  · obtain ⟨F, h1, h2⟩ := h.row i hi
    by_cases e : i = a
    · subst e
      refine ⟨_, h1.set p v, fun q hq => ?_⟩
      unfold setE
      by_cases e2 : q = p
      · subst e2; rw [if_pos rfl, if_pos ⟨rfl, rfl⟩]; exact hv.stp k
      · rw [if_neg e2, if_neg (fun h => e2 h.2)]; exact OptV.stp (h2 q hq) k
    · refine ⟨F, h1.setOther (fun e2 => e (h.dis i a hi ha e2)) v, fun q hq => ?_⟩
      unfold setE
      rw [if_neg (fun h => e h.1)]; exact OptV.stp (h2 q hq) k
end
structure PreW (n B : Nat) (w : World) (v : Value) (R : Nat → Nat) (k : Nat) : Prop where
  own : Own w B v 28 ((List.range k).map fun i => .slice (some ⟨R i, 0, none⟩) n n)
  row : ∀ i, i < k → w.rowIs (R i) 41 n (fun _ => .slice none 0 0) ∧ B ≤ R i
  dis : ∀ i j, i < k → j < k → R i = R j → i = j
theorem Own.rowIs {w : World} {B g n c : Nat} {e : TypeId} {z : Value} (h : Own w B (.slice (some ⟨g, 0, none⟩) n c) e (List.replicate n z)) (hc : c = n) : w.rowIs g e n (fun _ => z) := by
  rcases h.2 with ⟨h1, _⟩ | ⟨g', cap, cur, h1, _, hh, _, _, hcs, htk⟩
  · cases h1
  · have e1 : g = g' := by injection h1 with h1; injection h1 with h1; injection h1
    have e2 : c = cap := by injection h1
    subst e1
    subst e2
    rw [Nat.mul_one] at hcs htk
    rw [List.length_replicate] at htk
    refine ⟨cur, hh, by omega, fun i hi => ?_⟩
    have : cur.toList[i]? = some z := by
      have h2 : (cur.toList.take n)[i]? = some z := by rw [htk, List.getElem?_replicate, if_pos hi]
      rw [List.getElem?_take, if_pos hi] at h2; exact h2
    rwa [Array.getElem?_toList] at this
theorem rowIs_grown {w w' : World} {B b n : Nat} {F : Nat → Value} {v : Value} {xs : List Value} (h : w.rowIs b 41 n F) (ho : Own w B v 28 xs) (hg : w.grownBy w' v.ownBlock) : w'.rowIs b 41 n F := by
  refine h.of_block (hg.block b h.lt (fun e => ?_))
  obtain ⟨c, hb, _⟩ := h
  rcases ho.blk with e1 | ⟨g, cur, e1, _, _, hh⟩
  · rw [e1] at e; cases e
  · rw [e1] at e; cases e; rw [hb] at hh; cases hh
set_option maxRecDepth 100000 in
set_option maxHeartbeats 1000000 in
theorem empty128 {n : Nat} (hn : 0 < n ∧ n ≤ 64) {w : World} :
    Calls Tryz.prog 68 #[.int .i64 (n : Int)] w fun e w' => ∃ g c R, e = .returned (.slice (some ⟨g, 0, none⟩) n c) ∧ TabW n w.heap.size g w' R (fun _ _ => none) ∧ w.heap.size ≤ g ∧ Below w.heap.size w w' := by
  obtain ⟨i27, hi27, hz27, hs27, hb27⟩ := info_parts Tryz.info41
  obtain ⟨i44, hi44, hz44, hs44, hb44⟩ := info_parts Tryz.info28
  have I27 := Lib.hid (And.intro hi27 (And.intro hz27 (And.intro hs27 hb27)))
  have I44 := Lib.hid (And.intro hi44 (And.intro hz44 (And.intro hs44 hb44)))
  clear hi27 hz27 hs27 hb27 hi44 hz44 hs44 hb44
  have hn1 := hn.2
  go_enter Tryz.func68, Tryz.ntmps68
  go_wp2
  go_loopw [3, 4] (fun v i wr => ∃ (k : Nat) (R : Nat → Nat), k ≤ n ∧ i = .int .i64 (k : Int) ∧ PreW n w.heap.size wr v R k ∧ Below w.heap.size w wr) (fun _ i _ => n - (intOf i).toNat)
  case atStart => exact ⟨0, fun _ => 0, by omega, rfl, ⟨Own.nil _ _ _, fun i hi => by omega, fun i j hi => by omega⟩, Below.refl _ _⟩
  case round =>
    obtain ⟨k, R, hk, rfl, hP, hb⟩ := hrel
    have hsz := hb.size
    have HP := Lib.hid (And.intro hP hb)
    clear hP hb
    by_cases hkn : k < n
    · go_wp2_with (first
        | (at_make; refine mk1 rfl _ _ 28 41 rfl i27 (.slice none 0 0) 24 Tryz.underlying28 I27.out.1 I27.out.2.1 I27.out.2.2.1 I27.out.2.2.2 rfl (by omega) w.heap.size n rfl rfl (by omega) hsz ?_; intro w1 hd hg hz1; have H1 := Lib.hid (And.intro hd (And.intro hg hz1)); clear hd hg hz1)
        | (at_builtin; refine app1 rfl (.tmp 10) (.tmp 13) 99 28 rfl i44 (.slice none 0 0) 24 Tryz.underlying99 I44.out.1 I44.out.2.1 I44.out.2.2.1 I44.out.2.2.2 rfl (by omega) w.heap.size (.slice (some ⟨wr.heap.size, 0, none⟩) n n) u3 _ rfl (HP.out.1.own.kept H1.out.2.1 (by rcases HP.out.1.own.blk with e | ⟨g9, _, e, _⟩ <;> rw [e] <;> simp)) rfl rfl (by simp; omega) (by have := H1.out.2.2; omega) ?_; intro v8 w8 k1 k2 k3; have H8 := Lib.hid (And.intro k1 (And.intro k2 k3)); clear k1 k2 k3))
      have hown1 := HP.out.1.own.kept H1.out.2.1 (by rcases HP.out.1.own.blk with e | ⟨g9, _, e, _⟩ <;> rw [e] <;> simp)
      have hnew := Own.rowIs H1.out.1 rfl
      have hb1 : Below wr.heap.size wr w1 := (Below.refl _ wr).grown H1.out.2.1 (Nat.le_refl _) (by simp)
      refine ⟨⟨k + 1, fun i => if i = k then wr.heap.size else R i, by omega, by go_num, ⟨?_, fun i hi => ?_, fun i j hi hj e => ?_⟩, ?_⟩, by simp [intOf]; omega⟩
      · have h8 := H8.out.1
        rw [List.range_succ, List.map_append]
        have e : (List.range k).map (fun i => Value.slice (some ⟨(if i = k then wr.heap.size else R i), 0, none⟩) n n) = (List.range k).map (fun i => Value.slice (some ⟨R i, 0, none⟩) n n) := by
          apply List.map_congr_left
          intro i hi
          rw [if_neg (by have := List.mem_range.1 hi; omega)]
        rw [e]
        simpa using h8
      · by_cases e : i = k
        · simp only [e, if_true]
          exact ⟨rowIs_grown hnew hown1 H8.out.2.1, hsz⟩
        · simp only [e, if_false]
          obtain ⟨r1, r2⟩ := HP.out.1.row i (by omega)
          exact ⟨rowIs_grown (r1.of_block (hb1.block _ r1.lt)) hown1 H8.out.2.1, r2⟩
      · by_cases e1 : i = k <;> by_cases e2 : j = k
        · omega
        · simp only [e1, e2, if_true, if_false] at e
          have := (HP.out.1.row j (by omega)).1.lt; omega
        · simp only [e1, e2, if_true, if_false] at e
          have := (HP.out.1.row i (by omega)).1.lt; omega
        · simp only [e1, e2, if_false] at e
          exact HP.out.1.dis i j (by omega) (by omega) e
      · exact (HP.out.2.trans (hb1.mono hsz)).grown H8.out.2.1 (Nat.le_trans hsz hb1.size) (fun g hg => (hown1.block_lt hg).2)
    · obtain rfl : k = n := by omega
      go_wp2
      go_ret
      obtain ⟨g, c, hv, hg1, hg2, _⟩ := HP.out.1.own.form (by simp; omega)
      have hown := HP.out.1.own
      rw [hv] at hown ⊢
      have hl : ((List.range k).map fun i => Value.slice (some ⟨R i, 0, none⟩) k k).length = k := by simp
      rw [hl] at hown ⊢
      refine ⟨g, c, fun i => if i = k then R 0 else R i, rfl, ⟨hn, fun i hi => ?_, ⟨hg2, fun hm => ?_⟩, fun i hi => ⟨_, by simp only [if_neg (Nat.ne_of_lt hi)]; exact (HP.out.1.row i hi).1, fun p hp => rfl⟩, fun i j hi hj => by simp only [if_neg (Nat.ne_of_lt hi), if_neg (Nat.ne_of_lt hj)]; exact HP.out.1.dis i j hi hj, fun i hi => by simp only [if_neg (Nat.ne_of_lt hi)]; exact (HP.out.1.row i hi).2, by simp only [if_true]; exact (HP.out.1.row 0 hn.1).1.lt⟩, hg1, HP.out.2⟩
      · simp only [if_neg (Nat.ne_of_lt hi)]; rw [hown.cell i (by rw [hl]; exact hi), List.getElem?_map, List.getElem?_range hi]; rfl
      · obtain ⟨i, hi, e⟩ : ∃ i, i < k ∧ R i = g := by
          obtain ⟨i, hi, e⟩ := mem_rowsM.1 hm
          by_cases e1 : i = k
          · rw [if_pos e1] at e; exact ⟨0, hn.1, e⟩
          · rw [if_neg e1] at e; exact ⟨i, by omega, e⟩
        obtain ⟨cc, hb, _⟩ := (HP.out.1.row i hi).1
        rcases hown.blk with e1 | ⟨g9, cur, e1, _, _, hh⟩
        · cases e1
        · cases e1; rw [e, hh] at hb; cases hb
end Go.Proofs.YtbejhkojdiadaaaGreatDoor
namespace Go.Proofs.YtbejhkojdiadaaaGreatDoor
open Go.RowKit PlainPm
theorem neq_nil27 (w : World) (a : Option Addr) (l c : Nat) : (binOp .neq 41 (.slice a l c) (.slice none 0 0)).run Tryz.prog w = .ok (.bool (!a.isNone)) w := run_neq_slice_nil w 41 3 a l c Tryz.underlying41
def InsR {n : Nat} (B g : Nat) (R : Nat → Nat) (t : Nat → Nat → Option (Pm n)) (x : Pm n) (e : Ending) (w' : World) : Prop :=
  ((sft (tabTw t) n 0 x).1 = n ∧ e = .returned (.bool false) ∧ TabW n B g w' R t) ∨
  ((sft (tabTw t) n 0 x).1 < n ∧ e = .returned (.bool true) ∧ TabW n B g w' R (setE t (sft (tabTw t) n 0 x).1 ((sft (tabTw t) n 0 x).2.at (sft (tabTw t) n 0 x).1) (sft (tabTw t) n 0 x).2))
set_option maxRecDepth 100000 in
set_option maxHeartbeats 2000000 in
theorem insert129 {n B g c : Nat} {w : World} {R : Nat → Nat} {t : Nat → Nat → Option (Pm n)} {x : Pm n} {vx : Value} (hT : TabW n B g w R t) (hx : PmV w (rowsM n R) vx x) :
    Calls Tryz.prog 69 #[.slice (some ⟨g, 0, none⟩) n c, vx] w fun e w' => InsR B g R t x e w' ∧ Stp w (rowsM n R) w' (rowsM n R) ∧ ∀ b, b < w.heap.size → (∀ i, i < n → R i ≠ b) → w'.heap[b]? = w.heap[b]? := by
  have hn := hT.hn
  have H := Lib.hid (And.intro hT hx)
  clear hT hx
  have hn1 := hn.2
  go_enter Tryz.func69, Tryz.ntmps69
  go_wp2_with fail
  go_loopw [1, 5] (fun v i' wr => ∃ (k : Nat) (x' : Pm n), k ≤ n ∧ i' = .int .i64 (k : Int) ∧ PmV wr (rowsM n R) v x' ∧ Below w.heap.size w wr ∧ sft (tabTw t) n 0 x = sft (tabTw t) (n - k) k x') (fun _ i' _ => n - (intOf i').toNat)
  case atStart => exact ⟨0, x, by omega, rfl, H.out.2, Below.refl _ _, rfl⟩
  case round =>
    obtain ⟨k, x', hk, rfl, hx', hb, hs⟩ := hrel
    have hT' := H.out.1.below hb
    by_cases hkn : k < n
    · obtain ⟨bx, ox, cx, rfl, hxm, hxl, hxc⟩ := id hx'
      have c1 := hxc k hkn
      have tp := hT'.top k hkn
      obtain ⟨p, hp⟩ : ∃ p, x'.at k = p := ⟨_, rfl⟩
      have hpn : p < n := by rw [← hp]; exact x'.lt hkn
      rw [hp] at c1
      obtain ⟨u, hu, hf, ho⟩ := hT'.at_ hkn hpn
      have hst : sft (tabTw t) (n - k) k x' = match (if p = k then some (PlainPm.one n) else t k p) with
          | none => (k, x')
          | some y => sft (tabTw t) (n - (k + 1)) (k + 1) (if p = k then x' else x'.mul y.inv) := by
        rw [show n - k = n - (k + 1) + 1 by omega, sft, hp]
        show (match (if p = k then some (PlainPm.one n) else t k p) with | none => _ | some y => _) = _
        cases (if p = k then some (PlainPm.one n) else t k p) <;> rfl
      have HP := Lib.hid (And.intro hT' (And.intro hx' (And.intro hb (And.intro hs (And.intro hp hxm)))))
      clear hT' hx' hb hs hp hxc hxm
      have hk1 : (k : Int) < n := by omega
      have hp1 : (p : Int) < n := by omega
      by_cases hpk : p = k
      · simp only [if_pos hpk] at hst
        have Hs := Lib.hid hst
        have he : ((p : Int) == (k : Int)) = true := by simp [hpk]
        clear hst ho hpk hu hf
        go_wp2_with fail
        refine ⟨⟨k + 1, x', by omega, by go_num, HP.out.2.1, HP.out.2.2.1, ?_⟩, by simp [intOf]; omega⟩
        rw [HP.out.2.2.2.1, Hs.out]
      · simp only [if_neg hpk] at hst
        have he : ((p : Int) == (k : Int)) = false := by simp; omega
        cases hto : t k p with
        | none =>
          rw [hto] at ho hst
          have hun : u = .slice none 0 0 := ho
          subst hun
          have hnil : ∀ W, (binOp .eql 41 (.slice none 0 0) (.slice none 0 0)).run Tryz.prog W = .ok (.bool true) W := fun W => eql_nil27 W none 0 0
          have hset := HP.out.1.set (v := .slice (some ⟨bx, ox, none⟩) n cx) hkn hpn HP.out.2.1
          have Hs := Lib.hid (And.intro hst hset)
          clear hst hset hto ho hpk
          go_wp2_with fail
          go_ret
          have e : sft (tabTw t) n 0 x = (k, x') := HP.out.2.2.2.1.trans Hs.out.1
          refine ⟨.inr ⟨by rw [e]; exact hkn, rfl, ?_⟩, (Stp.below HP.out.2.2.1).trans Hs.out.2.2, fun b hb hne => ((grown_put p _).block b (Nat.lt_of_lt_of_le hb HP.out.2.2.1.size) (fun e => hne k hkn (Option.some.inj e).symm)).trans (HP.out.2.2.1.block b hb)⟩
          rw [e]
          dsimp only
          rw [HP.out.2.2.2.2.1]
          exact Hs.out.2.1
        | some y =>
          rw [hto] at ho hst
          have ho : PmV wr (rowsM n R) u y := ho
          obtain ⟨ub, uo, uc, rfl⟩ := ho.form
          have hnil : ∀ W, (binOp .eql 41 (.slice (some ⟨ub, uo, none⟩) n uc) (.slice none 0 0)).run Tryz.prog W = .ok (.bool false) W := fun W => eql_nil27 W _ _ _
          have Hs := Lib.hid (And.intro hst ho)
          clear hst hto ho hpk
          go_wp2_with (first
            | (go_at_call 28; refine H4.out.2.2.mono ?_; rintro e w5 ⟨v5, rfl, k4, k5⟩; have HM := Lib.hid (And.intro k4 k5); clear k4 k5)
            | (go_at_call 96; refine (inv50 hn1 Hs.out.2.weak).mono ?_; rintro e w4 ⟨v4, rfl, k4, k5⟩; have H4 := Lib.hid (And.intro k4 (And.intro k5 (mul49 (w := w4) hn1 hn.1 (HP.out.2.1.below k5).weak (k4.pm (M := []) (by simp))))); clear k4 k5))
          refine ⟨⟨k + 1, x'.mul y.inv, by omega, by go_num, ?_, ?_, ?_⟩, by simp [intOf]; omega⟩
          · exact HM.out.1.pm fun m hm => by
              exact Nat.lt_of_lt_of_le (HP.out.1.mlt m hm) H4.out.2.1.size
          · exact below_trans (below_trans HP.out.2.2.1 H4.out.2.1) HM.out.2
          · rw [HP.out.2.2.2.1, Hs.out.1]
    · obtain rfl : k = n := by omega
      have HP := Lib.hid (And.intro hT' (And.intro hx' (And.intro hb hs)))
      clear hT' hx' hb hs
      go_wp2_with fail
      go_ret
      rw [Nat.sub_self] at HP
      exact ⟨.inl ⟨by rw [HP.out.2.2.2]; rfl, rfl, HP.out.1⟩, Stp.below HP.out.2.2.1, fun b hb _ => HP.out.2.2.1.block b hb⟩
end Go.Proofs.YtbejhkojdiadaaaGreatDoor
namespace Go.Proofs.YtbejhkojdiadaaaGreatDoor
open Go.RowKit PlainPm
theorem fm_snoc {n k : Nat} {t : Nat → Option (Pm n)} : (List.range (k + 1)).filterMap t = (List.range k).filterMap t ++ (t k).toList := by
  rw [List.range_succ, List.filterMap_append]
  cases h : t k <;> simp [h]
set_option maxRecDepth 100000 in
set_option maxHeartbeats 2000000 in
theorem entries152 {n B g c : Nat} {w : World} {R : Nat → Nat} {t : Nat → Nat → Option (Pm n)} (hT : TabW n B g w R t) :
    Calls Tryz.prog 97 #[.slice (some ⟨g, 0, none⟩) n c] w fun e w' => ∃ v us, e = .returned v ∧ Own w' w.heap.size v 41 us ∧ PmL w' (rowsM n R) us (entL n t) ∧ Below w.heap.size w w' ∧ PmL w (rowsM n R) us (entL n t) := by
  obtain ⟨i27, hi27, hz27, hs27, hb27⟩ := info_parts Tryz.info41
  have I27 := Lib.hid (And.intro hi27 (And.intro hz27 (And.intro hs27 hb27)))
  clear hi27 hz27 hs27 hb27
  have hn := hT.hn
  have H := Lib.hid hT
  clear hT
  have hn1 := hn.2
  go_enter Tryz.func97, Tryz.ntmps97
  go_wp2_with fail
  go_loopw [3, 4] (fun v i wr => ∃ (k : Nat) (us : List Value), k ≤ n ∧ i = .int .i64 (k : Int) ∧ Own wr w.heap.size v 41 us ∧ PmL w (rowsM n R) us ((List.range k).flatMap (rowE n t)) ∧ Below w.heap.size w wr ∧ us.length ≤ k * 64) (fun _ i _ => n - (intOf i).toNat)
  case atStart => exact ⟨0, [], by omega, rfl, Own.nil _ _ _, ⟨rfl, fun k s h => by simp at h⟩, Below.refl _ _, by simp⟩
  case round =>
    obtain ⟨k, us, hk, rfl, ho, hp, hb, hl⟩ := hrel
    have HP := Lib.hid (And.intro ho (And.intro hp (And.intro hb hl)))
    clear ho hp hb hl
    by_cases hkn : k < n
    · have hk1 : (k : Int) < n := by omega
      go_wp2_with fail
      go_loopw [3, 5] (fun v i wr => ∃ (q : Nat) (us : List Value), q ≤ n ∧ i = .int .i64 (q : Int) ∧ Own wr w.heap.size v 41 us ∧ PmL w (rowsM n R) us ((List.range k).flatMap (rowE n t) ++ (List.range q).filterMap (t k)) ∧ Below w.heap.size w wr ∧ us.length ≤ k * 64 + q) (fun _ i _ => n - (intOf i).toNat)
      case atStart => exact ⟨0, us, by omega, rfl, HP.out.1, by simpa using HP.out.2.1, HP.out.2.2.1, HP.out.2.2.2⟩
      case round =>
        obtain ⟨q, us, hq, rfl, ho, hp, hb, hl⟩ := hrel
        by_cases hqn : q < n
        · have hT' := H.out.below hb
          have tp := hT'.top k hkn
          obtain ⟨u, hu0, _, hov⟩ := H.out.at_ hkn hqn
          have hu := (hb.cell (block_lt_of_cell hu0)).trans hu0
          clear hu0
          have hsz := hb.size
          have hul : us.length < 1099511627776 := by
            have : k * 64 ≤ 64 * 64 := Nat.mul_le_mul (by omega) (Nat.le_refl _)
            omega
          have HQ := Lib.hid (And.intro ho (And.intro hp (And.intro hb hl)))
          clear ho hp hb hl hT'
          have hq1 : (q : Int) < n := by omega
          cases hto : t k q with
          | none =>
            rw [hto] at hov
            have hun : u = .slice none 0 0 := hov
            subst hun
            have hnil : ∀ W, (binOp .neq 41 (.slice none 0 0) (.slice none 0 0)).run Tryz.prog W = .ok (.bool false) W := fun W => neq_nil27 W none 0 0
            have Ht := Lib.hid hto
            clear hov hto
            go_wp2_with fail
            exact ⟨⟨q + 1, us, by omega, by go_num, HQ.out.1, by rw [fm_snoc, Ht.out]; simpa using HQ.out.2.1, HQ.out.2.2.1, by have := HQ.out.2.2.2; omega⟩, by simp [intOf]; omega⟩
          | some y =>
            rw [hto] at hov
            have hov : PmV w (rowsM n R) u y := hov
            obtain ⟨ub, uo, uc, rfl⟩ := hov.form
            have hnil : ∀ W, (binOp .neq 41 (.slice (some ⟨ub, uo, none⟩) n uc) (.slice none 0 0)).run Tryz.prog W = .ok (.bool true) W := fun W => neq_nil27 W _ _ _
            have Ht := Lib.hid (And.intro hto hov)
            clear hov hto
            go_wp2_with (at_builtin; refine app1 rfl (.tmp 26) (.tmp 34) 28 41 rfl i27 (.slice none 0 0) 24 Tryz.underlying28 I27.out.1 I27.out.2.1 I27.out.2.2.1 I27.out.2.2.2 rfl (by omega) w.heap.size (.slice (some ⟨ub, uo, none⟩) n uc) u3 us rfl HQ.out.1 rfl rfl hul hsz ?_; intro v8 w8 k1 k2 k3; have H8 := Lib.hid (And.intro k1 (And.intro k2 k3)); clear k1 k2 k3)
            have hb8 := HQ.out.2.2.1.grown H8.out.2.1 hsz (fun g hg => (HQ.out.1.block_lt hg).2)
            refine ⟨⟨q + 1, us ++ [.slice (some ⟨ub, uo, none⟩) n uc], by omega, by go_num, H8.out.1, ?_, hb8, by rw [List.length_append]; have := HQ.out.2.2.2; simp; omega⟩, by simp [intOf]; omega⟩
            rw [fm_snoc, Ht.out.1, Option.toList_some, ← List.append_assoc]
            exact HQ.out.2.1.snoc Ht.out.2
        · obtain rfl : q = n := by omega
          have HQ := Lib.hid (And.intro ho (And.intro hp (And.intro hb hl)))
          clear ho hp hb hl
          go_wp2_with fail
          refine ⟨⟨k + 1, us, by omega, by go_num, HQ.out.1, ?_, HQ.out.2.2.1, by have := HQ.out.2.2.2; omega⟩, by simp [intOf]; omega⟩
          rw [List.range_succ, List.flatMap_append]
          simpa [rowE] using HQ.out.2.1
    · obtain rfl : k = n := by omega
      go_wp2_with fail
      go_ret
      exact ⟨_, us, rfl, HP.out.1, HP.out.2.1.stp (Stp.below HP.out.2.2.1), HP.out.2.2.1, HP.out.2.1⟩
end Go.Proofs.YtbejhkojdiadaaaGreatDoor
namespace Go.Proofs.YtbejhkojdiadaaaGreatDoor
open Go.RowKit PlainPm
def freshL {n : Nat} (E ls : List (Pm n)) : List (Pm n) := E.filter fun y => decide (y.l ∉ ls.map (·.l))
theorem freshL_snoc {n : Nat} {E ls : List (Pm n)} {k : Nat} {x : Pm n} (h : E[k]? = some x) : freshL (E.take (k + 1)) ls = freshL (E.take k) ls ++ (if x.l ∈ ls.map (·.l) then [] else [x]) := by
  unfold freshL
  rw [List.take_add_one, h, Option.toList_some, List.filter_append]
  congr 1
  by_cases hm : x.l ∈ ls.map (·.l)
  · rw [if_pos hm, List.filter_cons_of_neg (by simpa using hm)]; rfl
  · rw [if_neg hm, List.filter_cons_of_pos (by simpa using hm)]; rfl
def SeenL {n : Nat} (ls : List (Pm n)) (x : Pm n) (k : Nat) (s : Bool) : Prop := (s = true → x.l ∈ ls.map (·.l)) ∧ (s = false → ∀ j y, j < k → ls[j]? = some y → y.l ≠ x.l)
theorem SeenL.step {n : Nat} {ls : List (Pm n)} {x y : Pm n} {k : Nat} (h : SeenL ls x k false) (hy : ls[k]? = some y) : SeenL ls x (k + 1) (decide (x.l = y.l)) := by
  refine ⟨fun he => ?_, fun he j z hj hz => ?_⟩
  · rw [of_decide_eq_true he]; exact List.mem_map.2 ⟨y, List.mem_of_getElem? hy, rfl⟩
  · by_cases e : j = k
    · subst e; rw [hy] at hz; cases hz
      intro h2; exact of_decide_eq_false he h2.symm
    · exact h.2 rfl j z (by omega) hz
theorem SeenL.end_ {n : Nat} {ls : List (Pm n)} {x : Pm n} {k : Nat} {s : Bool} (h : SeenL ls x k s) (hk : s = false → ls.length ≤ k) : s = decide (x.l ∈ ls.map (·.l)) := by
  cases s with
  | true => exact (decide_eq_true (h.1 rfl)).symm
  | false =>
    refine (decide_eq_false fun hm => ?_).symm
    obtain ⟨y, hy, e⟩ := List.mem_map.1 hm
    obtain ⟨j, hj⟩ := List.mem_iff_getElem?.1 hy
    exact h.2 rfl j y (by have := (List.getElem?_eq_some_iff.1 hj).1; have := hk rfl; omega) hj e
set_option maxRecDepth 100000 in
set_option maxHeartbeats 2000000 in
theorem fresh153 {n B g c : Nat} {w : World} {R : Nat → Nat} {t : Nat → Nat → Option (Pm n)} {vl : Value} {ls : List (Pm n)} (hT : TabW n B g w R t) (hv : PmsV w [] vl ls) (hll : ls.length ≤ 1000000) :
    Calls Tryz.prog 98 #[.slice (some ⟨g, 0, none⟩) n c, vl] w fun e w' => ∃ v us, e = .returned v ∧ Own w' w.heap.size v 41 us ∧ PmL w' (rowsM n R) us (freshL (entL n t) ls) ∧ Below w.heap.size w w' := by
  obtain ⟨i27, hi27, hz27, hs27, hb27⟩ := info_parts Tryz.info41
  have I27 := Lib.hid (And.intro hi27 (And.intro hz27 (And.intro hs27 hb27)))
  clear hi27 hz27 hs27 hb27
  obtain ⟨la, lc, vs, rfl, hlr, hlp⟩ := hv
  have hn := hT.hn
  obtain ⟨LL, hLL⟩ : ∃ m, ls.length = m := ⟨_, rfl⟩
  rw [hLL] at hll ⊢
  have H := Lib.hid (And.intro hT (And.intro hlr (And.intro hlp hLL)))
  have hent := entries152 (c := c) hT
  have hel := entL_len (n := n) t
  obtain ⟨E, hE⟩ : ∃ E, entL n t = E := ⟨_, rfl⟩
  rw [hE] at hent hel ⊢
  have HE := Lib.hid hent
  have Hel := Lib.hid hel
  clear hent hel hE
  clear hT hlr hlp hLL
  have hn1 := hn.2
  go_enter Tryz.func98, Tryz.ntmps98
  go_wp2_with (go_at_call 97; refine HE.out.mono ?_; rintro e w1 ⟨v1, us1, rfl, k1, k2, k3, _⟩; obtain ⟨ea, ec, rfl, k4⟩ := k1.row (by rw [k2.1]; have := Hel.out; have : n * n ≤ 64 * 64 := Nat.mul_le_mul hn1 hn1; unfold maxLen; omega); have H1 := Lib.hid (And.intro k1 (And.intro k2 (And.intro k3 k4))); clear k1 k2 k3 k4)
  obtain ⟨EL, hEL⟩ : ∃ m, us1.length = m := ⟨_, rfl⟩
  have hul := H1.out.2.1.1
  have hEn : EL ≤ 4096 := by
    have := Hel.out
    have : n * n ≤ 64 * 64 := Nat.mul_le_mul hn1 hn1
    omega
  have HEL := Lib.hid (And.intro hEL hul)
  rw [hEL]
  clear hul hEL
  go_loopw [5, 7] (fun v i wr => ∃ (k : Nat) (us : List Value), k ≤ EL ∧ i = .int .i64 (k : Int) ∧ Own wr w1.heap.size v 41 us ∧ PmL w1 (rowsM n R) us (freshL (E.take k) ls) ∧ Below w1.heap.size w1 wr ∧ us.length ≤ k) (fun _ i _ => EL - (intOf i).toNat)
  case atStart => exact ⟨0, [], by omega, rfl, Own.nil _ _ _, ⟨rfl, fun k s h => by simp [freshL] at h⟩, Below.refl _ _, by simp⟩
  case round =>
    obtain ⟨k, us, hk, rfl, ho, hp, hb, hl⟩ := hrel
    have hsz := hb.size
    have HP := Lib.hid (And.intro ho (And.intro hp (And.intro hb hl)))
    clear ho hp hb hl
    by_cases hkn : k < EL
    · obtain ⟨x, hx⟩ : ∃ x, E[k]? = some x := ⟨_, List.getElem?_eq_getElem (by have := HEL.out; omega)⟩
      obtain ⟨u, hu, hpm⟩ := H1.out.2.1.2 k x hx
      obtain ⟨xb, xo, hae, _, hxc⟩ := (H1.out.2.2.2.below HP.out.2.2.1).2 k u hu
      subst hae
      obtain ⟨xa, xc, rfl, hxi⟩ := hpm.ints (by omega)
      have hk1 : (k : Int) < EL := by omega
      obtain ⟨wq, rfl⟩ : ∃ wq : World, wq = wr := ⟨_, rfl⟩
      have HX := Lib.hid (And.intro hx (And.intro hpm (And.intro hu hxi)))
      clear hx hpm hu hxi
      go_wp2_with fail
      go_loopw [8, 9] (fun sv jv wi => ∃ (s : Bool) (j q : Nat), j ≤ LL ∧ sv = .bool s ∧ jv = .int .i64 (j : Int) ∧ wi = wq.drewN q ∧ SeenL ls x j s) (fun sv jv _ => LL + 1 - (intOf jv).toNat)
      case atStart => exact ⟨false, 0, 0, by omega, rfl, rfl, rfl, ⟨fun h => (by cases h), fun _ j y hj => (by omega)⟩⟩
      case round =>
        obtain ⟨s, j, q, hj, rfl, rfl, rfl, hs⟩ := hrel
        have HS := Lib.hid hs
        clear hs
        cases s with
        | false =>
          by_cases hjl : j < LL
          · obtain ⟨y, hy⟩ : ∃ y, ls[j]? = some y := ⟨_, List.getElem?_eq_getElem (by rw [H.out.2.2.2]; exact hjl)⟩
            obtain ⟨u2, hu2, hpm2⟩ := H.out.2.2.1.2 j y hy
            have hbq : Below w.heap.size w wq := below_trans H1.out.2.2.1 HP.out.2.2.1
            obtain ⟨yb, yo, hae, _, hyc⟩ := (H.out.2.1.below hbq).2 j u2 hu2
            subst hae
            obtain ⟨ya, yc, rfl, hyi⟩ := hpm2.ints (by omega)
            have Hc := Lib.hid (fun q => same20 xa ya xc yc x.l y.l (wq.drewN q) ((HX.out.2.2.2.below HP.out.2.2.1).drewN q) ((hyi.below hbq).drewN q))
            obtain ⟨r, hr⟩ : ∃ r, decide (x.l = y.l) = r := ⟨_, rfl⟩
            rw [hr] at Hc
            have Hy := Lib.hid (And.intro hy hr)
            have hj1 : (j : Int) < LL := by omega
            clear hy hr hpm2 hyi hbq hu2
            go_wp2_with fail
            go_quiet ((go_at_call 20; exact quiet_add (Hc.out _)))
            go_wp2_with fail
            exact ⟨⟨r, j + 1, q + nq, by omega, rfl, by go_num, rfl, by rw [← Hy.out.2]; exact HS.out.step Hy.out.1⟩, by simp [intOf]; omega⟩
          · have hjL : ¬ (j : Int) < LL := by omega
            have hdec := HS.out.end_ (fun _ => by rw [H.out.2.2.2]; omega)
            have hnm : ¬ x.l ∈ ls.map (·.l) := of_decide_eq_false hdec.symm
            have hsn := freshL_snoc (ls := ls) HX.out.1
            rw [if_neg hnm] at hsn
            have HD := Lib.hid hsn
            clear hdec hnm hsn
            go_wp2_with (at_builtin; refine app1 rfl (.tmp 39) (.tmp 44) 28 41 rfl i27 (.slice none 0 0) 24 Tryz.underlying28 I27.out.1 I27.out.2.1 I27.out.2.2.1 I27.out.2.2.2 rfl (by omega) w1.heap.size (.slice xa x.l.length xc) u5 us rfl (HP.out.1.drewN q) rfl rfl (by have := HP.out.2.2.2; omega) hsz ?_; intro v8 w8 k1 k2 k3; have H8 := Lib.hid (And.intro k1 (And.intro k2 k3)); clear k1 k2 k3)
            refine ⟨⟨k + 1, us ++ [.slice xa x.l.length xc], by omega, by go_num, H8.out.1, ?_, (below_drewN HP.out.2.2.1 q).grown H8.out.2.1 hsz (fun g hg => (HP.out.1.block_lt hg).2), by rw [List.length_append]; have := HP.out.2.2.2; simp; omega⟩, by simp [intOf]; omega⟩
            rw [HD.out]
            exact HP.out.2.1.snoc HX.out.2.1
        | true =>
          have hmm : x.l ∈ ls.map (·.l) := HS.out.1 rfl
          have hsn := freshL_snoc (ls := ls) HX.out.1
          rw [if_pos hmm, List.append_nil] at hsn
          have HD := Lib.hid hsn
          clear hmm hsn
          go_wp2_with fail
          exact ⟨⟨k + 1, us, by omega, by go_num, HP.out.1.drewN q, by rw [HD.out]; exact HP.out.2.1, below_drewN HP.out.2.2.1 q, by have := HP.out.2.2.2; omega⟩, by simp [intOf]; omega⟩
    · obtain rfl : k = EL := by omega
      go_wp2_with fail
      go_ret
      have := HP.out.2.1
      rw [List.take_of_length_le (by have := HEL.out; omega)] at this
      exact ⟨_, us, rfl, HP.out.1.mono H1.out.2.2.1.size, this.stp (Stp.below HP.out.2.2.1), below_trans H1.out.2.2.1 HP.out.2.2.1⟩
end Go.Proofs.YtbejhkojdiadaaaGreatDoor
