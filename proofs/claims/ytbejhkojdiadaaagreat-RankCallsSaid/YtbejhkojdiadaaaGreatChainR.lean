/- The chain of the reference's table. -/
import Derived.Test.YtbejhkojdiadaaaGreatRegR
set_option linter.unusedSimpArgs false
set_option linter.unusedVariables false
namespace Go.Proofs.YtbejhkojdiadaaaGreat
open Go.RowKit PlainPm
set_option maxRecDepth 100000 in
set_option maxHeartbeats 8000000 in
theorem chain131 {n B g c : Nat} {w : World} {R : Nat → Nat} {t : Nat → Nat → Option (Pm n)} (hT : TabW n B g w R t) (hw : TabOk t) :
    Calls Tryz.prog 131 #[.slice (some ⟨g, 0, none⟩) n c] w fun e w' =>
      ∃ a c0 b d, e = .returned (.agg #[.int .i64 (n : Int), .slice a n c0, .slice b n d]) ∧ Rows w' a (orbI (tabTw t) n) ∧ Rows2 w' b (repI (tabTw t) n) ∧ Below w.heap.size w w' ∧ ∃ csO csR, Own w' w.heap.size (.slice a n c0) 26 csO ∧ OwnRows w' w.heap.size 3 csO (orbI (tabTw t) n) ∧ Own w' w.heap.size (.slice b n d) 44 csR ∧ OwnR2 w' w.heap.size csR (repI (tabTw t) n) := by
  obtain ⟨i3, hi3, hz3, hs3, hb3⟩ := info_parts Tryz.info3
  obtain ⟨i26, hi26, hz26, hs26, hb26⟩ := info_parts Tryz.info26
  obtain ⟨i27, hi27, hz27, hs27, hb27⟩ := info_parts Tryz.info27
  obtain ⟨i44, hi44, hz44, hs44, hb44⟩ := info_parts Tryz.info44
  have I3 := Lib.hid (And.intro hi3 (And.intro hz3 (And.intro hs3 hb3)))
  have I26 := Lib.hid (And.intro hi26 (And.intro hz26 (And.intro hs26 hb26)))
  have I27 := Lib.hid (And.intro hi27 (And.intro hz27 (And.intro hs27 hb27)))
  have I44 := Lib.hid (And.intro hi44 (And.intro hz44 (And.intro hs44 hb44)))
  clear hi3 hz3 hs3 hb3 hi26 hz26 hs26 hb26 hi27 hz27 hs27 hb27 hi44 hz44 hs44 hb44
  have hn := hT.hn
  have hn1 := hn.2
  obtain ⟨T, hTT⟩ : ∃ T, tabTw t = T := ⟨_, rfl⟩
  rw [hTT]
  have HTT := Lib.hid hTT
  clear hTT
  obtain ⟨X, hX⟩ : ∃ X, w.heap.size = X := ⟨_, rfl⟩
  obtain ⟨W1, hW1⟩ : ∃ W1, W1 = (w.alloc (.cells #[.int .i64 0, .slice none 0 0, .slice none 0 0] 25)).alloc (.cells #[.int .i64 (n : Int), .slice none 0 0, .slice none 0 0] 25) := ⟨_, rfl⟩
  have hbw : Below w.heap.size w W1 := by rw [hW1]; exact alloc_b (alloc_b (Below.refl _ _) _) _
  have hs1 : W1.heap.size = X + 2 := by rw [hW1, ← hX]; simp
  have hc1 : W1.heap[X + 1]? = some (.cells #[.int .i64 (n : Int), .slice none 0 0, .slice none 0 0] 25) := by
    rw [hW1, ← hX]
    have := World.alloc_heap_new (w.alloc (.cells #[.int .i64 0, .slice none 0 0, .slice none 0 0] 25)) (.cells #[.int .i64 (n : Int), .slice none 0 0, .slice none 0 0] 25)
    rw [World.size_alloc] at this
    exact this
  have hr1 : W1.heap[X]? = some (.cells #[.int .i64 0, .slice none 0 0, .slice none 0 0] 25) := by
    rw [hW1, ← hX, Below.heap_alloc _ _ _ (by simp)]
    exact World.alloc_heap_new w _
  have H := Lib.hid (And.intro hT (And.intro hw (And.intro hbw (And.intro hs1 hr1))))
  have HX := Lib.hid hX
  clear hT hw hbw hs1 hr1
  go_enter Tryz.func131, Tryz.ntmps131
  go_wp2_with fail
  try rw [← hW1]
  have hx1 : ∀ W, Below (X + 1) W1 W → Below w.heap.size w W ∧ W.heap[X]? = W1.heap[X]? ∧ TabW n B g W R t := fun W h => by
    have hb : Below w.heap.size w W := H.out.2.2.1.trans (h.mono (by omega))
    exact ⟨hb, h.block X (by omega), H.out.1.below hb⟩
  have Hx := Lib.hid hx1
  clear hW1 hX hx1
  go_loopw [4] (fun kk wr => ∃ (k : Nat) (vO vR : Value) (csO csR : List Value), k ≤ n ∧ kk = .int .i64 (k : Int) ∧ wr.heap[X + 1]? = some (.cells #[.int .i64 (n : Int), vO, vR] 25) ∧ Own wr (X + 2) vO 26 csO ∧ OwnRows wr (X + 2) 3 csO (orbI T k) ∧ Own wr (X + 2) vR 44 csR ∧ OwnR2 wr (X + 2) csR (repI T k) ∧ Below (X + 1) W1 wr) (fun kk _ => n - (intOf kk).toNat)
  case atStart => exact ⟨0, _, _, [], [], by omega, rfl, hc1, Own.nil _ _ _, OwnRows.nil _ _ _, Own.nil _ _ _, OwnR2.nil _ _, Below.refl _ _⟩
  case round =>
    clear hc1
    obtain ⟨k, vO, vR, csO, csR, hk, rfl, hC, hO, hOr, hR, hRr, hbl⟩ := hrel
    obtain ⟨wo, rfl⟩ : ∃ wo : World, wo = wr := ⟨_, rfl⟩
    have hso : X + 2 ≤ wo.heap.size := by have := hbl.size; have := H.out.2.2.2.1; omega
    obtain ⟨hb1, _, hTo⟩ := Hx.out wo hbl
    have HO := Lib.hid (And.intro hC (And.intro hO (And.intro hOr (And.intro hR (And.intro hRr (And.intro hbl (And.intro hso (And.intro hb1 hTo))))))))
    have hCk := hC
    clear hO hOr hR hRr hbl hb1
    by_cases hkn : k < n
    · obtain ⟨pts, hpts⟩ : ∃ pts, orbR t k n = pts := ⟨_, rfl⟩
      have hcall := orbit154 (c := c) hTo hkn
      rw [hpts] at hcall
      have hpl : pts.length ≤ n := by rw [← hpts]; exact orbR_len _ _ _
      have hpm : ∀ p ∈ pts, p < n ∧ (p = k ∨ (t k p).isSome = true) := fun p hp => by
        rw [← hpts] at hp
        unfold orbR at hp
        obtain ⟨h1, h2⟩ := List.mem_filter.1 hp
        refine ⟨List.mem_range.1 h1, ?_⟩
        simp at h2
        rcases h2.2 with h | h
        · exact .inl h
        · exact .inr (by simpa using h)
      have hptsT : ptsOf n (T k).orb = pts := by rw [← HTT.out, orbR_pts H.out.2.1]; exact hpts
      have HV := Lib.hid (And.intro trivial (And.intro trivial (And.intro hptsT (And.intro hpl hpm))))
      have H3 := Lib.hid (Below.refl wo.heap.size wo)
      have HC := Lib.hid hcall
      clear hpts hpl hpm hTo hC hCk hcall hptsT
      have hk1 : (k : Int) < n := by omega
      go_wp2_with (go_at_call 154; refine HC.out.mono ?_; rintro e w4 ⟨v4, rfl, k4, k5⟩; obtain ⟨pa, pc, rfl, -⟩ := k4.row (by rw [ints_len, nts_len]; have := HV.out.2.2.2.1; unfold maxLen; omega); have H4 := Lib.hid (And.intro k4 k5); clear k4 k5)
      have hb4 : Below wo.heap.size wo w4 := H4.out.2
      have HB4 := Lib.hid hb4
      clear hb4
      obtain ⟨Lp, hLp⟩ : ∃ Lp, pts.length = Lp := ⟨_, rfl⟩
      rw [ints_len, nts_len, hLp]
      have hLp64 : Lp ≤ 64 := by have := HV.out.2.2.2.1; omega
      go_loopw [6, 7] (fun vr jj wr => ∃ (j : Nat) (us : List Value), j ≤ Lp ∧ jj = .int .i64 (j : Int) ∧ Own wr w4.heap.size vr 27 us ∧ OwnRows wr w4.heap.size 3 us ((pts.take j).map fun p => (repT T k p).l) ∧ Below w4.heap.size w4 wr) (fun _ jj _ => Lp - (intOf jj).toNat)
      case atStart => exact ⟨0, [], by omega, rfl, Own.nil _ _ _, OwnRows.nil _ _ _, Below.refl _ _⟩
      case round =>
        obtain ⟨j, us, hj, rfl, hvr, hus, hbr⟩ := hrel
        obtain ⟨wi, rfl⟩ : ∃ wi : World, wi = wr := ⟨_, rfl⟩
        have hbi : Below wo.heap.size wo wi := HB4.out.trans (hbr.mono HB4.out.size)
        have hTi := HO.out.2.2.2.2.2.2.2.2.below hbi
        have HI := Lib.hid (And.intro hvr (And.intro hus (And.intro hbr (And.intro hbi hTi))))
        clear hvr hus hbr hbi
        by_cases hjl : j < Lp
        · obtain ⟨p, hp⟩ : ∃ p, pts[j]? = some p := ⟨_, List.getElem?_eq_getElem (by omega)⟩
          obtain ⟨hpn, hpo⟩ := HV.out.2.2.2.2 p (List.mem_of_getElem? hp)
          have hip : Ints w4 pa (nts pts) := H4.out.1.toInts (by rw [nts_len]; have := HV.out.2.2.2.1; unfold maxLen; omega)
          obtain ⟨pb, po, hpa, hpB, pce⟩ := (hip.below HI.out.2.2.1).at_ (k := j) (by rw [nts_len]; omega)
          subst hpa
          rw [nts_get (by omega), hp, Option.getD_some] at pce
          have hls := least155 (c := c) hTi H.out.2.1 hkn hpn hpo
          rw [HTT.out] at hls
          have hsw : w4.heap.size ≤ wi.heap.size := HI.out.2.2.1.size
          have hul : us.length < 1000000 := by rw [HI.out.2.1.1, List.length_map, List.length_take]; have := HV.out.2.2.2.1; omega
          have HL := Lib.hid (And.intro hls (And.intro hp (And.intro hsw hjl)))
          clear hls hp hTi hip hpo
          have hj1 : (j : Int) < Lp := by omega
          go_wp2_with (first
            | (at_builtin; refine app1 rfl (.tmp 26) (.tmp 34) 44 27 rfl i27 (.slice none 0 0) 24 Tryz.underlying44 I27.out.1 I27.out.2.1 I27.out.2.2.1 I27.out.2.2.2 rfl (by omega) w4.heap.size (.slice qa (ints (repT T k p).l).length qc) u6 us rfl (HI.out.1.below H7.out.2.1) rfl rfl (by omega) (Nat.le_trans HL.out.2.2.1 H7.out.2.1.size) ?_; intro v8 w8 k1 k2 k3; have H8 := Lib.hid (And.intro k1 (And.intro k2 k3)); clear k1 k2 k3)
            | (go_at_call 155; refine HL.out.1.mono ?_; rintro e w7 ⟨v7, rfl, k4, k5⟩; obtain ⟨qa, qc, rfl, -⟩ := k4.row (by rw [ints_len, (repT T k p).ok.1]; unfold maxLen; omega); have H7 := Lib.hid (And.intro k4 (And.intro k5 k5)); clear k4 k5))
          have hA8 : Below w4.heap.size w4 w8 := ((HI.out.2.2.1.trans (H7.out.2.1.mono HL.out.2.2.1)).grown H8.out.2.1 (Nat.le_trans HL.out.2.2.1 H7.out.2.1.size) (fun g hg => (HI.out.1.block_lt hg).2))
          have hown7 := HI.out.1.below H7.out.2.1
          have hjl2 : j < Lp := HL.out.2.2.2
          refine ⟨⟨j + 1, us ++ [.slice qa (ints (repT T k p).l).length qc], by omega, by go_num, ?_, ?_, hA8⟩, by simp [intOf]; omega⟩
          · exact H8.out.1
          · rw [List.take_add_one, HL.out.2.1, Option.toList_some, List.map_append]
            refine ((HI.out.2.1.below H7.out.2.1).kept H8.out.2.1 (fun u xs hu => hu.ne_type hown7 (by decide))).app (OwnRows.one ?_)
            exact (H7.out.1.kept H8.out.2.1 (H7.out.1.ne_type hown7 (by decide))).mono HL.out.2.2.1
        · obtain rfl : j = Lp := by omega
          have hbo := HI.out.2.2.2.1
          have hC : wi.heap[X + 1]? = some (.cells #[.int .i64 (n : Int), vO, vR] 25) := (hbo.block (X + 1) (by omega)).trans HO.out.1
          have hpn2 := HV.out.2.2.2.1
          obtain ⟨ra, rc, hrv, -⟩ := HI.out.1.row (by rw [HI.out.2.1.1, List.length_map, List.length_take]; unfold maxLen; omega)
          obtain ⟨lr, hlr⟩ : ∃ l, us.length = l := ⟨_, rfl⟩
          rw [hlr] at hrv
          subst hrv
          have hO' := HO.out.2.1.below hbo
          have hR' := HO.out.2.2.2.1.below hbo
          have hsw : X + 2 ≤ wi.heap.size := Nat.le_trans hso hbo.size
          have hcO : csO.length < 1000000 := by rw [HO.out.2.2.1.1]; simp [orbI]; omega
          have hcR : csR.length < 1000000 := by rw [HO.out.2.2.2.2.1.1]; simp [repI]; omega
          have ho4 : Own wi wo.heap.size (.slice pa j pc) 3 (ints (nts pts)) := by
            have h4 := H4.out.1
            rw [ints_len, nts_len, hLp] at h4
            exact h4.below HI.out.2.2.1
          have hp4 := HI.out.1.mono HB4.out.size
          have hus4 := HI.out.2.1.mono HB4.out.size
          rw [List.take_of_length_le (by omega)] at hus4
          have HB := Lib.hid (And.intro hC (And.intro hO' (And.intro hR' (And.intro hlr (And.intro hbo (And.intro ho4 (And.intro hp4 hus4)))))))
          clear hC hO' hR' hbo ho4 hp4 hus4 hlr hTi hLp
          go_upto_region 11 with (fail)
          refine Code.wp_mono (OnlyNormal.imp fun a' W h => ?_) (reg131_wp (X := X) (L := j) (lr := lr) (pa := pa) (ra := ra) (pc := pc) (rc := rc) _ _ _ _ _ _ _ _ _ _ _ _ _ _ _ _ _ _ _ _ _ _ _ _ _ _ _ _ _ _ _ _ _ _ _ _ _ _ _ _ _ _ _ _ _ _ HB.out.1 HB.out.2.1 HB.out.2.2.1 hsw hcO hcR)
          obtain ⟨v8, v9, w8, w9, d36, d37, d38, d39, d40, d41, d42, d43, d44, d45, d46, d47, k1, k2, k3, k4, k5, k6, rfl⟩ := h
          have hfin := grp_end HO.out.2.1 HO.out.2.2.1 HO.out.2.2.2.1 HO.out.2.2.2.2.1 HO.out.2.2.2.2.2.1 hso (by have := H.out.2.2.2.1; omega) HB.out.2.2.2.2.1 HB.out.2.2.2.2.2.1 HB.out.2.2.2.2.2.2.1 HB.out.2.2.2.2.2.2.2 k1 k2 k3 k4 k5
          rw [← k6] at hfin
          have e1 := orbI_succ T k
          have e2 := repI_succ T k
          rw [HV.out.2.2.1] at e1 e2
          rw [← e1, ← e2] at hfin
          have HF := Lib.hid hfin
          clear hfin k1 k2 k3 k4 k5 k6 e1 e2
          go_wp2
          exact ⟨⟨k + 1, v8, v9, _, _, by omega, by go_num, HF.out⟩, by simp [intOf]; omega⟩
    · obtain rfl : k = n := by omega
      obtain ⟨_, hx4, _⟩ := Hx.out wo HO.out.2.2.2.2.2.1
      have hR1 := hx4.trans H.out.2.2.2.2
      obtain ⟨aO, cO, hvO, _⟩ := HO.out.2.2.1.rows HO.out.2.1 (by rw [HO.out.2.2.1.1]; simp [orbI]; unfold maxLen; omega) (pts_len T hn.2 k)
      obtain ⟨aR, cR, hvR, _⟩ := HO.out.2.2.2.2.1.rows2 HO.out.2.2.2.1 (by rw [HO.out.2.2.2.2.1.1]; simp [repI]; omega) (pms_len T hn.2 k)
      rw [show (orbI T k).length = k by simp [orbI]] at hvO
      rw [show (repI T k).length = k by simp [repI]] at hvR
      subst hvO
      subst hvR
      obtain ⟨c0, c1, c2, _, _, _⟩ := box_cells HO.out.1
      obtain ⟨d0, d1, d2, d3, d4, d5⟩ := box_cells hR1
      clear hTo hC hCk
      go_wp2
      obtain ⟨WF, hWF⟩ : ∃ WF, WF = ((wo.setCell ⟨X, 0, none⟩ (.int .i64 (k : Int))).setCell ⟨X, 1, none⟩ (.slice aO k cO)).setCell ⟨X, 2, none⟩ (.slice aR k cR) := ⟨_, rfl⟩
      have hF : WF.heap[X]? = some (.cells #[.int .i64 (k : Int), .slice aO k cO, .slice aR k cR] 25) := by
        rw [hWF]; exact box_set2 (box_set1 (box_set0 hR1))
      have gF : wo.grownBy WF (some X) := by rw [hWF]; exact ((grown_put 0 _).trans (grown_put 1 _)).trans (grown_put 2 _)
      rw [← hWF]
      clear hWF
      obtain ⟨f0, f1, f2, _, _, _⟩ := box_cells hF
      have hO9 := HO.out.2.1.off gF (by omega)
      have hR9 := HO.out.2.2.2.1.off gF (by omega)
      obtain ⟨aO', cO', hvO, hrO⟩ := (HO.out.2.2.1.off gF (by omega)).rows hO9 (by rw [HO.out.2.2.1.1]; simp [orbI]; unfold maxLen; omega) (pts_len T hn.2 k)
      obtain ⟨aR', cR', hvR, hrR⟩ := (HO.out.2.2.2.2.1.off gF (by omega)).rows2 hR9 (by rw [HO.out.2.2.2.2.1.1]; simp [repI]; omega) (pms_len T hn.2 k)
      rw [show (orbI T k).length = k by simp [orbI]] at hvO
      rw [show (repI T k).length = k by simp [repI]] at hvR
      cases hvO
      cases hvR
      have hbF : Below w.heap.size w WF := by
        refine (H.out.2.2.1.trans (HO.out.2.2.2.2.2.1.mono (by rw [HX.out]; omega))).grown gF (by rw [HX.out]; omega) (fun g hg => ?_)
        cases hg; rw [HX.out]; exact Nat.le_refl _
      refine bodyPost_ret (v := .agg #[.int .i64 (k : Int), .slice aO k cO, .slice aR k cR]) (by simp [results, Tryz.results131, go_sem, f0, f1, f2]) rfl ?_
      have hXle : w.heap.size ≤ X + 2 := by rw [HX.out]; omega
      exact ⟨_, _, _, _, rfl, hrO, hrR, hbF, csO, csR, hO9.mono hXle, (HO.out.2.2.1.off gF (by omega)).mono hXle, hR9.mono hXle, (HO.out.2.2.2.2.1.off gF (by omega)).mono hXle⟩
end Go.Proofs.YtbejhkojdiadaaaGreat
