/- The reference's least element of a coset. -/
import Derived.Test.YtbejhkojdiadaaaGreatOrbW
set_option linter.unusedSimpArgs false
set_option linter.unusedVariables false
namespace Go.Proofs.YtbejhkojdiadaaaGreat
open Go.RowKit PlainPm
theorem orb_eq {n : Nat} {t : Nat → Nat → Option (Pm n)} (h : TabOk t) {i : Nat} : (tabTw t i).orb = orbR t i n := by
  rw [← orbR_pts h]
  unfold ptsOf tabTw
  apply List.filter_congr
  intro q hq
  have hqn := List.mem_range.1 hq
  simp [hqn]
set_option maxRecDepth 100000 in
set_option maxHeartbeats 1000000 in
theorem own115 {n c : Nat} {ad : Addr} {w : World} {xs : List Int} (hA : Ints w (some ad) xs) (hl : xs.length = n) (hn : n ≤ 64) :
    Calls Tryz.prog 115 #[.slice (some ad) n c] w fun e w' => ∃ v, e = .returned v ∧ Own w' w.heap.size v 3 (ints xs) ∧ Below w.heap.size w w' := by
  obtain ⟨i3, hi3, hz3, hs3, hb3⟩ := info_parts Tryz.info3
  have I3 := Lib.hid (And.intro hi3 (And.intro hz3 (And.intro hs3 hb3)))
  clear hi3 hz3 hs3 hb3
  have Hn := Lib.hid hl
  clear hl
  have hem := Own.new (w := w) (B := w.heap.size) 3 [] (Nat.le_refl _) (Nat.zero_le _)
  have hb : Below w.heap.size w (w.alloc (.cells #[] 3)) := (Below.refl _ _).alloc (Nat.le_refl _) _
  have H := Lib.hid (And.intro hem (And.intro hb (hA.below hb)))
  clear hem hb
  go_enter Tryz.func115, Tryz.ntmps115
  go_wp2_with (at_builtin; refine appA rfl (.tmp 3) (.tmp 4) 26 3 rfl i3 (.int .i64 0) 8 Tryz.underlying26 I3.out.1 I3.out.2.1 I3.out.2.2.1 I3.out.2.2.2 rfl (by omega) w.heap.size (.slice (some ⟨w.heap.size, 0, none⟩) 0 0) [] (ints xs) rfl H.out.1 ad n c rfl (by rw [ints_len, Hn.out]) H.out.2.2.src (ints_one xs) (by simp; omega) H.out.2.1.size ?_; intro v' w' h2 h3; have H9 := Lib.hid (And.intro h2 h3); clear h2 h3)
  go_ret
  exact ⟨_, rfl, H9.out.1, H.out.2.1.grown H9.out.2 H.out.2.1.size (fun k hk => by cases hk; exact Nat.le_refl _)⟩
set_option maxRecDepth 100000 in
set_option maxHeartbeats 4000000 in
theorem least155 {n B g c i p : Nat} {w : World} {R : Nat → Nat} {t : Nat → Nat → Option (Pm n)} (hT : TabW n B g w R t) (hok : TabOk t) (hi : i < n) (hp : p < n) (hpo : p = i ∨ (t i p).isSome = true) :
    Calls Tryz.prog 155 #[.slice (some ⟨g, 0, none⟩) n c, .int .i64 (i : Int), .int .i64 (p : Int)] w fun e w' => ∃ v, e = .returned v ∧ Own w' w.heap.size v 3 (ints (repT (tabTw t) i p).l) ∧ Below w.heap.size w w' := by
  have hn := hT.hn
  have hn1 := hn.2
  have hw := tab_wf hok
  have hT1 := hT.mlt
  have tp := hT.top i hi
  obtain ⟨u, hu, _, hov⟩ := hT.at_ hi hp
  have H := Lib.hid (And.intro hT (And.intro hok (And.intro hw hT1)))
  obtain ⟨x0, hx0⟩ : ∃ x, ((tabTw t i).to p).getD (PlainPm.one n) = x := ⟨_, rfl⟩
  have hrep : repT (tabTw t) i p = leastT (tabTw t) (n - (i + 1)) (i + 1) x0 := by rw [← hx0]; rfl
  have HR := Lib.hid hrep
  clear hT hok hw hT1 hrep
  have hi1 : (i : Int) < n := by omega
  have hp1 : (p : Int) < n := by omega
  by_cases hpi : p = i
  · have hne : ((p : Int) != (i : Int)) = false := by simp [hpi]
    have hx1 : x0 = PlainPm.one n := by
      rw [← hx0, hpi]; show (if i = i then some (PlainPm.one n) else t i i).getD (PlainPm.one n) = PlainPm.one n; rw [if_pos rfl]; rfl
    have HX0 := Lib.hid hx1
    clear hx1 hx0 hpi hov hpo
    go_enter Tryz.func155, Tryz.ntmps155
    go_wp2_with (go_at_call 65; refine (one65 hn1 hn.1).mono ?_; rintro e w1 ⟨v1, rfl, k1, k2⟩; have H1 := Lib.hid (And.intro k1 k2); clear k1 k2)
    go_loopw [7, 8] (fun v i' wr => ∃ (k : Nat) (x' : Pm n), i + 1 ≤ k ∧ k ≤ n ∧ i' = .int .i64 (k : Int) ∧ PmV wr (rowsM n R) v x' ∧ Below w.heap.size w wr ∧ leastT (tabTw t) (n - (i + 1)) (i + 1) x0 = leastT (tabTw t) (n - k) k x') (fun _ i' _ => n - (intOf i').toNat)
    case atStart => exact ⟨i + 1, x0, by omega, hi, by go_num, by rw [HX0.out]; exact H1.out.1.pm H.out.2.2.2, H1.out.2, rfl⟩
    case round =>
      obtain ⟨k, x', hik, hk, rfl, hx', hb, hs⟩ := hrel
      obtain ⟨bx, ox, cx, rfl, hxm, hxl, hxc⟩ := id hx'
      by_cases hkn : k < n
      · have HP := Lib.hid (And.intro (H.out.1.below hb) (And.intro hx' (And.intro hb hs)))
        clear hx' hb hs hxc hxl hxm
        have hk1 : (k : Int) < n := by omega
        have HO := Lib.hid (orbit154 (c := c) HP.out.1 hkn)
        go_wp2_with (go_at_call 154; refine HO.out.mono ?_; rintro e w4 ⟨v4, rfl, k1, k2⟩; obtain ⟨oa, oc, rfl, hor⟩ := k1.row (by rw [ints_len, nts_len]; have := orbR_len t k n; unfold maxLen; omega); rw [ints_len, nts_len]; have H4 := Lib.hid (And.intro k2 (show Ints w4 oa (nts (orbR t k n)) from hor)); clear k1 k2 hor)
        obtain ⟨L, hL⟩ : ∃ L, (orbR t k n).length = L := ⟨_, rfl⟩
        have hol : L ≤ n := by rw [← hL]; exact orbR_len t k n
        have HL := Lib.hid hL
        rw [hL]
        clear hL
        have hT4 := HP.out.1.below H4.out.1
        have tp4 := hT4.top k hkn
        have HT4 := Lib.hid hT4
        have hx4 := HP.out.2.1.below H4.out.1
        obtain ⟨bx', ox', cx', he4, _, _, hxc⟩ := id hx4
        cases he4
        have HX4 := Lib.hid (And.intro hx4 hxc)
        clear hT4 hx4 hxc
        go_wp2_with fail
        go_loopw [10, 11] (fun b j wi => ∃ (bb jj q : Nat), jj ≤ L ∧ j = .int .i64 (jj : Int) ∧ b = .int .i64 (bb : Int) ∧ bb < n ∧ bb = best x' ((orbR t k n).take jj) k ∧ wi = w4.drewN q) (fun _ j _ => L - (intOf j).toNat)
        case atStart => exact ⟨k, 0, 0, by omega, rfl, rfl, hkn, by rw [List.take_zero]; rfl, rfl⟩
        case round =>
          obtain ⟨bb, jj, qq, hjj, rfl, rfl, hbn, hbb, rfl⟩ := hrel
          have HB := Lib.hid hbb
          clear hbb
          by_cases hjl : jj < L
          · obtain ⟨z, hz⟩ : ∃ z, (orbR t k n)[jj]? = some z := ⟨_, List.getElem?_eq_getElem (by rw [HL.out]; exact hjl)⟩
            have hzn : z < n := by
              have h1 := List.mem_of_getElem? hz
              unfold orbR at h1
              exact List.mem_range.1 (List.mem_filter.1 h1).1
            obtain ⟨ob, oo, hoa, _, oce⟩ := H4.out.2.at_ (k := jj) (by rw [nts_len, HL.out]; exact hjl)
            subst hoa
            rw [nts_get (by rw [HL.out]; exact hjl), hz, Option.getD_some] at oce
            have cp := HX4.out.2 z hzn
            have cb := HX4.out.2 bb hbn
            obtain ⟨r1, hr1⟩ : ∃ r, x'.at z = r := ⟨_, rfl⟩
            obtain ⟨r2, hr2⟩ : ∃ r, x'.at bb = r := ⟨_, rfl⟩
            rw [hr1] at cp
            rw [hr2] at cb
            have hst : best x' ((orbR t k n).take (jj + 1)) k = if r1 < r2 then z else bb := by
              rw [List.take_add_one, hz, Option.toList_some, best_snoc, ← HB.out, hr1, hr2]
            have HQ := Lib.hid hst
            clear hst hr1 hr2 hz
            have hz1 : (z : Int) < n := by omega
            have hb1 : (bb : Int) < n := by omega
            have hj1 : (jj : Int) < L := by omega
            by_cases hlt : r1 < r2
            · go_wp2_with fail
              go_quiet (fail)
              go_wp2_with fail
              exact ⟨⟨z, jj + 1, qq + nq, by omega, by go_num, rfl, hzn, by rw [HQ.out, if_pos hlt], rfl⟩, by simp [intOf]; omega⟩
            · go_wp2_with fail
              go_quiet (fail)
              go_wp2_with fail
              exact ⟨⟨bb, jj + 1, qq + nq, by omega, by go_num, rfl, hbn, by rw [HQ.out, if_neg hlt], rfl⟩, by simp [intOf]; omega⟩
          · have hjL : jj = L := by omega
            have hbe : bb = best x' (tabTw t k).orb k := by
              rw [HB.out, orb_eq H.out.2.1, List.take_of_length_le (by rw [HL.out]; omega)]
            have hls : leastT (tabTw t) (n - k) k x' = leastT (tabTw t) (n - (k + 1)) (k + 1) (if bb = k then x' else (((tabTw t k).to bb).getD (PlainPm.one n)).mul x') := by
              rw [hbe, show n - k = n - (k + 1) + 1 by omega]; rfl
            have hno : ((tabTw t k).to bb).isSome = true := by
              obtain ⟨y, h1, _⟩ := least_next H.out.2.2.1 hkn x'
              rw [hbe, h1]; rfl
            obtain ⟨y, hy⟩ := Option.isSome_iff_exists.1 hno
            rw [hy, Option.getD_some] at hls
            have HLs := Lib.hid hls
            clear hls hno hbe
            have hb4 : Below w.heap.size w w4 := below_trans HP.out.2.2.1 H4.out.1
            have Hb4 := Lib.hid hb4
            clear hb4
            by_cases hbk : bb = k
            · have hne : ((bb : Int) != (k : Int)) = false := by simp [hbk]
              have hbk' := Lib.hid hbk
              clear hbk
              go_wp2_with fail
              refine ⟨⟨k + 1, x', by omega, by omega, by go_num, HX4.out.1.drewN _, below_drewN Hb4.out _, ?_⟩, by simp [intOf]; omega⟩
              rw [HP.out.2.2.2, HLs.out, if_pos hbk'.out]
            · have hne : ((bb : Int) != (k : Int)) = true := by simp; omega
              obtain ⟨f, hct, _, hto⟩ := HT4.out.at_ hkn hbn
              have hy2 : t k bb = some y := by
                have : (tabTw t k).to bb = t k bb := if_neg hbk
                rw [← this]; exact hy
              rw [hy2] at hto
              have hto : PmV w4 (rowsM n R) f y := hto
              obtain ⟨fb, fo, fc, rfl⟩ := hto.form
              have HT := Lib.hid (And.intro hto hbk)
              clear hto hy hy2 hbk
              have hb1 : (bb : Int) < n := by omega
              go_wp2_with (go_at_call 49; refine (mul49 hn1 hn.1 (HT.out.1.weak.drewN qq) (HX4.out.1.weak.drewN qq)).mono ?_; rintro e w5 ⟨v5, rfl, k4, k5⟩; have HM := Lib.hid (And.intro k4 k5); clear k4 k5)
              refine ⟨⟨k + 1, y.mul x', by omega, by omega, by go_num, ?_, ?_, ?_⟩, by simp [intOf]; omega⟩
              · exact HM.out.1.pm fun m hm => HT4.out.mlt m hm
              · exact below_trans (below_drewN Hb4.out qq) HM.out.2
              · rw [HP.out.2.2.2, HLs.out, if_neg HT.out.2]
      · obtain rfl : k = n := by omega
        have HP := Lib.hid (And.intro hx' (And.intro hb hs))
        clear hx' hb hs hxc hxl hxm
        obtain ⟨xa, xc2, hxe, hxi⟩ := HP.out.1.ints (by omega)
        have hlx := x'.ok.1
        rw [hlx] at hxe
        cases hxe
        have HO := Lib.hid (own115 (c := cx) hxi hlx hn1)
        clear hxi
        go_wp2_with (go_at_call 115; refine HO.out.mono ?_; rintro e w6 ⟨v6, rfl, k1, k2⟩; have H6 := Lib.hid (And.intro k1 k2); clear k1 k2)
        go_ret
        rw [HR.out, HP.out.2.2, Nat.sub_self]
        exact ⟨_, rfl, H6.out.1.mono HP.out.2.1.size, below_trans HP.out.2.1 H6.out.2⟩
  · have hne : ((p : Int) != (i : Int)) = true := by simp; omega
    obtain ⟨y, hy⟩ := Option.isSome_iff_exists.1 (hpo.resolve_left hpi)
    rw [hy] at hov
    have hov : PmV w (rowsM n R) u y := hov
    obtain ⟨ub, uo, uc, rfl⟩ := hov.form
    have hx1 : x0 = y := by
      rw [← hx0]; show (if p = i then some (PlainPm.one n) else t i p).getD (PlainPm.one n) = y; rw [if_neg hpi, hy]; rfl
    have HX0 := Lib.hid (And.intro hx1 hov)
    clear hx1 hx0 hpi hov hpo hy
    go_enter Tryz.func155, Tryz.ntmps155
    go_wp2_with (go_at_call 65; refine (one65 hn1 hn.1).mono ?_; rintro e w1 ⟨v1, rfl, k1, k2⟩; have H1 := Lib.hid (And.intro k1 k2); have tp1 := (H.out.1.below k2).top i hi; have hu1 := (k2.cell (block_lt_of_cell hu)).trans hu; clear k1 k2)
    go_loopw [7, 8] (fun v i' wr => ∃ (k : Nat) (x' : Pm n), i + 1 ≤ k ∧ k ≤ n ∧ i' = .int .i64 (k : Int) ∧ PmV wr (rowsM n R) v x' ∧ Below w.heap.size w wr ∧ leastT (tabTw t) (n - (i + 1)) (i + 1) x0 = leastT (tabTw t) (n - k) k x') (fun _ i' _ => n - (intOf i').toNat)
    case atStart => exact ⟨i + 1, x0, by omega, hi, by go_num, by rw [HX0.out.1]; exact HX0.out.2.below H1.out.2, H1.out.2, rfl⟩
    case round =>
      obtain ⟨k, x', hik, hk, rfl, hx', hb, hs⟩ := hrel
      obtain ⟨bx, ox, cx, rfl, hxm, hxl, hxc⟩ := id hx'
      by_cases hkn : k < n
      · have HP := Lib.hid (And.intro (H.out.1.below hb) (And.intro hx' (And.intro hb hs)))
        clear hx' hb hs hxc hxl hxm
        have hk1 : (k : Int) < n := by omega
        have HO := Lib.hid (orbit154 (c := c) HP.out.1 hkn)
        go_wp2_with (go_at_call 154; refine HO.out.mono ?_; rintro e w4 ⟨v4, rfl, k1, k2⟩; obtain ⟨oa, oc, rfl, hor⟩ := k1.row (by rw [ints_len, nts_len]; have := orbR_len t k n; unfold maxLen; omega); rw [ints_len, nts_len]; have H4 := Lib.hid (And.intro k2 (show Ints w4 oa (nts (orbR t k n)) from hor)); clear k1 k2 hor)
        obtain ⟨L, hL⟩ : ∃ L, (orbR t k n).length = L := ⟨_, rfl⟩
        have hol : L ≤ n := by rw [← hL]; exact orbR_len t k n
        have HL := Lib.hid hL
        rw [hL]
        clear hL
        have hT4 := HP.out.1.below H4.out.1
        have tp4 := hT4.top k hkn
        have HT4 := Lib.hid hT4
        have hx4 := HP.out.2.1.below H4.out.1
        obtain ⟨bx', ox', cx', he4, _, _, hxc⟩ := id hx4
        cases he4
        have HX4 := Lib.hid (And.intro hx4 hxc)
        clear hT4 hx4 hxc
        go_wp2_with fail
        go_loopw [10, 11] (fun b j wi => ∃ (bb jj q : Nat), jj ≤ L ∧ j = .int .i64 (jj : Int) ∧ b = .int .i64 (bb : Int) ∧ bb < n ∧ bb = best x' ((orbR t k n).take jj) k ∧ wi = w4.drewN q) (fun _ j _ => L - (intOf j).toNat)
        case atStart => exact ⟨k, 0, 0, by omega, rfl, rfl, hkn, by rw [List.take_zero]; rfl, rfl⟩
        case round =>
          obtain ⟨bb, jj, qq, hjj, rfl, rfl, hbn, hbb, rfl⟩ := hrel
          have HB := Lib.hid hbb
          clear hbb
          by_cases hjl : jj < L
          · obtain ⟨z, hz⟩ : ∃ z, (orbR t k n)[jj]? = some z := ⟨_, List.getElem?_eq_getElem (by rw [HL.out]; exact hjl)⟩
            have hzn : z < n := by
              have h1 := List.mem_of_getElem? hz
              unfold orbR at h1
              exact List.mem_range.1 (List.mem_filter.1 h1).1
            obtain ⟨ob, oo, hoa, _, oce⟩ := H4.out.2.at_ (k := jj) (by rw [nts_len, HL.out]; exact hjl)
            subst hoa
            rw [nts_get (by rw [HL.out]; exact hjl), hz, Option.getD_some] at oce
            have cp := HX4.out.2 z hzn
            have cb := HX4.out.2 bb hbn
            obtain ⟨r1, hr1⟩ : ∃ r, x'.at z = r := ⟨_, rfl⟩
            obtain ⟨r2, hr2⟩ : ∃ r, x'.at bb = r := ⟨_, rfl⟩
            rw [hr1] at cp
            rw [hr2] at cb
            have hst : best x' ((orbR t k n).take (jj + 1)) k = if r1 < r2 then z else bb := by
              rw [List.take_add_one, hz, Option.toList_some, best_snoc, ← HB.out, hr1, hr2]
            have HQ := Lib.hid hst
            clear hst hr1 hr2 hz
            have hz1 : (z : Int) < n := by omega
            have hb1 : (bb : Int) < n := by omega
            have hj1 : (jj : Int) < L := by omega
            by_cases hlt : r1 < r2
            · go_wp2_with fail
              go_quiet (fail)
              go_wp2_with fail
              exact ⟨⟨z, jj + 1, qq + nq, by omega, by go_num, rfl, hzn, by rw [HQ.out, if_pos hlt], rfl⟩, by simp [intOf]; omega⟩
            · go_wp2_with fail
              go_quiet (fail)
              go_wp2_with fail
              exact ⟨⟨bb, jj + 1, qq + nq, by omega, by go_num, rfl, hbn, by rw [HQ.out, if_neg hlt], rfl⟩, by simp [intOf]; omega⟩
          · have hjL : jj = L := by omega
            have hbe : bb = best x' (tabTw t k).orb k := by
              rw [HB.out, orb_eq H.out.2.1, List.take_of_length_le (by rw [HL.out]; omega)]
            have hls : leastT (tabTw t) (n - k) k x' = leastT (tabTw t) (n - (k + 1)) (k + 1) (if bb = k then x' else (((tabTw t k).to bb).getD (PlainPm.one n)).mul x') := by
              rw [hbe, show n - k = n - (k + 1) + 1 by omega]; rfl
            have hno : ((tabTw t k).to bb).isSome = true := by
              obtain ⟨y, h1, _⟩ := least_next H.out.2.2.1 hkn x'
              rw [hbe, h1]; rfl
            obtain ⟨y, hy⟩ := Option.isSome_iff_exists.1 hno
            rw [hy, Option.getD_some] at hls
            have HLs := Lib.hid hls
            clear hls hno hbe
            have hb4 : Below w.heap.size w w4 := below_trans HP.out.2.2.1 H4.out.1
            have Hb4 := Lib.hid hb4
            clear hb4
            by_cases hbk : bb = k
            · have hne : ((bb : Int) != (k : Int)) = false := by simp [hbk]
              have hbk' := Lib.hid hbk
              clear hbk
              go_wp2_with fail
              refine ⟨⟨k + 1, x', by omega, by omega, by go_num, HX4.out.1.drewN _, below_drewN Hb4.out _, ?_⟩, by simp [intOf]; omega⟩
              rw [HP.out.2.2.2, HLs.out, if_pos hbk'.out]
            · have hne : ((bb : Int) != (k : Int)) = true := by simp; omega
              obtain ⟨f, hct, _, hto⟩ := HT4.out.at_ hkn hbn
              have hy2 : t k bb = some y := by
                have : (tabTw t k).to bb = t k bb := if_neg hbk
                rw [← this]; exact hy
              rw [hy2] at hto
              have hto : PmV w4 (rowsM n R) f y := hto
              obtain ⟨fb, fo, fc, rfl⟩ := hto.form
              have HT := Lib.hid (And.intro hto hbk)
              clear hto hy hy2 hbk
              have hb1 : (bb : Int) < n := by omega
              go_wp2_with (go_at_call 49; refine (mul49 hn1 hn.1 (HT.out.1.weak.drewN qq) (HX4.out.1.weak.drewN qq)).mono ?_; rintro e w5 ⟨v5, rfl, k4, k5⟩; have HM := Lib.hid (And.intro k4 k5); clear k4 k5)
              refine ⟨⟨k + 1, y.mul x', by omega, by omega, by go_num, ?_, ?_, ?_⟩, by simp [intOf]; omega⟩
              · exact HM.out.1.pm fun m hm => HT4.out.mlt m hm
              · exact below_trans (below_drewN Hb4.out qq) HM.out.2
              · rw [HP.out.2.2.2, HLs.out, if_neg HT.out.2]
      · obtain rfl : k = n := by omega
        have HP := Lib.hid (And.intro hx' (And.intro hb hs))
        clear hx' hb hs hxc hxl hxm
        obtain ⟨xa, xc2, hxe, hxi⟩ := HP.out.1.ints (by omega)
        have hlx := x'.ok.1
        rw [hlx] at hxe
        cases hxe
        have HO := Lib.hid (own115 (c := cx) hxi hlx hn1)
        clear hxi
        go_wp2_with (go_at_call 115; refine HO.out.mono ?_; rintro e w6 ⟨v6, rfl, k1, k2⟩; have H6 := Lib.hid (And.intro k1 k2); clear k1 k2)
        go_ret
        rw [HR.out, HP.out.2.2, Nat.sub_self]
        exact ⟨_, rfl, H6.out.1.mono HP.out.2.1.size, below_trans HP.out.2.1 H6.out.2⟩
end Go.Proofs.YtbejhkojdiadaaaGreat
