/- The kit's SameChain. -/
import Derived.Test.YtbejhkojdiadaaaGreatCheckW
set_option linter.unusedSimpArgs false
set_option linter.unusedVariables false
namespace Go.Proofs.YtbejhkojdiadaaaGreat
open Go.RowKit PlainPm
set_option maxRecDepth 100000 in
set_option maxHeartbeats 2000000 in
theorem same31 {w : World} {v v' : Value} {d d' : Int} {os os' : List (List Int)} {rs rs' : List (List (List Int))} (h : ChV w v d os rs) (h' : ChV w v' d' os' rs') :
    Calls Tryz.prog 31 #[v, v'] w fun e w' => e = .returned (.bool (decide (d = d' ∧ os = os' ∧ rs = rs'))) ∧ Below w.heap.size w w' := by
  obtain ⟨a, c, b, e, rfl, h1, h2⟩ := h
  obtain ⟨a', c', b', e', rfl, h1', h2'⟩ := h'
  obtain ⟨W, hW⟩ : ∃ W, (w.alloc (.cells #[.int .i64 d, .slice a os.length c, .slice b rs.length e] 25)).alloc (.cells #[.int .i64 d', .slice a' os'.length c', .slice b' rs'.length e'] 25) = W := ⟨_, rfl⟩
  have hb : Below w.heap.size w W := by rw [← hW]; exact alloc_b (alloc_b (Below.refl _ _) _) _
  have HO := Lib.hid (fun q => same89 a a' c c' os os' (W.drewN q) (h1.below (below_drewN hb q)) (h1'.below (below_drewN hb q)))
  have hb' : ∀ q, Below w.heap.size w (W.drewN q) := fun q => below_drewN hb q
  have HB := Lib.hid hb'
  obtain ⟨l1, hl1⟩ : ∃ l, os.length = l := ⟨_, rfl⟩
  obtain ⟨l2, hl2⟩ : ∃ l, rs.length = l := ⟨_, rfl⟩
  obtain ⟨l1', hl1'⟩ : ∃ l, os'.length = l := ⟨_, rfl⟩
  obtain ⟨l2', hl2'⟩ : ∃ l, rs'.length = l := ⟨_, rfl⟩
  rw [hl1, hl2, hl1', hl2'] at hW
  rw [hl1, hl1'] at HO
  rw [hl1, hl2, hl1', hl2']
  obtain ⟨B2, hB2⟩ : ∃ B, decide (os = os') = B := ⟨_, rfl⟩
  obtain ⟨B3, hB3⟩ : ∃ B, decide (rs = rs') = B := ⟨_, rfl⟩
  obtain ⟨R, hR⟩ : ∃ R, decide (d = d' ∧ os = os' ∧ rs = rs') = R := ⟨_, rfl⟩
  rw [hB2] at HO
  have hres : R = (decide (d = d') && B2 && B3) := by rw [← hR, ← hB2, ← hB3]; simp [Bool.decide_and, Bool.and_assoc]
  rw [hR, hres]
  have e0 : W.heap[w.heap.size]? = some (.cells #[.int .i64 d, .slice a l1 c, .slice b l2 e] 25) := by
    rw [← hW, Below.heap_alloc _ _ _ (by rw [heap_new0]; omega)]; exact heap_new _ _
  have e1 : W.heap[w.heap.size + 1]? = some (.cells #[.int .i64 d', .slice a' l1' c', .slice b' l2' e'] 25) := by
    rw [← hW, ← heap_new0 w (.cells #[.int .i64 d, .slice a l1 c, .slice b l2 e] 25)]; exact heap_new _ _
  obtain ⟨x0, x1, x2, _, _, _⟩ := box_cells e0
  obtain ⟨x3, x4, x5, _, _, _⟩ := box_cells e1
  clear e0 e1
  have hmx : l2 ≤ 9223372036854775807 := by
    obtain ⟨vs, r1, r2, _⟩ := h2
    have h3 := r1.1
    unfold maxLen at h3
    omega
  have H2 := Lib.hid (And.intro h2 (And.intro h2' (And.intro hl2 (And.intro hl2' (And.intro hB3 hb)))))
  clear h1 h2 h1' h2' hb hb' hl1 hl2 hl1' hl2' hB2 hB3 hR hres
  by_cases hd : d = d'
  · subst hd
    have hdd : (d != d) = false := by simp
    cases B2 with
    | false =>
      go_enter Tryz.func31, Tryz.ntmps31
      go_wp2_with (go_at_call 89; refine (HO.out 0).mono ?_; rintro e1 w1 ⟨rfl, q1, rfl⟩)
      go_ret
      exact ⟨by simp, HB.out _⟩
    | true =>
      by_cases hll : l2 = l2'
      · subst hll
        have hlb : ((l2 : Int) != (l2 : Int)) = false := by simp
        go_enter Tryz.func31, Tryz.ntmps31
        go_wp2_with (go_at_call 89; refine (HO.out 0).mono ?_; rintro e1 w1 ⟨rfl, q1, rfl⟩)
        go_loopw [5] (fun i wr => ∃ (k q : Nat), k ≤ l2 ∧ i = .int .i64 (k : Int) ∧ wr = W.drewN q ∧ rs.take k = rs'.take k) (fun i _ => l2 - (intOf i).toNat)
        case atStart => exact ⟨0, _, by omega, rfl, rfl, by simp⟩
        case round =>
          obtain ⟨k, q, hk, rfl, rfl, htk⟩ := hrel
          have HT := Lib.hid htk
          clear htk
          by_cases hkl : k < l2
          · obtain ⟨xs, hxs⟩ : ∃ x, rs[k]? = some x := ⟨_, List.getElem?_eq_getElem (by rw [H2.out.2.2.1]; exact hkl)⟩
            obtain ⟨ys, hys⟩ : ∃ x, rs'[k]? = some x := ⟨_, List.getElem?_eq_getElem (by rw [H2.out.2.2.2.1]; exact hkl)⟩
            obtain ⟨vs, r1, r2, r3⟩ := H2.out.1
            obtain ⟨vs', s1, s2, s3⟩ := H2.out.2.1
            obtain ⟨u, hu⟩ : ∃ x, vs[k]? = some x := ⟨_, List.getElem?_eq_getElem (by rw [r2, H2.out.2.2.1]; exact hkl)⟩
            obtain ⟨u', hu'⟩ : ∃ x, vs'[k]? = some x := ⟨_, List.getElem?_eq_getElem (by rw [s2, H2.out.2.2.2.1]; exact hkl)⟩
            obtain ⟨ba, ca, rfl, hra⟩ := r3 k u xs hu hxs
            obtain ⟨bb, cb, rfl, hrb⟩ := s3 k u' ys hu' hys
            obtain ⟨ab, ao, hae, _, hac⟩ := (r1.below H2.out.2.2.2.2.2).2 k _ hu
            obtain ⟨ab', ao', hae', _, hac'⟩ := (s1.below H2.out.2.2.2.2.2).2 k _ hu'
            subst hae
            subst hae'
            have hcall := fun q => same47 ba bb ca cb xs ys (W.drewN q) (hra.below (HB.out q)) (hrb.below (HB.out q))
            obtain ⟨r, hr⟩ : ∃ r, decide (xs = ys) = r := ⟨_, rfl⟩
            obtain ⟨lx, hlx⟩ : ∃ r, xs.length = r := ⟨_, rfl⟩
            obtain ⟨ly, hly⟩ : ∃ r, ys.length = r := ⟨_, rfl⟩
            rw [hlx] at hcall hac
            rw [hly] at hcall hac'
            rw [hr] at hcall
            have HC := Lib.hid hcall
            have HV := Lib.hid (And.intro hxs (And.intro hys hr))
            have hk1 : (k : Int) < l2 := by omega
            clear hcall hxs hys hr hlx hly hra hrb hu hu' r1 r2 r3 s1 s2 s3
            cases r with
            | false =>
              go_wp2_with fail
              go_quiet ((go_at_call 47; exact quiet_add (HC.out _)))
              go_wp2_with fail
              go_ret
              have hne : B3 = false := by
                rw [← H2.out.2.2.2.2.1]
                refine decide_eq_false fun h => ?_
                have h1 := HV.out.1
                rw [h, HV.out.2.1] at h1
                exact of_decide_eq_false HV.out.2.2 (Option.some.inj h1).symm
              exact ⟨by rw [hne]; simp, by rw [World.drewN_drewN]; exact HB.out _⟩
            | true =>
              go_wp2_with fail
              go_quiet ((go_at_call 47; exact quiet_add (HC.out _)))
              go_wp2_with fail
              exact ⟨⟨k + 1, q + nq, by omega, by go_num, rfl, by rw [List.take_add_one, List.take_add_one, HT.out, HV.out.1, HV.out.2.1, of_decide_eq_true HV.out.2.2]⟩, by simp [intOf]; omega⟩
          · obtain rfl : k = l2 := by omega
            have hk1 : ¬ (k : Int) < k := by omega
            go_wp2_with fail
            go_ret
            have hne : B3 = true := by
              rw [← H2.out.2.2.2.2.1]
              refine decide_eq_true ?_
              have h1 := HT.out
              rw [List.take_of_length_le (by rw [H2.out.2.2.1]; omega), List.take_of_length_le (by rw [H2.out.2.2.2.1]; omega)] at h1
              exact h1
            exact ⟨by rw [hne]; simp, HB.out _⟩
      · have hlb : ((l2 : Int) != (l2' : Int)) = true := by simp; omega
        have hne : B3 = false := by
          rw [← H2.out.2.2.2.2.1]
          refine decide_eq_false fun h => hll ?_
          rw [← H2.out.2.2.1, ← H2.out.2.2.2.1, h]
        have HN := Lib.hid hne
        clear hne hll
        go_enter Tryz.func31, Tryz.ntmps31
        go_wp2_with (go_at_call 89; refine (HO.out 0).mono ?_; rintro e1 w1 ⟨rfl, q1, rfl⟩)
        go_ret
        exact ⟨by rw [HN.out]; simp, HB.out _⟩
  · have hdd : (d != d') = true := by simp [hd]
    have Hd := Lib.hid hd
    clear hd
    go_enter Tryz.func31, Tryz.ntmps31
    go_wp2_with fail
    go_ret
    exact ⟨by simp [Hd.out], HB.out 0⟩
end Go.Proofs.YtbejhkojdiadaaaGreat
