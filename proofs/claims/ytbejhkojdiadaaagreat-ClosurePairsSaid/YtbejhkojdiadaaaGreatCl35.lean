/- The law ClosurePairs walked: both sides agree, whatever the chains. -/
import Derived.Test.YtbejhkojdiadaaaGreatCl01
import Derived.Test.YtbejhkojdiadaaaGreatCl02
import Derived.Test.YtbejhkojdiadaaaGreatCl03
import Derived.Test.YtbejhkojdiadaaaGreatCl04
import Derived.Test.YtbejhkojdiadaaaGreatCl05
import Derived.Test.YtbejhkojdiadaaaGreatCl06
import Derived.Test.YtbejhkojdiadaaaGreatCl07
import Derived.Test.YtbejhkojdiadaaaGreatCl08
import Derived.Test.YtbejhkojdiadaaaGreatCl09
import Derived.Test.YtbejhkojdiadaaaGreatCl10
import Derived.Test.YtbejhkojdiadaaaGreatCl11
import Derived.Test.YtbejhkojdiadaaaGreatCl12
import Derived.Test.YtbejhkojdiadaaaGreatCl13
import Derived.Test.YtbejhkojdiadaaaGreatCl14
import Derived.Test.YtbejhkojdiadaaaGreatCl15
import Derived.Test.YtbejhkojdiadaaaGreatCl16
import Derived.Test.YtbejhkojdiadaaaGreatCl17
import Derived.Test.YtbejhkojdiadaaaGreatCl18
import Derived.Test.YtbejhkojdiadaaaGreatCl19
import Derived.Test.YtbejhkojdiadaaaGreatCl20
import Derived.Test.YtbejhkojdiadaaaGreatCl21
import Derived.Test.YtbejhkojdiadaaaGreatCl22
import Derived.Test.YtbejhkojdiadaaaGreatCl23
import Derived.Test.YtbejhkojdiadaaaGreatCl24
import Derived.Test.YtbejhkojdiadaaaGreatCl25
import Derived.Test.YtbejhkojdiadaaaGreatCl26
import Derived.Test.YtbejhkojdiadaaaGreatCl27
import Derived.Test.YtbejhkojdiadaaaGreatCl28
import Derived.Test.YtbejhkojdiadaaaGreatCl30
import Derived.Test.YtbejhkojdiadaaaGreatProg
import Derived.WalkKit
import Derived.WalkSpells
import Derived.BigQuiet
import Derived.Deep.QuietTactic
import Derived.Deep.LoopGhost
import Derived.Lib.Hide
import Derived.Maps.AppendAt
import Derived.Deep.AppendLies
import Derived.StillTailTactics
import Derived.Laws.CopyOwn
import Derived.Deep.OwnRows
import Derived.Deep.DeepCutAuto
import Derived.Laws.Cover3
import Derived.Deep.RegionHeld3
import Derived.RangeFuncRecord
import Derived.Lib.SlicesSearch
import Derived.RangeFuncBox
import Derived.RangeFuncLeaves
import Derived.RangeFuncWrites
import Derived.RangeFuncFrom
import Derived.Shelf.Abstract
import Derived.OwnWalkIn
import Derived.TacticsInMore
import Derived.LoopNIn
import Derived.LoopIn
import Derived.Shelf.GgSortFunc.Insertion
import Derived.Shelf.SlIter.Collect
import Derived.Shelf.Sort.Plain
import Derived.Deep.RegionLaw
import Derived.ControlIn
import Derived.Deep.AppendSrc
import Derived.Laws.BytesArg
import Derived.Maps.OwnSet
import Derived.Carry
import Derived.Maps.Range
set_option linter.unusedSimpArgs false
set_option linter.unusedVariables false
namespace Go.Proofs.YtbejhkojdiadaaaGreat
open Go.RowKit PlainPm
set_option maxRecDepth 100000 in
set_option maxHeartbeats 8000000 in
theorem closurePairsW {w : World} {v1 v2 : Value} {d1 d2 : Int} {os1 os2 : List (List Int)} {rs1 rs2 : List (List (List Int))} (h1 : ChV w v1 d1 os1 rs1) (c1 : CapV w v1) (h2 : ChV w v2 d2 os2 rs2) (c2 : CapV w v2) :
    Calls Tryz.prog 4 #[v1, v2] w fun e w' => e = .returned (.bool true) ∧ Below w.heap.size w w' := by
  have hv1 := fun (V : World) (hV : Below w.heap.size w V) => vast21 (h1.below hV)
  have hv2 := fun (V : World) (hV : Below w.heap.size w V) => vast21 (h2.below hV)
  have f1 := join_two h1 c1 h2 c2
  have f2 := norm_two h1 c1 h2 c2
  have f3 := comm_two h1 c1 h2 c2
  have f4 := core_two h1 c1 h2 c2
  obtain ⟨a1, cc1, b1, e1, rfl, _⟩ := h1
  obtain ⟨a2, cc2, b2, e2, rfl, _⟩ := h2
  obtain ⟨lo1, hlo1⟩ : ∃ l, os1.length = l := ⟨_, rfl⟩
  obtain ⟨lr1, hlr1⟩ : ∃ l, rs1.length = l := ⟨_, rfl⟩
  obtain ⟨lo2, hlo2⟩ : ∃ l, os2.length = l := ⟨_, rfl⟩
  obtain ⟨lr2, hlr2⟩ : ∃ l, rs2.length = l := ⟨_, rfl⟩
  rw [hlo1, hlr1] at hv1 f1 f2 f3 f4 ⊢
  rw [hlo2, hlr2] at hv2 f1 f2 f3 f4 ⊢
  obtain ⟨X, hX⟩ : ∃ X, w.heap.size = X := ⟨_, rfl⟩
  obtain ⟨W1, hW1⟩ : ∃ W1, (w.alloc (.cells #[.int .i64 d1, .slice a1 lo1 cc1, .slice b1 lr1 e1] 25)).alloc (.cells #[.int .i64 d2, .slice a2 lo2 cc2, .slice b2 lr2 e2] 25) = W1 := ⟨_, rfl⟩
  have hwW : Below w.heap.size w W1 := hW1 ▸ alloc_b (alloc_b (Below.refl _ _) _) _
  have k0 : W1.heap[X]? = some (.cells #[.int .i64 d1, .slice a1 lo1 cc1, .slice b1 lr1 e1] 25) := by
    rw [← hW1]
    exact ((alloc_b (Below.refl _ _) _).block X (by simp; omega)).trans (box_al25 hX _ _ _)
  have k1 : W1.heap[X + 1]? = some (.cells #[.int .i64 d2, .slice a2 lo2 cc2, .slice b2 lr2 e2] 25) := by
    rw [← hW1]
    exact box_al25 (by simp [hX]) _ _ _
  obtain ⟨x0, x1, x2, _⟩ := box_cells k0
  obtain ⟨y0, y1, y2, _⟩ := box_cells k1
  have hx0 := And.intro x0 (And.intro x1 (And.intro x2 (And.intro y0 (And.intro y1 (And.intro y2 (Below.refl W1.heap.size W1))))))
  have HV := Lib.hid (And.intro hv1 hv2)
  have HT := Lib.hid (And.intro f1 (And.intro f2 (And.intro f3 f4)))
  have HB := Lib.hid (And.intro hwW hX)
  clear hv1 hv2 f1 f2 f3 f4 hwW k0 k1 c1 c2 hlo1 hlr1 hlo2 hlr2
  go_enter Tryz.func4, Tryz.ntmps4
  try simp only [hX]
  go_wp2_with fail
  refine (HV.out.1 _ HB.out.1).mono ?_
  rintro e2 w2 ⟨⟨B1, rfl, hB1⟩, k2⟩
  obtain ⟨n0, n1, n2, n3, n4, n5, _⟩ := keep6n hx0 k2
  have HK2 := Lib.hid k2
  clear k2
  cases B1 with
  | true =>
    clear hB1
    go_wp2_with (go_at_call 22; (with_reducible refine awake22.mono ?_); rintro e3 w3 ⟨rfl, k3⟩; have HK3 := Lib.hid (below_trans HK2.out k3); clear k3)
    go_ret
    exact ⟨rfl, by have h := below_trans HB.out.1 HK3.out; rwa [HB.out.2] at h⟩
  | false =>
    have HD := Lib.hid (hB1 rfl)
    clear hB1
    go_wp2_with fail
    refine (HV.out.2 _ (below_trans HB.out.1 HK2.out)).mono ?_
    rintro e3 w3 ⟨⟨B2, rfl, hB2⟩, k3⟩
    have k13 := below_trans HK2.out k3
    obtain ⟨o0, o1, o2, o3, o4, o5, _⟩ := keep6n hx0 k13
    have HK3 := Lib.hid k13
    clear k3 k13 hB2
    cases B2 with
    | true =>
      go_wp2_with (go_at_call 22; (with_reducible refine awake22.mono ?_); rintro e4 w4 ⟨rfl, k4⟩; have HK4 := Lib.hid (below_trans HK3.out k4); clear k4)
      go_ret
      exact ⟨rfl, by have h := below_trans HB.out.1 HK4.out; rwa [HB.out.2] at h⟩
    | false =>
      obtain ⟨K1, E1, q1, f23, f24⟩ := HT.out.1 HD.out
      obtain ⟨B0, E2, f25, f26⟩ := HT.out.2.1 HD.out
      obtain ⟨K3, E3, q3, f27, f28⟩ := HT.out.2.2.1 HD.out
      obtain ⟨K4, E4, q4, f29, f30⟩ := HT.out.2.2.2 HD.out
      have HF := Lib.hid (And.intro f23 (And.intro f24 (And.intro f25 (And.intro f26 (And.intro f27 (And.intro f28 (And.intro f29 f30)))))))
      have HQ := Lib.hid (And.intro q1 (And.intro q3 q4))
      have HX0 := Lib.hid (below_trans HB.out.1 HK3.out)
      have hx3 : _ := And.intro o0 (And.intro o1 (And.intro o2 (And.intro o3 (And.intro o4 (And.intro o5 (Below.refl w3.heap.size w3))))))
      clear hx0
      have hx0 := hx3
      clear hx3
      clear f23 f24 f25 f26 f27 f28 f29 f30 q1 q3 q4
      go_wp2_with (first
    | (go_at_call 22; (with_reducible refine awake22.mono ?_); rintro e9 z4 ⟨rfl, k⟩; have S4 := Lib.hid (below_trans S3.out k); clear k)
    | (go_at_call 31; (with_reducible refine (HQ.out.2.2.same (HQ.out.2.2.below (HQ.out.2.2.below H17.out.2.2.1 H18.out.2.2.2) S2.out) (HQ.out.2.2.below H18.out.2.2.1 S2.out)).mono ?_)
       rintro e9 z3 ⟨rfl, k⟩
       have bs : Below V18.heap.size V18 z3 := below_trans S2.out k
       have S3 := Lib.hid bs
       clear bs k)
    | (go_at_call 31; (with_reducible refine (HQ.out.2.1.same (HQ.out.2.1.below (HQ.out.2.1.below H15.out.2.2.1 (below_trans (below_trans H16.out.2.2.2 H17.out.2.2.2) H18.out.2.2.2)) S1.out) (HQ.out.2.1.below (HQ.out.2.1.below H16.out.2.2.1 (below_trans H17.out.2.2.2 H18.out.2.2.2)) S1.out)).mono ?_)
       rintro e9 z2 ⟨rfl, k⟩
       have bs : Below V18.heap.size V18 z2 := below_trans S1.out k
       have zz := ((H18.out.2.2.2).block Y17 (Array.getElem?_eq_some_iff.1 H17.out.2.1).1).trans H17.out.2.1
       have zz := (bs.block Y17 (Array.getElem?_eq_some_iff.1 zz).1).trans zz
       obtain ⟨p2170, p2171, p2172, _⟩ := box_cells zz
       clear zz
       have zz := H18.out.2.1
       have zz := (bs.block Y18 (Array.getElem?_eq_some_iff.1 zz).1).trans zz
       obtain ⟨p2180, p2181, p2182, _⟩ := box_cells zz
       clear zz
       have S2 := Lib.hid bs
       clear bs k)
    | (go_at_call 31; (with_reducible refine (HQ.out.1.same (HQ.out.1.below H11.out.2.2.1 (below_trans (below_trans (below_trans (below_trans (below_trans (below_trans H12.out.2.2.2 H13.out.2.2.2) H14.out.2.2.2) H15.out.2.2.2) H16.out.2.2.2) H17.out.2.2.2) H18.out.2.2.2)) (HQ.out.1.below H12.out.2.2.1 (below_trans (below_trans (below_trans (below_trans (below_trans H13.out.2.2.2 H14.out.2.2.2) H15.out.2.2.2) H16.out.2.2.2) H17.out.2.2.2) H18.out.2.2.2))).mono ?_)
       rintro e9 z1 ⟨rfl, k⟩
       have bs : Below V18.heap.size V18 z1 := k
       have zz := (((below_trans (below_trans H16.out.2.2.2 H17.out.2.2.2) H18.out.2.2.2)).block Y15 (Array.getElem?_eq_some_iff.1 H15.out.2.1).1).trans H15.out.2.1
       have zz := (bs.block Y15 (Array.getElem?_eq_some_iff.1 zz).1).trans zz
       obtain ⟨p1150, p1151, p1152, _⟩ := box_cells zz
       clear zz
       have zz := (((below_trans H17.out.2.2.2 H18.out.2.2.2)).block Y16 (Array.getElem?_eq_some_iff.1 H16.out.2.1).1).trans H16.out.2.1
       have zz := (bs.block Y16 (Array.getElem?_eq_some_iff.1 zz).1).trans zz
       obtain ⟨p1160, p1161, p1162, _⟩ := box_cells zz
       clear zz
       have zz := ((H18.out.2.2.2).block Y17 (Array.getElem?_eq_some_iff.1 H17.out.2.1).1).trans H17.out.2.1
       have zz := (bs.block Y17 (Array.getElem?_eq_some_iff.1 zz).1).trans zz
       obtain ⟨p1170, p1171, p1172, _⟩ := box_cells zz
       clear zz
       have zz := H18.out.2.1
       have zz := (bs.block Y18 (Array.getElem?_eq_some_iff.1 zz).1).trans zz
       obtain ⟨p1180, p1181, p1182, _⟩ := box_cells zz
       clear zz
       have S1 := Lib.hid bs
       clear bs k)
    | (go_at_call 30; (with_reducible refine (HF.out.2.2.2.2.2.2.2 _ (below_trans HX0.out H17.out.1)).mono ?_)
       rintro e18 w18 ⟨v18, rfl, kK, k⟩
       obtain ⟨g18, a18, l18, c18, b18, r18, d18, rfl⟩ := HQ.out.2.2.form kK
       obtain ⟨Y18, U18, V18, hY18, hU18, s0, s1, s2, s3, s4, s5, hV18, bw, z⟩ := stB (w := w18) (.int .i64 g18) (.slice a18 l18 c18) (.slice b18 r18 d18)
       have st : Below V17.heap.size V17 V18 := below_trans k bw
       have bt : Below w3.heap.size w3 V18 := below_trans (H17.out.1) st
       obtain ⟨m180, m181, m182, m183, m184, m185, _⟩ := keep6n hx0 bt
       have H18 := Lib.hid (And.intro bt (And.intro z (And.intro (HQ.out.2.2.below kK bw) st)))
       have zz := (((below_trans (below_trans (below_trans (below_trans (below_trans (below_trans H12.out.2.2.2 H13.out.2.2.2) H14.out.2.2.2) H15.out.2.2.2) H16.out.2.2.2) H17.out.2.2.2) st)).block Y11 (Array.getElem?_eq_some_iff.1 H11.out.2.1).1).trans H11.out.2.1
       obtain ⟨t110, t111, t112, _⟩ := box_cells zz
       clear zz
       have zz := (((below_trans (below_trans (below_trans (below_trans (below_trans H13.out.2.2.2 H14.out.2.2.2) H15.out.2.2.2) H16.out.2.2.2) H17.out.2.2.2) st)).block Y12 (Array.getElem?_eq_some_iff.1 H12.out.2.1).1).trans H12.out.2.1
       obtain ⟨t120, t121, t122, _⟩ := box_cells zz
       clear zz
       have zz := (((below_trans (below_trans H16.out.2.2.2 H17.out.2.2.2) st)).block Y15 (Array.getElem?_eq_some_iff.1 H15.out.2.1).1).trans H15.out.2.1
       obtain ⟨t150, t151, t152, _⟩ := box_cells zz
       clear zz
       have zz := (((below_trans H17.out.2.2.2 st)).block Y16 (Array.getElem?_eq_some_iff.1 H16.out.2.1).1).trans H16.out.2.1
       obtain ⟨t160, t161, t162, _⟩ := box_cells zz
       clear zz
       have zz := ((st).block Y17 (Array.getElem?_eq_some_iff.1 H17.out.2.1).1).trans H17.out.2.1
       obtain ⟨t170, t171, t172, _⟩ := box_cells zz
       clear zz
       obtain ⟨t180, t181, t182, _⟩ := box_cells z
       unfold set3 at hV18
       clear kK k bw z st bt)
    | (go_at_call 29; (with_reducible refine (HF.out.2.2.2.2.2.2.1 _ (below_trans HX0.out H16.out.1)).mono ?_)
       rintro e17 w17 ⟨v17, rfl, kK, k⟩
       obtain ⟨g17, a17, l17, c17, b17, r17, d17, rfl⟩ := HQ.out.2.2.form kK
       obtain ⟨Y17, U17, V17, hY17, hU17, s0, s1, s2, s3, s4, s5, hV17, bw, z⟩ := stB (w := w17) (.int .i64 g17) (.slice a17 l17 c17) (.slice b17 r17 d17)
       have st : Below V16.heap.size V16 V17 := below_trans k bw
       have bt : Below w3.heap.size w3 V17 := below_trans (H16.out.1) st
       obtain ⟨m170, m171, m172, m173, m174, m175, _⟩ := keep6n hx0 bt
       have H17 := Lib.hid (And.intro bt (And.intro z (And.intro (HQ.out.2.2.below kK bw) st)))
       unfold set3 at hV17
       clear kK k bw z st bt)
    | (go_at_call 28; (with_reducible refine (HF.out.2.2.2.2.2.1 _ (below_trans HX0.out H15.out.1)).mono ?_)
       rintro e16 w16 ⟨v16, rfl, kK, k⟩
       obtain ⟨g16, a16, l16, c16, b16, r16, d16, rfl⟩ := HQ.out.2.1.form kK
       obtain ⟨Y16, U16, V16, hY16, hU16, s0, s1, s2, s3, s4, s5, hV16, bw, z⟩ := stB (w := w16) (.int .i64 g16) (.slice a16 l16 c16) (.slice b16 r16 d16)
       have st : Below V15.heap.size V15 V16 := below_trans k bw
       have bt : Below w3.heap.size w3 V16 := below_trans (H15.out.1) st
       obtain ⟨m160, m161, m162, m163, m164, m165, _⟩ := keep6n hx0 bt
       have H16 := Lib.hid (And.intro bt (And.intro z (And.intro (HQ.out.2.1.below kK bw) st)))
       unfold set3 at hV16
       clear kK k bw z st bt)
    | (go_at_call 27; (with_reducible refine (HF.out.2.2.2.2.1 _ (below_trans HX0.out H14.out.1)).mono ?_)
       rintro e15 w15 ⟨v15, rfl, kK, k⟩
       obtain ⟨g15, a15, l15, c15, b15, r15, d15, rfl⟩ := HQ.out.2.1.form kK
       obtain ⟨Y15, U15, V15, hY15, hU15, s0, s1, s2, s3, s4, s5, hV15, bw, z⟩ := stB (w := w15) (.int .i64 g15) (.slice a15 l15 c15) (.slice b15 r15 d15)
       have st : Below w14.heap.size w14 V15 := below_trans k bw
       have bt : Below w3.heap.size w3 V15 := below_trans (H14.out.1) st
       obtain ⟨m150, m151, m152, m153, m154, m155, _⟩ := keep6n hx0 bt
       have H15 := Lib.hid (And.intro bt (And.intro z (And.intro (HQ.out.2.1.below kK bw) st)))
       unfold set3 at hV15
       clear kK k bw z st bt)
    | (go_at_call 26; (with_reducible refine (HF.out.2.2.2.1 _ (below_trans HX0.out H13.out.1)).mono ?_)
       rintro e14 w14 ⟨rfl, k⟩
       have bt : Below w3.heap.size w3 w14 := below_trans (H13.out.1) k
       obtain ⟨m140, m141, m142, m143, m144, m145, _⟩ := keep6n hx0 bt
       have st : Below w13.heap.size w13 w14 := k
       have H14 := Lib.hid (And.intro bt (And.intro (True.intro) (And.intro (True.intro) st)))
       clear k bt st)
    | (go_at_call 25; (with_reducible refine (HF.out.2.2.1 _ (below_trans HX0.out H12.out.1)).mono ?_)
       rintro e13 w13 ⟨rfl, k⟩
       have bt : Below w3.heap.size w3 w13 := below_trans (H12.out.1) k
       obtain ⟨m130, m131, m132, m133, m134, m135, _⟩ := keep6n hx0 bt
       have st : Below V12.heap.size V12 w13 := k
       have H13 := Lib.hid (And.intro bt (And.intro (True.intro) (And.intro (True.intro) st)))
       clear k bt st)
    | (go_at_call 24; (with_reducible refine (HF.out.2.1 _ (below_trans HX0.out H11.out.1)).mono ?_)
       rintro e12 w12 ⟨v12, rfl, kK, k⟩
       obtain ⟨g12, a12, l12, c12, b12, r12, d12, rfl⟩ := HQ.out.1.form kK
       obtain ⟨Y12, U12, V12, hY12, hU12, s0, s1, s2, s3, s4, s5, hV12, bw, z⟩ := stB (w := w12) (.int .i64 g12) (.slice a12 l12 c12) (.slice b12 r12 d12)
       have st : Below V11.heap.size V11 V12 := below_trans k bw
       have bt : Below w3.heap.size w3 V12 := below_trans (H11.out.1) st
       obtain ⟨m120, m121, m122, m123, m124, m125, _⟩ := keep6n hx0 bt
       have H12 := Lib.hid (And.intro bt (And.intro z (And.intro (HQ.out.1.below kK bw) st)))
       unfold set3 at hV12
       clear kK k bw z st bt)
    | (go_at_call 23; (with_reducible refine (HF.out.1 _ HX0.out).mono ?_)
       rintro e11 w11 ⟨v11, rfl, kK, k⟩
       obtain ⟨g11, a11, l11, c11, b11, r11, d11, rfl⟩ := HQ.out.1.form kK
       obtain ⟨Y11, U11, V11, hY11, hU11, s0, s1, s2, s3, s4, s5, hV11, bw, z⟩ := stB (w := w11) (.int .i64 g11) (.slice a11 l11 c11) (.slice b11 r11 d11)
       have st : Below w3.heap.size w3 V11 := below_trans k bw
       have bt : Below w3.heap.size w3 V11 := below_trans (Below.refl w3.heap.size w3) st
       obtain ⟨m110, m111, m112, m113, m114, m115, _⟩ := keep6n hx0 bt
       have H11 := Lib.hid (And.intro bt (And.intro z (And.intro (HQ.out.1.below kK bw) st)))
       unfold set3 at hV11
       clear kK k bw z st bt))
      go_ret
      refine ⟨rfl, ?_⟩
      have h := below_trans HX0.out (below_trans H18.out.1 S4.out)
      rwa [HB.out.2] at h
end Go.Proofs.YtbejhkojdiadaaaGreat
