/- The law RankCalls walked: the two sides agree, whatever the chain, the list and the number. -/
import Derived.Test.YtbejhkojdiadaaaGreatVast
import Derived.Test.YtbejhkojdiadaaaGreatAwk
import Derived.Test.YtbejhkojdiadaaaGreatRankG
set_option linter.unusedSimpArgs false
set_option linter.unusedVariables false
namespace Go.Proofs.YtbejhkojdiadaaaGreat
open Go.RowKit PlainPm
set_option maxRecDepth 100000 in
set_option maxHeartbeats 4000000 in
theorem rankCallsW {w : World} {v : Value} {d : Int} {os : List (List Int)} {rs : List (List (List Int))} {a0 : Option Addr} {c0 : Nat} {p : List Int} (h : ChV w v d os rs) (hc : CapV w v) (hp : Ints w a0 p) (K : Int) :
    Calls Tryz.prog 3 #[v, .slice a0 p.length c0, .int .i64 K] w fun e w' => e = .returned (.bool true) ∧ Below w.heap.size w w' := by
  have hvst := fun (W : World) (hb : Below w.heap.size w W) => vast10 (h.below hb)
  have f12 := fun (hd : ¬ (8 < d ∧ d ≤ 64)) (W : World) (hb : Below w.heap.size w W) => size12 (h.below hb) (CapV.below h hc hb) hd
  have f13 := fun (hd : ¬ (8 < d ∧ d ≤ 64)) (W : World) (hb : Below w.heap.size w W) => size13 (h.below hb) (CapV.below h hc hb) hd
  have f14 := fun (hd : ¬ (8 < d ∧ d ≤ 64)) (W : World) (hb : Below w.heap.size w W) => rank14 (c0 := c0) (h.below hb) (CapV.below h hc hb) hd (hp.below hb)
  have f15 := fun (hd : ¬ (8 < d ∧ d ≤ 64)) (W : World) (hb : Below w.heap.size w W) => rank15 (c0 := c0) (h.below hb) (CapV.below h hc hb) hd (hp.below hb)
  have f16 := fun (hd : ¬ (8 < d ∧ d ≤ 64)) (W : World) (hb : Below w.heap.size w W) => unrank16 (K := K) (h.below hb) (CapV.below h hc hb) hd
  have f17 := fun (hd : ¬ (8 < d ∧ d ≤ 64)) (W : World) (hb : Below w.heap.size w W) => unrank17 (K := K) (h.below hb) (CapV.below h hc hb) hd
  have f18 := fun (hd : ¬ (8 < d ∧ d ≤ 64)) (W : World) (hb : Below w.heap.size w W) => least18 (c0 := c0) (h.below hb) (CapV.below h hc hb) hd (hp.below hb)
  have f19 := fun (hd : ¬ (8 < d ∧ d ≤ 64)) (W : World) (hb : Below w.heap.size w W) => least19 (c0 := c0) (h.below hb) (CapV.below h hc hb) hd (hp.below hb)
  obtain ⟨a, c, b, e, rfl, h1, h2⟩ := h
  obtain ⟨X, hX⟩ : ∃ X, w.heap.size = X := ⟨_, rfl⟩
  obtain ⟨lo, hlo⟩ : ∃ l, os.length = l := ⟨_, rfl⟩
  obtain ⟨lr, hlr⟩ : ∃ l, rs.length = l := ⟨_, rfl⟩
  obtain ⟨lp, hlp⟩ : ∃ l, p.length = l := ⟨_, rfl⟩
  obtain ⟨SN, hSN⟩ : ∃ l, sizeN d os rs = l := ⟨_, rfl⟩
  obtain ⟨CE, hCE⟩ : ∃ l, chkE d os rs = l := ⟨_, rfl⟩
  obtain ⟨RN, hRN⟩ : ∃ l, rankN d os rs p = l := ⟨_, rfl⟩
  obtain ⟨RE, hRE⟩ : ∃ l, rankE d os rs p = l := ⟨_, rfl⟩
  obtain ⟨UL, hUL⟩ : ∃ l, unrL d os rs K = l := ⟨_, rfl⟩
  obtain ⟨UE, hUE⟩ : ∃ l, unrE d os rs K = l := ⟨_, rfl⟩
  obtain ⟨LL, hLL⟩ : ∃ l, lstL d os rs p = l := ⟨_, rfl⟩
  obtain ⟨ME, hME⟩ : ∃ l, memE d os rs p = l := ⟨_, rfl⟩
  rw [hlo, hlr] at hvst
  rw [hlo, hlr, hSN, hCE] at f12 f13
  rw [hlo, hlr, hRN, hRE, hlp] at f14 f15
  rw [hlo, hlr, hUL, hUE] at f16 f17
  rw [hlo, hlr, hLL, hME, hlp] at f18 f19
  rw [hlo, hlr, hlp]
  obtain ⟨lu, hlu⟩ : ∃ l, UL.length = l := ⟨_, rfl⟩
  obtain ⟨ll, hll⟩ : ∃ l, LL.length = l := ⟨_, rfl⟩
  have s20 := fun (L : List Int) (a1 a2 : Option Addr) (c1 c2 : Nat) (W : World) (k1 : Ints W a1 L) (k2 : Ints W a2 L) => same20 a1 a2 c1 c2 L L W k1 k2
  simp only [decide_true] at s20
  have s20u := s20 UL
  have s20l := s20 LL
  rw [hlu] at f16 f17 s20u
  rw [hll] at f18 f19 s20l
  obtain ⟨W1, hW1⟩ : ∃ W1, w.alloc (.cells #[.int .i64 d, .slice a lo c, .slice b lr e] 25) = W1 := ⟨_, rfl⟩
  have hk1 : Below w.heap.size w W1 := hW1 ▸ alloc_b (Below.refl _ _) _
  have y1 : W1.heap[X]? = some (.cells #[.int .i64 d, .slice a lo c, .slice b lr e] 25) := hW1 ▸ box_alloc hX _ _ _
  have HV := Lib.hid hvst
  have HF := Lib.hid (And.intro f12 (And.intro f13 (And.intro f14 (And.intro f15 (And.intro f16 (And.intro f17 (And.intro f18 f19)))))))
  have HS := Lib.hid (And.intro s20u s20l)
  have HK1 := Lib.hid (And.intro hk1 y1)
  obtain ⟨d0, d1, d2, _, _, _⟩ := box_cells y1
  clear f12 f13 f14 f15 f16 f17 f18 f19 s20 s20u s20l hvst hk1 y1 h1 h2 hp hc hlo hlr hlp hSN hCE hRN hRE hUL hUE hLL hME hlu hll
  have g1 : (SN == SN) = true := by simp
  go_enter Tryz.func3, Tryz.ntmps3
  try rw [hX]
  go_wp2_with fail
  refine (HV.out _ HK1.out.1).mono ?_
  rintro e2 w2 ⟨⟨B, rfl, hB⟩, k2⟩
  have y2 := (k2.block X (Array.getElem?_eq_some_iff.1 HK1.out.2).1).trans HK1.out.2
  obtain ⟨m0, m1, m2, _, _, _⟩ := box_cells y2
  have HK2 := Lib.hid (And.intro (below_trans HK1.out.1 k2) y2)
  clear k2 y2 hW1
  cases B with
  | true =>
    clear hB
    go_wp2_with (go_at_call 11; refine awake11.mono ?_; rintro e3 w3 ⟨rfl, k3⟩; have HK3 := Lib.hid (below_trans HK2.out.1 k3); clear k3)
    go_ret
    have hb3 := HK3.out
    rw [hX] at hb3
    exact ⟨rfl, hb3⟩
  | false =>
    have hd := hB rfl
    have HD := Lib.hid hd
    clear hB hd
    by_cases h70 : 70 < lp
    · have g2 : decide ((70 : Int) < (lp : Int)) = true := by simp; omega
      have g3 : decide (70 < lp) = true := by simp [h70]
      clear h70
      go_wp2_with (go_at_call 11; refine awake11.mono ?_; rintro e3 w3 ⟨rfl, k3⟩; have HK3 := Lib.hid (below_trans HK2.out.1 k3); clear k3)
      go_ret
      have hb3 := HK3.out
      rw [hX] at hb3
      exact ⟨rfl, hb3⟩
    · have g2 : decide ((70 : Int) < (lp : Int)) = false := by simp; omega
      have g3 : decide (70 < lp) = false := by simp [h70]
      clear h70
      go_wp2_with (first
        | (go_at_call 11; refine awake11.mono ?_; rintro e13 w13 ⟨rfl, k⟩; have HK13 := Lib.hid (below_trans HK12.out k); clear k)
        | (go_at_call 20; refine HS3.out.mono ?_; rintro e12 w12 ⟨rfl, q2, rfl⟩; have HK12 := Lib.hid (below_drewN HK10.out.1 (q1 + q2)))
        | (go_at_call 20; refine HS2.out.mono ?_; rintro e11 w11 ⟨rfl, q1, rfl⟩; have HS3 := Lib.hid (HS.out.2 a9 a10 c9 c10 (w10.drewN q1) (HI.out.1.drewN q1) (HI.out.2.drewN q1)); have HK11 := Lib.hid (below_drewN HK10.out.1 q1))
        | (go_at_call 19; refine (HF.out.2.2.2.2.2.2.2 HD.out _ HK9.out.1).mono ?_; rintro e10 w10 ⟨⟨a10, c10, rfl, hi10⟩, k⟩; have y := (k.block X (Array.getElem?_eq_some_iff.1 HK9.out.2).1).trans HK9.out.2; obtain ⟨n100, n101, n102, _, _, _⟩ := box_cells y; have HK10 := Lib.hid (And.intro (below_trans HK9.out.1 k) y); have HS2 := Lib.hid (HS.out.1 a7 a8 c7 c8 w10 (HU3.out.1.below k) (HU3.out.2.1.below k)); have HI := Lib.hid (And.intro (HU3.out.2.2.below k) hi10); clear hi10; clear k y)
        | (go_at_call 18; refine (HF.out.2.2.2.2.2.2.1 HD.out _ HK8.out.1).mono ?_; rintro e9 w9 ⟨⟨a9, c9, rfl, hi9⟩, k⟩; have y := (k.block X (Array.getElem?_eq_some_iff.1 HK8.out.2).1).trans HK8.out.2; obtain ⟨n90, n91, n92, _, _, _⟩ := box_cells y; have HK9 := Lib.hid (And.intro (below_trans HK8.out.1 k) y); have HU3 := Lib.hid (And.intro (HU2.out.1.below k) (And.intro (HU2.out.2.below k) hi9)); clear hi9; clear k y)
        | (go_at_call 17; refine (HF.out.2.2.2.2.2.1 HD.out _ HK7.out.1).mono ?_; rintro e8 w8 ⟨⟨a8, c8, rfl, hi8⟩, k⟩; have y := (k.block X (Array.getElem?_eq_some_iff.1 HK7.out.2).1).trans HK7.out.2; obtain ⟨n80, n81, n82, _, _, _⟩ := box_cells y; have HK8 := Lib.hid (And.intro (below_trans HK7.out.1 k) y); have HS1 := Lib.hid (HS.out.1 a7 a8 c7 c8 w8 (HU.out.below k) hi8); have HU2 := Lib.hid (And.intro (HU.out.below k) hi8); clear hi8; clear k y)
        | (go_at_call 16; refine (HF.out.2.2.2.2.1 HD.out _ HK6.out.1).mono ?_; rintro e7 w7 ⟨⟨a7, c7, rfl, hi7⟩, k⟩; have y := (k.block X (Array.getElem?_eq_some_iff.1 HK6.out.2).1).trans HK6.out.2; obtain ⟨n70, n71, n72, _, _, _⟩ := box_cells y; have HK7 := Lib.hid (And.intro (below_trans HK6.out.1 k) y); have HU := Lib.hid hi7; clear hi7; clear k y)
        | (go_at_call 15; refine (HF.out.2.2.2.1 HD.out _ HK5.out.1).mono ?_; rintro e6 w6 ⟨rfl, k⟩; have y := (k.block X (Array.getElem?_eq_some_iff.1 HK5.out.2).1).trans HK5.out.2; obtain ⟨n60, n61, n62, _, _, _⟩ := box_cells y; have HK6 := Lib.hid (And.intro (below_trans HK5.out.1 k) y); clear k y)
        | (go_at_call 14; refine (HF.out.2.2.1 HD.out _ HK4.out.1).mono ?_; rintro e5 w5 ⟨rfl, k⟩; have y := (k.block X (Array.getElem?_eq_some_iff.1 HK4.out.2).1).trans HK4.out.2; obtain ⟨n50, n51, n52, _, _, _⟩ := box_cells y; have HK5 := Lib.hid (And.intro (below_trans HK4.out.1 k) y); clear k y)
        | (go_at_call 13; refine (HF.out.2.1 HD.out _ HK3.out.1).mono ?_; rintro e4 w4 ⟨rfl, k⟩; have y := (k.block X (Array.getElem?_eq_some_iff.1 HK3.out.2).1).trans HK3.out.2; obtain ⟨n40, n41, n42, _, _, _⟩ := box_cells y; have HK4 := Lib.hid (And.intro (below_trans HK3.out.1 k) y); clear k y)
        | (go_at_call 12; refine (HF.out.1 HD.out _ HK2.out.1).mono ?_; rintro e3 w3 ⟨rfl, k⟩; have y := (k.block X (Array.getElem?_eq_some_iff.1 HK2.out.2).1).trans HK2.out.2; obtain ⟨n30, n31, n32, _, _, _⟩ := box_cells y; have HK3 := Lib.hid (And.intro (below_trans HK2.out.1 k) y); clear k y))
      go_ret
      have hb3 := HK13.out
      rw [hX] at hb3
      exact ⟨rfl, hb3⟩
end Go.Proofs.YtbejhkojdiadaaaGreat
