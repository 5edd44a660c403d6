/- The law's awake: the chapter's examples. -/
import Derived.Test.YtbejhkojdiadaaaGreatGrps
import Derived.Test.YtbejhkojdiadaaaGreatRankF
set_option linter.unusedSimpArgs false
set_option linter.unusedVariables false
namespace Go.Proofs.YtbejhkojdiadaaaGreat
open Go.RowKit PlainPm
set_option maxRecDepth 100000 in
set_option maxHeartbeats 1000000 in
theorem ranks53 {w : World} {v : Value} {d : Int} {os : List (List Int)} {rs : List (List (List Int))} {a0 : Option Addr} {c0 : Nat} {p : List Int} {N : Int} (h : ChV w v d os rs) (hc : CapV w v) (hd : ¬ (8 < d ∧ d ≤ 64)) (hp : Ints w a0 p) (h1 : (rankN d os rs p : Int) = N) (h2 : rankE d os rs p = 0) :
    Calls Tryz.prog 53 #[v, .slice a0 p.length c0, .int .i64 N] w fun e w' => e = .returned (.bool true) ∧ Below w.heap.size w w' := by
  have hr := fun (W : World) (hb : Below w.heap.size w W) => rank14 (c0 := c0) (h.below hb) (CapV.below h hc hb) hd (hp.below hb)
  rw [h1, h2] at hr
  obtain ⟨a1, c1, b1, e1, rfl, k1, k2⟩ := h
  obtain ⟨lo, hlo⟩ : ∃ l, os.length = l := ⟨_, rfl⟩
  obtain ⟨lr, hlr⟩ : ∃ l, rs.length = l := ⟨_, rfl⟩
  obtain ⟨lp, hlp⟩ : ∃ l, p.length = l := ⟨_, rfl⟩
  rw [hlo, hlr, hlp] at hr
  rw [hlo, hlr, hlp]
  have H := Lib.hid hr
  clear hr k1 k2 hlo hlr hlp hc hd hp h1 h2
  have g1 : (N == N) = true := by simp
  go_enter Tryz.func53, Tryz.ntmps53
  go_wp2_with (go_at_call 14; refine (H.out _ (alloc_b (Below.refl _ _) _)).mono ?_; rintro e w2 ⟨rfl, k2⟩; have H2 := Lib.hid (below_trans (alloc_b (Below.refl _ _) _) k2); clear k2)
  go_ret
  exact ⟨by simp, H2.out⟩
theorem gr_size {w : World} {v : Value} {n : Nat} {L : List (Pm n)} {T : Tw n} (h : GrV w v L) (hT : Of (Grp (· ∈ L)) T) (h0 : 1 ≤ n) (h8 : n ≤ 8) {s : Nat} (hs : szF (orbO T) n 0 = s) :
    Calls Tryz.prog 12 #[v] w fun e w' => e = .returned (.tuple #[.int .i64 (s : Int), .int .i64 0]) ∧ Below w.heap.size w w' := by
  obtain ⟨h1, h2⟩ := h.chT hT
  have := size12 h1 h2 (by omega)
  rwa [size_of hT h0 (by omega), chk_of hT h0 (by omega), hs] at this
theorem gr_rank {w : World} {v : Value} {n : Nat} {L : List (Pm n)} {T : Tw n} (h : GrV w v L) (hT : Of (Grp (· ∈ L)) T) (h0 : 1 ≤ n) (h8 : n ≤ 8) {x : Pm n} {r c : Nat} {g : Nat} (hp : PmV w [] (.slice (some ⟨g, 0, none⟩) n c) x) (hr : rkF (orbO T) (PlainPm.repT T) x n 0 (PlainPm.one n) 0 = some r) :
    Calls Tryz.prog 53 #[v, .slice (some ⟨g, 0, none⟩) n c, .int .i64 (r : Int)] w fun e w' => e = .returned (.bool true) ∧ Below w.heap.size w w' := by
  obtain ⟨h1, h2⟩ := h.chT hT
  obtain ⟨r1, r2⟩ := rank_of hT h0 (by omega) x hr
  obtain ⟨a, c', he, hi⟩ := hp.ints (by omega)
  have hl := x.ok.1
  rw [hl] at he
  cases he
  have := ranks53 (c0 := c) h1 h2 (by omega) hi (by rw [r1]) r2
  rwa [hl] at this
theorem box_alloc {w : World} {X : Nat} (hX : w.heap.size = X) (u0 u1 u2 : Value) : (w.alloc (.cells #[u0, u1, u2] 25)).heap[X]? = some (.cells #[u0, u1, u2] 25) := by subst hX; exact World.alloc_heap_new w _
set_option maxRecDepth 100000 in
set_option maxHeartbeats 4000000 in
theorem awake11 {w : World} : Calls Tryz.prog 11 #[] w fun e w' => e = .returned (.bool true) ∧ Below w.heap.size w w' := by
  go_enter Tryz.func11, Tryz.ntmps11
  go_wp2_with (first
    | (go_at_call 53; refine HC5.out.mono ?_; rintro e1 w7 ⟨rfl, k1⟩; have hk6 : Below W2.heap.size W2 w7 := below_trans HK5.out (below_trans (alloc_b (Below.refl _ _) _) k1); have y0 := (hk6.block _ (Array.getElem?_eq_some_iff.1 HB.out.1).1).trans HB.out.1; have y1 := (hk6.block _ (Array.getElem?_eq_some_iff.1 HB.out.2.1).1).trans HB.out.2.1; have y2 := (hk6.block _ (Array.getElem?_eq_some_iff.1 HB.out.2.2).1).trans HB.out.2.2; obtain ⟨e600, e601, e602, _, _, _⟩ := box_cells y0; obtain ⟨e610, e611, e612, _, _, _⟩ := box_cells y1; obtain ⟨e620, e621, e622, _, _, _⟩ := box_cells y2; clear y0 y1 y2; have HK6 := Lib.hid hk6; clear hk6 k1)
    | (go_at_call 53; refine HC4.out.mono ?_; rintro e1 w6 ⟨rfl, k1⟩; have hk5 : Below W2.heap.size W2 w6 := below_trans HK4.out (below_trans (alloc_b (Below.refl _ _) _) k1); have y0 := (hk5.block _ (Array.getElem?_eq_some_iff.1 HB.out.1).1).trans HB.out.1; have y1 := (hk5.block _ (Array.getElem?_eq_some_iff.1 HB.out.2.1).1).trans HB.out.2.1; have y2 := (hk5.block _ (Array.getElem?_eq_some_iff.1 HB.out.2.2).1).trans HB.out.2.2; obtain ⟨e500, e501, e502, _, _, _⟩ := box_cells y0; obtain ⟨e510, e511, e512, _, _, _⟩ := box_cells y1; obtain ⟨e520, e521, e522, _, _, _⟩ := box_cells y2; clear y0 y1 y2; have c5 : Calls Tryz.prog 53 #[.agg #[.int .i64 4, .slice a2 4 c2, .slice b2 4 d2], .slice (some ⟨w6.heap.size, 0, none⟩) 4 4, .int .i64 2] (w6.alloc (.cells #[.int .i64 2, .int .i64 3, .int .i64 0, .int .i64 1] 3)) _ := gr_rank (n := 4) (HG.out.2.1.below (below_trans hk5 (alloc_b (Below.refl _ _) _))) tV4 (by omega) (by omega) (lit_pm rfl (lit_ints (by decide) rfl)) exV4; have HC5 := Lib.hid c5; have HK5 := Lib.hid hk5; clear c5 hk5; clear k1)
    | (go_at_call 53; refine HC3.out.mono ?_; rintro e1 w5 ⟨rfl, k1⟩; have hk4 : Below W2.heap.size W2 w5 := below_trans HK3.out (below_trans (alloc_b (Below.refl _ _) _) k1); have y0 := (hk4.block _ (Array.getElem?_eq_some_iff.1 HB.out.1).1).trans HB.out.1; have y1 := (hk4.block _ (Array.getElem?_eq_some_iff.1 HB.out.2.1).1).trans HB.out.2.1; have y2 := (hk4.block _ (Array.getElem?_eq_some_iff.1 HB.out.2.2).1).trans HB.out.2.2; obtain ⟨e400, e401, e402, _, _, _⟩ := box_cells y0; obtain ⟨e410, e411, e412, _, _, _⟩ := box_cells y1; obtain ⟨e420, e421, e422, _, _, _⟩ := box_cells y2; clear y0 y1 y2; have c4 : Calls Tryz.prog 53 #[.agg #[.int .i64 4, .slice a1 4 c1, .slice b1 4 d1], .slice (some ⟨w5.heap.size, 0, none⟩) 4 4, .int .i64 23] (w5.alloc (.cells #[.int .i64 3, .int .i64 2, .int .i64 1, .int .i64 0] 3)) _ := gr_rank (n := 4) (HG.out.1.below (below_trans hk4 (alloc_b (Below.refl _ _) _))) tS4 (by omega) (by omega) (lit_pm rfl (lit_ints (by decide) rfl)) exS4.2.2; have HC4 := Lib.hid c4; have HK4 := Lib.hid hk4; clear c4 hk4; clear k1)
    | (go_at_call 12; refine HC2.out.mono ?_; rintro e1 w4 ⟨rfl, k1⟩; have hk3 : Below W2.heap.size W2 w4 := below_trans HK2.out k1; have y0 := (hk3.block _ (Array.getElem?_eq_some_iff.1 HB.out.1).1).trans HB.out.1; have y1 := (hk3.block _ (Array.getElem?_eq_some_iff.1 HB.out.2.1).1).trans HB.out.2.1; have y2 := (hk3.block _ (Array.getElem?_eq_some_iff.1 HB.out.2.2).1).trans HB.out.2.2; obtain ⟨e300, e301, e302, _, _, _⟩ := box_cells y0; obtain ⟨e310, e311, e312, _, _, _⟩ := box_cells y1; obtain ⟨e320, e321, e322, _, _, _⟩ := box_cells y2; clear y0 y1 y2; have c3 : Calls Tryz.prog 53 #[.agg #[.int .i64 4, .slice a1 4 c1, .slice b1 4 d1], .slice (some ⟨w4.heap.size, 0, none⟩) 4 4, .int .i64 1] (w4.alloc (.cells #[.int .i64 0, .int .i64 1, .int .i64 3, .int .i64 2] 3)) _ := gr_rank (n := 4) (HG.out.1.below (below_trans hk3 (alloc_b (Below.refl _ _) _))) tS4 (by omega) (by omega) (lit_pm rfl (lit_ints (by decide) rfl)) exS4.2.1; have HC3 := Lib.hid c3; have HK3 := Lib.hid hk3; clear c3 hk3; clear k1)
    | (go_at_call 12; refine HC1.out.mono ?_; rintro e1 w3 ⟨rfl, k1⟩; have hk2 : Below W2.heap.size W2 w3 := below_trans HK1.out k1; have y0 := (hk2.block _ (Array.getElem?_eq_some_iff.1 HB.out.1).1).trans HB.out.1; have y1 := (hk2.block _ (Array.getElem?_eq_some_iff.1 HB.out.2.1).1).trans HB.out.2.1; have y2 := (hk2.block _ (Array.getElem?_eq_some_iff.1 HB.out.2.2).1).trans HB.out.2.2; obtain ⟨e200, e201, e202, _, _, _⟩ := box_cells y0; obtain ⟨e210, e211, e212, _, _, _⟩ := box_cells y1; obtain ⟨e220, e221, e222, _, _, _⟩ := box_cells y2; clear y0 y1 y2; have c2 : Calls Tryz.prog 12 #[.agg #[.int .i64 4, .slice a3 4 c3, .slice b3 4 d3]] w3 _ := gr_size (n := 4) (HG.out.2.2.1.below hk2) tZ2 (by omega) (by omega) exZ2; have HC2 := Lib.hid c2; have HK2 := Lib.hid hk2; clear c2 hk2 k1)
    | (go_at_call 52; refine groups52.mono ?_; rintro e1 w1 ⟨v1, v2, v3, rfl, k1, k2, k3, k4⟩; obtain ⟨a1, c1, b1, d1, rfl⟩ := k1.form; obtain ⟨a2, c2, b2, d2, rfl⟩ := k2.form; obtain ⟨a3, c3, b3, d3, rfl⟩ := k3.form; have H1 := Lib.hid (And.intro k1 (And.intro k2 (And.intro k3 k4))); clear k1 k2 k3 k4; obtain ⟨W2, hW2⟩ : ∃ W2, (((w1.alloc (.cells #[.int .i64 4, .slice a1 4 c1, .slice b1 4 d1] 25)).alloc (.cells #[.int .i64 4, .slice a2 4 c2, .slice b2 4 d2] 25)).alloc (.cells #[.int .i64 4, .slice a3 4 c3, .slice b3 4 d3] 25)) = W2 := ⟨_, rfl⟩; have hb2 : Below w1.heap.size w1 W2 := hW2 ▸ alloc_b (alloc_b (alloc_b (Below.refl _ _) _) _) _; have y0 : W2.heap[w1.heap.size]? = some (.cells #[.int .i64 4, .slice a1 4 c1, .slice b1 4 d1] 25) := hW2 ▸ ((Below.heap_alloc _ _ _ (by simp; omega)).trans ((Below.heap_alloc _ _ _ (by simp)).trans (box_alloc rfl _ _ _))); have y1 : W2.heap[w1.heap.size + 1]? = some (.cells #[.int .i64 4, .slice a2 4 c2, .slice b2 4 d2] 25) := hW2 ▸ ((Below.heap_alloc _ _ _ (by simp)).trans (box_alloc (by simp) _ _ _)); have y2 : W2.heap[w1.heap.size + 1 + 1]? = some (.cells #[.int .i64 4, .slice a3 4 c3, .slice b3 4 d3] 25) := hW2 ▸ (box_alloc (by simp) _ _ _); obtain ⟨e100, e101, e102, _, _, _⟩ := box_cells y0; obtain ⟨e110, e111, e112, _, _, _⟩ := box_cells y1; obtain ⟨e120, e121, e122, _, _, _⟩ := box_cells y2; have HB := Lib.hid (And.intro y0 (And.intro y1 y2)); have HK1 := Lib.hid (Below.refl W2.heap.size W2); have HG := Lib.hid (And.intro (H1.out.1.below hb2) (And.intro (H1.out.2.1.below hb2) (And.intro (H1.out.2.2.1.below hb2) (below_trans H1.out.2.2.2 hb2)))); have c1 : Calls Tryz.prog 12 #[.agg #[.int .i64 4, .slice a1 4 c1, .slice b1 4 d1]] W2 _ := gr_size (n := 4) HG.out.1 tS4 (by omega) (by omega) exS4.1; have HC1 := Lib.hid c1; clear c1 hb2 y0 y1 y2))
  go_ret
  exact ⟨rfl, below_trans HG.out.2.2.2 HK6.out⟩
end Go.Proofs.YtbejhkojdiadaaaGreat
