/- Closure: both sides. · Chapter 11's groups of examples. -/
import Derived.Test.YtbejhkojdiadaaaGreatCl01
import Derived.Test.YtbejhkojdiadaaaGreatCl02
import Derived.Test.YtbejhkojdiadaaaGreatCl03
import Derived.Test.YtbejhkojdiadaaaGreatCl04
import Derived.Test.YtbejhkojdiadaaaGreatCl05
import Derived.Test.YtbejhkojdiadaaaGreatCl06
import Derived.Test.YtbejhkojdiadaaaGreatCl07
import Derived.Test.YtbejhkojdiadaaaGreatCl08
import Derived.Test.YtbejhkojdiadaaaGreatCl09
import Derived.Test.YtbejhkojdiadaaaGreatCl10
import Derived.Test.YtbejhkojdiadaaaGreatCl11
import Derived.Test.YtbejhkojdiadaaaGreatCl12
import Derived.Test.YtbejhkojdiadaaaGreatCl13
import Derived.Test.YtbejhkojdiadaaaGreatCl14
import Derived.Test.YtbejhkojdiadaaaGreatCl15
import Derived.Test.YtbejhkojdiadaaaGreatCl16
import Derived.Test.YtbejhkojdiadaaaGreatCl17
import Derived.Test.YtbejhkojdiadaaaGreatCl18
import Derived.Test.YtbejhkojdiadaaaGreatCl19
import Derived.Test.YtbejhkojdiadaaaGreatCl20
import Derived.Test.YtbejhkojdiadaaaGreatCl21
import Derived.Test.YtbejhkojdiadaaaGreatCl26
import Derived.Test.YtbejhkojdiadaaaGreatProg
import Derived.WalkKit
import Derived.WalkSpells
import Derived.BigQuiet
import Derived.Deep.QuietTactic
import Derived.Deep.LoopGhost
import Derived.Lib.Hide
import Derived.Maps.AppendAt
import Derived.Deep.AppendLies
import Derived.StillTailTactics
import Derived.Laws.CopyOwn
import Derived.Deep.OwnRows
import Derived.Deep.DeepCutAuto
import Derived.Laws.Cover3
import Derived.Deep.RegionHeld3
import Derived.RangeFuncRecord
import Derived.Lib.SlicesSearch
import Derived.RangeFuncBox
import Derived.RangeFuncLeaves
import Derived.RangeFuncWrites
import Derived.RangeFuncFrom
import Derived.Shelf.Abstract
import Derived.OwnWalkIn
import Derived.TacticsInMore
import Derived.LoopNIn
import Derived.LoopIn
import Derived.Shelf.GgSortFunc.Insertion
import Derived.Shelf.SlIter.Collect
import Derived.Shelf.Sort.Plain
import Derived.Deep.RegionLaw
import Derived.ControlIn
import Derived.Deep.AppendSrc
import Derived.Laws.BytesArg
import Derived.Maps.OwnSet
import Derived.Carry
set_option linter.unusedSimpArgs false
set_option linter.unusedVariables false
namespace Go.Proofs.YtbejhkojdiadaaaGreat
open Go.RowKit PlainPm
section
variable {w : World} {v1 : Value} {d : Int} {os : List (List Int)} {rs : List (List (List Int))}
set_option maxRecDepth 100000 in
set_option maxHeartbeats 2000000 in
theorem clos32x (h1 : ChV w v1 d os rs) (h0 : chkE d os rs = 0) {vx : Value} {E : Int} (hE : E ≠ 0) (h90 : ∀ V, Below w.heap.size w V → Calls Tryz.prog 90 #[.int .i64 d, vx] V fun e w' => e = .returned (.tuple #[.agg #[.int .i64 0, .slice none 0 0, .slice none 0 0], .int .i64 E]) ∧ Below V.heap.size V w') :
    Calls Tryz.prog 32 #[v1, vx] w fun e w' => e = .returned (.tuple #[.agg #[.int .i64 0, .slice none 0 0, .slice none 0 0], .int .i64 E]) ∧ Below w.heap.size w w' := by
  have hpr := fun (V : World) (hV : Below w.heap.size w V) => chk54 (h1.below hV)
  rw [h0] at hpr
  have hne : (E != 0) = true := by simp [hE]
  obtain ⟨a1, b1, c1, e1, rfl, _⟩ := h1
  obtain ⟨X, hX⟩ : ∃ X, w.heap.size = X := ⟨_, rfl⟩
  obtain ⟨W1, hW1⟩ : ∃ W1, (w.alloc (.cells #[.int .i64 d, .slice a1 os.length b1, .slice c1 rs.length e1] 25)).alloc (.cells #[.int .i64 0, .slice none 0 0, .slice none 0 0] 25) = W1 := ⟨_, rfl⟩
  have hsz : W1.heap.size = X + 2 := by rw [← hW1]; simp [hX]
  have hwW : Below w.heap.size w W1 := hW1 ▸ alloc_b (alloc_b (Below.refl _ _) _) _
  have k0 : W1.heap[X]? = some (.cells #[.int .i64 d, .slice a1 os.length b1, .slice c1 rs.length e1] 25) := by
    rw [← hW1]
    exact ((alloc_b (Below.refl _ _) _).block X (by simp; omega)).trans (box_al25 hX _ _ _)
  have k1 : W1.heap[X + 1]? = some (.cells #[.int .i64 0, .slice none 0 0, .slice none 0 0] 25) := by
    rw [← hW1]
    exact box_al25 (by simp [hX]) _ _ _
  obtain ⟨x0, x1, x2, _⟩ := box_cells k0
  have HB := Lib.hid (And.intro k0 (And.intro k1 (And.intro hsz (And.intro hwW hX))))
  have HC := Lib.hid (And.intro hpr h90)
  clear hpr h90 k0 k1 hsz hwW hE h0
  go_enter Tryz.func32, Tryz.ntmps32
  try rw [hX]
  go_wp2_with (first
    | (go_at_call 90; (with_reducible refine (HC.out.2 _ (below_trans HB.out.2.2.2.1 H2.out.1)).mono ?_); rintro e3 w3 ⟨rfl, k⟩
       have bb : Below W1.heap.size W1 w3 := below_trans H2.out.1 k
       have hY : X + 2 ≤ w3.heap.size := by have := bb.size; have := HB.out.2.2.1; omega
       obtain ⟨W4, hW4⟩ : ∃ W4, w3.alloc (.cells #[.int .i64 0, .slice none 0 0, .slice none 0 0] 25) = W4 := ⟨_, rfl⟩
       have b4 : Below W1.heap.size W1 W4 := hW4 ▸ alloc_b bb _
       have y0 : W4.heap[w3.heap.size]? = some (.cells #[.int .i64 0, .slice none 0 0, .slice none 0 0] 25) := hW4 ▸ box_al25 rfl _ _ _
       obtain ⟨Y, hYY⟩ : ∃ Y, w3.heap.size = Y := ⟨_, rfl⟩
       rw [hYY] at hY y0
       obtain ⟨s0, s1, s2, s3, s4, s5⟩ := box_cells y0
       obtain ⟨W5, hW5⟩ : ∃ W5, set3 W4 Y (.int .i64 0) (.slice none 0 0) (.slice none 0 0) = W5 := ⟨_, rfl⟩
       have k5 : Kept W4 W5 [Y] := hW5 ▸ set3_kept (by simp)
       have b5 : Below (X + 2) W1 W5 := (b4.mono (by rw [HB.out.2.2.1]; omega)).trans (k5.below1 (by have := b4.size; rw [HB.out.2.2.1] at this; exact this) hY)
       have g1 := (b5.block (X + 1) (by omega)).trans HB.out.2.1
       obtain ⟨q0, q1, q2, q3, q4, q5⟩ := box_cells g1
       have H5 := Lib.hid (And.intro b5 g1)
       unfold set3 at hW5
       clear k bb b4 k5 b5 g1 y0)
    | (go_at_call 54; (with_reducible refine (HC.out.1 _ HB.out.2.2.2.1).mono ?_); rintro e2 w2 ⟨rfl, k⟩
       have g0 := (k.block X (by rw [HB.out.2.2.1]; omega)).trans HB.out.1
       obtain ⟨p0, p1, p2, _⟩ := box_cells g0
       have H2 := Lib.hid (And.intro k g0); clear k g0))
  have hfin : (set3 W5 (X + 1) (.int .i64 0) (.slice none 0 0) (.slice none 0 0)).heap[X + 1]? = some (.cells #[.int .i64 0, .slice none 0 0, .slice none 0 0] 25) := set3_box H5.out.2
  obtain ⟨V, hV⟩ : ∃ V, set3 W5 (X + 1) (.int .i64 0) (.slice none 0 0) (.slice none 0 0) = V := ⟨_, rfl⟩
  have hKp : Kept W5 V [X + 1] := hV ▸ set3_kept (by simp)
  rw [hV] at hfin
  unfold set3 at hV
  try rw [hW4]
  try rw [hYY]
  try rw [hW5]
  rw [hV]
  obtain ⟨f0, f1, f2, _⟩ := box_cells hfin
  refine bodyPost_ret (v := .tuple #[.agg #[.int .i64 0, .slice none 0 0, .slice none 0 0], .int .i64 E]) (by simp [results, Tryz.results32, go_sem, f0, f1, f2]) rfl ?_
  refine ⟨rfl, ?_⟩
  have h1 : Below X w W5 := (HB.out.2.2.2.2 ▸ HB.out.2.2.2.1).trans (H5.out.1.mono (by omega))
  have h2 := h1.size
  have h3 := (Array.getElem?_eq_some_iff.1 H5.out.2).1
  exact h1.trans (hKp.below1 (by omega) (by omega))
end
set_option maxRecDepth 100000 in
set_option maxHeartbeats 4000000 in
theorem clos33f {n : Nat} (hn : 0 < n ∧ n ≤ 64) {w : World} {v1 : Value} {os : List (List Int)} {rs : List (List (List Int))} (h1 : ChV w v1 n os rs) (h0 : chkE n os rs = 0) {a0 : Option Addr} {c0 : Nat} {ps : List (List Int)} (hr : Rows w a0 ps) (hl : ps.length ≤ 4096) (hE : flE n ps ≠ 0) :
    Calls Tryz.prog 33 #[v1, .slice a0 ps.length c0] w fun e w' => e = .returned (.tuple #[.agg #[.int .i64 0, .slice none 0 0, .slice none 0 0], .int .i64 (flE n ps)]) ∧ Below w.heap.size w w' := by
  have hck := fun (V : World) (hV : Below w.heap.size w V) => chk56 (h1.below hV)
  simp only [h0] at hck
  obtain ⟨a1, b1, c1, e1, rfl, _⟩ := h1
  obtain ⟨X, hX⟩ : ∃ X, w.heap.size = X := ⟨_, rfl⟩
  obtain ⟨W1, hW1⟩ : ∃ W1, (w.alloc (.cells #[.int .i64 (n : Int), .slice a1 os.length b1, .slice c1 rs.length e1] 25)).alloc (.cells #[.int .i64 0, .slice none 0 0, .slice none 0 0] 25) = W1 := ⟨_, rfl⟩
  have hsz : W1.heap.size = X + 2 := by rw [← hW1]; simp [hX]
  have hwW : Below w.heap.size w W1 := hW1 ▸ alloc_b (alloc_b (Below.refl _ _) _) _
  have k0 : W1.heap[X]? = some (.cells #[.int .i64 (n : Int), .slice a1 os.length b1, .slice c1 rs.length e1] 25) := by
    rw [← hW1]
    exact ((alloc_b (Below.refl _ _) _).block X (by simp; omega)).trans (box_al25 hX _ _ _)
  have k1 : W1.heap[X + 1]? = some (.cells #[.int .i64 0, .slice none 0 0, .slice none 0 0] 25) := by
    rw [← hW1]
    exact box_al25 (by simp [hX]) _ _ _
  obtain ⟨x0, x1, x2, _⟩ := box_cells k0
  have hx0 := And.intro x0 (And.intro x1 (And.intro x2 (Below.refl W1.heap.size W1)))
  obtain ⟨m0, hm0⟩ : ∃ m, ps.length = m := ⟨_, rfl⟩
  obtain ⟨E, hEE⟩ : ∃ E, flE n ps = E := ⟨_, rfl⟩
  rw [hEE] at hE ⊢
  have HB := Lib.hid (And.intro k0 (And.intro k1 (And.intro hsz (And.intro hwW hX))))
  have HC := Lib.hid (And.intro hck (And.intro hr (And.intro hm0 (And.intro hEE hE))))
  rw [hm0] at hl ⊢
  have hl1 : decide ((4096 : Int) < m0) = false := by simp; omega
  have hl2 : decide (4096 < m0) = false := by simp; omega
  clear hck hr hm0 hEE hE k0 k1 hsz hwW h0
  go_enter Tryz.func33, Tryz.ntmps33
  try rw [hX]
  go_wp2_with (go_at_call 56; (with_reducible refine (HC.out.1 _ HB.out.2.2.2.1).mono ?_); rintro e2 w2 ⟨rfl, k⟩
               have H2 := Lib.hid k; clear k)
  go_loopw [7, 8] (fun i _ wr => ∃ (k : Nat), k ≤ m0 ∧ i = .int .i64 (k : Int) ∧ Below W1.heap.size W1 wr ∧ flE n (ps.drop k) = E) (fun i _ _ => m0 - (intOf i).toNat)
  case atStart => exact ⟨0, by omega, rfl, H2.out, by rw [List.drop_zero]; exact HC.out.2.2.2.1⟩
  case round =>
    obtain ⟨k, hk, rfl, hb, hfl⟩ := hrel
    have hbw := below_trans HB.out.2.2.2.1 hb
    by_cases hkm : k < m0
    · obtain ⟨p, hp⟩ : ∃ p, ps[k]? = some p := ⟨_, List.getElem?_eq_getElem (by rw [HC.out.2.2.1]; exact hkm)⟩
      have hat := (HC.out.2.1.below hbw).at_ (k := k) (by rw [HC.out.2.2.1]; exact hkm)
      rw [hp, Option.getD_some] at hat
      obtain ⟨ag, ao, ua, uc, hae, _, hac, hui⟩ := hat
      subst hae
      have hlen := hui.len
      have hpc := rperm_calls (c := uc) hui
      rw [flE_at hp] at hfl
      obtain ⟨lp, hlp⟩ : ∃ l, p.length = l := ⟨_, rfl⟩
      rw [hlp] at hpc hac hfl hlen
      have hk1 : (k : Int) < m0 := by omega
      by_cases hz : chkPerm p = 0
      · rw [hz] at hpc
        rw [if_pos hz] at hfl
        by_cases hln : lp = n
        · rw [if_pos hln] at hfl
          have g1 : ((lp : Int) != (n : Int)) = false := by simp [hln]
          have HK := Lib.hid (And.intro hpc (And.intro hfl hb))
          clear hpc hfl hb hui hp hz hln hlp hbw
          go_wp2_with (go_at_call 91; (with_reducible refine HK.out.1.mono ?_); rintro e3 w3 ⟨rfl, kk⟩
                       obtain ⟨p0, p1, p2, _⟩ := keep3b hx0 (below_trans HK.out.2.2 kk)
                       have c6 := (kk.cell (block_lt_of_cell hac)).trans hac
                       have H3 := Lib.hid (below_trans HK.out.2.2 kk); clear kk)
          go_quiet (fail)
          go_wp2_with fail
          exact ⟨⟨k + 1, by omega, by go_num, below_drewN H3.out _, HK.out.2.1⟩, by simp [intOf]; omega⟩
        · rw [if_neg hln] at hfl
          have g1 : ((lp : Int) != (n : Int)) = true := by simp; omega
          have HK := Lib.hid (And.intro hpc hb)
          subst hfl
          clear hpc hb hui hp hz hln hlp hbw
          go_wp2_with (go_at_call 91; (with_reducible refine HK.out.1.mono ?_); rintro e3 w3 ⟨rfl, kk⟩
                       obtain ⟨p0, p1, p2, _⟩ := keep3b hx0 (below_trans HK.out.2 kk)
                       have c6 := (kk.cell (block_lt_of_cell hac)).trans hac
                       have H3 := Lib.hid (below_trans HK.out.2 kk); clear kk)
          go_quiet (fail)
          obtain ⟨w4, hw4⟩ : ∃ w4, w3.drewN nq = w4 := ⟨_, rfl⟩
          have hbb : Below W1.heap.size W1 w4 := hw4 ▸ below_drewN H3.out _
          try rw [hw4]
          have h9 := (hbb.block (X + 1) (by rw [HB.out.2.2.1]; omega)).trans HB.out.2.1
          obtain ⟨i0, i1, i2, i3, i4, i5⟩ := box_cells h9
          have hb0 := below_trans HB.out.2.2.2.1 hbb
          rw [HB.out.2.2.2.2] at hb0
          have HF := Lib.hid (And.intro hb0 h9)
          clear hbb h9 hb0 hw4
          go_wp2_with fail
          obtain ⟨V, hV, f0, f1, f2, hb8⟩ := zfin HF.out.1 (by omega) HF.out.2
          unfold set3 at hV
          rw [hV]
          exact bodyPost_ret (v := .tuple #[.agg #[.int .i64 0, .slice none 0 0, .slice none 0 0], .int .i64 10]) (by simp [results, Tryz.results33, go_sem, f0, f1, f2]) rfl ⟨rfl, hb8⟩
      · rw [if_neg hz] at hfl
        rw [hfl] at hpc
        have g1 : (E != 0) = true := by have := HC.out.2.2.2.2; simp [this]
        have HK := Lib.hid (And.intro hpc hb)
        clear hpc hb hui hp hz hlp hbw hfl
        go_wp2_with (go_at_call 91; (with_reducible refine HK.out.1.mono ?_); rintro e w3 ⟨rfl, kk⟩
                     have hbb := below_trans HK.out.2 kk
                     have h9 := (hbb.block (X + 1) (by rw [HB.out.2.2.1]; omega)).trans HB.out.2.1
                     obtain ⟨i0, i1, i2, i3, i4, i5⟩ := box_cells h9
                     have hb0 := below_trans HB.out.2.2.2.1 hbb
                     rw [HB.out.2.2.2.2] at hb0
                     have HF := Lib.hid (And.intro hb0 h9); clear kk hbb h9 hb0)
        obtain ⟨V, hV, f0, f1, f2, hb8⟩ := zfin HF.out.1 (by omega) HF.out.2
        unfold set3 at hV
        rw [hV]
        exact bodyPost_ret (v := .tuple #[.agg #[.int .i64 0, .slice none 0 0, .slice none 0 0], .int .i64 E]) (by simp [results, Tryz.results33, go_sem, f0, f1, f2]) rfl ⟨rfl, hb8⟩
    · exfalso
      have : k = m0 := by omega
      subst this
      rw [← HC.out.2.2.1, List.drop_length] at hfl
      exact HC.out.2.2.2.2 hfl.symm
set_option maxRecDepth 100000 in
set_option maxHeartbeats 4000000 in
theorem clos32 {n : Nat} (hn' : 0 < n ∧ n ≤ 8) {w : World} {v1 : Value} {G : Pm n → Prop} {L : List (Pm n)} {a0 : Option Addr} {m0 c0 : Nat} (hG : IsG G) (h1 : GrG w v1 G) (hm0 : L.length = m0) (hL : m0 ≤ 4096) (hl : PmsV w [] (.slice a0 m0 c0) L) :
    Calls Tryz.prog 32 #[v1, .slice a0 m0 c0] w fun e w' => ∃ a c b d, e = .returned (.tuple #[.agg #[.int .i64 (n : Int), .slice a n c, .slice b n d], .int .i64 0]) ∧ Below w.heap.size w w' ∧
      ∀ S, (∀ m ∈ S, m < w.heap.size) → GrS w' (.agg #[.int .i64 (n : Int), .slice a n c, .slice b n d]) (NcG (· ∈ L) G) S := by
  have hn : 0 < n ∧ n ≤ 64 := ⟨hn'.1, by omega⟩
  obtain ⟨os, rs, hch, hc0⟩ := h1.chk hn hG
  have hck := fun (V : World) (hV : Below w.heap.size w V) => chk54 (hch.below hV)
  simp only [hc0] at hck
  obtain ⟨T0, t0, ab, ao, c, bb, bo, e, hv1, hlv⟩ := h1.lev hG ⟨hn.1, hn.2⟩
  subst hv1
  have h90 := fun (V : World) (hV : Below w.heap.size w V) => mk90 hn (by rw [hm0]; exact hL) (hl.below hV)
  have h73 := fun (V : World) (hV : Below w.heap.size w V) => strong73 (O := orbO T0) (R := PlainPm.repT T0) (c := c) (e := e) hn (t0.chG hG) hlv hV
  have hsl : (sgen n (orbO T0) (PlainPm.repT T0) n).length ≤ 4096 := sgen4096 (t0.chG hG) hn.2
  have hsg := sgen_grp hG t0
  obtain ⟨B, hB⟩ : ∃ B, sgen n (orbO T0) (PlainPm.repT T0) n = B := ⟨_, rfl⟩
  rw [hB] at h73 hsl hsg
  obtain ⟨X, hX⟩ : ∃ X, w.heap.size = X := ⟨_, rfl⟩
  obtain ⟨W1, hW1⟩ : ∃ W1, (w.alloc (.cells #[.int .i64 (n : Int), .slice (some ⟨ab, ao, none⟩) n c, .slice (some ⟨bb, bo, none⟩) n e] 25)).alloc (.cells #[.int .i64 0, .slice none 0 0, .slice none 0 0] 25) = W1 := ⟨_, rfl⟩
  have hsz : W1.heap.size = X + 2 := by rw [← hW1]; simp [hX]
  have hwW : Below w.heap.size w W1 := hW1 ▸ alloc_b (alloc_b (Below.refl _ _) _) _
  have k0 : W1.heap[X]? = some (.cells #[.int .i64 (n : Int), .slice (some ⟨ab, ao, none⟩) n c, .slice (some ⟨bb, bo, none⟩) n e] 25) := by
    rw [← hW1]
    exact ((alloc_b (Below.refl _ _) _).block X (by simp; omega)).trans (box_al25 hX _ _ _)
  have k1 : W1.heap[X + 1]? = some (.cells #[.int .i64 0, .slice none 0 0, .slice none 0 0] 25) := by
    rw [← hW1]
    exact box_al25 (by simp [hX]) _ _ _
  obtain ⟨x0, x1, x2, _⟩ := box_cells k0
  have HB := Lib.hid (And.intro k0 (And.intro k1 (And.intro hsz (And.intro hwW hX))))
  have HC := Lib.hid (And.intro hck (And.intro h90 (And.intro h73 (And.intro hsl (And.intro hsg (And.intro hl (show L.length ≤ 4096 by rw [hm0]; exact hL)))))))
  clear hck h90 h73 hsl hsg hl k0 k1 hsz hwW h1 hch t0 hlv hB hm0
  go_enter Tryz.func32, Tryz.ntmps32
  try rw [hX]
  go_wp2_with (first
    | (go_at_call 90; (with_reducible refine (HC.out.2.1 _ (below_trans HB.out.2.2.2.1 H2.out.1)).mono ?_); rintro e3 w3 ⟨a3, c3, b3, d3, rfl, k, _⟩
       have bb : Below W1.heap.size W1 w3 := below_trans H2.out.1 k
       have hY : X + 2 ≤ w3.heap.size := by have := bb.size; have := HB.out.2.2.1; omega
       obtain ⟨W4, hW4⟩ : ∃ W4, w3.alloc (.cells #[.int .i64 0, .slice none 0 0, .slice none 0 0] 25) = W4 := ⟨_, rfl⟩
       have b4 : Below W1.heap.size W1 W4 := hW4 ▸ alloc_b bb _
       have y0 : W4.heap[w3.heap.size]? = some (.cells #[.int .i64 0, .slice none 0 0, .slice none 0 0] 25) := hW4 ▸ box_al25 rfl _ _ _
       obtain ⟨Y, hYY⟩ : ∃ Y, w3.heap.size = Y := ⟨_, rfl⟩
       rw [hYY] at hY y0
       obtain ⟨s0, s1, s2, s3, s4, s5⟩ := box_cells y0
       obtain ⟨W5, hW5⟩ : ∃ W5, set3 W4 Y (.int .i64 (n : Int)) (.slice a3 n c3) (.slice b3 n d3) = W5 := ⟨_, rfl⟩
       have k5 : Kept W4 W5 [Y] := hW5 ▸ set3_kept (by simp)
       have b5 : Below (X + 2) W1 W5 := (b4.mono (by rw [HB.out.2.2.1]; omega)).trans (k5.below1 (by have := b4.size; rw [HB.out.2.2.1] at this; exact this) hY)
       have g0 := (b5.block X (by omega)).trans HB.out.1
       obtain ⟨q0, q1, q2, _⟩ := box_cells g0
       have H5 := Lib.hid (And.intro b5 g0)
       unfold set3 at hW5
       clear k bb b4 k5 b5 g0 y0)
    | (go_at_call 54; (with_reducible refine (HC.out.1 _ HB.out.2.2.2.1).mono ?_); rintro e2 w2 ⟨rfl, k⟩
       have g0 := (k.block X (by rw [HB.out.2.2.1]; omega)).trans HB.out.1
       obtain ⟨p0, p1, p2, _⟩ := box_cells g0
       have H2 := Lib.hid (And.intro k g0); clear k g0))
  try rw [hW4]
  try rw [hYY]
  try rw [hW5]
  have hW5s : X + 2 ≤ W5.heap.size := by have := H5.out.1.size; have := HB.out.2.2.1; omega
  have bw5 : Below w.heap.size w W5 := HB.out.2.2.2.1.trans (H5.out.1.mono (by have := HB.out.2.2.2.2; omega))
  have hz0 := And.intro q0 (And.intro q1 (And.intro q2 (Below.refl W5.heap.size W5)))
  have HW := Lib.hid (And.intro bw5 (H5.out.1.size))
  have R5 := Lib.hid (And.intro hW5 (And.intro hYY hW4))
  clear bw5 s0 s1 s2 s3 s4 s5 hW5 hYY hW4 p0 p1 p2
  go_region_law
    (first
      | (go_simp; go_at_call 80; (with_reducible refine (closed80 hn HC.out.2.2.2.2.2.2 (HC.out.2.2.2.2.2.1.below (below_trans HW.out.1 H6.out.2)) H6.out.1).mono ?_)
         rintro e7 w7 ⟨bk, rfl, k1, k2, k3⟩
         have b7 : Below W5.heap.size W5 w7 := below_trans H6.out.2 k2
         have hs6 : X + 2 ≤ w6.heap.size := Nat.le_trans hW5s H6.out.2.size
         have hg7 := k3 (List.range (X + 2)) (fun m hm => Nat.lt_of_lt_of_le (List.mem_range.1 hm) hs6)
         obtain ⟨a7, c7, b7', d7, hb7, hgg⟩ := hg7
         obtain ⟨r0, r1, r2, _⟩ := b81_cells hb7
         obtain ⟨j0, j1, j2, _⟩ := keep3b hz0 b7
         have hr7 := (b7.block (X + 1) (by omega)).trans ((H5.out.1.block (X + 1) (by omega)).trans HB.out.2.1)
         obtain ⟨r3, r4, r5, r6, r8, r9⟩ := box_cells hr7
         have H7 := Lib.hid (And.intro (hgg.congr (NcG.byG HC.out.2.2.2.2.1)) (And.intro hr7 (show Below X w w7 from by have h9 := below_trans HW.out.1 b7; rwa [HB.out.2.2.2.2] at h9)))
         clear k1 k2 k3 hgg hb7 hr7)
      | (go_simp; go_at_call 73; (with_reducible refine (HC.out.2.2.1 _ (below_trans HW.out.1 ?_)).mono ?_)
         first | exact Below.refl _ _ | exact below_drw (Below.refl _ _) | exact below_self_drewN _ _
         rintro e6 w6 ⟨v6, us6, rfl, k1, k2, k3, k4⟩
         obtain ⟨a6, c6, rfl, _⟩ := k1.row (by unfold maxLen; omega)
         have b6 : Below W5.heap.size W5 w6 := below_trans (by first | exact Below.refl _ _ | exact below_drw (Below.refl _ _) | exact below_self_drewN _ _) k4
         obtain ⟨i0, i1, i2, _⟩ := keep3b hz0 b6
         have H6 := Lib.hid (And.intro (pms_ownB k1 (k2.below (below_trans HW.out.1 b6)) (by have := HC.out.2.2.2.1; omega)) b6)
         clear k1 k2 k3 k4))
  all_goals
    go_wp2_with fail
    have hfin : (set3 w7 (X + 1) (.int .i64 (n : Int)) (.slice a7 n c7) (.slice b7' n d7)).heap[X + 1]? = some (.cells #[.int .i64 (n : Int), .slice a7 n c7, .slice b7' n d7] 25) := set3_box H7.out.2.1
    obtain ⟨V, hV⟩ : ∃ V, set3 w7 (X + 1) (.int .i64 (n : Int)) (.slice a7 n c7) (.slice b7' n d7) = V := ⟨_, rfl⟩
    have hKp : Kept w7 V [X + 1] := hV ▸ set3_kept (by simp)
    rw [hV] at hfin
    unfold set3 at hV
    rw [hV]
    obtain ⟨f0, f1, f2, _⟩ := box_cells hfin
    refine bodyPost_ret (v := .tuple #[.agg #[.int .i64 (n : Int), .slice a7 n c7, .slice b7' n d7], .int .i64 0]) (by simp [results, Tryz.results32, go_sem, f0, f1, f2]) rfl ?_
    refine ⟨a7, c7, b7', d7, rfl, ?_, fun S hS => ?_⟩
    · have h1 := H7.out.2.2
      have h2 := h1.size
      exact h1.trans (hKp.below1 (by have := (Array.getElem?_eq_some_iff.1 H7.out.2.1).1; omega) (by omega))
    · refine (H7.out.1.kept (hKp.mono (fun q hq => ?_))).ext (fun q hq => .inl ?_)
      · rw [List.mem_singleton.1 hq]
        first | exact List.mem_range.2 (by omega) | exact List.mem_cons_of_mem _ (List.mem_range.2 (by omega))
      · have := hS q hq
        first | exact List.mem_range.2 (by omega) | exact List.mem_cons_of_mem _ (List.mem_range.2 (by omega))
set_option maxRecDepth 100000 in
set_option maxHeartbeats 4000000 in
theorem clos33 {n : Nat} (hn' : 0 < n ∧ n ≤ 8) {w : World} {v1 : Value} {G : Pm n → Prop} {L : List (Pm n)} {a0 : Option Addr} {m0 c0 : Nat} (hG : IsG G) (h1 : GrG w v1 G) (hm0 : L.length = m0) (hL : m0 ≤ 4096) (hl : PmsV w [] (.slice a0 m0 c0) L) :
    Calls Tryz.prog 33 #[v1, .slice a0 m0 c0] w fun e w' => ∃ a c b d, e = .returned (.tuple #[.agg #[.int .i64 (n : Int), .slice a n c, .slice b n d], .int .i64 0]) ∧ Below w.heap.size w w' ∧
      ∀ S, (∀ m ∈ S, m < w.heap.size) → GrS w' (.agg #[.int .i64 (n : Int), .slice a n c, .slice b n d]) (NcG (· ∈ L) G) S := by
  have hn : 0 < n ∧ n ≤ 64 := ⟨hn'.1, by omega⟩
  obtain ⟨os, rs, hch, hc0⟩ := h1.chk hn hG
  have hck := fun (V : World) (hV : Below w.heap.size w V) => chk56 (hch.below hV)
  simp only [hc0] at hck
  obtain ⟨T0, t0, ab, ao, c, bb, bo, e, hv1, hlv⟩ := h1.lev hG ⟨hn.1, hn.2⟩
  subst hv1
  obtain ⟨T1, t1, ch1, _⟩ := h1.ch
  have h46 : ∀ V, Below w.heap.size w V → Calls Tryz.prog 46 #[cv n ab ao c bb bo e] V fun e w' => ∃ v us, e = .returned v ∧ Own w' V.heap.size v 27 us ∧ PmL w [] us (PlainPm.agen T1) ∧ us.length ≤ 4096 ∧ Below V.heap.size V w' := fun V hV => (strong46g hn hG t1 ch1 hV).mono (by
    rintro e w' ⟨v, us, k0, k1, k2, k3, k4⟩
    exact ⟨v, us, k0, k1, pml_rv hn.1 k2, Nat.le_trans k3 (Nat.mul_le_mul hn.2 hn.2), k4⟩)
  have hsg := agen_grp hG t1
  have hs2 := agen_len2 hG t1
  obtain ⟨B, hB⟩ : ∃ B, PlainPm.agen T1 = B := ⟨_, rfl⟩
  rw [hB] at h46 hsg hs2
  have hB36 : B.length ≤ 36 := by
    have : n * (n + 1) ≤ 8 * 9 := Nat.mul_le_mul hn'.2 (by omega)
    omega
  have hcap : ∀ m, 2 * m ≤ n * (n + 1) → m + m * B.length ≤ 4096 := fun m hm => by
    have h8 : n * (n + 1) ≤ 8 * 9 := Nat.mul_le_mul hn'.2 (by omega)
    have h9 : m * B.length ≤ 36 * 36 := Nat.mul_le_mul (by omega) hB36
    omega
  obtain ⟨X, hX⟩ : ∃ X, w.heap.size = X := ⟨_, rfl⟩
  obtain ⟨W1, hW1⟩ : ∃ W1, (w.alloc (.cells #[.int .i64 (n : Int), .slice (some ⟨ab, ao, none⟩) n c, .slice (some ⟨bb, bo, none⟩) n e] 25)).alloc (.cells #[.int .i64 0, .slice none 0 0, .slice none 0 0] 25) = W1 := ⟨_, rfl⟩
  have hsz : W1.heap.size = X + 2 := by rw [← hW1]; simp [hX]
  have hwW : Below w.heap.size w W1 := hW1 ▸ alloc_b (alloc_b (Below.refl _ _) _) _
  have k0 : W1.heap[X]? = some (.cells #[.int .i64 (n : Int), .slice (some ⟨ab, ao, none⟩) n c, .slice (some ⟨bb, bo, none⟩) n e] 25) := by
    rw [← hW1]
    exact ((alloc_b (Below.refl _ _) _).block X (by simp; omega)).trans (box_al25 hX _ _ _)
  have k1 : W1.heap[X + 1]? = some (.cells #[.int .i64 0, .slice none 0 0, .slice none 0 0] 25) := by
    rw [← hW1]
    exact box_al25 (by simp [hX]) _ _ _
  obtain ⟨x0, x1, x2, _⟩ := box_cells k0
  have HB := Lib.hid (And.intro k0 (And.intro k1 (And.intro hsz (And.intro hwW hX))))
  have HC := Lib.hid (And.intro hck (And.intro hcap (And.intro h46 (And.intro hB36 (And.intro hsg (And.intro hl (And.intro (show L.length ≤ 4096 by rw [hm0]; exact hL) hm0)))))))
  have hx0 := And.intro x0 (And.intro x1 (And.intro x2 (Below.refl W1.heap.size W1)))
  have hl1 : decide ((4096 : Int) < m0) = false := by simp; omega
  have hl2 : decide (4096 < m0) = false := by simp; omega
  clear hck hcap h46 hB36 hsg hl k0 k1 hsz hwW h1 hch t0 t1 hlv hB hm0 ch1 hs2
  go_enter Tryz.func33, Tryz.ntmps33
  try rw [hX]
  go_wp2_with (go_at_call 56; (with_reducible refine (HC.out.1 _ HB.out.2.2.2.1).mono ?_); rintro e2 w2 ⟨rfl, k⟩
               have H2 := Lib.hid k; clear k)
  go_loopw [7, 8] (fun i _ wr => ∃ (k : Nat), k ≤ m0 ∧ i = .int .i64 (k : Int) ∧ Below W1.heap.size W1 wr) (fun i _ _ => m0 - (intOf i).toNat)
  case atStart => exact ⟨0, by omega, rfl, H2.out⟩
  case round =>
    obtain ⟨k, hk, rfl, hb⟩ := hrel
    obtain ⟨z0, z1, z2, _⟩ := keep3b hx0 hb
    have hbw := below_trans HB.out.2.2.2.1 hb
    by_cases hkm : k < m0
    · obtain ⟨x, hx⟩ : ∃ x, L[k]? = some x := ⟨_, List.getElem?_eq_getElem (by rw [HC.out.2.2.2.2.2.2.2]; exact hkm)⟩
      obtain ⟨_, _, q4, _, hat⟩ := pms_at (HC.out.2.2.2.2.2.1.below hbw)
      rw [HC.out.2.2.2.2.2.2.2] at q4
      simp only [Value.slice.injEq, true_and] at q4
      obtain ⟨rfl, rfl⟩ := q4
      obtain ⟨g6, o6, u6, rfl, hc6, hp6⟩ := hat k x hx
      obtain ⟨ua, uc, ex, hui⟩ := hp6.ints (by omega)
      have hpc := rperm_calls (c := uc) hui
      have hxl := x.ok.1
      simp only [chkP_l hn x, hxl] at hpc
      rw [hxl] at ex
      subst ex
      have hk1 : (k : Int) < m0 := by omega
      have g1 : ((n : Int) != (n : Int)) = false := by simp
      have HK := Lib.hid (And.intro hpc hb)
      clear hpc hb hp6 hui hat hx
      go_wp2_with (go_at_call 91; (with_reducible refine HK.out.1.mono ?_); rintro e3 w3 ⟨rfl, kk⟩
                   have b3 : Below wr.heap.size wr w3 := kk
                   obtain ⟨p0, p1, p2, _⟩ := keep3b hx0 (below_trans HK.out.2 b3)
                   have c6 := (b3.cell (block_lt_of_cell hc6)).trans hc6
                   have H3 := Lib.hid (below_trans HK.out.2 b3); clear kk b3)
      go_quiet (fail)
      go_wp2_with fail
      exact ⟨⟨k + 1, by omega, by go_num, below_drewN H3.out _⟩, by simp [intOf]; omega⟩
    · have hk1 : ¬ (k : Int) < m0 := by omega
      have HW := Lib.hid (And.intro hbw hb)
      have hWs : X + 2 ≤ wr.heap.size := by have := hb.size; have := HB.out.2.2.1; omega
      have hz0 := And.intro z0 (And.intro z1 (And.intro z2 (Below.refl wr.heap.size wr)))
      clear hbw hb
      go_wp2_with fail
      go_region_law
        (first
          | (go_simp; go_at_call 82; (with_reducible refine (clos82 hn HC.out.2.2.2.2.2.2.1 HC.out.2.1 (HC.out.2.2.2.2.2.1.below (below_trans HW.out.1 H6.out.2)) H6.out.1).mono ?_)
             rintro e7 w7 ⟨a7, c7, b7', d7, rfl, k2, k3⟩
             have b7 : Below wr.heap.size wr w7 := below_trans H6.out.2 k2
             have hs6 : X + 2 ≤ w6.heap.size := Nat.le_trans hWs H6.out.2.size
             have hg7 := k3 (List.range (X + 2)) (fun m hm => Nat.lt_of_lt_of_le (List.mem_range.1 hm) hs6)
             obtain ⟨j0, j1, j2, _⟩ := keep3b hz0 b7
             have hr7 := (b7.block (X + 1) (by omega)).trans ((HW.out.2.block (X + 1) (by have := HB.out.2.2.1; omega)).trans HB.out.2.1)
             obtain ⟨r3, r4, r5, r6, r8, r9⟩ := box_cells hr7
             have H7 := Lib.hid (And.intro (hg7.congr (NcG.byG HC.out.2.2.2.2.1)) (And.intro hr7 (show Below X w w7 from by have h9 := below_trans HW.out.1 b7; rwa [HB.out.2.2.2.2] at h9)))
             clear k2 k3 hg7 hr7)
          | (go_simp; go_at_call 46; (with_reducible refine (HC.out.2.2.1 _ (below_trans HW.out.1 ?_)).mono ?_)
             first | exact Below.refl _ _ | exact below_drw (Below.refl _ _) | exact below_self_drewN _ _
             rintro e6 w6 ⟨v6, us6, rfl, k1, k2, k3, k4⟩
             obtain ⟨a6, c6, rfl, _⟩ := k1.row (by unfold maxLen; omega)
             have b6 : Below wr.heap.size wr w6 := below_trans (by first | exact Below.refl _ _ | exact below_drw (Below.refl _ _) | exact below_self_drewN _ _) k4
             obtain ⟨i0, i1, i2, _⟩ := keep3b hz0 b6
             have H6 := Lib.hid (And.intro (pms_ownB k1 (k2.below (below_trans HW.out.1 b6)) (by have := HC.out.2.2.2.1; omega)) b6)
             clear k1 k2 k3 k4))
      all_goals
        go_wp2_with fail
        have hfin : (set3 w7 (X + 1) (.int .i64 (n : Int)) (.slice a7 n c7) (.slice b7' n d7)).heap[X + 1]? = some (.cells #[.int .i64 (n : Int), .slice a7 n c7, .slice b7' n d7] 25) := set3_box H7.out.2.1
        obtain ⟨V, hV⟩ : ∃ V, set3 w7 (X + 1) (.int .i64 (n : Int)) (.slice a7 n c7) (.slice b7' n d7) = V := ⟨_, rfl⟩
        have hKp : Kept w7 V [X + 1] := hV ▸ set3_kept (by simp)
        rw [hV] at hfin
        unfold set3 at hV
        rw [hV]
        obtain ⟨f0, f1, f2, _⟩ := box_cells hfin
        refine bodyPost_ret (v := .tuple #[.agg #[.int .i64 (n : Int), .slice a7 n c7, .slice b7' n d7], .int .i64 0]) (by simp [results, Tryz.results33, go_sem, f0, f1, f2]) rfl ?_
        refine ⟨a7, c7, b7', d7, rfl, ?_, fun S hS => ?_⟩
        · have h1 := H7.out.2.2
          have h2 := h1.size
          exact h1.trans (hKp.below1 (by have := (Array.getElem?_eq_some_iff.1 H7.out.2.1).1; omega) (by omega))
        · refine (H7.out.1.kept (hKp.mono (fun q hq => ?_))).ext (fun q hq => .inl ?_)
          · rw [List.mem_singleton.1 hq]
            first | exact List.mem_range.2 (by omega) | exact List.mem_cons_of_mem _ (List.mem_range.2 (by omega))
          · have := hS q hq
            first | exact List.mem_range.2 (by omega) | exact List.mem_cons_of_mem _ (List.mem_range.2 (by omega))
end Go.Proofs.YtbejhkojdiadaaaGreat
namespace Go.Proofs.YtbejhkojdiadaaaGreat
open Go.RowKit PlainPm
set_option maxRecDepth 100000 in
set_option maxHeartbeats 4000000 in
theorem groups38 {w : World} : Calls Tryz.prog 38 #[] w fun e w' => ∃ v1 v2 v3 v4 v5, e = .returned (.tuple #[v1, v2, v3, v4, v5]) ∧ GrG w' v1 (Grp (· ∈ gS4)) ∧ GrG w' v2 (Grp (· ∈ gA4)) ∧ GrG w' v3 (Grp (· ∈ gV4)) ∧ GrG w' v4 (Grp (· ∈ gZ2)) ∧ GrG w' v5 (Grp (· ∈ gY2)) ∧ Below w.heap.size w w' := by
  obtain ⟨X, hX⟩ : ∃ X, w.heap.size = X := ⟨_, rfl⟩
  obtain ⟨W0, hW0⟩ : ∃ W0, (((((w.alloc (.cells #[.int .i64 0, .slice none 0 0, .slice none 0 0] 25)).alloc (.cells #[.int .i64 0, .slice none 0 0, .slice none 0 0] 25)).alloc (.cells #[.int .i64 0, .slice none 0 0, .slice none 0 0] 25)).alloc (.cells #[.int .i64 0, .slice none 0 0, .slice none 0 0] 25)).alloc (.cells #[.int .i64 0, .slice none 0 0, .slice none 0 0] 25)) = W0 := ⟨_, rfl⟩
  have hs0 : W0.heap.size = X + 1 + 1 + 1 + 1 + 1 := by rw [← hW0]; simp; omega
  have hb0 : Below w.heap.size w W0 := by rw [← hW0]; exact alloc_b (alloc_b (alloc_b (alloc_b (alloc_b (Below.refl _ _) _) _) _) _) _
  have z0 : W0.heap[X]? = some (.cells #[.int .i64 0, .slice none 0 0, .slice none 0 0] 25) := by
    have := World.alloc_heap_new w (.cells #[.int .i64 0, .slice none 0 0, .slice none 0 0] 25)
    rw [hX] at this
    rw [← hW0, Below.heap_alloc _ _ _ (by simp; omega), Below.heap_alloc _ _ _ (by simp; omega), Below.heap_alloc _ _ _ (by simp; omega), Below.heap_alloc _ _ _ (by simp; omega)]; exact this
  have z1 : W0.heap[X + 1]? = some (.cells #[.int .i64 0, .slice none 0 0, .slice none 0 0] 25) := by
    have := World.alloc_heap_new (w.alloc (.cells #[.int .i64 0, .slice none 0 0, .slice none 0 0] 25)) (.cells #[.int .i64 0, .slice none 0 0, .slice none 0 0] 25)
    rw [show (w.alloc (.cells #[.int .i64 0, .slice none 0 0, .slice none 0 0] 25)).heap.size = X + 1 by simp; omega] at this
    rw [← hW0, Below.heap_alloc _ _ _ (by simp; omega), Below.heap_alloc _ _ _ (by simp; omega), Below.heap_alloc _ _ _ (by simp; omega)]; exact this
  have z2 : W0.heap[X + 1 + 1]? = some (.cells #[.int .i64 0, .slice none 0 0, .slice none 0 0] 25) := by
    have := World.alloc_heap_new ((w.alloc (.cells #[.int .i64 0, .slice none 0 0, .slice none 0 0] 25)).alloc (.cells #[.int .i64 0, .slice none 0 0, .slice none 0 0] 25)) (.cells #[.int .i64 0, .slice none 0 0, .slice none 0 0] 25)
    rw [show ((w.alloc (.cells #[.int .i64 0, .slice none 0 0, .slice none 0 0] 25)).alloc (.cells #[.int .i64 0, .slice none 0 0, .slice none 0 0] 25)).heap.size = X + 1 + 1 by simp; omega] at this
    rw [← hW0, Below.heap_alloc _ _ _ (by simp; omega), Below.heap_alloc _ _ _ (by simp; omega)]; exact this
  have z3 : W0.heap[X + 1 + 1 + 1]? = some (.cells #[.int .i64 0, .slice none 0 0, .slice none 0 0] 25) := by
    have := World.alloc_heap_new (((w.alloc (.cells #[.int .i64 0, .slice none 0 0, .slice none 0 0] 25)).alloc (.cells #[.int .i64 0, .slice none 0 0, .slice none 0 0] 25)).alloc (.cells #[.int .i64 0, .slice none 0 0, .slice none 0 0] 25)) (.cells #[.int .i64 0, .slice none 0 0, .slice none 0 0] 25)
    rw [show (((w.alloc (.cells #[.int .i64 0, .slice none 0 0, .slice none 0 0] 25)).alloc (.cells #[.int .i64 0, .slice none 0 0, .slice none 0 0] 25)).alloc (.cells #[.int .i64 0, .slice none 0 0, .slice none 0 0] 25)).heap.size = X + 1 + 1 + 1 by simp; omega] at this
    rw [← hW0, Below.heap_alloc _ _ _ (by simp; omega)]; exact this
  have z4 : W0.heap[X + 1 + 1 + 1 + 1]? = some (.cells #[.int .i64 0, .slice none 0 0, .slice none 0 0] 25) := by
    have := World.alloc_heap_new ((((w.alloc (.cells #[.int .i64 0, .slice none 0 0, .slice none 0 0] 25)).alloc (.cells #[.int .i64 0, .slice none 0 0, .slice none 0 0] 25)).alloc (.cells #[.int .i64 0, .slice none 0 0, .slice none 0 0] 25)).alloc (.cells #[.int .i64 0, .slice none 0 0, .slice none 0 0] 25)) (.cells #[.int .i64 0, .slice none 0 0, .slice none 0 0] 25)
    rw [show ((((w.alloc (.cells #[.int .i64 0, .slice none 0 0, .slice none 0 0] 25)).alloc (.cells #[.int .i64 0, .slice none 0 0, .slice none 0 0] 25)).alloc (.cells #[.int .i64 0, .slice none 0 0, .slice none 0 0] 25)).alloc (.cells #[.int .i64 0, .slice none 0 0, .slice none 0 0] 25)).heap.size = X + 1 + 1 + 1 + 1 by simp; omega] at this
    rw [← hW0]; exact this
  have c0 : Calls Tryz.prog 96 #[.int .i64 4, .slice (some ⟨X + 1 + 1 + 1 + 1 + 1 + 1 + 1, 0, none⟩) 2 2] (((W0.alloc (.cells #[.int .i64 1, .int .i64 2, .int .i64 3, .int .i64 0] 3)).alloc (.cells #[.int .i64 1, .int .i64 0, .int .i64 2, .int .i64 3] 3)).alloc (.cells #[.slice (some ⟨X + 1 + 1 + 1 + 1 + 1, 0, none⟩) 4 4, .slice (some ⟨X + 1 + 1 + 1 + 1 + 1 + 1, 0, none⟩) 4 4] 27)) _ := mk96 (n := 4) (L := gS4) (by omega) (by decide) (lit_pms2 hs0 (lit_ints (by decide) rfl) (lit_ints (by decide) rfl))
  have HZ := Lib.hid (And.intro hs0 hb0)
  have HC0 := Lib.hid c0
  have HB0 := Lib.hid (And.intro z0 (And.intro z1 (And.intro z2 (And.intro z3 z4))))
  clear hb0 c0 z0 z1 z2 z3 z4
  go_enter Tryz.func38, Tryz.ntmps38
  go_wp2_with (first
    | (go_at_call 96; (try rw [hW0]); refine HC4.out.mono ?_; rintro e1 w5 ⟨a5, c5, b5, d5, rfl, k1, k2⟩; have k0 : Below V4.heap.size V4 w5 := below_trans (alloc_b (alloc_b (Below.refl _ _) _) _) k1; have hge : X + 1 + 1 + 1 + 1 + 1 ≤ V4.heap.size := H4.out.1; have y0 := (k0.block (X) (by omega)).trans HB4.out.1; have y1 := (k0.block (X + 1) (by omega)).trans HB4.out.2.1; have y2 := (k0.block (X + 1 + 1) (by omega)).trans HB4.out.2.2.1; have y3 := (k0.block (X + 1 + 1 + 1) (by omega)).trans HB4.out.2.2.2.1; have y4 := (k0.block (X + 1 + 1 + 1 + 1) (by omega)).trans HB4.out.2.2.2.2; obtain ⟨i0, i1, i2, i3, i4, i5⟩ := box_cells y4; obtain ⟨V5, hV5⟩ : ∃ V, set3 w5 (X + 1 + 1 + 1 + 1) (.int .i64 4) (.slice a5 4 c5) (.slice b5 4 d5) = V := ⟨_, rfl⟩; have hsz : V5.heap.size = w5.heap.size := (congrArg (fun q : World => q.heap.size) hV5).symm.trans (set3_size _ _ _ _ _); have hkk : Kept V4 V5 [X, X + 1, X + 1 + 1, X + 1 + 1 + 1, X + 1 + 1 + 1 + 1] := (Kept.ofBelow k0).trans (hV5 ▸ set3_kept (by simp)); have x0 : V5.heap[X]? = _ := hV5 ▸ (set3_other (by omega)).trans y0; have x1 : V5.heap[X + 1]? = _ := hV5 ▸ (set3_other (by omega)).trans y1; have x2 : V5.heap[X + 1 + 1]? = _ := hV5 ▸ (set3_other (by omega)).trans y2; have x3 : V5.heap[X + 1 + 1 + 1]? = _ := hV5 ▸ (set3_other (by omega)).trans y3; have x4 : V5.heap[X + 1 + 1 + 1 + 1]? = _ := hV5 ▸ set3_box y4; have hG : GrS V5 (.agg #[.int .i64 4, .slice a5 4 c5, .slice b5 4 d5]) (Grp (· ∈ gY2)) [X, X + 1, X + 1 + 1, X + 1 + 1 + 1, X + 1 + 1 + 1 + 1] := (k2 [X, X + 1, X + 1 + 1, X + 1 + 1 + 1, X + 1 + 1 + 1 + 1] (fun m hm => by simp at hm; simp; omega)).kept (hV5 ▸ set3_kept (by simp)); have HB5 := Lib.hid (And.intro x0 (And.intro x1 (And.intro x2 (And.intro x3 x4)))); have H5 := Lib.hid (And.intro (show X + 1 + 1 + 1 + 1 + 1 ≤ V5.heap.size by have := hkk.size; omega) (And.intro hkk hG)); unfold set3 at hV5; clear k0 k1 k2 hkk hG hge x0 x1 x2 x3 x4 y0 y1 y2 y3 y4)
    | (go_at_call 96; (try rw [hW0]); refine HC3.out.mono ?_; rintro e1 w4 ⟨a4, c4, b4, d4, rfl, k1, k2⟩; have k0 : Below V3.heap.size V3 w4 := below_trans (alloc_b (alloc_b (Below.refl _ _) _) _) k1; have hge : X + 1 + 1 + 1 + 1 + 1 ≤ V3.heap.size := H3.out.1; have y0 := (k0.block (X) (by omega)).trans HB3.out.1; have y1 := (k0.block (X + 1) (by omega)).trans HB3.out.2.1; have y2 := (k0.block (X + 1 + 1) (by omega)).trans HB3.out.2.2.1; have y3 := (k0.block (X + 1 + 1 + 1) (by omega)).trans HB3.out.2.2.2.1; have y4 := (k0.block (X + 1 + 1 + 1 + 1) (by omega)).trans HB3.out.2.2.2.2; obtain ⟨i0, i1, i2, i3, i4, i5⟩ := box_cells y3; obtain ⟨V4, hV4⟩ : ∃ V, set3 w4 (X + 1 + 1 + 1) (.int .i64 4) (.slice a4 4 c4) (.slice b4 4 d4) = V := ⟨_, rfl⟩; have hsz : V4.heap.size = w4.heap.size := (congrArg (fun q : World => q.heap.size) hV4).symm.trans (set3_size _ _ _ _ _); have hkk : Kept V3 V4 [X, X + 1, X + 1 + 1, X + 1 + 1 + 1, X + 1 + 1 + 1 + 1] := (Kept.ofBelow k0).trans (hV4 ▸ set3_kept (by simp)); have x0 : V4.heap[X]? = _ := hV4 ▸ (set3_other (by omega)).trans y0; have x1 : V4.heap[X + 1]? = _ := hV4 ▸ (set3_other (by omega)).trans y1; have x2 : V4.heap[X + 1 + 1]? = _ := hV4 ▸ (set3_other (by omega)).trans y2; have x3 : V4.heap[X + 1 + 1 + 1]? = _ := hV4 ▸ set3_box y3; have x4 : V4.heap[X + 1 + 1 + 1 + 1]? = _ := hV4 ▸ (set3_other (by omega)).trans y4; have hG : GrS V4 (.agg #[.int .i64 4, .slice a4 4 c4, .slice b4 4 d4]) (Grp (· ∈ gZ2)) [X, X + 1, X + 1 + 1, X + 1 + 1 + 1, X + 1 + 1 + 1 + 1] := (k2 [X, X + 1, X + 1 + 1, X + 1 + 1 + 1, X + 1 + 1 + 1 + 1] (fun m hm => by simp at hm; simp; omega)).kept (hV4 ▸ set3_kept (by simp)); have HB4 := Lib.hid (And.intro x0 (And.intro x1 (And.intro x2 (And.intro x3 x4)))); have H4 := Lib.hid (And.intro (show X + 1 + 1 + 1 + 1 + 1 ≤ V4.heap.size by have := hkk.size; omega) (And.intro hkk hG)); have c4 : Calls Tryz.prog 96 #[.int .i64 4, .slice (some ⟨w4.heap.size + 1, 0, none⟩) 1 1] ((V4.alloc (.cells #[.int .i64 1, .int .i64 0, .int .i64 2, .int .i64 3] 3)).alloc (.cells #[.slice (some ⟨w4.heap.size, 0, none⟩) 4 4] 27)) _ := mk96 (n := 4) (L := gY2) (by omega) (by decide) (lit_pms1 hsz (lit_ints (by decide) rfl)); have HC4 := Lib.hid c4; clear c4; unfold set3 at hV4; clear k0 k1 k2 hkk hG hge x0 x1 x2 x3 x4 y0 y1 y2 y3 y4)
    | (go_at_call 96; (try rw [hW0]); refine HC2.out.mono ?_; rintro e1 w3 ⟨a3, c3, b3, d3, rfl, k1, k2⟩; have k0 : Below V2.heap.size V2 w3 := below_trans (alloc_b (alloc_b (alloc_b (Below.refl _ _) _) _) _) k1; have hge : X + 1 + 1 + 1 + 1 + 1 ≤ V2.heap.size := H2.out.1; have y0 := (k0.block (X) (by omega)).trans HB2.out.1; have y1 := (k0.block (X + 1) (by omega)).trans HB2.out.2.1; have y2 := (k0.block (X + 1 + 1) (by omega)).trans HB2.out.2.2.1; have y3 := (k0.block (X + 1 + 1 + 1) (by omega)).trans HB2.out.2.2.2.1; have y4 := (k0.block (X + 1 + 1 + 1 + 1) (by omega)).trans HB2.out.2.2.2.2; obtain ⟨i0, i1, i2, i3, i4, i5⟩ := box_cells y2; obtain ⟨V3, hV3⟩ : ∃ V, set3 w3 (X + 1 + 1) (.int .i64 4) (.slice a3 4 c3) (.slice b3 4 d3) = V := ⟨_, rfl⟩; have hsz : V3.heap.size = w3.heap.size := (congrArg (fun q : World => q.heap.size) hV3).symm.trans (set3_size _ _ _ _ _); have hkk : Kept V2 V3 [X, X + 1, X + 1 + 1, X + 1 + 1 + 1, X + 1 + 1 + 1 + 1] := (Kept.ofBelow k0).trans (hV3 ▸ set3_kept (by simp)); have x0 : V3.heap[X]? = _ := hV3 ▸ (set3_other (by omega)).trans y0; have x1 : V3.heap[X + 1]? = _ := hV3 ▸ (set3_other (by omega)).trans y1; have x2 : V3.heap[X + 1 + 1]? = _ := hV3 ▸ set3_box y2; have x3 : V3.heap[X + 1 + 1 + 1]? = _ := hV3 ▸ (set3_other (by omega)).trans y3; have x4 : V3.heap[X + 1 + 1 + 1 + 1]? = _ := hV3 ▸ (set3_other (by omega)).trans y4; have hG : GrS V3 (.agg #[.int .i64 4, .slice a3 4 c3, .slice b3 4 d3]) (Grp (· ∈ gV4)) [X, X + 1, X + 1 + 1, X + 1 + 1 + 1, X + 1 + 1 + 1 + 1] := (k2 [X, X + 1, X + 1 + 1, X + 1 + 1 + 1, X + 1 + 1 + 1 + 1] (fun m hm => by simp at hm; simp; omega)).kept (hV3 ▸ set3_kept (by simp)); have HB3 := Lib.hid (And.intro x0 (And.intro x1 (And.intro x2 (And.intro x3 x4)))); have H3 := Lib.hid (And.intro (show X + 1 + 1 + 1 + 1 + 1 ≤ V3.heap.size by have := hkk.size; omega) (And.intro hkk hG)); have c3 : Calls Tryz.prog 96 #[.int .i64 4, .slice (some ⟨w3.heap.size + 1, 0, none⟩) 1 1] ((V3.alloc (.cells #[.int .i64 0, .int .i64 1, .int .i64 3, .int .i64 2] 3)).alloc (.cells #[.slice (some ⟨w3.heap.size, 0, none⟩) 4 4] 27)) _ := mk96 (n := 4) (L := gZ2) (by omega) (by decide) (lit_pms1 hsz (lit_ints (by decide) rfl)); have HC3 := Lib.hid c3; clear c3; unfold set3 at hV3; clear k0 k1 k2 hkk hG hge x0 x1 x2 x3 x4 y0 y1 y2 y3 y4)
    | (go_at_call 96; (try rw [hW0]); refine HC1.out.mono ?_; rintro e1 w2 ⟨a2, c2, b2, d2, rfl, k1, k2⟩; have k0 : Below V1.heap.size V1 w2 := below_trans (alloc_b (alloc_b (alloc_b (Below.refl _ _) _) _) _) k1; have hge : X + 1 + 1 + 1 + 1 + 1 ≤ V1.heap.size := H1.out.1; have y0 := (k0.block (X) (by omega)).trans HB1.out.1; have y1 := (k0.block (X + 1) (by omega)).trans HB1.out.2.1; have y2 := (k0.block (X + 1 + 1) (by omega)).trans HB1.out.2.2.1; have y3 := (k0.block (X + 1 + 1 + 1) (by omega)).trans HB1.out.2.2.2.1; have y4 := (k0.block (X + 1 + 1 + 1 + 1) (by omega)).trans HB1.out.2.2.2.2; obtain ⟨i0, i1, i2, i3, i4, i5⟩ := box_cells y1; obtain ⟨V2, hV2⟩ : ∃ V, set3 w2 (X + 1) (.int .i64 4) (.slice a2 4 c2) (.slice b2 4 d2) = V := ⟨_, rfl⟩; have hsz : V2.heap.size = w2.heap.size := (congrArg (fun q : World => q.heap.size) hV2).symm.trans (set3_size _ _ _ _ _); have hkk : Kept V1 V2 [X, X + 1, X + 1 + 1, X + 1 + 1 + 1, X + 1 + 1 + 1 + 1] := (Kept.ofBelow k0).trans (hV2 ▸ set3_kept (by simp)); have x0 : V2.heap[X]? = _ := hV2 ▸ (set3_other (by omega)).trans y0; have x1 : V2.heap[X + 1]? = _ := hV2 ▸ set3_box y1; have x2 : V2.heap[X + 1 + 1]? = _ := hV2 ▸ (set3_other (by omega)).trans y2; have x3 : V2.heap[X + 1 + 1 + 1]? = _ := hV2 ▸ (set3_other (by omega)).trans y3; have x4 : V2.heap[X + 1 + 1 + 1 + 1]? = _ := hV2 ▸ (set3_other (by omega)).trans y4; have hG : GrS V2 (.agg #[.int .i64 4, .slice a2 4 c2, .slice b2 4 d2]) (Grp (· ∈ gA4)) [X, X + 1, X + 1 + 1, X + 1 + 1 + 1, X + 1 + 1 + 1 + 1] := (k2 [X, X + 1, X + 1 + 1, X + 1 + 1 + 1, X + 1 + 1 + 1 + 1] (fun m hm => by simp at hm; simp; omega)).kept (hV2 ▸ set3_kept (by simp)); have HB2 := Lib.hid (And.intro x0 (And.intro x1 (And.intro x2 (And.intro x3 x4)))); have H2 := Lib.hid (And.intro (show X + 1 + 1 + 1 + 1 + 1 ≤ V2.heap.size by have := hkk.size; omega) (And.intro hkk hG)); have c2 : Calls Tryz.prog 96 #[.int .i64 4, .slice (some ⟨w2.heap.size + 1 + 1, 0, none⟩) 2 2] (((V2.alloc (.cells #[.int .i64 1, .int .i64 0, .int .i64 3, .int .i64 2] 3)).alloc (.cells #[.int .i64 2, .int .i64 3, .int .i64 0, .int .i64 1] 3)).alloc (.cells #[.slice (some ⟨w2.heap.size, 0, none⟩) 4 4, .slice (some ⟨w2.heap.size + 1, 0, none⟩) 4 4] 27)) _ := mk96 (n := 4) (L := gV4) (by omega) (by decide) (lit_pms2 hsz (lit_ints (by decide) rfl) (lit_ints (by decide) rfl)); have HC2 := Lib.hid c2; clear c2; unfold set3 at hV2; clear k0 k1 k2 hkk hG hge x0 x1 x2 x3 x4 y0 y1 y2 y3 y4)
    | (go_at_call 96; (try rw [hW0]); refine HC0.out.mono ?_; rintro e1 w1 ⟨a1, c1, b1, d1, rfl, k1, k2⟩; have k0 : Below W0.heap.size W0 w1 := below_trans (alloc_b (alloc_b (alloc_b (Below.refl _ _) _) _) _) k1; have hge : X + 1 + 1 + 1 + 1 + 1 ≤ W0.heap.size := Nat.le_of_eq HZ.out.1.symm; have y0 := (k0.block (X) (by omega)).trans HB0.out.1; have y1 := (k0.block (X + 1) (by omega)).trans HB0.out.2.1; have y2 := (k0.block (X + 1 + 1) (by omega)).trans HB0.out.2.2.1; have y3 := (k0.block (X + 1 + 1 + 1) (by omega)).trans HB0.out.2.2.2.1; have y4 := (k0.block (X + 1 + 1 + 1 + 1) (by omega)).trans HB0.out.2.2.2.2; obtain ⟨i0, i1, i2, i3, i4, i5⟩ := box_cells y0; obtain ⟨V1, hV1⟩ : ∃ V, set3 w1 (X) (.int .i64 4) (.slice a1 4 c1) (.slice b1 4 d1) = V := ⟨_, rfl⟩; have hsz : V1.heap.size = w1.heap.size := (congrArg (fun q : World => q.heap.size) hV1).symm.trans (set3_size _ _ _ _ _); have hkk : Kept W0 V1 [X, X + 1, X + 1 + 1, X + 1 + 1 + 1, X + 1 + 1 + 1 + 1] := (Kept.ofBelow k0).trans (hV1 ▸ set3_kept (by simp)); have x0 : V1.heap[X]? = _ := hV1 ▸ set3_box y0; have x1 : V1.heap[X + 1]? = _ := hV1 ▸ (set3_other (by omega)).trans y1; have x2 : V1.heap[X + 1 + 1]? = _ := hV1 ▸ (set3_other (by omega)).trans y2; have x3 : V1.heap[X + 1 + 1 + 1]? = _ := hV1 ▸ (set3_other (by omega)).trans y3; have x4 : V1.heap[X + 1 + 1 + 1 + 1]? = _ := hV1 ▸ (set3_other (by omega)).trans y4; have hG : GrS V1 (.agg #[.int .i64 4, .slice a1 4 c1, .slice b1 4 d1]) (Grp (· ∈ gS4)) [X, X + 1, X + 1 + 1, X + 1 + 1 + 1, X + 1 + 1 + 1 + 1] := (k2 [X, X + 1, X + 1 + 1, X + 1 + 1 + 1, X + 1 + 1 + 1 + 1] (fun m hm => by simp at hm; simp; omega)).kept (hV1 ▸ set3_kept (by simp)); have HB1 := Lib.hid (And.intro x0 (And.intro x1 (And.intro x2 (And.intro x3 x4)))); have H1 := Lib.hid (And.intro (show X + 1 + 1 + 1 + 1 + 1 ≤ V1.heap.size by have := hkk.size; omega) (And.intro hkk hG)); have c1 : Calls Tryz.prog 96 #[.int .i64 4, .slice (some ⟨w1.heap.size + 1 + 1, 0, none⟩) 2 2] (((V1.alloc (.cells #[.int .i64 1, .int .i64 2, .int .i64 0, .int .i64 3] 3)).alloc (.cells #[.int .i64 0, .int .i64 2, .int .i64 3, .int .i64 1] 3)).alloc (.cells #[.slice (some ⟨w1.heap.size, 0, none⟩) 4 4, .slice (some ⟨w1.heap.size + 1, 0, none⟩) 4 4] 27)) _ := mk96 (n := 4) (L := gA4) (by omega) (by decide) (lit_pms2 hsz (lit_ints (by decide) rfl) (lit_ints (by decide) rfl)); have HC1 := Lib.hid c1; clear c1; unfold set3 at hV1; clear k0 k1 k2 hkk hG hge x0 x1 x2 x3 x4 y0 y1 y2 y3 y4))
  obtain ⟨p00, p01, p02, p03, p04, p05⟩ := box_cells HB5.out.1
  obtain ⟨p10, p11, p12, p13, p14, p15⟩ := box_cells HB5.out.2.1
  obtain ⟨p20, p21, p22, p23, p24, p25⟩ := box_cells HB5.out.2.2.1
  obtain ⟨p30, p31, p32, p33, p34, p35⟩ := box_cells HB5.out.2.2.2.1
  obtain ⟨p40, p41, p42, p43, p44, p45⟩ := box_cells HB5.out.2.2.2.2
  clear hV1 hV2 hV3 hV4 hV5 hW0
  go_region
  obtain ⟨WF, hWF⟩ : ∃ WF, WF = (set3 (set3 (set3 (set3 (set3 V5 (X) (.int .i64 4) (.slice a1 4 c1) (.slice b1 4 d1)) (X + 1) (.int .i64 4) (.slice a2 4 c2) (.slice b2 4 d2)) (X + 1 + 1) (.int .i64 4) (.slice a3 4 c3) (.slice b3 4 d3)) (X + 1 + 1 + 1) (.int .i64 4) (.slice a4 4 c4) (.slice b4 4 d4)) (X + 1 + 1 + 1 + 1) (.int .i64 4) (.slice a5 4 c5) (.slice b5 4 d5)) := ⟨_, rfl⟩
  have hkF : Kept V5 WF [X, X + 1, X + 1 + 1, X + 1 + 1 + 1, X + 1 + 1 + 1 + 1] := by rw [hWF]; exact (((((Kept.refl _ _).trans (set3_kept (by simp))).trans (set3_kept (by simp))).trans (set3_kept (by simp))).trans (set3_kept (by simp))).trans (set3_kept (by simp))
  have x0 : WF.heap[X]? = some (.cells #[.int .i64 4, .slice a1 4 c1, .slice b1 4 d1] 25) := by rw [hWF]; exact (set3_other (by omega)).trans ((set3_other (by omega)).trans ((set3_other (by omega)).trans ((set3_other (by omega)).trans (set3_box (HB5.out.1)))))
  have x1 : WF.heap[X + 1]? = some (.cells #[.int .i64 4, .slice a2 4 c2, .slice b2 4 d2] 25) := by rw [hWF]; exact (set3_other (by omega)).trans ((set3_other (by omega)).trans ((set3_other (by omega)).trans (set3_box ((set3_other (by omega)).trans (HB5.out.2.1)))))
  have x2 : WF.heap[X + 1 + 1]? = some (.cells #[.int .i64 4, .slice a3 4 c3, .slice b3 4 d3] 25) := by rw [hWF]; exact (set3_other (by omega)).trans ((set3_other (by omega)).trans (set3_box ((set3_other (by omega)).trans ((set3_other (by omega)).trans (HB5.out.2.2.1)))))
  have x3 : WF.heap[X + 1 + 1 + 1]? = some (.cells #[.int .i64 4, .slice a4 4 c4, .slice b4 4 d4] 25) := by rw [hWF]; exact (set3_other (by omega)).trans (set3_box ((set3_other (by omega)).trans ((set3_other (by omega)).trans ((set3_other (by omega)).trans (HB5.out.2.2.2.1)))))
  have x4 : WF.heap[X + 1 + 1 + 1 + 1]? = some (.cells #[.int .i64 4, .slice a5 4 c5, .slice b5 4 d5] 25) := by rw [hWF]; exact set3_box ((set3_other (by omega)).trans ((set3_other (by omega)).trans ((set3_other (by omega)).trans ((set3_other (by omega)).trans (HB5.out.2.2.2.2)))))
  obtain ⟨f00, f01, f02, _, _, _⟩ := box_cells x0
  obtain ⟨f10, f11, f12, _, _, _⟩ := box_cells x1
  obtain ⟨f20, f21, f22, _, _, _⟩ := box_cells x2
  obtain ⟨f30, f31, f32, _, _, _⟩ := box_cells x3
  obtain ⟨f40, f41, f42, _, _, _⟩ := box_cells x4
  unfold set3 at hWF
  rw [← hWF]
  clear hWF p00 p01 p02 p03 p04 p05 p10 p11 p12 p13 p14 p15 p20 p21 p22 p23 p24 p25 p30 p31 p32 p33 p34 p35 p40 p41 p42 p43 p44 p45
  have HX := Lib.hid hkF
  clear hkF x0 x1 x2 x3 x4
  go_wp2_with fail
  refine bodyPost_ret (v := .tuple #[.agg #[.int .i64 4, .slice a1 4 c1, .slice b1 4 d1], .agg #[.int .i64 4, .slice a2 4 c2, .slice b2 4 d2], .agg #[.int .i64 4, .slice a3 4 c3, .slice b3 4 d3], .agg #[.int .i64 4, .slice a4 4 c4, .slice b4 4 d4], .agg #[.int .i64 4, .slice a5 4 c5, .slice b5 4 d5]]) (by simp [results, Tryz.results38, go_sem, f00, f01, f02, f10, f11, f12, f20, f21, f22, f30, f31, f32, f40, f41, f42]) rfl ?_
  have hbF : Below X w WF := by rw [← hX]; exact HZ.out.2.trans ((H1.out.2.1.trans (H2.out.2.1.trans (H3.out.2.1.trans (H4.out.2.1.trans (H5.out.2.1.trans (HX.out)))))).below (by rw [HZ.out.1, ← hX]; omega) (by rw [← hX]; simp; omega))
  exact ⟨_, _, _, _, _, rfl, (H1.out.2.2.kept (kept_drew (H2.out.2.1.trans (H3.out.2.1.trans (H4.out.2.1.trans (H5.out.2.1.trans (HX.out))))))).now, (H2.out.2.2.kept (kept_drew (H3.out.2.1.trans (H4.out.2.1.trans (H5.out.2.1.trans (HX.out)))))).now, (H3.out.2.2.kept (kept_drew (H4.out.2.1.trans (H5.out.2.1.trans (HX.out))))).now, (H4.out.2.2.kept (kept_drew (H5.out.2.1.trans (HX.out)))).now, (H5.out.2.2.kept (kept_drew (HX.out))).now, below_drew (by rw [hX]; exact hbF)⟩
end Go.Proofs.YtbejhkojdiadaaaGreat
