/- Chapter 11's functions of one chain: the error roads. · The law ClosureCalls walked: both sides agree, whatever the chain and the permutations. -/
import Derived.Test.YtbejhkojdiadaaaGreatCl01
import Derived.Test.YtbejhkojdiadaaaGreatCl02
import Derived.Test.YtbejhkojdiadaaaGreatCl03
import Derived.Test.YtbejhkojdiadaaaGreatCl04
import Derived.Test.YtbejhkojdiadaaaGreatCl05
import Derived.Test.YtbejhkojdiadaaaGreatCl06
import Derived.Test.YtbejhkojdiadaaaGreatCl07
import Derived.Test.YtbejhkojdiadaaaGreatCl08
import Derived.Test.YtbejhkojdiadaaaGreatCl09
import Derived.Test.YtbejhkojdiadaaaGreatCl10
import Derived.Test.YtbejhkojdiadaaaGreatCl11
import Derived.Test.YtbejhkojdiadaaaGreatCl12
import Derived.Test.YtbejhkojdiadaaaGreatCl13
import Derived.Test.YtbejhkojdiadaaaGreatCl14
import Derived.Test.YtbejhkojdiadaaaGreatCl15
import Derived.Test.YtbejhkojdiadaaaGreatCl16
import Derived.Test.YtbejhkojdiadaaaGreatCl17
import Derived.Test.YtbejhkojdiadaaaGreatCl18
import Derived.Test.YtbejhkojdiadaaaGreatCl19
import Derived.Test.YtbejhkojdiadaaaGreatCl20
import Derived.Test.YtbejhkojdiadaaaGreatCl21
import Derived.Test.YtbejhkojdiadaaaGreatCl22
import Derived.Test.YtbejhkojdiadaaaGreatCl23
import Derived.Test.YtbejhkojdiadaaaGreatCl24
import Derived.Test.YtbejhkojdiadaaaGreatCl25
import Derived.Test.YtbejhkojdiadaaaGreatCl26
import Derived.Test.YtbejhkojdiadaaaGreatCl27
import Derived.Test.YtbejhkojdiadaaaGreatCl28
import Derived.Test.YtbejhkojdiadaaaGreatCl29
import Derived.Test.YtbejhkojdiadaaaGreatCl30
import Derived.Test.YtbejhkojdiadaaaGreatProg
import Derived.WalkKit
import Derived.WalkSpells
import Derived.BigQuiet
import Derived.Deep.QuietTactic
import Derived.Deep.LoopGhost
import Derived.Lib.Hide
import Derived.Maps.AppendAt
import Derived.Deep.AppendLies
import Derived.StillTailTactics
import Derived.Laws.CopyOwn
import Derived.Deep.OwnRows
import Derived.Deep.DeepCutAuto
import Derived.Laws.Cover3
import Derived.Deep.RegionHeld3
import Derived.RangeFuncRecord
import Derived.Lib.SlicesSearch
import Derived.RangeFuncBox
import Derived.RangeFuncLeaves
import Derived.RangeFuncWrites
import Derived.RangeFuncFrom
import Derived.Shelf.Abstract
import Derived.OwnWalkIn
import Derived.TacticsInMore
import Derived.LoopNIn
import Derived.LoopIn
import Derived.Shelf.GgSortFunc.Insertion
import Derived.Shelf.SlIter.Collect
import Derived.Shelf.Sort.Plain
import Derived.Deep.RegionLaw
import Derived.ControlIn
import Derived.Deep.AppendSrc
import Derived.Laws.BytesArg
import Derived.Maps.OwnSet
import Derived.Carry
import Derived.Maps.Range
set_option linter.unusedSimpArgs false
set_option linter.unusedVariables false
namespace Go.Proofs.YtbejhkojdiadaaaGreat
open Go.RowKit PlainPm
section
variable {w : World} {v1 : Value} {d : Int} {os : List (List Int)} {rs : List (List (List Int))}
set_option maxRecDepth 100000 in
set_option maxHeartbeats 2000000 in
theorem list87e (h1 : ChV w v1 d os rs) (hE : chkE d os rs ≠ 0) : Calls Tryz.prog 87 #[v1] w fun e w' => e = .returned (.tuple #[.slice none 0 0, .int .i64 (chkE d os rs)]) ∧ Below w.heap.size w w' := by
  have hpr := fun (V : World) (hV : Below w.heap.size w V) => chk56 (h1.below hV)
  obtain ⟨r, hr⟩ : ∃ r, chkE d os rs = r := ⟨_, rfl⟩
  rw [hr] at hpr hE ⊢
  have hne : (r != 0) = true := by simp [hE]
  obtain ⟨a1, b1, c1, e1, rfl, _⟩ := h1
  obtain ⟨X, hX⟩ : ∃ X, w.heap.size = X := ⟨_, rfl⟩
  obtain ⟨W1, hW1⟩ : ∃ W1, w.alloc (.cells #[.int .i64 d, .slice a1 os.length b1, .slice c1 rs.length e1] 25) = W1 := ⟨_, rfl⟩
  have hwW : Below w.heap.size w W1 := hW1 ▸ alloc_b (Below.refl _ _) _
  have k0 : W1.heap[X]? = some (.cells #[.int .i64 d, .slice a1 os.length b1, .slice c1 rs.length e1] 25) := hW1 ▸ box_al25 hX _ _ _
  obtain ⟨x0, x1, x2, _⟩ := box_cells k0
  have HB := Lib.hid (And.intro hpr hwW)
  clear hpr hwW k0 hr hE
  go_enter Tryz.func87, Tryz.ntmps87
  try rw [hX]
  go_wp2_with (go_at_call 56; (with_reducible refine (HB.out.1 _ HB.out.2).mono ?_); rintro e2 w2 ⟨rfl, k⟩; have H2 := Lib.hid (below_trans HB.out.2 k); clear k)
  refine bodyPost_ret (v := .tuple #[.slice none 0 0, .int .i64 r]) (by simp [results, Tryz.results87, go_sem]) rfl ?_
  exact ⟨rfl, by have h := H2.out; rwa [hX] at h⟩
set_option maxRecDepth 100000 in
set_option maxHeartbeats 2000000 in
theorem list125e (h1 : ChV w v1 d os rs) (hE : chkE d os rs ≠ 0) : Calls Tryz.prog 125 #[v1] w fun e w' => e = .returned (.tuple #[.slice none 0 0, .int .i64 (chkE d os rs)]) ∧ Below w.heap.size w w' := by
  have hpr := fun (V : World) (hV : Below w.heap.size w V) => chk54 (h1.below hV)
  obtain ⟨r, hr⟩ : ∃ r, chkE d os rs = r := ⟨_, rfl⟩
  rw [hr] at hpr hE ⊢
  have hne : (r != 0) = true := by simp [hE]
  obtain ⟨a1, b1, c1, e1, rfl, _⟩ := h1
  obtain ⟨X, hX⟩ : ∃ X, w.heap.size = X := ⟨_, rfl⟩
  obtain ⟨W1, hW1⟩ : ∃ W1, ((w.alloc (.cells #[.int .i64 d, .slice a1 os.length b1, .slice c1 rs.length e1] 25)).alloc (.cells #[.slice none 0 0] 44)).alloc (.cells #[.int .i64 0] 30) = W1 := ⟨_, rfl⟩
  have hwW : Below w.heap.size w W1 := hW1 ▸ alloc_b (alloc_b (alloc_b (Below.refl _ _) _) _) _
  have hsz : W1.heap.size = X + 3 := by rw [← hW1]; simp [hX]
  have k0 : W1.heap[X]? = some (.cells #[.int .i64 d, .slice a1 os.length b1, .slice c1 rs.length e1] 25) := by
    rw [← hW1]
    exact ((alloc_b (alloc_b (Below.refl _ _) _) _).block X (by simp; omega)).trans (box_al25 hX _ _ _)
  have k2 : W1.heap[X + 1]? = some (.cells #[.slice none 0 0] 44) := by
    rw [← hW1]
    exact ((alloc_b (Below.refl _ _) _).block (X + 1) (by simp; omega)).trans (al_at (by simp [hX]) _)
  have k3 : W1.heap[X + 1 + 1]? = some (.cells #[.int .i64 0] 30) := by
    rw [← hW1]
    exact al_at (by simp [hX]) _
  obtain ⟨x0, x1, x2, _⟩ := box_cells k0
  have H := Lib.hid (And.intro hpr (And.intro hwW (And.intro k2 (And.intro k3 hsz))))
  clear hpr hwW k0 k2 k3 hr hE hsz
  go_enter Tryz.func125, Tryz.ntmps125
  try simp only [hX]
  go_wp2_with (go_at_call 54; (with_reducible refine (H.out.1 _ H.out.2.1).mono ?_); rintro e2 w2 ⟨rfl, k⟩
               have r2 := (k.block (X + 1) (by have := H.out.2.2.2.2; omega)).trans H.out.2.2.1
               have r3 := (k.block (X + 1 + 1) (by have := H.out.2.2.2.2; omega)).trans H.out.2.2.2.1
               obtain ⟨r2c, r2f⟩ := box1_cells r2
               obtain ⟨r3c, r3f⟩ := box1_cells r3
               have H2 := Lib.hid (And.intro k (And.intro r2 r3)); clear k r2 r3)
  obtain ⟨q2, q3, qk, qo⟩ := two_setG (v := .slice none 0 0) (u := .int .i64 r) (show X + 1 ≠ X + 1 + 1 by omega) H2.out.2.1 H2.out.2.2
  obtain ⟨W6, hW6⟩ : ∃ W6, (w2.setCell ⟨X + 1, 0, none⟩ (.slice none 0 0)).setCell ⟨X + 1 + 1, 0, none⟩ (.int .i64 r) = W6 := ⟨_, rfl⟩
  rw [hW6] at q2 q3 qk qo ⊢
  obtain ⟨c2', _⟩ := box1_cells q2
  obtain ⟨c3', _⟩ := box1_cells q3
  refine bodyPost_ret (v := .tuple #[.slice none 0 0, .int .i64 r]) (by simp [results, Tryz.results125, go_sem, c2', c3']) rfl ?_
  refine ⟨rfl, ?_⟩
  have h := below_trans H.out.2.1 H2.out.1
  have h2 := h.size
  have h3 := h.trans (qk.below (D := w.heap.size) h2 (fun m hm => by
    rcases List.mem_cons.1 hm with e | hm
    · omega
    · rw [List.mem_singleton.1 hm]; omega))
  rwa [hX] at h3
set_option maxRecDepth 100000 in
set_option maxHeartbeats 2000000 in
theorem elems83e (h1 : ChV w v1 d os rs) (hE : chkE d os rs ≠ 0) : Calls Tryz.prog 83 #[v1] w fun e w' => e = .returned (.tuple #[.map none, .int .i64 (chkE d os rs)]) ∧ Below w.heap.size w w' := by
  have hpr := fun (V : World) (hV : Below w.heap.size w V) => list125e (h1.below hV) hE
  obtain ⟨r, hr⟩ : ∃ r, chkE d os rs = r := ⟨_, rfl⟩
  rw [hr] at hpr hE ⊢
  have hne : (r != 0) = true := by simp [hE]
  obtain ⟨a1, b1, c1, e1, rfl, _⟩ := h1
  obtain ⟨X, hX⟩ : ∃ X, w.heap.size = X := ⟨_, rfl⟩
  obtain ⟨W1, hW1⟩ : ∃ W1, w.alloc (.cells #[.int .i64 d, .slice a1 os.length b1, .slice c1 rs.length e1] 25) = W1 := ⟨_, rfl⟩
  have hwW : Below w.heap.size w W1 := hW1 ▸ alloc_b (Below.refl _ _) _
  have k0 : W1.heap[X]? = some (.cells #[.int .i64 d, .slice a1 os.length b1, .slice c1 rs.length e1] 25) := hW1 ▸ box_al25 hX _ _ _
  obtain ⟨x0, x1, x2, _⟩ := box_cells k0
  have HB := Lib.hid (And.intro hpr hwW)
  clear hpr hwW k0 hr hE
  go_enter Tryz.func83, Tryz.ntmps83
  try rw [hX]
  go_wp2_with (go_at_call 125; (with_reducible refine (HB.out.1 _ HB.out.2).mono ?_); rintro e2 w2 ⟨rfl, k⟩; have H2 := Lib.hid (below_trans HB.out.2 k); clear k)
  refine bodyPost_ret (v := .tuple #[.map none, .int .i64 r]) (by simp [results, Tryz.results83, go_sem]) rfl ?_
  exact ⟨rfl, by have h := H2.out; rwa [hX] at h⟩
set_option maxRecDepth 100000 in
set_option maxHeartbeats 2000000 in
theorem ctr36e (h1 : ChV w v1 d os rs) (hE : chkE d os rs ≠ 0) :
    Calls Tryz.prog 36 #[v1] w fun e w' => e = .returned (.tuple #[.agg #[.int .i64 0, .slice none 0 0, .slice none 0 0], .int .i64 (chkE d os rs)]) ∧ Below w.heap.size w w' := by
  have hpr := fun (V : World) (hV : Below w.heap.size w V) => (fun {V : World} (hc : ChV V v1 d os rs) => elems83e hc hE) (h1.below hV)
  obtain ⟨r, hr⟩ : ∃ r, chkE d os rs = r := ⟨_, rfl⟩
  rw [hr] at hpr hE ⊢
  have hne : (r != 0) = true := by simp [hE]
  obtain ⟨a1, b1, c1, e1, rfl, _⟩ := h1
  obtain ⟨X, W1, hX, hW1, hsz, hwW, k0, k1⟩ := prep2 (w := w) (.int .i64 d) (.slice a1 os.length b1) (.slice c1 rs.length e1)
  obtain ⟨x0, x1, x2, _⟩ := box_cells k0
  have HB := Lib.hid (And.intro k0 (And.intro k1 (And.intro hsz (And.intro hwW hX))))
  have HC := Lib.hid hpr
  clear hpr k0 k1 hsz hwW hr hE
  go_enter Tryz.func36, Tryz.ntmps36
  try rw [hX]
  go_wp2_with (first
    | (go_at_call 83; (with_reducible refine (HC.out _ HB.out.2.2.2.1).mono ?_); rintro e2 w2 ⟨rfl, k⟩
       have bb : Below W1.heap.size W1 w2 := k
       have g0 := (bb.block X (by rw [HB.out.2.2.1]; omega)).trans HB.out.1
       have g1 := (bb.block (X + 1) (by rw [HB.out.2.2.1]; omega)).trans HB.out.2.1
       obtain ⟨p10, p11, p12, _⟩ := box_cells g0
       obtain ⟨q10, q11, q12, q13, q14, q15⟩ := box_cells g1
       have H2 := Lib.hid (And.intro bb g1); clear k bb g0 g1))
  have hb9 := below_trans HB.out.2.2.2.1 H2.out.1
  rw [HB.out.2.2.2.2] at hb9
  have HF := Lib.hid (And.intro hb9 H2.out.2)
  clear hb9
  obtain ⟨V, hV, f0, f1, f2, hb8⟩ := zfin HF.out.1 (by omega) HF.out.2
  unfold set3 at hV
  rw [hV]
  exact bodyPost_ret (v := .tuple #[.agg #[.int .i64 0, .slice none 0 0, .slice none 0 0], .int .i64 r]) (by simp [results, Tryz.results36, go_sem, f0, f1, f2]) rfl ⟨rfl, hb8⟩
set_option maxRecDepth 100000 in
set_option maxHeartbeats 2000000 in
theorem ctr37e (h1 : ChV w v1 d os rs) (hE : chkE d os rs ≠ 0) :
    Calls Tryz.prog 37 #[v1] w fun e w' => e = .returned (.tuple #[.agg #[.int .i64 0, .slice none 0 0, .slice none 0 0], .int .i64 (chkE d os rs)]) ∧ Below w.heap.size w w' := by
  have hpr := fun (V : World) (hV : Below w.heap.size w V) => (fun {V : World} (hc : ChV V v1 d os rs) => list87e hc hE) (h1.below hV)
  obtain ⟨r, hr⟩ : ∃ r, chkE d os rs = r := ⟨_, rfl⟩
  rw [hr] at hpr hE ⊢
  have hne : (r != 0) = true := by simp [hE]
  obtain ⟨a1, b1, c1, e1, rfl, _⟩ := h1
  obtain ⟨X, W1, hX, hW1, hsz, hwW, k0, k1⟩ := prep2 (w := w) (.int .i64 d) (.slice a1 os.length b1) (.slice c1 rs.length e1)
  obtain ⟨x0, x1, x2, _⟩ := box_cells k0
  have HB := Lib.hid (And.intro k0 (And.intro k1 (And.intro hsz (And.intro hwW hX))))
  have HC := Lib.hid hpr
  clear hpr k0 k1 hsz hwW hr hE
  go_enter Tryz.func37, Tryz.ntmps37
  try rw [hX]
  go_wp2_with (first
    | (go_at_call 87; (with_reducible refine (HC.out _ HB.out.2.2.2.1).mono ?_); rintro e2 w2 ⟨rfl, k⟩
       have bb : Below W1.heap.size W1 w2 := k
       have g0 := (bb.block X (by rw [HB.out.2.2.1]; omega)).trans HB.out.1
       have g1 := (bb.block (X + 1) (by rw [HB.out.2.2.1]; omega)).trans HB.out.2.1
       obtain ⟨p10, p11, p12, _⟩ := box_cells g0
       obtain ⟨q10, q11, q12, q13, q14, q15⟩ := box_cells g1
       have H2 := Lib.hid (And.intro bb g1); clear k bb g0 g1))
  have hb9 := below_trans HB.out.2.2.2.1 H2.out.1
  rw [HB.out.2.2.2.2] at hb9
  have HF := Lib.hid (And.intro hb9 H2.out.2)
  clear hb9
  obtain ⟨V, hV, f0, f1, f2, hb8⟩ := zfin HF.out.1 (by omega) HF.out.2
  unfold set3 at hV
  rw [hV]
  exact bodyPost_ret (v := .tuple #[.agg #[.int .i64 0, .slice none 0 0, .slice none 0 0], .int .i64 r]) (by simp [results, Tryz.results37, go_sem, f0, f1, f2]) rfl ⟨rfl, hb8⟩
set_option maxRecDepth 100000 in
set_option maxHeartbeats 2000000 in
theorem cnj34e (h1 : ChV w v1 d os rs) (hE : chkE d os rs ≠ 0) (vx : Value) :
    Calls Tryz.prog 34 #[v1, vx] w fun e w' => e = .returned (.tuple #[.agg #[.int .i64 0, .slice none 0 0, .slice none 0 0], .int .i64 (chkE d os rs)]) ∧ Below w.heap.size w w' := by
  have hpr := fun (V : World) (hV : Below w.heap.size w V) => chk54 (h1.below hV)
  obtain ⟨r, hr⟩ : ∃ r, chkE d os rs = r := ⟨_, rfl⟩
  rw [hr] at hpr hE ⊢
  have hne : (r != 0) = true := by simp [hE]
  obtain ⟨a1, b1, c1, e1, rfl, _⟩ := h1
  obtain ⟨X, W1, hX, hW1, hsz, hwW, k0, k1⟩ := prep2 (w := w) (.int .i64 d) (.slice a1 os.length b1) (.slice c1 rs.length e1)
  obtain ⟨x0, x1, x2, _⟩ := box_cells k0
  have HB := Lib.hid (And.intro k0 (And.intro k1 (And.intro hsz (And.intro hwW hX))))
  have HC := Lib.hid hpr
  clear hpr k0 k1 hsz hwW hr hE
  go_enter Tryz.func34, Tryz.ntmps34
  try rw [hX]
  go_wp2_with (first
    | (go_at_call 54; (with_reducible refine (HC.out _ HB.out.2.2.2.1).mono ?_); rintro e2 w2 ⟨rfl, k⟩
       have bb : Below W1.heap.size W1 w2 := k
       have g0 := (bb.block X (by rw [HB.out.2.2.1]; omega)).trans HB.out.1
       have g1 := (bb.block (X + 1) (by rw [HB.out.2.2.1]; omega)).trans HB.out.2.1
       obtain ⟨p10, p11, p12, _⟩ := box_cells g0
       obtain ⟨q10, q11, q12, q13, q14, q15⟩ := box_cells g1
       have H2 := Lib.hid (And.intro bb g1); clear k bb g0 g1))
  have hb9 := below_trans HB.out.2.2.2.1 H2.out.1
  rw [HB.out.2.2.2.2] at hb9
  have HF := Lib.hid (And.intro hb9 H2.out.2)
  clear hb9
  obtain ⟨V, hV, f0, f1, f2, hb8⟩ := zfin HF.out.1 (by omega) HF.out.2
  unfold set3 at hV
  rw [hV]
  exact bodyPost_ret (v := .tuple #[.agg #[.int .i64 0, .slice none 0 0, .slice none 0 0], .int .i64 r]) (by simp [results, Tryz.results34, go_sem, f0, f1, f2]) rfl ⟨rfl, hb8⟩
set_option maxRecDepth 100000 in
set_option maxHeartbeats 2000000 in
theorem cnj35e (h1 : ChV w v1 d os rs) (hE : chkE d os rs ≠ 0) (vx : Value) :
    Calls Tryz.prog 35 #[v1, vx] w fun e w' => e = .returned (.tuple #[.agg #[.int .i64 0, .slice none 0 0, .slice none 0 0], .int .i64 (chkE d os rs)]) ∧ Below w.heap.size w w' := by
  have hpr := fun (V : World) (hV : Below w.heap.size w V) => chk56 (h1.below hV)
  obtain ⟨r, hr⟩ : ∃ r, chkE d os rs = r := ⟨_, rfl⟩
  rw [hr] at hpr hE ⊢
  have hne : (r != 0) = true := by simp [hE]
  obtain ⟨a1, b1, c1, e1, rfl, _⟩ := h1
  obtain ⟨X, W1, hX, hW1, hsz, hwW, k0, k1⟩ := prep2 (w := w) (.int .i64 d) (.slice a1 os.length b1) (.slice c1 rs.length e1)
  obtain ⟨x0, x1, x2, _⟩ := box_cells k0
  have HB := Lib.hid (And.intro k0 (And.intro k1 (And.intro hsz (And.intro hwW hX))))
  have HC := Lib.hid hpr
  clear hpr k0 k1 hsz hwW hr hE
  go_enter Tryz.func35, Tryz.ntmps35
  try rw [hX]
  go_wp2_with (first
    | (go_at_call 56; (with_reducible refine (HC.out _ HB.out.2.2.2.1).mono ?_); rintro e2 w2 ⟨rfl, k⟩
       have bb : Below W1.heap.size W1 w2 := k
       have g0 := (bb.block X (by rw [HB.out.2.2.1]; omega)).trans HB.out.1
       have g1 := (bb.block (X + 1) (by rw [HB.out.2.2.1]; omega)).trans HB.out.2.1
       obtain ⟨p10, p11, p12, _⟩ := box_cells g0
       obtain ⟨q10, q11, q12, q13, q14, q15⟩ := box_cells g1
       have H2 := Lib.hid (And.intro bb g1); clear k bb g0 g1))
  have hb9 := below_trans HB.out.2.2.2.1 H2.out.1
  rw [HB.out.2.2.2.2] at hb9
  have HF := Lib.hid (And.intro hb9 H2.out.2)
  clear hb9
  obtain ⟨V, hV, f0, f1, f2, hb8⟩ := zfin HF.out.1 (by omega) HF.out.2
  unfold set3 at hV
  rw [hV]
  exact bodyPost_ret (v := .tuple #[.agg #[.int .i64 0, .slice none 0 0, .slice none 0 0], .int .i64 r]) (by simp [results, Tryz.results35, go_sem, f0, f1, f2]) rfl ⟨rfl, hb8⟩
set_option maxRecDepth 100000 in
set_option maxHeartbeats 2000000 in
theorem clos32e (h1 : ChV w v1 d os rs) (hE : chkE d os rs ≠ 0) (vx : Value) :
    Calls Tryz.prog 32 #[v1, vx] w fun e w' => e = .returned (.tuple #[.agg #[.int .i64 0, .slice none 0 0, .slice none 0 0], .int .i64 (chkE d os rs)]) ∧ Below w.heap.size w w' := by
  have hpr := fun (V : World) (hV : Below w.heap.size w V) => chk54 (h1.below hV)
  obtain ⟨r, hr⟩ : ∃ r, chkE d os rs = r := ⟨_, rfl⟩
  rw [hr] at hpr hE ⊢
  have hne : (r != 0) = true := by simp [hE]
  obtain ⟨a1, b1, c1, e1, rfl, _⟩ := h1
  obtain ⟨X, W1, hX, hW1, hsz, hwW, k0, k1⟩ := prep2 (w := w) (.int .i64 d) (.slice a1 os.length b1) (.slice c1 rs.length e1)
  obtain ⟨x0, x1, x2, _⟩ := box_cells k0
  have HB := Lib.hid (And.intro k0 (And.intro k1 (And.intro hsz (And.intro hwW hX))))
  have HC := Lib.hid hpr
  clear hpr k0 k1 hsz hwW hr hE
  go_enter Tryz.func32, Tryz.ntmps32
  try rw [hX]
  go_wp2_with (first
    | (go_at_call 54; (with_reducible refine (HC.out _ HB.out.2.2.2.1).mono ?_); rintro e2 w2 ⟨rfl, k⟩
       have bb : Below W1.heap.size W1 w2 := k
       have g0 := (bb.block X (by rw [HB.out.2.2.1]; omega)).trans HB.out.1
       have g1 := (bb.block (X + 1) (by rw [HB.out.2.2.1]; omega)).trans HB.out.2.1
       obtain ⟨p10, p11, p12, _⟩ := box_cells g0
       obtain ⟨q10, q11, q12, q13, q14, q15⟩ := box_cells g1
       have H2 := Lib.hid (And.intro bb g1); clear k bb g0 g1))
  have hb9 := below_trans HB.out.2.2.2.1 H2.out.1
  rw [HB.out.2.2.2.2] at hb9
  have HF := Lib.hid (And.intro hb9 H2.out.2)
  clear hb9
  obtain ⟨V, hV, f0, f1, f2, hb8⟩ := zfin HF.out.1 (by omega) HF.out.2
  unfold set3 at hV
  rw [hV]
  exact bodyPost_ret (v := .tuple #[.agg #[.int .i64 0, .slice none 0 0, .slice none 0 0], .int .i64 r]) (by simp [results, Tryz.results32, go_sem, f0, f1, f2]) rfl ⟨rfl, hb8⟩
set_option maxRecDepth 100000 in
set_option maxHeartbeats 2000000 in
theorem clos33e (h1 : ChV w v1 d os rs) (hE : chkE d os rs ≠ 0) (vx : Value) :
    Calls Tryz.prog 33 #[v1, vx] w fun e w' => e = .returned (.tuple #[.agg #[.int .i64 0, .slice none 0 0, .slice none 0 0], .int .i64 (chkE d os rs)]) ∧ Below w.heap.size w w' := by
  have hpr := fun (V : World) (hV : Below w.heap.size w V) => chk56 (h1.below hV)
  obtain ⟨r, hr⟩ : ∃ r, chkE d os rs = r := ⟨_, rfl⟩
  rw [hr] at hpr hE ⊢
  have hne : (r != 0) = true := by simp [hE]
  obtain ⟨a1, b1, c1, e1, rfl, _⟩ := h1
  obtain ⟨X, W1, hX, hW1, hsz, hwW, k0, k1⟩ := prep2 (w := w) (.int .i64 d) (.slice a1 os.length b1) (.slice c1 rs.length e1)
  obtain ⟨x0, x1, x2, _⟩ := box_cells k0
  have HB := Lib.hid (And.intro k0 (And.intro k1 (And.intro hsz (And.intro hwW hX))))
  have HC := Lib.hid hpr
  clear hpr k0 k1 hsz hwW hr hE
  go_enter Tryz.func33, Tryz.ntmps33
  try rw [hX]
  go_wp2_with (first
    | (go_at_call 56; (with_reducible refine (HC.out _ HB.out.2.2.2.1).mono ?_); rintro e2 w2 ⟨rfl, k⟩
       have bb : Below W1.heap.size W1 w2 := k
       have g0 := (bb.block X (by rw [HB.out.2.2.1]; omega)).trans HB.out.1
       have g1 := (bb.block (X + 1) (by rw [HB.out.2.2.1]; omega)).trans HB.out.2.1
       obtain ⟨p10, p11, p12, _⟩ := box_cells g0
       obtain ⟨q10, q11, q12, q13, q14, q15⟩ := box_cells g1
       have H2 := Lib.hid (And.intro bb g1); clear k bb g0 g1))
  have hb9 := below_trans HB.out.2.2.2.1 H2.out.1
  rw [HB.out.2.2.2.2] at hb9
  have HF := Lib.hid (And.intro hb9 H2.out.2)
  clear hb9
  obtain ⟨V, hV, f0, f1, f2, hb8⟩ := zfin HF.out.1 (by omega) HF.out.2
  unfold set3 at hV
  rw [hV]
  exact bodyPost_ret (v := .tuple #[.agg #[.int .i64 0, .slice none 0 0, .slice none 0 0], .int .i64 r]) (by simp [results, Tryz.results33, go_sem, f0, f1, f2]) rfl ⟨rfl, hb8⟩
set_option maxRecDepth 100000 in
set_option maxHeartbeats 2000000 in
theorem cnj34p (h1 : ChV w v1 d os rs) (h0 : chkE d os rs = 0) {a : Option Addr} {c : Nat} {p : List Int} (hx : Ints w a p) (hE : chkPerm p ≠ 0) :
    Calls Tryz.prog 34 #[v1, .slice a p.length c] w fun e w' => e = .returned (.tuple #[.agg #[.int .i64 0, .slice none 0 0, .slice none 0 0], .int .i64 (chkPerm p)]) ∧ Below w.heap.size w w' := by
  have hpr := fun (V : World) (hV : Below w.heap.size w V) => chk54 (h1.below hV)
  rw [h0] at hpr
  have hpc := fun (V : World) (hV : Below w.heap.size w V) => perm_calls (c := c) (hx.below hV)
  obtain ⟨r, hr⟩ : ∃ r, chkPerm p = r := ⟨_, rfl⟩
  rw [hr] at hpc hE ⊢
  have hne : (r != 0) = true := by simp [hE]
  obtain ⟨a1, b1, c1, e1, rfl, _⟩ := h1
  obtain ⟨X, W1, hX, hW1, hsz, hwW, k0, k1⟩ := prep2 (w := w) (.int .i64 d) (.slice a1 os.length b1) (.slice c1 rs.length e1)
  obtain ⟨x0, x1, x2, _⟩ := box_cells k0
  have HB := Lib.hid (And.intro k0 (And.intro k1 (And.intro hsz (And.intro hwW hX))))
  have HC := Lib.hid (And.intro hpr hpc)
  clear hpr hpc k0 k1 hsz hwW hr hE h0 hx
  go_enter Tryz.func34, Tryz.ntmps34
  try rw [hX]
  go_wp2_with (first
    | (go_at_call 92; (with_reducible refine (HC.out.2 _ (below_trans HB.out.2.2.2.1 H2.out.1)).mono ?_); rintro e3 w3 ⟨rfl, k⟩
       have bb : Below W1.heap.size W1 w3 := below_trans H2.out.1 k
       have g0 := (bb.block X (by rw [HB.out.2.2.1]; omega)).trans HB.out.1
       have g1 := (bb.block (X + 1) (by rw [HB.out.2.2.1]; omega)).trans HB.out.2.1
       obtain ⟨p20, p21, p22, _⟩ := box_cells g0
       obtain ⟨q20, q21, q22, q23, q24, q25⟩ := box_cells g1
       have H3 := Lib.hid (And.intro bb g1); clear k bb g0 g1)
    | (go_at_call 54; (with_reducible refine (HC.out.1 _ HB.out.2.2.2.1).mono ?_); rintro e2 w2 ⟨rfl, k⟩
       have bb : Below W1.heap.size W1 w2 := k
       have g0 := (bb.block X (by rw [HB.out.2.2.1]; omega)).trans HB.out.1
       have g1 := (bb.block (X + 1) (by rw [HB.out.2.2.1]; omega)).trans HB.out.2.1
       obtain ⟨p10, p11, p12, _⟩ := box_cells g0
       obtain ⟨q10, q11, q12, q13, q14, q15⟩ := box_cells g1
       have H2 := Lib.hid (And.intro bb g1); clear k bb g0 g1))
  have hb9 := below_trans HB.out.2.2.2.1 H3.out.1
  rw [HB.out.2.2.2.2] at hb9
  have HF := Lib.hid (And.intro hb9 H3.out.2)
  clear hb9
  obtain ⟨V, hV, f0, f1, f2, hb8⟩ := zfin HF.out.1 (by omega) HF.out.2
  unfold set3 at hV
  rw [hV]
  exact bodyPost_ret (v := .tuple #[.agg #[.int .i64 0, .slice none 0 0, .slice none 0 0], .int .i64 r]) (by simp [results, Tryz.results34, go_sem, f0, f1, f2]) rfl ⟨rfl, hb8⟩
set_option maxRecDepth 100000 in
set_option maxHeartbeats 2000000 in
theorem cnj34t (h1 : ChV w v1 d os rs) (h0 : chkE d os rs = 0) {a : Option Addr} {c : Nat} {p : List Int} (hx : Ints w a p) (hz : chkPerm p = 0) (hE : (p.length : Int) ≠ d) :
    Calls Tryz.prog 34 #[v1, .slice a p.length c] w fun e w' => e = .returned (.tuple #[.agg #[.int .i64 0, .slice none 0 0, .slice none 0 0], .int .i64 10]) ∧ Below w.heap.size w w' := by
  have hpr := fun (V : World) (hV : Below w.heap.size w V) => chk54 (h1.below hV)
  rw [h0] at hpr
  have hpc := fun (V : World) (hV : Below w.heap.size w V) => perm_calls (c := c) (hx.below hV)
  rw [hz] at hpc
  obtain ⟨lp, hlp⟩ : ∃ l, p.length = l := ⟨_, rfl⟩
  rw [hlp] at hpc hE ⊢
  have hne : ((lp : Int) != d) = true := by simp [hE]
  obtain ⟨a1, b1, c1, e1, rfl, _⟩ := h1
  obtain ⟨X, W1, hX, hW1, hsz, hwW, k0, k1⟩ := prep2 (w := w) (.int .i64 d) (.slice a1 os.length b1) (.slice c1 rs.length e1)
  obtain ⟨x0, x1, x2, _⟩ := box_cells k0
  have HB := Lib.hid (And.intro k0 (And.intro k1 (And.intro hsz (And.intro hwW hX))))
  have HC := Lib.hid (And.intro hpr hpc)
  clear hpr hpc k0 k1 hsz hwW hE h0 hx hz hlp
  go_enter Tryz.func34, Tryz.ntmps34
  try rw [hX]
  go_wp2_with (first
    | (go_at_call 92; (with_reducible refine (HC.out.2 _ (below_trans HB.out.2.2.2.1 H2.out.1)).mono ?_); rintro e3 w3 ⟨rfl, k⟩
       have bb : Below W1.heap.size W1 w3 := below_trans H2.out.1 k
       have g0 := (bb.block X (by rw [HB.out.2.2.1]; omega)).trans HB.out.1
       have g1 := (bb.block (X + 1) (by rw [HB.out.2.2.1]; omega)).trans HB.out.2.1
       obtain ⟨p20, p21, p22, _⟩ := box_cells g0
       obtain ⟨q20, q21, q22, q23, q24, q25⟩ := box_cells g1
       have H3 := Lib.hid (And.intro bb g1); clear k bb g0 g1)
    | (go_at_call 54; (with_reducible refine (HC.out.1 _ HB.out.2.2.2.1).mono ?_); rintro e2 w2 ⟨rfl, k⟩
       have bb : Below W1.heap.size W1 w2 := k
       have g0 := (bb.block X (by rw [HB.out.2.2.1]; omega)).trans HB.out.1
       have g1 := (bb.block (X + 1) (by rw [HB.out.2.2.1]; omega)).trans HB.out.2.1
       obtain ⟨p10, p11, p12, _⟩ := box_cells g0
       obtain ⟨q10, q11, q12, q13, q14, q15⟩ := box_cells g1
       have H2 := Lib.hid (And.intro bb g1); clear k bb g0 g1))
  have hb9 := below_trans HB.out.2.2.2.1 H3.out.1
  rw [HB.out.2.2.2.2] at hb9
  have HF := Lib.hid (And.intro hb9 H3.out.2)
  clear hb9
  obtain ⟨V, hV, f0, f1, f2, hb8⟩ := zfin HF.out.1 (by omega) HF.out.2
  unfold set3 at hV
  rw [hV]
  exact bodyPost_ret (v := .tuple #[.agg #[.int .i64 0, .slice none 0 0, .slice none 0 0], .int .i64 10]) (by simp [results, Tryz.results34, go_sem, f0, f1, f2]) rfl ⟨rfl, hb8⟩
set_option maxRecDepth 100000 in
set_option maxHeartbeats 2000000 in
theorem cnj35p (h1 : ChV w v1 d os rs) (h0 : chkE d os rs = 0) {a : Option Addr} {c : Nat} {p : List Int} (hx : Ints w a p) (hE : chkPerm p ≠ 0) :
    Calls Tryz.prog 35 #[v1, .slice a p.length c] w fun e w' => e = .returned (.tuple #[.agg #[.int .i64 0, .slice none 0 0, .slice none 0 0], .int .i64 (chkPerm p)]) ∧ Below w.heap.size w w' := by
  have hpr := fun (V : World) (hV : Below w.heap.size w V) => chk56 (h1.below hV)
  rw [h0] at hpr
  have hpc := fun (V : World) (hV : Below w.heap.size w V) => rperm_calls (c := c) (hx.below hV)
  obtain ⟨r, hr⟩ : ∃ r, chkPerm p = r := ⟨_, rfl⟩
  rw [hr] at hpc hE ⊢
  have hne : (r != 0) = true := by simp [hE]
  obtain ⟨a1, b1, c1, e1, rfl, _⟩ := h1
  obtain ⟨X, W1, hX, hW1, hsz, hwW, k0, k1⟩ := prep2 (w := w) (.int .i64 d) (.slice a1 os.length b1) (.slice c1 rs.length e1)
  obtain ⟨x0, x1, x2, _⟩ := box_cells k0
  have HB := Lib.hid (And.intro k0 (And.intro k1 (And.intro hsz (And.intro hwW hX))))
  have HC := Lib.hid (And.intro hpr hpc)
  clear hpr hpc k0 k1 hsz hwW hr hE h0 hx
  go_enter Tryz.func35, Tryz.ntmps35
  try rw [hX]
  go_wp2_with (first
    | (go_at_call 91; (with_reducible refine (HC.out.2 _ (below_trans HB.out.2.2.2.1 H2.out.1)).mono ?_); rintro e3 w3 ⟨rfl, k⟩
       have bb : Below W1.heap.size W1 w3 := below_trans H2.out.1 k
       have g0 := (bb.block X (by rw [HB.out.2.2.1]; omega)).trans HB.out.1
       have g1 := (bb.block (X + 1) (by rw [HB.out.2.2.1]; omega)).trans HB.out.2.1
       obtain ⟨p20, p21, p22, _⟩ := box_cells g0
       obtain ⟨q20, q21, q22, q23, q24, q25⟩ := box_cells g1
       have H3 := Lib.hid (And.intro bb g1); clear k bb g0 g1)
    | (go_at_call 56; (with_reducible refine (HC.out.1 _ HB.out.2.2.2.1).mono ?_); rintro e2 w2 ⟨rfl, k⟩
       have bb : Below W1.heap.size W1 w2 := k
       have g0 := (bb.block X (by rw [HB.out.2.2.1]; omega)).trans HB.out.1
       have g1 := (bb.block (X + 1) (by rw [HB.out.2.2.1]; omega)).trans HB.out.2.1
       obtain ⟨p10, p11, p12, _⟩ := box_cells g0
       obtain ⟨q10, q11, q12, q13, q14, q15⟩ := box_cells g1
       have H2 := Lib.hid (And.intro bb g1); clear k bb g0 g1))
  have hb9 := below_trans HB.out.2.2.2.1 H3.out.1
  rw [HB.out.2.2.2.2] at hb9
  have HF := Lib.hid (And.intro hb9 H3.out.2)
  clear hb9
  obtain ⟨V, hV, f0, f1, f2, hb8⟩ := zfin HF.out.1 (by omega) HF.out.2
  unfold set3 at hV
  rw [hV]
  exact bodyPost_ret (v := .tuple #[.agg #[.int .i64 0, .slice none 0 0, .slice none 0 0], .int .i64 r]) (by simp [results, Tryz.results35, go_sem, f0, f1, f2]) rfl ⟨rfl, hb8⟩
set_option maxRecDepth 100000 in
set_option maxHeartbeats 2000000 in
theorem cnj35t (h1 : ChV w v1 d os rs) (h0 : chkE d os rs = 0) {a : Option Addr} {c : Nat} {p : List Int} (hx : Ints w a p) (hz : chkPerm p = 0) (hE : (p.length : Int) ≠ d) :
    Calls Tryz.prog 35 #[v1, .slice a p.length c] w fun e w' => e = .returned (.tuple #[.agg #[.int .i64 0, .slice none 0 0, .slice none 0 0], .int .i64 10]) ∧ Below w.heap.size w w' := by
  have hpr := fun (V : World) (hV : Below w.heap.size w V) => chk56 (h1.below hV)
  rw [h0] at hpr
  have hpc := fun (V : World) (hV : Below w.heap.size w V) => rperm_calls (c := c) (hx.below hV)
  rw [hz] at hpc
  obtain ⟨lp, hlp⟩ : ∃ l, p.length = l := ⟨_, rfl⟩
  rw [hlp] at hpc hE ⊢
  have hne : ((lp : Int) != d) = true := by simp [hE]
  obtain ⟨a1, b1, c1, e1, rfl, _⟩ := h1
  obtain ⟨X, W1, hX, hW1, hsz, hwW, k0, k1⟩ := prep2 (w := w) (.int .i64 d) (.slice a1 os.length b1) (.slice c1 rs.length e1)
  obtain ⟨x0, x1, x2, _⟩ := box_cells k0
  have HB := Lib.hid (And.intro k0 (And.intro k1 (And.intro hsz (And.intro hwW hX))))
  have HC := Lib.hid (And.intro hpr hpc)
  clear hpr hpc k0 k1 hsz hwW hE h0 hx hz hlp
  go_enter Tryz.func35, Tryz.ntmps35
  try rw [hX]
  go_wp2_with (first
    | (go_at_call 91; (with_reducible refine (HC.out.2 _ (below_trans HB.out.2.2.2.1 H2.out.1)).mono ?_); rintro e3 w3 ⟨rfl, k⟩
       have bb : Below W1.heap.size W1 w3 := below_trans H2.out.1 k
       have g0 := (bb.block X (by rw [HB.out.2.2.1]; omega)).trans HB.out.1
       have g1 := (bb.block (X + 1) (by rw [HB.out.2.2.1]; omega)).trans HB.out.2.1
       obtain ⟨p20, p21, p22, _⟩ := box_cells g0
       obtain ⟨q20, q21, q22, q23, q24, q25⟩ := box_cells g1
       have H3 := Lib.hid (And.intro bb g1); clear k bb g0 g1)
    | (go_at_call 56; (with_reducible refine (HC.out.1 _ HB.out.2.2.2.1).mono ?_); rintro e2 w2 ⟨rfl, k⟩
       have bb : Below W1.heap.size W1 w2 := k
       have g0 := (bb.block X (by rw [HB.out.2.2.1]; omega)).trans HB.out.1
       have g1 := (bb.block (X + 1) (by rw [HB.out.2.2.1]; omega)).trans HB.out.2.1
       obtain ⟨p10, p11, p12, _⟩ := box_cells g0
       obtain ⟨q10, q11, q12, q13, q14, q15⟩ := box_cells g1
       have H2 := Lib.hid (And.intro bb g1); clear k bb g0 g1))
  have hb9 := below_trans HB.out.2.2.2.1 H3.out.1
  rw [HB.out.2.2.2.2] at hb9
  have HF := Lib.hid (And.intro hb9 H3.out.2)
  clear hb9
  obtain ⟨V, hV, f0, f1, f2, hb8⟩ := zfin HF.out.1 (by omega) HF.out.2
  unfold set3 at hV
  rw [hV]
  exact bodyPost_ret (v := .tuple #[.agg #[.int .i64 0, .slice none 0 0, .slice none 0 0], .int .i64 10]) (by simp [results, Tryz.results35, go_sem, f0, f1, f2]) rfl ⟨rfl, hb8⟩
set_option maxRecDepth 100000 in
set_option maxHeartbeats 2000000 in
theorem clos33l (h1 : ChV w v1 d os rs) (h0 : chkE d os rs = 0) {a : Option Addr} {m c : Nat} (hm : 4096 < m) (hm2 : m ≤ 9223372036854775807) :
    Calls Tryz.prog 33 #[v1, .slice a m c] w fun e w' => e = .returned (.tuple #[.agg #[.int .i64 0, .slice none 0 0, .slice none 0 0], .int .i64 4]) ∧ Below w.heap.size w w' := by
  have hpr := fun (V : World) (hV : Below w.heap.size w V) => chk56 (h1.below hV)
  rw [h0] at hpr
  have hl1 : decide ((4096 : Int) < m) = true := by simp; omega
  have hl2 : decide (4096 < m) = true := by simp [hm]
  obtain ⟨a1, b1, c1, e1, rfl, _⟩ := h1
  obtain ⟨X, W1, hX, hW1, hsz, hwW, k0, k1⟩ := prep2 (w := w) (.int .i64 d) (.slice a1 os.length b1) (.slice c1 rs.length e1)
  obtain ⟨x0, x1, x2, _⟩ := box_cells k0
  have HB := Lib.hid (And.intro k0 (And.intro k1 (And.intro hsz (And.intro hwW hX))))
  have HC := Lib.hid hpr
  clear hpr k0 k1 hsz hwW h0 hm
  go_enter Tryz.func33, Tryz.ntmps33
  try rw [hX]
  go_wp2_with (first
    | (go_at_call 56; (with_reducible refine (HC.out _ HB.out.2.2.2.1).mono ?_); rintro e2 w2 ⟨rfl, k⟩
       have bb : Below W1.heap.size W1 w2 := k
       have g0 := (bb.block X (by rw [HB.out.2.2.1]; omega)).trans HB.out.1
       have g1 := (bb.block (X + 1) (by rw [HB.out.2.2.1]; omega)).trans HB.out.2.1
       obtain ⟨p10, p11, p12, _⟩ := box_cells g0
       obtain ⟨q10, q11, q12, q13, q14, q15⟩ := box_cells g1
       have H2 := Lib.hid (And.intro bb g1); clear k bb g0 g1))
  have hb9 := below_trans HB.out.2.2.2.1 H2.out.1
  rw [HB.out.2.2.2.2] at hb9
  have HF := Lib.hid (And.intro hb9 H2.out.2)
  clear hb9
  obtain ⟨V, hV, f0, f1, f2, hb8⟩ := zfin HF.out.1 (by omega) HF.out.2
  unfold set3 at hV
  rw [hV]
  exact bodyPost_ret (v := .tuple #[.agg #[.int .i64 0, .slice none 0 0, .slice none 0 0], .int .i64 4]) (by simp [results, Tryz.results33, go_sem, f0, f1, f2]) rfl ⟨rfl, hb8⟩
end
end Go.Proofs.YtbejhkojdiadaaaGreat
namespace Go.Proofs.YtbejhkojdiadaaaGreat
open Go.RowKit PlainPm
section
variable {w : World} {v1 : Value} {d : Int} {os : List (List Int)} {rs : List (List (List Int))}
theorem clos_two (h1 : ChV w v1 d os rs) (c1 : CapV w v1) (hd1 : ¬ (7 < d ∧ d ≤ 64)) {a : Option Addr} {m c : Nat} (hl : (4096 < m ∧ m ≤ 9223372036854775807) ∨ ∃ ps, Rows w a ps ∧ ps.length = m ∧ m ≤ 4096) : TwoK w 32 33 #[v1, .slice a m c] := by
  by_cases hE : chkE d os rs = 0
  · obtain ⟨n, rfl, hn0, hn64, k1⟩ := chk_valid hE
    rcases hl with ⟨hm, hm2⟩ | ⟨ps, hr, rfl, hm⟩
    · exact TwoK.bad (E := 4) (fun V hV => clos32x (h1.below hV) hE (by decide) fun V' _ => mk90l ⟨hn0, hn64⟩ hm hm2) (fun V hV => clos33l (h1.below hV) hE hm hm2)
    · by_cases hf : flE n ps = 0
      · obtain ⟨L, rfl⟩ := flE_pm ⟨hn0, hn64⟩ hf
        have q1 := grg_of h1 c1 k1
        have hp := rows_pms (c := c) hn0 hr
        rw [List.length_map] at hm ⊢
        exact TwoK.good (G := NcG (· ∈ L) (Grp (· ∈ grpV n os rs))) NcG.isG (fun V hV => clos32 ⟨hn0, by omega⟩ Grp.isG (q1.below hV) rfl hm (hp.below hV)) (fun V hV => clos33 ⟨hn0, by omega⟩ Grp.isG (q1.below hV) rfl hm (hp.below hV))
      · exact TwoK.bad (fun V hV => clos32x (h1.below hV) hE hf fun V' hV' => mk90e ⟨hn0, hn64⟩ hm ((hr.below hV).below hV') hf) (fun V hV => clos33f ⟨hn0, hn64⟩ (h1.below hV) hE (hr.below hV) hm hf)
  · exact TwoK.bad (fun V hV => clos32e (h1.below hV) hE _) (fun V hV => clos33e (h1.below hV) hE _)
theorem conj_two (h1 : ChV w v1 d os rs) (c1 : CapV w v1) (hd1 : ¬ (7 < d ∧ d ≤ 64)) {a : Option Addr} {c : Nat} {p : List Int} (hp : Ints w a p) : TwoK w 34 35 #[v1, .slice a p.length c] := by
  by_cases hE : chkE d os rs = 0
  · by_cases hz : chkPerm p = 0
    · obtain ⟨n, rfl, hn0, hn64, k1⟩ := chk_valid hE
      by_cases hl : p.length = n
      · obtain ⟨x, rfl⟩ : ∃ x : Pm n, x.l = p := ⟨⟨p, (chk_iff hl hn0 hn64).1 hz⟩, rfl⟩
        have q1 := grg_of h1 c1 k1
        have hx := pm_of_ints (c := c) hn0 hp
        rw [x.ok.1]
        exact TwoK.good (G := CjG (Grp (· ∈ grpV n os rs)) x) (CjG.isG Grp.isG x) (fun V hV => cnj34 ⟨hn0, by omega⟩ Grp.isG (q1.below hV) (hx.below hV)) (fun V hV => cnj35 ⟨hn0, by omega⟩ Grp.isG (q1.below hV) (hx.below hV))
      · exact TwoK.bad (fun V hV => cnj34t (h1.below hV) hE (hp.below hV) hz (by omega)) (fun V hV => cnj35t (h1.below hV) hE (hp.below hV) hz (by omega))
    · exact TwoK.bad (fun V hV => cnj34p (h1.below hV) hE (hp.below hV) hz) (fun V hV => cnj35p (h1.below hV) hE (hp.below hV) hz)
  · exact TwoK.bad (fun V hV => cnj34e (h1.below hV) hE _) (fun V hV => cnj35e (h1.below hV) hE _)
theorem ctr_two (h1 : ChV w v1 d os rs) (c1 : CapV w v1) (hd1 : ¬ (7 < d ∧ d ≤ 64)) : TwoK w 36 37 #[v1] := by
  by_cases hE : chkE d os rs = 0
  · obtain ⟨n, rfl, hn0, hn64, k1⟩ := chk_valid hE
    have q1 := grg_of h1 c1 k1
    have h7 : n ≤ 7 := by omega
    exact TwoK.good (G := CtG (Grp (· ∈ grpV n os rs))) (CtG.isG Grp.isG) (fun V hV => ctr36 ⟨hn0, by omega⟩ Grp.isG (q1.below hV) (fun O R hc => hc.sz7 h7)) (fun V hV => ctr37 ⟨hn0, by omega⟩ Grp.isG (q1.below hV) (fun O R hc => hc.sz7 h7))
  · exact TwoK.bad (fun V hV => ctr36e (h1.below hV) hE) (fun V hV => ctr37e (h1.below hV) hE)
end
set_option maxRecDepth 100000 in
set_option maxHeartbeats 16000000 in
theorem closureCallsW {w : World} {v1 : Value} {d : Int} {os : List (List Int)} {rs : List (List (List Int))} {la xa : Option Addr} {lc xc : Nat} {ps : List (List Int)} {p : List Int} (many : Bool) (h1 : ChV w v1 d os rs) (c1 : CapV w v1) (hl : Rows w la ps) (hp : Ints w xa p) :
    Calls Tryz.prog 5 #[v1, .slice la ps.length lc, .slice xa p.length xc, .bool many] w fun e w' => e = .returned (.bool true) ∧ Below w.heap.size w w' := by
  obtain ⟨i27, hi27, hz27, hs27, hb27⟩ := info_parts Tryz.info27
  have I27 := Lib.hid (And.intro hi27 (And.intro hz27 (And.intro hs27 hb27)))
  clear hi27 hz27 hs27 hb27
  have hv1 := fun (V : World) (hV : Below w.heap.size w V) => vast21 (h1.below hV)
  have f1 := fun hd {a : Option Addr} {m c : Nat} hl => clos_two h1 c1 hd (a := a) (m := m) (c := c) hl
  have f2 := fun hd => conj_two (c := xc) h1 c1 hd hp
  have f3 := ctr_two h1 c1
  obtain ⟨a1, cc1, b1, e1, rfl, _⟩ := h1
  obtain ⟨lo1, hlo1⟩ : ∃ l, os.length = l := ⟨_, rfl⟩
  obtain ⟨lr1, hlr1⟩ : ∃ l, rs.length = l := ⟨_, rfl⟩
  obtain ⟨m, hm⟩ : ∃ m, ps.length = m := ⟨_, rfl⟩
  obtain ⟨lp, hlp⟩ : ∃ l, p.length = l := ⟨_, rfl⟩
  rw [hlo1, hlr1] at hv1 f1 f2 f3 ⊢
  rw [hlp] at f2 ⊢
  rw [hm]
  obtain ⟨X, hX⟩ : ∃ X, w.heap.size = X := ⟨_, rfl⟩
  obtain ⟨W1, hW1⟩ : ∃ W1, w.alloc (.cells #[.int .i64 d, .slice a1 lo1 cc1, .slice b1 lr1 e1] 25) = W1 := ⟨_, rfl⟩
  have hwW : Below w.heap.size w W1 := hW1 ▸ alloc_b (Below.refl _ _) _
  have k0 : W1.heap[X]? = some (.cells #[.int .i64 d, .slice a1 lo1 cc1, .slice b1 lr1 e1] 25) := hW1 ▸ box_al25 hX _ _ _
  obtain ⟨x0, x1, x2, _⟩ := box_cells k0
  have hx1 := And.intro x0 (And.intro x1 (And.intro x2 (Below.refl W1.heap.size W1)))
  have hm63 : m ≤ 9223372036854775807 := by
    obtain ⟨vs, q1, q2, _⟩ := hl
    have := q1.len'
    omega
  have hp63 : lp ≤ 9223372036854775807 := by have := hp.len; rw [hlp] at this; exact this
  have HV := Lib.hid hv1
  have HT1 := Lib.hid @f1
  have HT := Lib.hid (And.intro f2 f3)
  have HB := Lib.hid (And.intro hwW (And.intro hX (And.intro hl hm)))
  clear hv1 f1 f2 f3 hwW k0 c1 hlo1 hlr1 hl hp hm hlp
  go_enter Tryz.func5, Tryz.ntmps5
  try simp only [hX]
  go_wp2_with fail
  refine (HV.out _ HB.out.1).mono ?_
  rintro e2 w2 ⟨⟨B1, rfl, hB1⟩, k2⟩
  obtain ⟨n0, n1, n2, _⟩ := keep3b hx1 k2
  have HK2 := Lib.hid k2
  clear k2
  by_cases hbig : B1 = true ∨ 30 < m ∨ 70 < lp
  · have hg : B1 = true ∨ (B1 = false ∧ 30 < m) ∨ (B1 = false ∧ ¬ 30 < m ∧ 70 < lp) := by
      cases B1 with
      | true => exact .inl rfl
      | false =>
        rcases hbig with h | h | h
        · cases h
        · exact .inr (.inl ⟨rfl, h⟩)
        · by_cases h30 : 30 < m
          · exact .inr (.inl ⟨rfl, h30⟩)
          · exact .inr (.inr ⟨rfl, h30, h⟩)
    clear hbig hB1
    rcases hg with rfl | ⟨rfl, hg⟩ | ⟨rfl, hg, hg2⟩
    · go_wp2_with (go_at_call 22; (with_reducible refine awake22.mono ?_); rintro e3 w3 ⟨rfl, k3⟩; have HK3 := Lib.hid (below_trans HK2.out k3); clear k3)
      go_ret
      exact ⟨rfl, by have h := below_trans HB.out.1 HK3.out; rwa [HB.out.2.1] at h⟩
    · have g1 : decide ((30 : Int) < (m : Int)) = true := by simp; omega
      have g2 : decide (30 < m) = true := by simp [hg]
      clear hg
      go_wp2_with (go_at_call 22; (with_reducible refine awake22.mono ?_); rintro e3 w3 ⟨rfl, k3⟩; have HK3 := Lib.hid (below_trans HK2.out k3); clear k3)
      go_ret
      exact ⟨rfl, by have h := below_trans HB.out.1 HK3.out; rwa [HB.out.2.1] at h⟩
    · have g1 : decide ((30 : Int) < (m : Int)) = false := by simp; omega
      have g2 : decide (30 < m) = false := by simp; omega
      have g3 : decide ((70 : Int) < (lp : Int)) = true := by simp; omega
      have g4 : decide (70 < lp) = true := by simp [hg2]
      clear hg hg2
      go_wp2_with (go_at_call 22; (with_reducible refine awake22.mono ?_); rintro e3 w3 ⟨rfl, k3⟩; have HK3 := Lib.hid (below_trans HK2.out k3); clear k3)
      go_ret
      exact ⟨rfl, by have h := below_trans HB.out.1 HK3.out; rwa [HB.out.2.1] at h⟩
  have hB1f : B1 = false := by cases B1 with | false => rfl | true => exact absurd (.inl rfl) hbig
  subst hB1f
  have HD := Lib.hid (hB1 rfl)
  have hm30 : m ≤ 30 := by omega
  have g1 : decide ((30 : Int) < (m : Int)) = false := by simp; omega
  have g2 : decide (30 < m) = false := by simp; omega
  have g3 : decide ((70 : Int) < (lp : Int)) = false := by simp; omega
  have g4 : decide (70 < lp) = false := by simp; omega
  clear hB1 hbig
  go_wp2_with fail
  clear g1 g2 g3 g4
  go_loopw [9] (fun i wr => ∃ (k : Nat), k ≤ m ∧ i = .int .i64 (k : Int) ∧ Below W1.heap.size W1 wr) (fun i _ => m - (intOf i).toNat)
  case atStart => exact ⟨0, by omega, rfl, HK2.out⟩
  case round =>
    obtain ⟨k, hk, rfl, hb⟩ := hrel
    by_cases hkm : k < m
    · have hat := (HB.out.2.2.1.below (below_trans HB.out.1 hb)).at_ (k := k) (by rw [HB.out.2.2.2]; exact hkm)
      obtain ⟨ag, ao, ua, uc, hae, _, hac, hui⟩ := hat
      subst hae
      have hlen := hui.len
      obtain ⟨L, hL⟩ : ∃ L, (ps[k]?.getD []).length = L := ⟨_, rfl⟩
      rw [hL] at hac hlen
      have HK := Lib.hid hb
      have hk1 : (k : Int) < m := by omega
      clear hb hui hL
      by_cases h70 : 70 < L
      · have g1 : decide ((70 : Int) < (L : Int)) = true := by simp; omega
        have g2 : decide (70 < L) = true := by simp [h70]
        clear h70
        go_wp2_with (go_at_call 22; (with_reducible refine awake22.mono ?_); rintro e3 w3 ⟨rfl, k3⟩; have HK3 := Lib.hid (below_trans HK.out k3); clear k3)
        go_ret
        exact ⟨rfl, by have h := below_trans HB.out.1 HK3.out; rwa [HB.out.2.1] at h⟩
      · have g1 : decide ((70 : Int) < (L : Int)) = false := by simp; omega
        have g2 : decide (70 < L) = false := by simp; omega
        clear h70
        go_wp2_with fail
        exact ⟨⟨k + 1, by omega, by go_num, HK.out⟩, by simp [intOf]; omega⟩
    · have hk1 : ¬ (k : Int) < m := by omega
      obtain ⟨n3, n4, n5, _⟩ := keep3b hx1 hb
      have HK := Lib.hid hb
      clear hb n0 n1 n2
      by_cases hmy : many = true ∧ 0 < m
      · obtain ⟨rfl, hm0⟩ := hmy
        have g1 : decide ((0 : Int) < (m : Int)) = true := by simp; omega
        have g2 : decide (0 < m) = true := by simp [hm0]
        have hat := (HB.out.2.2.1.below (below_trans HB.out.1 HK.out)).at_ (k := 0) (by rw [HB.out.2.2.2]; exact hm0)
        obtain ⟨ag, ao, ua, uc, hae, _, hac, _⟩ := hat
        subst hae
        rw [Nat.add_zero] at hac
        obtain ⟨L, hL⟩ : ∃ L, (ps[0]?.getD []).length = L := ⟨_, rfl⟩
        rw [hL] at hac
        clear hL
        obtain ⟨wo, rfl⟩ : ∃ wo, wo = wr := ⟨_, rfl⟩
        go_wp2_with fail
        go_loopw [10, 11] (fun v i wi => ∃ (k : Nat) (us : List Value), k ≤ 4097 ∧ i = .int .i64 (k : Int) ∧ Own wi wo.heap.size v 27 us ∧ us.length = k ∧ Below wo.heap.size wo wi) (fun _ i _ => 4097 - (intOf i).toNat)
        case atStart => exact ⟨0, [], by omega, rfl, Own.nil _ _ _, rfl, Below.refl _ _⟩
        case round =>
          obtain ⟨k, us, hk, rfl, hown, hul, hbi⟩ := hrel
          by_cases hk97 : k < 4097
          · have hk2 : (k : Int) < 4097 := by omega
            have g3 : decide ((k : Int) < 4097) = true := by simp [hk2]
            have hac2 := (hbi.cell (block_lt_of_cell hac)).trans hac
            have hsz : wo.heap.size ≤ wr.heap.size := hbi.size
            have hul2 : us.length < 1099511627776 := by omega
            have HY := Lib.hid (And.intro hown (And.intro hul hbi))
            clear hown hul hbi
            go_wp2_with (at_builtin; refine app1 rfl (.tmp 60) (.tmp 64) 44 27 rfl i27 (.slice none 0 0) 24 Tryz.underlying44 I27.out.1 I27.out.2.1 I27.out.2.2.1 I27.out.2.2.2 rfl (by omega) wo.heap.size (.slice ua L uc) _ us rfl HY.out.1 rfl rfl hul2 hsz ?_; intro v8 w8 k1 k2 k3; have H8 := Lib.hid (And.intro k1 (And.intro k2 k3)); clear k1 k2 k3)
            exact ⟨⟨k + 1, us ++ [.slice ua L uc], by omega, by go_num, H8.out.1, by rw [List.length_append, HY.out.2.1]; rfl, HY.out.2.2.grown H8.out.2.1 hsz (fun g e => (HY.out.1.block_lt e).2)⟩, by simp [intOf]; omega⟩
          · have hk2 : ¬ (k : Int) < 4097 := by omega
            have g3 : decide ((k : Int) < 4097) = false := by simp [hk2]
            have hk97' : us.length = 4097 := by omega
            obtain ⟨a8, c8, rfl, _⟩ := hown.row (by unfold maxLen; omega)
            rw [hk97']
            have hbb := below_trans HK.out hbi
            clear hown hul hbi
            obtain ⟨K1, E1, q1, f32, f33⟩ := HT1.out HD.out (a := a8) (m := 4097) (c := c8) (.inl ⟨by omega, by omega⟩)
            obtain ⟨K3, E3, q3, f34, f35⟩ := HT.out.1 HD.out
            obtain ⟨K4, E4, q4, f36, f37⟩ := HT.out.2 HD.out
            have HF := Lib.hid (And.intro f32 (And.intro f33 (And.intro f34 (And.intro f35 (And.intro f36 f37)))))
            have HQ := Lib.hid (And.intro q1 (And.intro q3 q4))
            have HX0 := Lib.hid (below_trans HB.out.1 hbb)
            have hx0 := keep3b hx1 hbb
            replace hx0 := And.intro hx0.1 (And.intro hx0.2.1 (And.intro hx0.2.2.1 (Below.refl wr.heap.size wr)))
            clear f32 f33 f34 f35 f36 f37 q1 q3 q4 hbb hx1
            go_wp2_with (first
                | (go_at_call 22; (with_reducible refine awake22.mono ?_); rintro e9 z4 ⟨rfl, k⟩; have S4 := Lib.hid (below_trans S3.out k); clear k)
                | (go_at_call 31; (with_reducible refine (HQ.out.2.2.same (HQ.out.2.2.below (HQ.out.2.2.below H15.out.2.2.1 H16.out.2.2.2) S2.out) (HQ.out.2.2.below H16.out.2.2.1 S2.out)).mono ?_)
                   rintro e9 z3 ⟨rfl, k⟩
                   have bs : Below V16.heap.size V16 z3 := below_trans S2.out k
                   have S3 := Lib.hid bs
                   clear bs k)
                | (go_at_call 31; (with_reducible refine (HQ.out.2.1.same (HQ.out.2.1.below (HQ.out.2.1.below H13.out.2.2.1 (below_trans (below_trans H14.out.2.2.2 H15.out.2.2.2) H16.out.2.2.2)) S1.out) (HQ.out.2.1.below (HQ.out.2.1.below H14.out.2.2.1 (below_trans H15.out.2.2.2 H16.out.2.2.2)) S1.out)).mono ?_)
                   rintro e9 z2 ⟨rfl, k⟩
                   have bs : Below V16.heap.size V16 z2 := below_trans S1.out k
                   have zz := ((H16.out.2.2.2).block Y15 (Array.getElem?_eq_some_iff.1 H15.out.2.1).1).trans H15.out.2.1
                   have zz := (bs.block Y15 (Array.getElem?_eq_some_iff.1 zz).1).trans zz
                   obtain ⟨p2150, p2151, p2152, _⟩ := box_cells zz
                   clear zz
                   have zz := H16.out.2.1
                   have zz := (bs.block Y16 (Array.getElem?_eq_some_iff.1 zz).1).trans zz
                   obtain ⟨p2160, p2161, p2162, _⟩ := box_cells zz
                   clear zz
                   have S2 := Lib.hid bs
                   clear bs k)
                | (go_at_call 31; (with_reducible refine (HQ.out.1.same (HQ.out.1.below H11.out.2.2.1 (below_trans (below_trans (below_trans (below_trans H12.out.2.2.2 H13.out.2.2.2) H14.out.2.2.2) H15.out.2.2.2) H16.out.2.2.2)) (HQ.out.1.below H12.out.2.2.1 (below_trans (below_trans (below_trans H13.out.2.2.2 H14.out.2.2.2) H15.out.2.2.2) H16.out.2.2.2))).mono ?_)
                   rintro e9 z1 ⟨rfl, k⟩
                   have bs : Below V16.heap.size V16 z1 := k
                   have zz := (((below_trans (below_trans H14.out.2.2.2 H15.out.2.2.2) H16.out.2.2.2)).block Y13 (Array.getElem?_eq_some_iff.1 H13.out.2.1).1).trans H13.out.2.1
                   have zz := (bs.block Y13 (Array.getElem?_eq_some_iff.1 zz).1).trans zz
                   obtain ⟨p1130, p1131, p1132, _⟩ := box_cells zz
                   clear zz
                   have zz := (((below_trans H15.out.2.2.2 H16.out.2.2.2)).block Y14 (Array.getElem?_eq_some_iff.1 H14.out.2.1).1).trans H14.out.2.1
                   have zz := (bs.block Y14 (Array.getElem?_eq_some_iff.1 zz).1).trans zz
                   obtain ⟨p1140, p1141, p1142, _⟩ := box_cells zz
                   clear zz
                   have zz := ((H16.out.2.2.2).block Y15 (Array.getElem?_eq_some_iff.1 H15.out.2.1).1).trans H15.out.2.1
                   have zz := (bs.block Y15 (Array.getElem?_eq_some_iff.1 zz).1).trans zz
                   obtain ⟨p1150, p1151, p1152, _⟩ := box_cells zz
                   clear zz
                   have zz := H16.out.2.1
                   have zz := (bs.block Y16 (Array.getElem?_eq_some_iff.1 zz).1).trans zz
                   obtain ⟨p1160, p1161, p1162, _⟩ := box_cells zz
                   clear zz
                   have S1 := Lib.hid bs
                   clear bs k)
                | (go_at_call 37; (with_reducible refine (HF.out.2.2.2.2.2 _ (below_trans HX0.out H15.out.1)).mono ?_)
                   rintro e16 w16 ⟨v16, rfl, kK, k⟩
                   obtain ⟨g16, a16, l16, c16, b16, r16, d16, rfl⟩ := HQ.out.2.2.form kK
                   obtain ⟨Y16, U16, V16, hY16, hU16, s0, s1, s2, s3, s4, s5, hV16, bw, z⟩ := stB (w := w16) (.int .i64 g16) (.slice a16 l16 c16) (.slice b16 r16 d16)
                   have st : Below V15.heap.size V15 V16 := below_trans k bw
                   have bt : Below wr.heap.size wr V16 := below_trans (H15.out.1) st
                   obtain ⟨m160, m161, m162, _⟩ := keep3b hx0 bt
                   have H16 := Lib.hid (And.intro bt (And.intro z (And.intro (HQ.out.2.2.below kK bw) st)))
                   have zz := (((below_trans (below_trans (below_trans (below_trans H12.out.2.2.2 H13.out.2.2.2) H14.out.2.2.2) H15.out.2.2.2) st)).block Y11 (Array.getElem?_eq_some_iff.1 H11.out.2.1).1).trans H11.out.2.1
                   obtain ⟨t110, t111, t112, _⟩ := box_cells zz
                   clear zz
                   have zz := (((below_trans (below_trans (below_trans H13.out.2.2.2 H14.out.2.2.2) H15.out.2.2.2) st)).block Y12 (Array.getElem?_eq_some_iff.1 H12.out.2.1).1).trans H12.out.2.1
                   obtain ⟨t120, t121, t122, _⟩ := box_cells zz
                   clear zz
                   have zz := (((below_trans (below_trans H14.out.2.2.2 H15.out.2.2.2) st)).block Y13 (Array.getElem?_eq_some_iff.1 H13.out.2.1).1).trans H13.out.2.1
                   obtain ⟨t130, t131, t132, _⟩ := box_cells zz
                   clear zz
                   have zz := (((below_trans H15.out.2.2.2 st)).block Y14 (Array.getElem?_eq_some_iff.1 H14.out.2.1).1).trans H14.out.2.1
                   obtain ⟨t140, t141, t142, _⟩ := box_cells zz
                   clear zz
                   have zz := ((st).block Y15 (Array.getElem?_eq_some_iff.1 H15.out.2.1).1).trans H15.out.2.1
                   obtain ⟨t150, t151, t152, _⟩ := box_cells zz
                   clear zz
                   obtain ⟨t160, t161, t162, _⟩ := box_cells z
                   unfold set3 at hV16
                   clear kK k bw z st bt)
                | (go_at_call 36; (with_reducible refine (HF.out.2.2.2.2.1 _ (below_trans HX0.out H14.out.1)).mono ?_)
                   rintro e15 w15 ⟨v15, rfl, kK, k⟩
                   obtain ⟨g15, a15, l15, c15, b15, r15, d15, rfl⟩ := HQ.out.2.2.form kK
                   obtain ⟨Y15, U15, V15, hY15, hU15, s0, s1, s2, s3, s4, s5, hV15, bw, z⟩ := stB (w := w15) (.int .i64 g15) (.slice a15 l15 c15) (.slice b15 r15 d15)
                   have st : Below V14.heap.size V14 V15 := below_trans k bw
                   have bt : Below wr.heap.size wr V15 := below_trans (H14.out.1) st
                   obtain ⟨m150, m151, m152, _⟩ := keep3b hx0 bt
                   have H15 := Lib.hid (And.intro bt (And.intro z (And.intro (HQ.out.2.2.below kK bw) st)))
                   unfold set3 at hV15
                   clear kK k bw z st bt)
                | (go_at_call 35; (with_reducible refine (HF.out.2.2.2.1 _ (below_trans HX0.out H13.out.1)).mono ?_)
                   rintro e14 w14 ⟨v14, rfl, kK, k⟩
                   obtain ⟨g14, a14, l14, c14, b14, r14, d14, rfl⟩ := HQ.out.2.1.form kK
                   obtain ⟨Y14, U14, V14, hY14, hU14, s0, s1, s2, s3, s4, s5, hV14, bw, z⟩ := stB (w := w14) (.int .i64 g14) (.slice a14 l14 c14) (.slice b14 r14 d14)
                   have st : Below V13.heap.size V13 V14 := below_trans k bw
                   have bt : Below wr.heap.size wr V14 := below_trans (H13.out.1) st
                   obtain ⟨m140, m141, m142, _⟩ := keep3b hx0 bt
                   have H14 := Lib.hid (And.intro bt (And.intro z (And.intro (HQ.out.2.1.below kK bw) st)))
                   unfold set3 at hV14
                   clear kK k bw z st bt)
                | (go_at_call 34; (with_reducible refine (HF.out.2.2.1 _ (below_trans HX0.out H12.out.1)).mono ?_)
                   rintro e13 w13 ⟨v13, rfl, kK, k⟩
                   obtain ⟨g13, a13, l13, c13, b13, r13, d13, rfl⟩ := HQ.out.2.1.form kK
                   obtain ⟨Y13, U13, V13, hY13, hU13, s0, s1, s2, s3, s4, s5, hV13, bw, z⟩ := stB (w := w13) (.int .i64 g13) (.slice a13 l13 c13) (.slice b13 r13 d13)
                   have st : Below V12.heap.size V12 V13 := below_trans k bw
                   have bt : Below wr.heap.size wr V13 := below_trans (H12.out.1) st
                   obtain ⟨m130, m131, m132, _⟩ := keep3b hx0 bt
                   have H13 := Lib.hid (And.intro bt (And.intro z (And.intro (HQ.out.2.1.below kK bw) st)))
                   unfold set3 at hV13
                   clear kK k bw z st bt)
                | (go_at_call 33; (with_reducible refine (HF.out.2.1 _ (below_trans HX0.out H11.out.1)).mono ?_)
                   rintro e12 w12 ⟨v12, rfl, kK, k⟩
                   obtain ⟨g12, a12, l12, c12, b12, r12, d12, rfl⟩ := HQ.out.1.form kK
                   obtain ⟨Y12, U12, V12, hY12, hU12, s0, s1, s2, s3, s4, s5, hV12, bw, z⟩ := stB (w := w12) (.int .i64 g12) (.slice a12 l12 c12) (.slice b12 r12 d12)
                   have st : Below V11.heap.size V11 V12 := below_trans k bw
                   have bt : Below wr.heap.size wr V12 := below_trans (H11.out.1) st
                   obtain ⟨m120, m121, m122, _⟩ := keep3b hx0 bt
                   have H12 := Lib.hid (And.intro bt (And.intro z (And.intro (HQ.out.1.below kK bw) st)))
                   unfold set3 at hV12
                   clear kK k bw z st bt)
                | (go_at_call 32; (with_reducible refine (HF.out.1 _ HX0.out).mono ?_)
                   rintro e11 w11 ⟨v11, rfl, kK, k⟩
                   obtain ⟨g11, a11, l11, c11, b11, r11, d11, rfl⟩ := HQ.out.1.form kK
                   obtain ⟨Y11, U11, V11, hY11, hU11, s0, s1, s2, s3, s4, s5, hV11, bw, z⟩ := stB (w := w11) (.int .i64 g11) (.slice a11 l11 c11) (.slice b11 r11 d11)
                   have st : Below wr.heap.size wr V11 := below_trans k bw
                   have bt : Below wr.heap.size wr V11 := below_trans (Below.refl wr.heap.size wr) st
                   obtain ⟨m110, m111, m112, _⟩ := keep3b hx0 bt
                   have H11 := Lib.hid (And.intro bt (And.intro z (And.intro (HQ.out.1.below kK bw) st)))
                   unfold set3 at hV11
                   clear kK k bw z st bt))
            go_ret
            refine ⟨rfl, ?_⟩
            have h := below_trans HX0.out (below_trans H16.out.1 S4.out)
            rwa [HB.out.2.1] at h
      · have hg : (many = false) ∨ (many = true ∧ m = 0) := by
          cases many <;> simp_all
        have hlist := HT1.out HD.out (a := la) (m := m) (c := lc) (.inr ⟨ps, HB.out.2.2.1, HB.out.2.2.2, by omega⟩)
        have hbb := HK.out
        have HTL := Lib.hid hlist
        clear hlist hmy
        have g1 : decide ((0 : Int) < ((0 : Nat) : Int)) = false := by simp
        clear hk1
        rcases hg with rfl | ⟨rfl, rfl⟩
        all_goals
          obtain ⟨K1, E1, q1, f32, f33⟩ := HTL.out
          obtain ⟨K3, E3, q3, f34, f35⟩ := HT.out.1 HD.out
          obtain ⟨K4, E4, q4, f36, f37⟩ := HT.out.2 HD.out
          have HF := Lib.hid (And.intro f32 (And.intro f33 (And.intro f34 (And.intro f35 (And.intro f36 f37)))))
          have HQ := Lib.hid (And.intro q1 (And.intro q3 q4))
          have HX0 := Lib.hid (below_trans HB.out.1 hbb)
          have hx0 := keep3b hx1 hbb
          replace hx0 := And.intro hx0.1 (And.intro hx0.2.1 (And.intro hx0.2.2.1 (Below.refl wr.heap.size wr)))
          clear f32 f33 f34 f35 f36 f37 q1 q3 q4 hbb hx1
          go_wp2_with (first
              | (go_at_call 22; (with_reducible refine awake22.mono ?_); rintro e9 z4 ⟨rfl, k⟩; have S4 := Lib.hid (below_trans S3.out k); clear k)
              | (go_at_call 31; (with_reducible refine (HQ.out.2.2.same (HQ.out.2.2.below (HQ.out.2.2.below H15.out.2.2.1 H16.out.2.2.2) S2.out) (HQ.out.2.2.below H16.out.2.2.1 S2.out)).mono ?_)
                 rintro e9 z3 ⟨rfl, k⟩
                 have bs : Below V16.heap.size V16 z3 := below_trans S2.out k
                 have S3 := Lib.hid bs
                 clear bs k)
              | (go_at_call 31; (with_reducible refine (HQ.out.2.1.same (HQ.out.2.1.below (HQ.out.2.1.below H13.out.2.2.1 (below_trans (below_trans H14.out.2.2.2 H15.out.2.2.2) H16.out.2.2.2)) S1.out) (HQ.out.2.1.below (HQ.out.2.1.below H14.out.2.2.1 (below_trans H15.out.2.2.2 H16.out.2.2.2)) S1.out)).mono ?_)
                 rintro e9 z2 ⟨rfl, k⟩
                 have bs : Below V16.heap.size V16 z2 := below_trans S1.out k
                 have zz := ((H16.out.2.2.2).block Y15 (Array.getElem?_eq_some_iff.1 H15.out.2.1).1).trans H15.out.2.1
                 have zz := (bs.block Y15 (Array.getElem?_eq_some_iff.1 zz).1).trans zz
                 obtain ⟨p2150, p2151, p2152, _⟩ := box_cells zz
                 clear zz
                 have zz := H16.out.2.1
                 have zz := (bs.block Y16 (Array.getElem?_eq_some_iff.1 zz).1).trans zz
                 obtain ⟨p2160, p2161, p2162, _⟩ := box_cells zz
                 clear zz
                 have S2 := Lib.hid bs
                 clear bs k)
              | (go_at_call 31; (with_reducible refine (HQ.out.1.same (HQ.out.1.below H11.out.2.2.1 (below_trans (below_trans (below_trans (below_trans H12.out.2.2.2 H13.out.2.2.2) H14.out.2.2.2) H15.out.2.2.2) H16.out.2.2.2)) (HQ.out.1.below H12.out.2.2.1 (below_trans (below_trans (below_trans H13.out.2.2.2 H14.out.2.2.2) H15.out.2.2.2) H16.out.2.2.2))).mono ?_)
                 rintro e9 z1 ⟨rfl, k⟩
                 have bs : Below V16.heap.size V16 z1 := k
                 have zz := (((below_trans (below_trans H14.out.2.2.2 H15.out.2.2.2) H16.out.2.2.2)).block Y13 (Array.getElem?_eq_some_iff.1 H13.out.2.1).1).trans H13.out.2.1
                 have zz := (bs.block Y13 (Array.getElem?_eq_some_iff.1 zz).1).trans zz
                 obtain ⟨p1130, p1131, p1132, _⟩ := box_cells zz
                 clear zz
                 have zz := (((below_trans H15.out.2.2.2 H16.out.2.2.2)).block Y14 (Array.getElem?_eq_some_iff.1 H14.out.2.1).1).trans H14.out.2.1
                 have zz := (bs.block Y14 (Array.getElem?_eq_some_iff.1 zz).1).trans zz
                 obtain ⟨p1140, p1141, p1142, _⟩ := box_cells zz
                 clear zz
                 have zz := ((H16.out.2.2.2).block Y15 (Array.getElem?_eq_some_iff.1 H15.out.2.1).1).trans H15.out.2.1
                 have zz := (bs.block Y15 (Array.getElem?_eq_some_iff.1 zz).1).trans zz
                 obtain ⟨p1150, p1151, p1152, _⟩ := box_cells zz
                 clear zz
                 have zz := H16.out.2.1
                 have zz := (bs.block Y16 (Array.getElem?_eq_some_iff.1 zz).1).trans zz
                 obtain ⟨p1160, p1161, p1162, _⟩ := box_cells zz
                 clear zz
                 have S1 := Lib.hid bs
                 clear bs k)
              | (go_at_call 37; (with_reducible refine (HF.out.2.2.2.2.2 _ (below_trans HX0.out H15.out.1)).mono ?_)
                 rintro e16 w16 ⟨v16, rfl, kK, k⟩
                 obtain ⟨g16, a16, l16, c16, b16, r16, d16, rfl⟩ := HQ.out.2.2.form kK
                 obtain ⟨Y16, U16, V16, hY16, hU16, s0, s1, s2, s3, s4, s5, hV16, bw, z⟩ := stB (w := w16) (.int .i64 g16) (.slice a16 l16 c16) (.slice b16 r16 d16)
                 have st : Below V15.heap.size V15 V16 := below_trans k bw
                 have bt : Below wr.heap.size wr V16 := below_trans (H15.out.1) st
                 obtain ⟨m160, m161, m162, _⟩ := keep3b hx0 bt
                 have H16 := Lib.hid (And.intro bt (And.intro z (And.intro (HQ.out.2.2.below kK bw) st)))
                 have zz := (((below_trans (below_trans (below_trans (below_trans H12.out.2.2.2 H13.out.2.2.2) H14.out.2.2.2) H15.out.2.2.2) st)).block Y11 (Array.getElem?_eq_some_iff.1 H11.out.2.1).1).trans H11.out.2.1
                 obtain ⟨t110, t111, t112, _⟩ := box_cells zz
                 clear zz
                 have zz := (((below_trans (below_trans (below_trans H13.out.2.2.2 H14.out.2.2.2) H15.out.2.2.2) st)).block Y12 (Array.getElem?_eq_some_iff.1 H12.out.2.1).1).trans H12.out.2.1
                 obtain ⟨t120, t121, t122, _⟩ := box_cells zz
                 clear zz
                 have zz := (((below_trans (below_trans H14.out.2.2.2 H15.out.2.2.2) st)).block Y13 (Array.getElem?_eq_some_iff.1 H13.out.2.1).1).trans H13.out.2.1
                 obtain ⟨t130, t131, t132, _⟩ := box_cells zz
                 clear zz
                 have zz := (((below_trans H15.out.2.2.2 st)).block Y14 (Array.getElem?_eq_some_iff.1 H14.out.2.1).1).trans H14.out.2.1
                 obtain ⟨t140, t141, t142, _⟩ := box_cells zz
                 clear zz
                 have zz := ((st).block Y15 (Array.getElem?_eq_some_iff.1 H15.out.2.1).1).trans H15.out.2.1
                 obtain ⟨t150, t151, t152, _⟩ := box_cells zz
                 clear zz
                 obtain ⟨t160, t161, t162, _⟩ := box_cells z
                 unfold set3 at hV16
                 clear kK k bw z st bt)
              | (go_at_call 36; (with_reducible refine (HF.out.2.2.2.2.1 _ (below_trans HX0.out H14.out.1)).mono ?_)
                 rintro e15 w15 ⟨v15, rfl, kK, k⟩
                 obtain ⟨g15, a15, l15, c15, b15, r15, d15, rfl⟩ := HQ.out.2.2.form kK
                 obtain ⟨Y15, U15, V15, hY15, hU15, s0, s1, s2, s3, s4, s5, hV15, bw, z⟩ := stB (w := w15) (.int .i64 g15) (.slice a15 l15 c15) (.slice b15 r15 d15)
                 have st : Below V14.heap.size V14 V15 := below_trans k bw
                 have bt : Below wr.heap.size wr V15 := below_trans (H14.out.1) st
                 obtain ⟨m150, m151, m152, _⟩ := keep3b hx0 bt
                 have H15 := Lib.hid (And.intro bt (And.intro z (And.intro (HQ.out.2.2.below kK bw) st)))
                 unfold set3 at hV15
                 clear kK k bw z st bt)
              | (go_at_call 35; (with_reducible refine (HF.out.2.2.2.1 _ (below_trans HX0.out H13.out.1)).mono ?_)
                 rintro e14 w14 ⟨v14, rfl, kK, k⟩
                 obtain ⟨g14, a14, l14, c14, b14, r14, d14, rfl⟩ := HQ.out.2.1.form kK
                 obtain ⟨Y14, U14, V14, hY14, hU14, s0, s1, s2, s3, s4, s5, hV14, bw, z⟩ := stB (w := w14) (.int .i64 g14) (.slice a14 l14 c14) (.slice b14 r14 d14)
                 have st : Below V13.heap.size V13 V14 := below_trans k bw
                 have bt : Below wr.heap.size wr V14 := below_trans (H13.out.1) st
                 obtain ⟨m140, m141, m142, _⟩ := keep3b hx0 bt
                 have H14 := Lib.hid (And.intro bt (And.intro z (And.intro (HQ.out.2.1.below kK bw) st)))
                 unfold set3 at hV14
                 clear kK k bw z st bt)
              | (go_at_call 34; (with_reducible refine (HF.out.2.2.1 _ (below_trans HX0.out H12.out.1)).mono ?_)
                 rintro e13 w13 ⟨v13, rfl, kK, k⟩
                 obtain ⟨g13, a13, l13, c13, b13, r13, d13, rfl⟩ := HQ.out.2.1.form kK
                 obtain ⟨Y13, U13, V13, hY13, hU13, s0, s1, s2, s3, s4, s5, hV13, bw, z⟩ := stB (w := w13) (.int .i64 g13) (.slice a13 l13 c13) (.slice b13 r13 d13)
                 have st : Below V12.heap.size V12 V13 := below_trans k bw
                 have bt : Below wr.heap.size wr V13 := below_trans (H12.out.1) st
                 obtain ⟨m130, m131, m132, _⟩ := keep3b hx0 bt
                 have H13 := Lib.hid (And.intro bt (And.intro z (And.intro (HQ.out.2.1.below kK bw) st)))
                 unfold set3 at hV13
                 clear kK k bw z st bt)
              | (go_at_call 33; (with_reducible refine (HF.out.2.1 _ (below_trans HX0.out H11.out.1)).mono ?_)
                 rintro e12 w12 ⟨v12, rfl, kK, k⟩
                 obtain ⟨g12, a12, l12, c12, b12, r12, d12, rfl⟩ := HQ.out.1.form kK
                 obtain ⟨Y12, U12, V12, hY12, hU12, s0, s1, s2, s3, s4, s5, hV12, bw, z⟩ := stB (w := w12) (.int .i64 g12) (.slice a12 l12 c12) (.slice b12 r12 d12)
                 have st : Below V11.heap.size V11 V12 := below_trans k bw
                 have bt : Below wr.heap.size wr V12 := below_trans (H11.out.1) st
                 obtain ⟨m120, m121, m122, _⟩ := keep3b hx0 bt
                 have H12 := Lib.hid (And.intro bt (And.intro z (And.intro (HQ.out.1.below kK bw) st)))
                 unfold set3 at hV12
                 clear kK k bw z st bt)
              | (go_at_call 32; (with_reducible refine (HF.out.1 _ HX0.out).mono ?_)
                 rintro e11 w11 ⟨v11, rfl, kK, k⟩
                 obtain ⟨g11, a11, l11, c11, b11, r11, d11, rfl⟩ := HQ.out.1.form kK
                 obtain ⟨Y11, U11, V11, hY11, hU11, s0, s1, s2, s3, s4, s5, hV11, bw, z⟩ := stB (w := w11) (.int .i64 g11) (.slice a11 l11 c11) (.slice b11 r11 d11)
                 have st : Below wr.heap.size wr V11 := below_trans k bw
                 have bt : Below wr.heap.size wr V11 := below_trans (Below.refl wr.heap.size wr) st
                 obtain ⟨m110, m111, m112, _⟩ := keep3b hx0 bt
                 have H11 := Lib.hid (And.intro bt (And.intro z (And.intro (HQ.out.1.below kK bw) st)))
                 unfold set3 at hV11
                 clear kK k bw z st bt))
          go_ret
          refine ⟨rfl, ?_⟩
          have h := below_trans HX0.out (below_trans H16.out.1 S4.out)
          rwa [HB.out.2.1] at h
end Go.Proofs.YtbejhkojdiadaaaGreat
