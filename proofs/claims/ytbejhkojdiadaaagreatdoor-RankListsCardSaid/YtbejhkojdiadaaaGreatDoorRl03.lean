/- Index on both sides walked. · Index on both sides where it returns an error; what Index returns of any two chains. · least on both sides: its permutation is new. · Plain: all cosets found from one by generators, with a stack. · Plain: a number against 5040, by its digits. · The reference's Strong walked. -/
import Derived.Test.YtbejhkojdiadaaaGreatDoorRk01
import Derived.Test.YtbejhkojdiadaaaGreatDoorRk02
import Derived.Test.YtbejhkojdiadaaaGreatDoorRk03
import Derived.Test.YtbejhkojdiadaaaGreatDoorRk04
import Derived.Test.YtbejhkojdiadaaaGreatDoorRk05
import Derived.Test.YtbejhkojdiadaaaGreatDoorRk06
import Derived.Test.YtbejhkojdiadaaaGreatDoorRk07
import Derived.Test.YtbejhkojdiadaaaGreatDoorRk08
import Derived.Test.YtbejhkojdiadaaaGreatDoorRk09
import Derived.Test.YtbejhkojdiadaaaGreatDoorRk10
import Derived.Test.YtbejhkojdiadaaaGreatDoorRk11
import Derived.Test.YtbejhkojdiadaaaGreatDoorRk12
import Derived.Test.YtbejhkojdiadaaaGreatDoorRk13
import Derived.Test.YtbejhkojdiadaaaGreatDoorRk14
import Derived.Test.YtbejhkojdiadaaaGreatDoorRk15
import Derived.Test.YtbejhkojdiadaaaGreatDoorRk16
import Derived.Test.YtbejhkojdiadaaaGreatDoorRk17
import Derived.Test.YtbejhkojdiadaaaGreatDoorRk18
import Derived.Test.YtbejhkojdiadaaaGreatDoorRk19
import Derived.Test.YtbejhkojdiadaaaGreatDoorRk20
import Derived.Test.YtbejhkojdiadaaaGreatDoorRl01
import Derived.Test.YtbejhkojdiadaaaGreatDoorRl02
import Derived.Test.YtbejhkojdiadaaaGreatDoorProg
import Derived.WalkKit
import Derived.WalkSpells
import Derived.BigQuiet
import Derived.Deep.QuietTactic
import Derived.Deep.LoopGhost
import Derived.Lib.Hide
import Derived.Maps.AppendAt
import Derived.Deep.AppendLies
import Derived.StillTailTactics
import Derived.Laws.CopyOwn
import Derived.Deep.OwnRows
import Derived.Deep.DeepCutAuto
import Derived.Laws.Cover3
import Derived.Deep.RegionHeld3
import Derived.RangeFuncRecord
import Derived.Lib.SlicesSearch
import Derived.RangeFuncBox
import Derived.RangeFuncLeaves
import Derived.RangeFuncWrites
import Derived.RangeFuncFrom
import Derived.Shelf.Abstract
import Derived.OwnWalkIn
import Derived.TacticsInMore
import Derived.LoopNIn
import Derived.LoopIn
import Derived.Shelf.GgSortFunc.Insertion
import Derived.Shelf.SlIter.Collect
import Derived.Shelf.Sort.Plain
import Derived.Deep.RegionLaw
import Derived.ControlIn
import Derived.Deep.AppendSrc
import Derived.Sort.BigQuietIn
import Derived.Laws.BytesArg
import Derived.Laws.IdiomStrings
set_option linter.unusedSimpArgs false
set_option linter.unusedVariables false
namespace Go.Proofs.YtbejhkojdiadaaaGreatDoor
open Go.RowKit Go.Shelf PlainPm
section
variable {w : World} {s : ByteArray} {k m : Nat}
theorem times48 (h : IsNum s k) (hm : 1 ≤ m ∧ m ≤ 1000) (hk : k * m < 10 ^ 18) : Calls Tryz.prog 48 #[.string s, .int .i64 (m : Int)] w fun e w' => ∃ t, e = .returned (.tuple #[.string t, .int .i64 0]) ∧ IsNum t (k * m) ∧ Below w.heap.size w w' := by
  obtain ⟨ds, h1, rfl, h3⟩ := h
  exact times48a h1 h3 hm hk
theorem ratio49 (h : IsNum s k) (hm : 1 ≤ m ∧ m ≤ 1000) (hk : k < 10 ^ 18) (hd : m ∣ k) : Calls Tryz.prog 49 #[.string s, .int .i64 (m : Int)] w fun e w' => ∃ t, e = .returned (.tuple #[.string t, .int .i64 0]) ∧ IsNum t (k / m) ∧ Below w.heap.size w w' := by
  obtain ⟨ds, h1, rfl, h3⟩ := h
  exact ratio49a h1 h3 hm hk hd
end
section
variable {n : Nat} {G G2 : Pm n → Prop} {O O2 : Nat → List Nat} {R R2 : Nat → Nat → Pm n}
end
set_option maxRecDepth 100000 in
set_option maxHeartbeats 4000000 in
theorem index13y {n : Nat} (hn' : 0 < n ∧ n ≤ 8) {w : World} {v1 v2 : Value} {G1 G2 : Pm n → Prop} (hG1 : IsG G1) (hG2 : IsG G2) (h1 : GrG w v1 G1) (h2 : GrG w v2 G2) (hs : ∀ x, G1 x → G2 x) :
    Calls Tryz.prog 13 #[v1, v2] w fun r w' => ∃ t, r = .returned (.tuple #[.string t, .int .i64 0]) ∧ (∀ O1 R1 O2 R2, ChG G1 O1 R1 → ChG G2 O2 R2 → IsNum t (szF O2 n 0 / szF O1 n 0)) ∧ Below w.heap.size w w' := by
  have hn : 0 < n ∧ n ≤ 64 := ⟨hn'.1, by omega⟩
  have hbl := fun (V : World) (hV : Below w.heap.size w V) => below47 hn' hG1 hG2 (h1.below hV) (h2.below hV)
  obtain ⟨T, t, ab, ao, c, bb, bo, e, hv1, hl1⟩ := h1.lev hG1 ⟨hn.1, hn.2⟩
  obtain ⟨T', t', ab', ao', c', bb', bo', e', hv2, hl2⟩ := h2.lev hG2 ⟨hn.1, hn.2⟩
  subst hv1 hv2
  obtain ⟨X, hX⟩ : ∃ X, w.heap.size = X := ⟨_, rfl⟩
  obtain ⟨W0, hW0⟩ : ∃ W0, ((w.alloc (.cells #[.int .i64 (n : Int), .slice (some ⟨ab, ao, none⟩) n c, .slice (some ⟨bb, bo, none⟩) n e] 25)).alloc (.cells #[.int .i64 (n : Int), .slice (some ⟨ab', ao', none⟩) n c', .slice (some ⟨bb', bo', none⟩) n e'] 25)) = W0 := ⟨_, rfl⟩
  have hF : Below w.heap.size w W0 ∧ W0.heap[X]? = some (.cells #[.int .i64 (n : Int), .slice (some ⟨ab, ao, none⟩) n c, .slice (some ⟨bb, bo, none⟩) n e] 25) ∧ W0.heap[X + 1]? = some (.cells #[.int .i64 (n : Int), .slice (some ⟨ab', ao', none⟩) n c', .slice (some ⟨bb', bo', none⟩) n e'] 25) := by
    refine ⟨?_, ?_, ?_⟩
    · rw [← hW0]; exact alloc_b (alloc_b (Below.refl _ _) _) _
    · rw [← hW0, ← hX]; exact ((alloc_b (Below.refl _ _) _).block _ (by simp)).trans (box_al25 rfl _ _ _)
    · rw [← hW0]; exact box_al25 (by simp [hX]) _ _ _
  obtain ⟨q0, q1, q2, _⟩ := box_cells hF.2.1
  obtain ⟨p0, p1, p2, _⟩ := box_cells hF.2.2
  have hx6 := And.intro (And.intro q0 (And.intro q1 q2)) (And.intro (And.intro p0 (And.intro p1 p2)) (Below.refl W0.heap.size W0))
  have hwW := hF.1
  have hc1 := t.chG hG1
  have hc2 := t'.chG hG2
  have H := Lib.hid (And.intro hbl (And.intro hs (And.intro hl1 (And.intro hl2 (And.intro hc1 hc2)))))
  clear hbl hs h1 h2 hl1 hl2 hF hc1 hc2
  unfold cv at H ⊢
  go_enter Tryz.func13, Tryz.ntmps13
  go_wp2_with (go_at_call 47; (with_reducible refine (H.out.1 _ hwW).mono ?_); rintro e1 w1 ⟨b, rfl, hb, k⟩; obtain rfl : b = true := hb.2 H.out.2.1; clear hb
               obtain ⟨⟨j0, j1, j2⟩, ⟨j3, j4, j5⟩, bj⟩ := keepBB hx6 k
               have H1 := Lib.hid bj; clear k bj)
  clear q0 q1 q2 p0 p1 p2 j0 j1 j2 j3 j4 j5
  go_loopw [8, 9] (fun tt ii wr => ∃ (k : Nat) (s : ByteArray), k ≤ n ∧ tt = .string s ∧ ii = .int .i64 (k : Int) ∧ IsNum s (prodL (fun i => ptsOf n (T' i).orb) k) ∧ Below W0.heap.size W0 wr) (fun _ ii _ => n - (intOf ii).toNat)
  case atStart => exact ⟨0, _, by omega, rfl, rfl, isNum_one, H1.out⟩
  case round =>
    obtain ⟨k, s, hk, rfl, rfl, hN, hb⟩ := hrel
    obtain ⟨⟨j0, j1, j2⟩, ⟨j3, j4, j5⟩, bj⟩ := keepBB hx6 hb
    by_cases hkn : k < n
    · have hbw := below_trans hwW hb
      obtain ⟨go, oo, oc, gr, ro, rc, y1, _, _⟩ := H.out.2.2.2.1.at_ hbw hkn
      have hL1 := H.out.2.2.2.2.2.pos hkn
      have hL2 := H.out.2.2.2.2.2.short hkn
      have hpl := prodL_mul_lt H.out.2.2.2.2.2 hn'.2 hkn
      obtain ⟨L, hL⟩ : ∃ L, (orbO T' k).length = L := ⟨_, rfl⟩
      rw [hL] at y1
      rw [show (ptsOf n (T' k).orb).length = L from hL] at hL1 hL2 hpl
      have hcl := fun (V : World) => times48 (w := V) hN ⟨hL1, by omega⟩ hpl
      have hkI : (k : Int) < (n : Int) := by omega
      have HK := Lib.hid (And.intro hcl (And.intro hb hL))
      clear hcl hb hN hL hpl bj
      go_wp2_with (go_at_call 48; (refine (HK.out.1 _).mono ?_); rintro e5 w5 ⟨t5, rfl, k5, k⟩; have H5 := Lib.hid (And.intro k5 k); clear k5 k)
      exact ⟨⟨k + 1, _, by omega, rfl, by go_num, by rw [prodL, show (ptsOf n (T' k).orb).length = L from HK.out.2.2]; exact H5.out.1, below_trans HK.out.2.1 H5.out.2⟩, by simp [intOf]; omega⟩
    · obtain rfl : n = k := by omega
      have HK1 := Lib.hid (And.intro hN hb)
      clear hN hb bj
      go_wp2_with fail
      go_loopw [8, 10] (fun tt ii wr => ∃ (k : Nat) (s : ByteArray), k ≤ n ∧ tt = .string s ∧ ii = .int .i64 (k : Int) ∧ IsNum s (prodL (fun i => ptsOf n (T' i).orb) n / prodL (fun i => ptsOf n (T i).orb) k) ∧ Below W0.heap.size W0 wr) (fun _ ii _ => n - (intOf ii).toNat)
      case atStart => exact ⟨0, _, by omega, rfl, rfl, by rw [prodL, Nat.div_one]; exact HK1.out.1, HK1.out.2⟩
      case round =>
        obtain ⟨k, s, hk, rfl, rfl, hN, hb⟩ := hrel
        obtain ⟨⟨j0, j1, j2⟩, ⟨j3, j4, j5⟩, bj⟩ := keepBB hx6 hb
        by_cases hkn : k < n
        · have hbw := below_trans hwW hb
          obtain ⟨go, oo, oc, gr, ro, rc, y1, _, _⟩ := H.out.2.2.1.at_ hbw hkn
          have hL1 := H.out.2.2.2.2.1.pos hkn
          have hL2 := H.out.2.2.2.2.1.short hkn
          have hpl := quo_next H.out.2.2.2.2.1 H.out.2.2.2.2.2 H.out.2.1 hkn
          obtain ⟨L, hL⟩ : ∃ L, (orbO T k).length = L := ⟨_, rfl⟩
          rw [hL] at y1
          rw [show (ptsOf n (T k).orb).length = L from hL] at hL1 hL2 hpl
          have hcl := fun (V : World) => ratio49 (w := V) hN ⟨hL1, by omega⟩ (Nat.lt_of_le_of_lt (Nat.div_le_self _ _) (prodL_lt H.out.2.2.2.2.2 hn'.2 (Nat.le_refl _))) hpl.1
          have hkI : (k : Int) < (n : Int) := by omega
          have HK := Lib.hid (And.intro hcl (And.intro hb (And.intro hL hpl.2)))
          clear hcl hb hN hL hpl bj
          go_wp2_with (go_at_call 49; (refine (HK.out.1 _).mono ?_); rintro e5 w5 ⟨t5, rfl, k5, k⟩; have H5 := Lib.hid (And.intro k5 k); clear k5 k)
          exact ⟨⟨k + 1, _, by omega, rfl, by go_num, by rw [← HK.out.2.2.2]; exact H5.out.1, below_trans HK.out.2.1 H5.out.2⟩, by simp [intOf]; omega⟩
        · obtain rfl : n = k := by omega
          have HK2 := Lib.hid (And.intro hN hb)
          clear hN hb bj
          go_wp2_with fail
          go_ret2
          refine ⟨_, rfl, fun O1 R1 O2 R2 k1 k2 => ?_, below_trans hwW HK2.out.2⟩
          rw [sz_uniq k2 H.out.2.2.2.2.2, sz_uniq k1 H.out.2.2.2.2.1, ← prodL_all, ← prodL_all]
          exact HK2.out.1
end Go.Proofs.YtbejhkojdiadaaaGreatDoor
namespace Go.Proofs.YtbejhkojdiadaaaGreatDoor
open Go.RowKit PlainPm
section
variable {w : World} {v1 v2 : Value} {d1 d2 : Int} {os1 os2 : List (List Int)} {rs1 rs2 : List (List (List Int))}
theorem below79e (h1 : ChV w v1 d1 os1 rs1) (h2 : ChV w v2 d2 os2 rs2) (hE : pairE d1 os1 rs1 d2 os2 rs2 ≠ 0) :
    Calls Tryz.prog 79 #[v1, v2] w fun e w' => e = .returned (.tuple #[.bool false, .int .i64 (pairE d1 os1 rs1 d2 os2 rs2)]) ∧ Below w.heap.size w w' := by
  unfold pairE at hE ⊢
  by_cases k1 : chkE d1 os1 rs1 = 0
  · rw [if_neg (by simp [k1])] at hE ⊢
    by_cases k2 : chkE d2 os2 rs2 = 0
    · rw [if_neg (by simp [k2])] at hE ⊢
      by_cases k3 : d1 = d2
      · rw [if_neg (by simp [k3])] at hE; exact absurd rfl hE
      · rw [if_pos k3]; exact below79c h1 h2 k1 k2 k3
    · rw [if_pos k2]; exact below79b h1 h2 k1 k2
  · rw [if_pos k1]; exact below79a h1 h2 k1
theorem below47e (h1 : ChV w v1 d1 os1 rs1) (h2 : ChV w v2 d2 os2 rs2) (hE : pairE d1 os1 rs1 d2 os2 rs2 ≠ 0) :
    Calls Tryz.prog 47 #[v1, v2] w fun e w' => e = .returned (.tuple #[.bool false, .int .i64 (pairE d1 os1 rs1 d2 os2 rs2)]) ∧ Below w.heap.size w w' := by
  unfold pairE at hE ⊢
  by_cases k1 : chkE d1 os1 rs1 = 0
  · rw [if_neg (by simp [k1])] at hE ⊢
    by_cases k2 : chkE d2 os2 rs2 = 0
    · rw [if_neg (by simp [k2])] at hE ⊢
      by_cases k3 : d1 = d2
      · rw [if_neg (by simp [k3])] at hE; exact absurd rfl hE
      · rw [if_pos k3]; exact below47c h1 h2 k1 k2 k3
    · rw [if_pos k2]; exact below47b h1 h2 k1 k2
  · rw [if_pos k1]; exact below47a h1 h2 k1
set_option maxRecDepth 100000 in
set_option maxHeartbeats 2000000 in
theorem part44e (h1 : ChV w v1 d1 os1 rs1) (h2 : ChV w v2 d2 os2 rs2) (hE : pairE d1 os1 rs1 d2 os2 rs2 ≠ 0) :
    Calls Tryz.prog 44 #[v1, v2] w fun r w' => r = .returned (.int .i64 (pairE d1 os1 rs1 d2 os2 rs2)) ∧ Below w.heap.size w w' := by
  have hbl := fun (V : World) (hV : Below w.heap.size w V) => below79e (h1.below hV) (h2.below hV) hE
  obtain ⟨r, hr⟩ : ∃ r, pairE d1 os1 rs1 d2 os2 rs2 = r := ⟨_, rfl⟩
  rw [hr] at hbl hE ⊢
  have hne : (r != 0) = true := by simp [hE]
  have hne2 : (r == 0) = false := by simp [hE]
  obtain ⟨a1, m1, c1, e1, rfl, _⟩ := h1
  obtain ⟨a2, m2, c2, e2, rfl, _⟩ := h2
  obtain ⟨X, hX⟩ : ∃ X, w.heap.size = X := ⟨_, rfl⟩
  obtain ⟨W0, hW0⟩ : ∃ W0, ((w.alloc (.cells #[.int .i64 d1, .slice a1 os1.length m1, .slice c1 rs1.length e1] 25)).alloc (.cells #[.int .i64 d2, .slice a2 os2.length m2, .slice c2 rs2.length e2] 25)) = W0 := ⟨_, rfl⟩
  have hF : Below w.heap.size w W0 ∧ W0.heap[X]? = some (.cells #[.int .i64 d1, .slice a1 os1.length m1, .slice c1 rs1.length e1] 25) ∧ W0.heap[X + 1]? = some (.cells #[.int .i64 d2, .slice a2 os2.length m2, .slice c2 rs2.length e2] 25) := by
    refine ⟨?_, ?_, ?_⟩
    · rw [← hW0]; exact alloc_b (alloc_b (Below.refl _ _) _) _
    · rw [← hW0, ← hX]; exact ((alloc_b (Below.refl _ _) _).block _ (by simp)).trans (box_al25 rfl _ _ _)
    · rw [← hW0]; exact box_al25 (by simp [hX]) _ _ _
  obtain ⟨q0, q1, q2, _⟩ := box_cells hF.2.1
  obtain ⟨p0, p1, p2, _⟩ := box_cells hF.2.2
  have hwW := hF.1
  have H := Lib.hid hbl
  clear hbl hF hE hr
  go_enter Tryz.func44, Tryz.ntmps44
  go_wp2_with (go_at_call 79; (with_reducible refine (H.out _ hwW).mono ?_); rintro e1 w1 ⟨rfl, k⟩
               have H1 := Lib.hid k; clear k)
  go_ret
  exact ⟨rfl, below_trans hwW H1.out⟩
set_option maxRecDepth 100000 in
set_option maxHeartbeats 2000000 in
theorem index12e (h1 : ChV w v1 d1 os1 rs1) (h2 : ChV w v2 d2 os2 rs2) (hE : pairE d1 os1 rs1 d2 os2 rs2 ≠ 0) :
    Calls Tryz.prog 12 #[v1, v2] w fun r w' => r = .returned (.tuple #[.string ⟨#[]⟩, .int .i64 (pairE d1 os1 rs1 d2 os2 rs2)]) ∧ Below w.heap.size w w' := by
  have hbl := fun (V : World) (hV : Below w.heap.size w V) => part44e (h1.below hV) (h2.below hV) hE
  obtain ⟨r, hr⟩ : ∃ r, pairE d1 os1 rs1 d2 os2 rs2 = r := ⟨_, rfl⟩
  rw [hr] at hbl hE ⊢
  have hne : (r != 0) = true := by simp [hE]
  have hne2 : (r == 0) = false := by simp [hE]
  obtain ⟨a1, m1, c1, e1, rfl, _⟩ := h1
  obtain ⟨a2, m2, c2, e2, rfl, _⟩ := h2
  obtain ⟨X, hX⟩ : ∃ X, w.heap.size = X := ⟨_, rfl⟩
  obtain ⟨W0, hW0⟩ : ∃ W0, ((w.alloc (.cells #[.int .i64 d1, .slice a1 os1.length m1, .slice c1 rs1.length e1] 25)).alloc (.cells #[.int .i64 d2, .slice a2 os2.length m2, .slice c2 rs2.length e2] 25)) = W0 := ⟨_, rfl⟩
  have hF : Below w.heap.size w W0 ∧ W0.heap[X]? = some (.cells #[.int .i64 d1, .slice a1 os1.length m1, .slice c1 rs1.length e1] 25) ∧ W0.heap[X + 1]? = some (.cells #[.int .i64 d2, .slice a2 os2.length m2, .slice c2 rs2.length e2] 25) := by
    refine ⟨?_, ?_, ?_⟩
    · rw [← hW0]; exact alloc_b (alloc_b (Below.refl _ _) _) _
    · rw [← hW0, ← hX]; exact ((alloc_b (Below.refl _ _) _).block _ (by simp)).trans (box_al25 rfl _ _ _)
    · rw [← hW0]; exact box_al25 (by simp [hX]) _ _ _
  obtain ⟨q0, q1, q2, _⟩ := box_cells hF.2.1
  obtain ⟨p0, p1, p2, _⟩ := box_cells hF.2.2
  have hwW := hF.1
  have H := Lib.hid hbl
  clear hbl hF hE hr
  go_enter Tryz.func12, Tryz.ntmps12
  go_wp2_with (go_at_call 44; (with_reducible refine (H.out _ hwW).mono ?_); rintro e1 w1 ⟨rfl, k⟩
               have H1 := Lib.hid k; clear k)
  go_ret2
  exact ⟨rfl, below_trans hwW H1.out⟩
set_option maxRecDepth 100000 in
set_option maxHeartbeats 2000000 in
theorem index13e (h1 : ChV w v1 d1 os1 rs1) (h2 : ChV w v2 d2 os2 rs2) (hE : pairE d1 os1 rs1 d2 os2 rs2 ≠ 0) :
    Calls Tryz.prog 13 #[v1, v2] w fun r w' => r = .returned (.tuple #[.string ⟨#[]⟩, .int .i64 (pairE d1 os1 rs1 d2 os2 rs2)]) ∧ Below w.heap.size w w' := by
  have hbl := fun (V : World) (hV : Below w.heap.size w V) => below47e (h1.below hV) (h2.below hV) hE
  obtain ⟨r, hr⟩ : ∃ r, pairE d1 os1 rs1 d2 os2 rs2 = r := ⟨_, rfl⟩
  rw [hr] at hbl hE ⊢
  have hne : (r != 0) = true := by simp [hE]
  have hne2 : (r == 0) = false := by simp [hE]
  obtain ⟨a1, m1, c1, e1, rfl, _⟩ := h1
  obtain ⟨a2, m2, c2, e2, rfl, _⟩ := h2
  obtain ⟨X, hX⟩ : ∃ X, w.heap.size = X := ⟨_, rfl⟩
  obtain ⟨W0, hW0⟩ : ∃ W0, ((w.alloc (.cells #[.int .i64 d1, .slice a1 os1.length m1, .slice c1 rs1.length e1] 25)).alloc (.cells #[.int .i64 d2, .slice a2 os2.length m2, .slice c2 rs2.length e2] 25)) = W0 := ⟨_, rfl⟩
  have hF : Below w.heap.size w W0 ∧ W0.heap[X]? = some (.cells #[.int .i64 d1, .slice a1 os1.length m1, .slice c1 rs1.length e1] 25) ∧ W0.heap[X + 1]? = some (.cells #[.int .i64 d2, .slice a2 os2.length m2, .slice c2 rs2.length e2] 25) := by
    refine ⟨?_, ?_, ?_⟩
    · rw [← hW0]; exact alloc_b (alloc_b (Below.refl _ _) _) _
    · rw [← hW0, ← hX]; exact ((alloc_b (Below.refl _ _) _).block _ (by simp)).trans (box_al25 rfl _ _ _)
    · rw [← hW0]; exact box_al25 (by simp [hX]) _ _ _
  obtain ⟨q0, q1, q2, _⟩ := box_cells hF.2.1
  obtain ⟨p0, p1, p2, _⟩ := box_cells hF.2.2
  have hwW := hF.1
  have H := Lib.hid hbl
  clear hbl hF hE hr
  go_enter Tryz.func13, Tryz.ntmps13
  go_wp2_with (go_at_call 47; (with_reducible refine (H.out _ hwW).mono ?_); rintro e1 w1 ⟨rfl, k⟩
               have H1 := Lib.hid k; clear k)
  go_ret2
  exact ⟨rfl, below_trans hwW H1.out⟩
end
set_option maxRecDepth 100000 in
set_option maxHeartbeats 2000000 in
theorem index13n {n : Nat} (hn' : 0 < n ∧ n ≤ 8) {w : World} {v1 v2 : Value} {G1 G2 : Pm n → Prop} (hG1 : IsG G1) (hG2 : IsG G2) (h1 : GrG w v1 G1) (h2 : GrG w v2 G2) (hs : ¬ ∀ x, G1 x → G2 x) :
    Calls Tryz.prog 13 #[v1, v2] w fun r w' => r = .returned (.tuple #[.string ⟨#[]⟩, .int .i64 18]) ∧ Below w.heap.size w w' := by
  have hn : 0 < n ∧ n ≤ 64 := ⟨hn'.1, by omega⟩
  have hbl := fun (V : World) (hV : Below w.heap.size w V) => below47 hn' hG1 hG2 (h1.below hV) (h2.below hV)
  obtain ⟨T, t, ab, ao, c, bb, bo, e, hv1, hl1⟩ := h1.lev hG1 ⟨hn.1, hn.2⟩
  obtain ⟨T', t', ab', ao', c', bb', bo', e', hv2, hl2⟩ := h2.lev hG2 ⟨hn.1, hn.2⟩
  subst hv1 hv2
  unfold cv at hbl ⊢
  obtain ⟨X, hX⟩ : ∃ X, w.heap.size = X := ⟨_, rfl⟩
  obtain ⟨W0, hW0⟩ : ∃ W0, ((w.alloc (.cells #[.int .i64 (n : Int), .slice (some ⟨ab, ao, none⟩) n c, .slice (some ⟨bb, bo, none⟩) n e] 25)).alloc (.cells #[.int .i64 (n : Int), .slice (some ⟨ab', ao', none⟩) n c', .slice (some ⟨bb', bo', none⟩) n e'] 25)) = W0 := ⟨_, rfl⟩
  have hF : Below w.heap.size w W0 ∧ W0.heap[X]? = some (.cells #[.int .i64 (n : Int), .slice (some ⟨ab, ao, none⟩) n c, .slice (some ⟨bb, bo, none⟩) n e] 25) ∧ W0.heap[X + 1]? = some (.cells #[.int .i64 (n : Int), .slice (some ⟨ab', ao', none⟩) n c', .slice (some ⟨bb', bo', none⟩) n e'] 25) := by
    refine ⟨?_, ?_, ?_⟩
    · rw [← hW0]; exact alloc_b (alloc_b (Below.refl _ _) _) _
    · rw [← hW0, ← hX]; exact ((alloc_b (Below.refl _ _) _).block _ (by simp)).trans (box_al25 rfl _ _ _)
    · rw [← hW0]; exact box_al25 (by simp [hX]) _ _ _
  obtain ⟨q0, q1, q2, _⟩ := box_cells hF.2.1
  obtain ⟨p0, p1, p2, _⟩ := box_cells hF.2.2
  have hwW := hF.1
  have H := Lib.hid hbl
  clear hbl hF h1 h2 hl1 hl2
  go_enter Tryz.func13, Tryz.ntmps13
  go_wp2_with (go_at_call 47; (with_reducible refine (H.out _ hwW).mono ?_); rintro e1 w1 ⟨b, rfl, hb, k⟩; obtain rfl : b = false := (by cases b; rfl; exact absurd (hb.1 rfl) hs); clear hb
               have H1 := Lib.hid k; clear k)
  go_ret2
  exact ⟨rfl, below_trans hwW H1.out⟩
end Go.Proofs.YtbejhkojdiadaaaGreatDoor
namespace Go.Proofs.YtbejhkojdiadaaaGreatDoor
open Go.RowKit PlainPm
set_option maxRecDepth 100000 in
set_option maxHeartbeats 2000000 in
theorem least57n {n ab ao c bb bo e : Nat} {G : Pm n → Prop} {O : Nat → List Nat} {R : Nat → Nat → Pm n} (hn0 : 0 < n) (hn : n ≤ 64) (hG : ChG G O R) {x : Pm n} {va : Value} {w : World} (h : LvW n w O R ab ao bb bo) (hx : PmV w [] va x) :
    Calls Tryz.prog 57 #[cv n ab ao c bb bo e, va] w fun e w' => ∃ v, e = .returned v ∧ NewPm w w' v (lstF O R n 0 x) ∧ Below w.heap.size w w' := by
  obtain ⟨X, hX⟩ : ∃ X, w.heap.size = X := ⟨_, rfl⟩
  have hB0 := BoxW.start w X n ab ao c bb bo e hX
  obtain ⟨W1, hW1⟩ : ∃ W1, W1 = w.alloc (.cells #[.int .i64 (n : Int), .slice (some ⟨ab, ao, none⟩) n c, .slice (some ⟨bb, bo, none⟩) n e] 25) := ⟨_, rfl⟩
  rw [← hW1] at hB0
  have hwW : Below w.heap.size w W1 := by rw [hX]; exact hB0.bel
  have hx1 := hx.below hwW
  obtain ⟨xi, xic, hxi1, hxi2⟩ := hx1.ints (by omega)
  have hxl := x.ok.1
  rw [hxl] at hxi1
  subst hxi1
  obtain ⟨xb, xo, xc, hxe, _⟩ := id hx
  cases hxe
  have hown := own115 (c := xic) hxi2 hxl hn
  have H := Lib.hid (And.intro h (And.intro hown (And.intro hB0 (And.intro hX (And.intro hwW hG)))))
  clear h hx hwW hG hB0 hown hx1 hxi2 hxl
  go_enter Tryz.func57, Tryz.ntmps57
  try rw [hX]
  go_wp2_with (go_at_call 58; (try rw [← hW1]); clear hW1; (with_reducible refine H.out.2.1.mono ?_); rintro e w2 ⟨v2, rfl, k1, k2⟩; have H2 := Lib.hid (And.intro k1 k2); clear k1 k2)
  have hx2 : NewPm w w2 v2 x := by
    obtain ⟨g9, c9, e9, _⟩ := H2.out.1.form (by rw [ints_len, x.ok.1]; omega)
    subst e9
    have h9 := H2.out.1
    rw [ints_len, x.ok.1] at h9 ⊢
    exact NewPm.of_own h9 H.out.2.2.2.2.1.size rfl
  go_loopw [1, 5, 6, 7] (fun v i _ _ wr => ∃ (k : Nat) (z : Pm n), k ≤ n ∧ i = .int .i64 (k : Int) ∧ BoxW w X n ab ao c bb bo e wr ∧ NewPm w wr v z ∧ lstF O R (n - k) k z = lstF O R n 0 x) (fun _ i _ _ _ => n - (intOf i).toNat)
  case atStart => exact ⟨0, x, by omega, rfl, H.out.2.2.1.below (H2.out.2.mono H.out.2.2.1.lt), hx2, rfl⟩
  case round =>
    obtain ⟨k, z, hk, rfl, hb, hnw, he⟩ := hrel
    have hz := hnw.pm (M := []) (by simp)
    have HNW := Lib.hid hnw
    clear hnw
    have x0 := hb.c0
    have x1 := hb.c1
    have x2 := hb.c2
    have hwr : Below w.heap.size w wr := by rw [hX]; exact hb.bel
    obtain ⟨zb, zo, zc, hu1, _, hzb, hzc⟩ := id hz
    subst hu1
    by_cases hkn : k < n
    · obtain ⟨go, oo, oc, gr, ro, rc, y1, y2, y3⟩ := H.out.1.at_ hwr hkn
      have hlt := H.out.2.2.2.2.2.lt k hkn
      have hpos := H.out.2.2.2.2.2.pos hkn
      obtain ⟨L, hL⟩ : ∃ L, (O k).length = L := ⟨_, rfl⟩
      have hL64 : L ≤ 64 := by rw [← hL]; exact Nat.le_trans (H.out.2.2.2.2.2.short hkn) hn
      rw [hL] at y1 y2 hpos
      have hh0 : (O k)[0]? = some ((O k).headD 0) := by
        cases ho : O k with
        | nil => rw [ho] at hL; simp at hL; omega
        | cons a r => simp
      have HC := Lib.hid (And.intro hb (And.intro hz (And.intro he (And.intro hwr (And.intro y3 (And.intro hzc (And.intro hlt (And.intro hL hh0))))))))
      have hk1 : (k : Int) < n := by omega
      clear hb hz he hwr y3 hlt hL hzc hh0
      go_wp2_with fail
      obtain ⟨wo, rfl⟩ : ∃ wo : World, wo = wr := ⟨_, rfl⟩
      go_loopw [6, 7] (fun b j wi => ∃ (q m bi : Nat), q ≤ L ∧ j = .int .i64 (q : Int) ∧ b = .int .i64 (bi : Int) ∧ wi = wo.drewN m ∧ (O k)[bi]? = some (best z ((O k).take q) ((O k).headD 0))) (fun _ j _ => L - (intOf j).toNat)
      case atStart => exact ⟨0, 0, 0, by omega, rfl, rfl, rfl, HC.out.2.2.2.2.2.2.2.2⟩
      case round =>
        obtain ⟨q, m, bi, hq, rfl, rfl, rfl, hbi⟩ := hrel
        obtain ⟨z5, u, z6, hu⟩ := HC.out.2.2.2.2.1 wo HC.out.2.2.2.1 bi _ hbi
        have hbL : bi < L := by rw [← HC.out.2.2.2.2.2.2.2.1]; exact (List.getElem?_eq_some_iff.1 hbi).1
        have hbn := HC.out.2.2.2.2.2.2.1 _ (List.mem_of_getElem? hbi)
        have z7 := HC.out.2.2.2.2.2.1 _ hbn
        obtain ⟨B, hB⟩ : ∃ B, best z ((O k).take q) ((O k).headD 0) = B := ⟨_, rfl⟩
        rw [hB] at z5 hu hbn z7 hbi
        obtain ⟨bv, hbv⟩ : ∃ v, z.at B = v := ⟨_, rfl⟩
        rw [hbv] at z7
        by_cases hqL : q < L
        · obtain ⟨p, hp⟩ : ∃ p, (O k)[q]? = some p := ⟨_, List.getElem?_eq_getElem (by rw [HC.out.2.2.2.2.2.2.2.1]; exact hqL)⟩
          have hpn := HC.out.2.2.2.2.2.2.1 _ (List.mem_of_getElem? hp)
          obtain ⟨z8, -⟩ := HC.out.2.2.2.2.1 wo HC.out.2.2.2.1 q p hp
          have z9 := HC.out.2.2.2.2.2.1 p hpn
          obtain ⟨pv, hpv⟩ : ∃ v, z.at p = v := ⟨_, rfl⟩
          rw [hpv] at z9
          have hnx : best z ((O k).take (q + 1)) ((O k).headD 0) = if pv < bv then p else B := by rw [List.take_add_one, hp, Option.toList_some, best_snoc, hB, hpv, hbv]
          have HN := Lib.hid (And.intro hbi (And.intro hp hnx))
          have hq1 : (q : Int) < L := by omega
          clear hbi hp hu hnx hB hbv hpv
          by_cases hlt : pv < bv
          · have g1 : decide ((pv : Int) < (bv : Int)) = true := by simp; omega
            have g2 : (pv : Int) < (bv : Int) := by omega
            go_wp2_with fail
            go_quiet (fail)
            go_wp2_with fail
            refine ⟨⟨q + 1, m + nq, q, by omega, by go_num, rfl, rfl, ?_⟩, by simp [intOf]; omega⟩
            rw [HN.out.2.2, if_pos hlt]; exact HN.out.2.1
          · have g1 : decide ((pv : Int) < (bv : Int)) = false := by simp; omega
            have g2 : ¬ (pv : Int) < (bv : Int) := by omega
            go_wp2_with fail
            go_quiet (fail)
            go_wp2_with fail
            refine ⟨⟨q + 1, m + nq, bi, by omega, by go_num, rfl, rfl, ?_⟩, by simp [intOf]; omega⟩
            rw [HN.out.2.2, if_neg hlt]; exact HN.out.1
        · obtain rfl : q = L := by omega
          have hq1 : ¬ (q : Int) < q := by omega
          obtain ⟨ub, uo, uc, rfl, _⟩ := id hu
          have hmul := fun (V : World) (hv : Below wo.heap.size wo V) => mul49 hn hn0 (hu.below hv) (HC.out.2.1.below hv)
          have hbB : best z (O k) ((O k).headD 0) = B := by rw [← hB, List.take_of_length_le (by rw [HC.out.2.2.2.2.2.2.2.1]; exact Nat.le_refl _)]
          have HM := Lib.hid (And.intro hmul hbB)
          clear hmul hbB hu hB hbi hbv
          go_wp2_with (go_at_call 28; refine (HM.out.1 _ (below_self_drewN _ _)).mono ?_; rintro e1 w7 ⟨v7, rfl, k1, k2⟩; have H7 := Lib.hid (And.intro k1 k2); clear k1 k2)
          have hb7 : Below wo.heap.size wo w7 := below_trans (below_self_drewN wo m) H7.out.2
          have hlt := HC.out.1.lt
          refine ⟨⟨k + 1, (R k B).mul z, by omega, by go_num, HC.out.1.below (hb7.mono (by omega)), H7.out.1.from HC.out.2.2.2.1.size, ?_⟩, by simp [intOf]; omega⟩
          rw [← HC.out.2.2.1, show n - k = n - (k + 1) + 1 by omega, lstF, HM.out.2]
    · obtain rfl : k = n := by omega
      have hk1 : ¬ (k : Int) < k := by omega
      rw [Nat.sub_self] at he
      have HC := Lib.hid (And.intro hb (And.intro hz he))
      clear hb hwr he hz hzc
      go_wp2_with fail
      go_ret
      exact ⟨_, rfl, by rw [← HC.out.2.2]; exact HNW.out, HC.out.1.bel⟩
end Go.Proofs.YtbejhkojdiadaaaGreatDoor
namespace Go.Proofs.YtbejhkojdiadaaaGreatDoor
open PlainPm
variable {n : Nat} {G G2 : Pm n → Prop} {O : Nat → List Nat} {R : Nat → Nat → Pm n} {Lg CL A A' S : List (Pm n)} {cur : Option (Pm n)} {j : Nat}
def CosD (O : Nat → List Nat) (R : Nat → Nat → Pm n) (Lg CL A S : List (Pm n)) (cur : Option (Pm n)) (j : Nat) : Prop :=
  A.Pairwise lexLt ∧ (∀ x ∈ A, x ∈ CL) ∧ lstC O R (PlainPm.one n) ∈ A ∧ (∀ x ∈ S, x ∈ A) ∧ (∀ x ∈ A, x ∈ S ∨ cur = some x ∨ ∀ s ∈ Lg, lstC O R (x.mul s) ∈ A) ∧ (∀ x, cur = some x → x ∈ A ∧ ∀ k s, k < j → Lg[k]? = some s → lstC O R (x.mul s) ∈ A)
theorem CosD.start (hC : lstC O R (PlainPm.one n) ∈ CL) : CosD O R Lg CL [lstC O R (PlainPm.one n)] [lstC O R (PlainPm.one n)] none 0 :=
  ⟨by simp, fun x hx => by rw [List.mem_singleton.1 hx]; exact hC, by simp, fun x hx => hx, fun x hx => .inl hx, fun x h => by cases h⟩
theorem CosD.pop {x : Pm n} (h : CosD O R Lg CL A (S ++ [x]) none j) : CosD O R Lg CL A S (some x) 0 := by
  obtain ⟨h1, h2, h3, h4, h5, h6⟩ := h
  refine ⟨h1, h2, h3, fun z hz => h4 z (List.mem_append_left _ hz), fun z hz => ?_, fun z e => ⟨?_, fun k s hk => absurd hk (by omega)⟩⟩
  · rcases h5 z hz with h | h | h
    · rcases List.mem_append.1 h with h | h
      · exact .inl h
      · exact .inr (.inl (by rw [List.mem_singleton.1 h]))
    · cases h
    · exact .inr (.inr h)
  · cases e
    exact h4 x (by simp)
theorem CosD.old {x s : Pm n} (h : CosD O R Lg CL A S (some x) j) (hs : Lg[j]? = some s) (hin : lstC O R (x.mul s) ∈ A) : CosD O R Lg CL A S (some x) (j + 1) := by
  obtain ⟨h1, h2, h3, h4, h5, h6⟩ := h
  refine ⟨h1, h2, h3, h4, h5, fun z e => ⟨(h6 z e).1, fun k t hk ht => ?_⟩⟩
  rcases Nat.lt_or_ge k j with hkj | hkj
  · exact (h6 z e).2 k t hkj ht
  · have e1 : k = j := by omega
    subst e1
    rw [hs] at ht; cases ht; cases e
    exact hin
theorem CosD.new {x y : Pm n} (h : CosD O R Lg CL A S (some x) j) (hy : y ∈ CL) (hs : A'.Pairwise lexLt) (hA : ∀ z, z ∈ A' ↔ z ∈ A ∨ z = y) : CosD O R Lg CL A' (S ++ [y]) (some x) j := by
  obtain ⟨h1, h2, h3, h4, h5, h6⟩ := h
  refine ⟨hs, fun z hz => ?_, (hA _).2 (.inl h3), fun z hz => ?_, fun z hz => ?_, fun z e => ⟨(hA _).2 (.inl (h6 z e).1), fun k t hk ht => (hA _).2 (.inl ((h6 z e).2 k t hk ht))⟩⟩
  · rcases (hA z).1 hz with h | rfl
    · exact h2 z h
    · exact hy
  · rcases List.mem_append.1 hz with h | h
    · exact (hA _).2 (.inl (h4 z h))
    · exact (hA _).2 (.inr (List.mem_singleton.1 h))
  · rcases (hA z).1 hz with h | rfl
    · rcases h5 z h with h | h | h
      · exact .inl (List.mem_append_left _ h)
      · exact .inr (.inl h)
      · exact .inr (.inr fun s hs => (hA _).2 (.inl (h s hs)))
    · exact .inl (by simp)
theorem CosD.next {x : Pm n} (h : CosD O R Lg CL A S (some x) Lg.length) : CosD O R Lg CL A S none 0 := by
  obtain ⟨h1, h2, h3, h4, h5, h6⟩ := h
  refine ⟨h1, h2, h3, h4, fun z hz => ?_, fun z e => by cases e⟩
  rcases h5 z hz with h | h | h
  · exact .inl h
  · refine .inr (.inr fun s hs => ?_)
    obtain ⟨k, hk, e⟩ := List.getElem_of_mem hs
    exact (h6 z h).2 k s hk (by rw [List.getElem?_eq_getElem hk, e])
  · exact .inr (.inr h)
theorem CosD.nodup (h : CosD O R Lg CL A S cur j) : A.Nodup := h.1.imp (S := fun a b => a ≠ b) (fun {a b} h e => by subst e; exact lexLt_irrefl _ h)
theorem CosD.le (h : CosD O R Lg CL A S cur j) : A.length ≤ CL.length := sub_len h.nodup h.2.1
theorem CosD.done (h : CosD O R Lg CL A [] none j) : CosI O R Lg CL A A.length 0 := by
  have hn := h.nodup
  obtain ⟨h1, h2, h3, h4, h5, h6⟩ := h
  refine ⟨hn, h2, h3, fun k x s _ hx hs => ?_, fun x k s _ hk => absurd hk (by omega)⟩
  rcases h5 x (List.mem_of_getElem? hx) with h | h | h
  · cases h
  · cases h
  · exact h s hs
theorem CosD.all (h : CosD O R Lg CL A [] none j) (hc : ChG G O R) (hs : CL.Pairwise lexLt) (hC : ∀ x, x ∈ CL ↔ G2 x ∧ lstC O R x = x) (hL : ∀ x, Grp (· ∈ Lg) x ↔ G2 x) : A = CL :=
  sorted_ext h.1 hs (fun x => (h.done.all (Nat.le_refl _) hc (hs.imp (S := fun a b => a ≠ b) (fun {a b} h e => by subst e; exact lexLt_irrefl _ h)) hC hL).2 x)
end Go.Proofs.YtbejhkojdiadaaaGreatDoor
namespace Go.Proofs.YtbejhkojdiadaaaGreatDoor
theorem lt8 {a b : Nat} (ha : a < 200) (hb : b < 200) : (UInt8.ofNat a < UInt8.ofNat b) ↔ a < b := by
  rw [UInt8.lt_iff_toNat_lt]
  simp [UInt8.toNat_ofNat']
  omega
theorem eq8 {a b : Nat} (ha : a < 200) (hb : b < 200) : (UInt8.ofNat a == UInt8.ofNat b) = decide (a = b) := by
  rw [Bool.eq_iff_iff]
  simp only [beq_iff_eq, decide_eq_true_iff]
  rw [← UInt8.toNat_inj]
  simp [UInt8.toNat_ofNat']
  omega
theorem num5040 {t : ByteArray} {k : Nat} (h : IsNum t k) : (4 < t.size ∨ t.size = 4 ∧ (!(Op.bytesLess t.data.toList [53, 48, 52, 48] || t.data.toList == [53, 48, 52, 48])) = true) ↔ 5040 < k := by
  obtain ⟨ds, hd, rfl, ht⟩ := h
  have hs : t.size = ds.length := by
    have : t.data.toList.length = ds.length := by rw [ht, digB_len, List.length_reverse]
    simpa using this
  rw [hs, ht]
  have h10 := hd.1
  have hlow := hd.lower
  have hup := valL_lt ds h10
  rcases Nat.lt_trichotomy ds.length 4 with hl | hl | hl
  · have : 10 ^ ds.length ≤ 10 ^ 3 := Nat.pow_le_pow_right (by omega) (by omega)
    constructor
    · rintro (h | h) <;> omega
    · intro h; omega
  · match ds, hl with
    | [d, c, b, a], _ =>
      have h1 := h10 d (by simp)
      have h2 := h10 c (by simp)
      have h3 := h10 b (by simp)
      have h4 := h10 a (by simp)
      have e5 : ([53, 48, 52, 48] : List UInt8) = [UInt8.ofNat (48 + 5), UInt8.ofNat (48 + 0), UInt8.ofNat (48 + 4), UInt8.ofNat (48 + 0)] := by decide
      rw [e5]
      simp only [List.reverse_cons, List.reverse_nil, List.nil_append, List.cons_append, digB, List.map_cons, List.map_nil, valL, List.length_cons, List.length_nil, Op.bytesLess]
      simp only [List.cons_beq_cons, eq8 (show 48 + a < 200 by omega) (show 48 + 5 < 200 by omega), eq8 (show 48 + b < 200 by omega) (show 48 + 0 < 200 by omega), eq8 (show 48 + c < 200 by omega) (show 48 + 4 < 200 by omega), eq8 (show 48 + d < 200 by omega) (show 48 + 0 < 200 by omega), lt8 (show 48 + a < 200 by omega) (show 48 + 5 < 200 by omega), lt8 (show 48 + b < 200 by omega) (show 48 + 0 < 200 by omega), lt8 (show 48 + c < 200 by omega) (show 48 + 4 < 200 by omega), lt8 (show 48 + d < 200 by omega) (show 48 + 0 < 200 by omega)]
      simp
      omega
  · have : 10 ^ 4 ≤ 10 ^ (ds.length - 1) := Nat.pow_le_pow_right (by omega) (by omega)
    constructor
    · intro _; omega
    · intro _; exact .inl hl
end Go.Proofs.YtbejhkojdiadaaaGreatDoor
namespace Go.Proofs.YtbejhkojdiadaaaGreatDoor
open Go.RowKit PlainPm
variable {n : Nat}
theorem same20p (hn : n ≤ 64) {w : World} {va vb : Value} {x y : Pm n} (ha : PmV w [] va x) (hb : PmV w [] vb y) : Calls Tryz.prog 20 #[va, vb] w fun e w' => e = .returned (.bool (decide (x = y))) ∧ Below w.heap.size w w' := by
  obtain ⟨a, c, rfl, h1⟩ := ha.ints (by omega)
  obtain ⟨b, d, rfl, h2⟩ := hb.ints (by omega)
  refine (same20 _ _ c d _ _ w h1 h2).mono ?_
  rintro e w' ⟨rfl, q, rfl⟩
  refine ⟨?_, below_self_drewN _ _⟩
  by_cases e : x = y
  · subst e; simp
  · rw [decide_eq_false e, decide_eq_false fun h => e (Pm.ext' h)]
theorem own58p (hn : 0 < n ∧ n ≤ 64) {w : World} {M : List Nat} {v : Value} {x : Pm n} (h : PmV w M v x) : Calls Tryz.prog 58 #[v] w fun e w' => ∃ v', e = .returned v' ∧ NewPm w w' v' x ∧ Below w.heap.size w w' := by
  obtain ⟨a, c, rfl, h1⟩ := h.ints (by omega)
  have hl := x.ok.1
  obtain ⟨ab, ao, ha, _⟩ := h1.at_ (k := 0) (by rw [hl]; exact hn.1)
  subst ha
  refine (own115 (c := c) h1 rfl (by rw [hl]; exact hn.2)).mono ?_
  rintro e w' ⟨v, rfl, ho, hb⟩
  obtain ⟨g, cap, rfl, _⟩ := ho.form (by rw [ints_len]; omega)
  rw [ints_len, hl] at ho ⊢
  exact ⟨_, rfl, NewPm.of_own ho (Nat.le_refl _) rfl, hb⟩
theorem grp_ne (L : List (Pm n)) (x : Pm n) : Grp (· ∈ L.filter fun y => !decide (y = PlainPm.one n)) x ↔ Grp (· ∈ L) x := by
  constructor
  · exact fun h => Grp.sub Grp.isG (fun y hy => Grp.base (List.mem_filter.1 hy).1) h
  · refine fun h => Grp.sub Grp.isG (fun y hy => ?_) h
    by_cases e : y = PlainPm.one n
    · rw [e]; exact Grp.one
    · exact Grp.base (List.mem_filter.2 ⟨hy, by simp [e]⟩)
theorem keep2d {V A B : World} {p q : Addr} {s t : Value} (h : A.cell? p = some s ∧ A.cell? q = some t ∧ Below V.heap.size V A) (k : Below A.heap.size A B) : B.cell? p = some s ∧ B.cell? q = some t ∧ Below V.heap.size V B :=
  ⟨(k.cell (block_lt_of_cell h.1)).trans h.1, (k.cell (block_lt_of_cell h.2.1)).trans h.2.1, below_trans h.2.2 k⟩
set_option maxRecDepth 100000 in
set_option maxHeartbeats 4000000 in
theorem strong56 (hn' : 0 < n ∧ n ≤ 8) {w : World} {v1 : Value} {G : Pm n → Prop} (hG : IsG G) (h1 : GrG w v1 G) :
    Calls Tryz.prog 56 #[v1] w fun r w' => ∃ v us L, r = .returned (.tuple #[v, .int .i64 0]) ∧ Own w' w.heap.size v 41 us ∧ PmL w' v.ownBlock.toList us L ∧ L.length ≤ 512 ∧ (∀ x, Grp (· ∈ L) x ↔ G x) ∧ Below w.heap.size w w' := by
  have hn : 0 < n ∧ n ≤ 64 := ⟨hn'.1, by omega⟩
  obtain ⟨i27, hi27, hz27, hs27, hb27⟩ := info_parts Tryz.info41
  have I27 := Lib.hid (And.intro hi27 (And.intro hz27 (And.intro hs27 hb27)))
  clear hi27 hz27 hs27 hb27
  obtain ⟨os, rs, hch, hc0⟩ := h1.chk hn hG
  have hck := fun (V : World) (hV : Below w.heap.size w V) => chk56 (hch.below hV)
  simp only [hc0] at hck
  have hst := fun (V : World) (hV : Below w.heap.size w V) => strong46p hn' hG (h1.below hV)
  obtain ⟨T, a, c, b, e, hT, rfl, _⟩ := id h1
  obtain ⟨X, hX⟩ : ∃ X, w.heap.size = X := ⟨_, rfl⟩
  obtain ⟨W0, hW0⟩ : ∃ W0, w.alloc (.cells #[.int .i64 (n : Int), .slice a n c, .slice b n e] 25) = W0 := ⟨_, rfl⟩
  have k0 : W0.heap[X]? = some (.cells #[.int .i64 (n : Int), .slice a n c, .slice b n e] 25) := by rw [← hW0]; exact box_al25 hX _ _ _
  have hwW : Below w.heap.size w W0 := hW0 ▸ alloc_b (Below.refl _ _) _
  obtain ⟨x0, x1, x2, _⟩ := box_cells k0
  have hz0 := And.intro x0 (And.intro x1 (And.intro x2 (Below.refl W0.heap.size W0)))
  have H := Lib.hid (And.intro hck (And.intro hst hwW))
  clear hck hst hch hc0 h1 hT k0
  go_enter Tryz.func56, Tryz.ntmps56
  go_wp2_with (first
    | (go_at_call 83; (with_reducible refine (H.out.2.1 _ (below_trans hwW H1.out)).mono ?_); rintro e3 w3 ⟨a3, m3, c3, L, rfl, k1, k2, k3, k4, k⟩
       obtain ⟨j0, j1, j2, bj⟩ := keep3b hz0 (below_trans H1.out k)
       have H3 := Lib.hid (And.intro bj (And.intro k1 (And.intro k2 (And.intro k3 k4)))); clear k k1 k2 k3 k4 bj)
    | (go_at_call 41; (with_reducible refine (H.out.1 _ hwW).mono ?_); rintro e1 w1 ⟨rfl, k⟩
       obtain ⟨j0, j1, j2, bj⟩ := keep3b hz0 k
       have H1 := Lib.hid bj; clear k bj))
  clear x0 x1 x2 j0 j1 j2
  obtain ⟨_, _, hq, _, hat⟩ := pms_at H3.out.2.2.2.1
  rw [H3.out.2.1] at hq
  simp only [Value.slice.injEq] at hq
  obtain ⟨rfl, -, rfl⟩ := hq
  have HA := Lib.hid hat
  clear hat
  have hm64 : m3 ≤ 64 := H3.out.2.2.1
  go_loopw [5, 7] (fun v jj wr => ∃ (j : Nat) (us : List Value) (vv : Value), vv = v ∧ j ≤ m3 ∧ jj = .int .i64 (j : Int) ∧ GrowL [] wr w3.heap.size vv us ((L.take j).filter fun y => !decide (y = PlainPm.one n)) ∧ Below w3.heap.size w3 wr) (fun _ jj _ => m3 - (intOf jj).toNat)
  case atStart => exact ⟨0, [], _, rfl, by omega, rfl, GrowL.nil _ (by simp), Below.refl _ _⟩
  case round =>
    obtain ⟨j, us, v, rfl, hj, rfl, hgl, hb⟩ := hrel
    obtain ⟨j0, j1, j2, bj⟩ := keep3b hz0 (below_trans H3.out.1 hb)
    by_cases hjL : j < m3
    · obtain ⟨y, hy⟩ : ∃ y, L[j]? = some y := ⟨_, List.getElem?_eq_getElem (by rw [H3.out.2.1]; exact hjL)⟩
      obtain ⟨g6, o6, u6, e6, hc6, hp6⟩ := HA.out j y hy
      cases e6
      have hc6r := (hb.cell (block_lt_of_cell hc6)).trans hc6
      obtain ⟨ub, uo, uc, rfl, _⟩ := id hp6
      have hpy := fun (V : World) (hV : Below wr.heap.size wr V) => (hp6.below hb).below hV
      have hlu : us.length < 1099511627776 := by
        have h1 := hgl.len
        have h2 := List.length_filter_le (fun y => !decide (y = PlainPm.one n)) (L.take j)
        rw [List.length_take] at h2
        have h3 := H3.out.2.2.1
        omega
      have hD : w3.heap.size ≤ wr.heap.size := hb.size
      have hz1 := And.intro hc6r (And.intro j0 (Below.refl wr.heap.size wr))
      obtain ⟨B, hB⟩ : ∃ B, decide (y = PlainPm.one n) = B := ⟨_, rfl⟩
      have hsm := fun (W : World) (va vb : Value) (h1 : PmV W [] va y) (h2 : PmV W [] vb (PlainPm.one n)) => same20p hn.2 h1 h2
      simp only [hB] at hsm
      have HJ := Lib.hid (And.intro hpy (And.intro hgl (And.intro hb (And.intro hy (And.intro hB hsm)))))
      clear hpy hgl hb hy hp6 hc6 bj hB hsm
      go_wp2_with fail
      go_region_held3 (fun W => W.cell? ⟨g6, o6 + j, none⟩ = some (.slice (some ⟨ub, uo, none⟩) n uc) ∧ W.cell? ⟨X, 0, none⟩ = some (.int .i64 (n : Int)) ∧ Below wr.heap.size wr W)
        (first
          | with_reducible assumption
          | with_reducible exact hz1
          | exact keep2d hz1 (below_drw (Below.refl _ _))
          | exact keep2d hz1 (below_self_drewN _ _)
          | exact keep2d hz1 b6
          | exact keep2d hz1 b5
          | fail)
        (first
          | (go_at_call 20; (with_reducible refine (HJ.out.2.2.2.2.2 _ _ _ (HJ.out.1 _ (by first | exact b5 | exact below_drw b5 | exact below_trans b5 (below_self_drewN _ _))) (PmV.below (n5.pm (M := []) (by simp)) (by first | exact Below.refl _ _ | exact below_drw (Below.refl _ _) | exact below_self_drewN _ _))).mono ?_); rintro e6 w6 ⟨rfl, k⟩; have b6 : Below wr.heap.size wr w6 := below_trans b5 (below_trans (by first | exact Below.refl _ _ | exact below_drw (Below.refl _ _) | exact below_self_drewN _ _) k); clear k)
          | (go_at_call 26; (with_reducible refine (one65 (n := n) hn.2 hn.1).mono ?_); rintro e5 w5 ⟨v5, rfl, k1, k2⟩; have b5 : Below wr.heap.size wr w5 := below_trans (by first | exact Below.refl _ _ | exact below_drw (Below.refl _ _) | exact below_self_drewN _ _) k2; have n5 : NewPm wr w5 v5 (PlainPm.one n) := NewPm.from k1 (by first | exact Nat.le_refl _ | simp [World.drew]); clear k1 k2))
      obtain ⟨c6, cX, _⟩ := keep2d hz1 b6
      cases B
      case true =>
        have hd := Lib.hid HJ.out.2.2.2.2.1
        go_wp2_with fail
        refine ⟨⟨j + 1, us, _, rfl, by omega, by go_num, ?_, below_trans HJ.out.2.2.1 b6⟩, by simp [intOf]; omega⟩
        rw [List.take_add_one, HJ.out.2.2.2.1, List.filter_append]
        simp only [Option.toList_some, List.filter_cons, hd.out, Bool.not_true, Bool.false_eq_true, if_false, List.filter_nil, List.append_nil]
        exact HJ.out.2.1.below b6
      case false =>
        have hd := Lib.hid HJ.out.2.2.2.2.1
        go_wp2_with (first
          | (at_builtin; refine app1 rfl (.tmp 30) (.tmp 36) 28 41 rfl i27 (.slice none 0 0) 24 Tryz.underlying28 I27.out.1 I27.out.2.1 I27.out.2.2.1 I27.out.2.2.2 rfl (by omega) w3.heap.size (.slice (some ⟨xb, 0, none⟩) n xc) _ us rfl ((HJ.out.2.1.below b6).below b7).1 rfl rfl hlu (Nat.le_trans hD (Nat.le_trans b6.size b7.size)) ?_; intro v9 w9 k1 k2 k3; have H9 := Lib.hid (And.intro k1 (And.intro k2 k3)); clear k1 k2 k3)
          | (go_at_call 58; (with_reducible refine (own58p (n := n) hn (HJ.out.1 _ b6)).mono ?_); rintro e7 w7 ⟨v7, rfl, k1, k2⟩; obtain ⟨xb, xc, rfl, _⟩ := id k1; have b7 : Below w6.heap.size w6 w7 := k2; have n7 := Lib.hid k1; clear k1 k2))
        have g7 := (HJ.out.2.1.below b6).below b7
        refine ⟨⟨j + 1, us ++ [.slice (some ⟨xb, 0, none⟩) n xc], _, rfl, by omega, by go_num, ?_, ?_⟩, by simp [intOf]; omega⟩
        · rw [List.take_add_one, HJ.out.2.2.2.1, List.filter_append]
          simp only [Option.toList_some, List.filter_cons, hd.out, Bool.not_false, if_true, List.filter_nil]
          exact g7.app (n7.out.growV (HJ.out.2.1.below b6)) H9.out.1 H9.out.2.1 H9.out.2.2
        · exact (HJ.out.2.2.1.trans ((below_trans b6 b7).mono hD)).grown H9.out.2.1 (Nat.le_trans hD (Nat.le_trans b6.size b7.size)) (fun g e => (g7.1.block_lt e).2)
    · obtain rfl : j = m3 := by omega
      have hgl' := hgl
      obtain ⟨va, vc, rfl, _⟩ := hgl.1.row (by rw [hgl.len]; have h2 := List.length_filter_le (fun y => !decide (y = PlainPm.one n)) (L.take j); rw [List.length_take] at h2; have h3 := H3.out.2.2.1; unfold maxLen; omega)
      have HJ := Lib.hid (And.intro hgl hb)
      clear hgl hgl' hb bj
      go_wp2_with fail
      go_ret2
      have hg := HJ.out.1
      rw [← H3.out.2.1, List.take_length] at hg
      have hbb := below_trans (below_trans hwW H3.out.1) HJ.out.2
      have hs := (below_trans hwW H3.out.1).size
      refine ⟨_, us, _, rfl, hg.1.mono hs, ?_, ?_, fun x => (grp_ne L x).trans (H3.out.2.2.2.2 x), hbb⟩
      · have h9 := hg.2.1
        rw [List.append_nil] at h9
        exact h9
      · have h2 := List.length_filter_le (fun y => !decide (y = PlainPm.one n)) L
        have h3 := H3.out.2.2.1
        have h4 := H3.out.2.1
        omega
end Go.Proofs.YtbejhkojdiadaaaGreatDoor
