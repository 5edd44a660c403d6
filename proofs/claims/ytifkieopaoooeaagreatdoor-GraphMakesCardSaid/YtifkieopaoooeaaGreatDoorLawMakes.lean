/- The law: both make the same graph. -/
import Derived.Test.YtifkieopaoooeaaGreatDoorMakeR
import Derived.Test.YtifkieopaoooeaaGreatDoorSameG
import Derived.Test.YtifkieopaoooeaaGreatDoorAwake
set_option linter.unusedSimpArgs false
set_option linter.unusedVariables false
namespace Go.Proofs.YtifkieopaoooeaaGreatDoor
open Go.RowKit Plain PlainG
set_option maxRecDepth 100000 in
set_option maxHeartbeats 4000000 in
theorem makes_calls {w : World} {a b : Option Addr} {ps : List (Int × Int)} {cs : List Int} (c d : Nat) (n : Int) (he : Edg w a ps) (hc : Ints w b cs) :
    Calls Tryz.prog 4 #[.int .i64 n, .slice a ps.length c, .slice b cs.length d] w fun e w' => e = .returned (.bool true) ∧ Below w.heap.size w w' := by
  have hA := Lib.hid (awake_calls w)
  by_cases h4 : 400 < ps.length
  · have h4i : (400 : Int) < (ps.length : Int) := by omega
    obtain ⟨L, hL⟩ : ∃ L, ps.length = L := ⟨_, rfl⟩
    obtain ⟨M, hM⟩ : ∃ M, cs.length = M := ⟨_, rfl⟩
    rw [hL] at h4i ⊢
    rw [hM]
    clear he hc hL hM h4
    go_enter Tryz.func4, Tryz.ntmps4
    go_wp2_with (go_at_call 11; refine hA.out.mono ?_; rintro e w2 ⟨rfl, hw2⟩; have HB := Lib.hid hw2; clear hw2)
    go_ret
    exact ⟨rfl, HB.out⟩
  by_cases h5 : 40 < cs.length
  · have h4i : ¬ (400 : Int) < (ps.length : Int) := by omega
    have h5i : (40 : Int) < (cs.length : Int) := by omega
    obtain ⟨L, hL⟩ : ∃ L, ps.length = L := ⟨_, rfl⟩
    obtain ⟨M, hM⟩ : ∃ M, cs.length = M := ⟨_, rfl⟩
    rw [hL] at h4i ⊢
    rw [hM] at h5i ⊢
    clear he hc hL hM h4 h5
    go_enter Tryz.func4, Tryz.ntmps4
    go_wp2_with (go_at_call 11; refine hA.out.mono ?_; rintro e w2 ⟨rfl, hw2⟩; have HB := Lib.hid hw2; clear hw2)
    go_ret
    exact ⟨rfl, HB.out⟩
  have K17 := make_calls (n := n) (c := c) (d := d) he hc (by omega) (by omega)
  have K18 := fun (w' : World) (hw : Below w.heap.size w w') => makeR_calls (n := n) (c := c) (d := d) (he.below hw) (hc.below hw) (by omega) (by omega)
  obtain ⟨r, hr⟩ : ∃ r, makeA n ps cs = r := ⟨_, rfl⟩
  rw [hr] at K17 K18
  obtain ⟨⟨N, es, ks⟩, ee⟩ := r
  unfold MakeRes at K17 K18
  simp only at K17 K18
  have hLi : ¬ 400 < ps.length := h4
  obtain ⟨L, hL⟩ : ∃ L, ps.length = L := ⟨_, rfl⟩
  obtain ⟨M, hM⟩ : ∃ M, cs.length = M := ⟨_, rfl⟩
  rw [hL] at K17 K18 h4 ⊢
  rw [hM] at K17 K18 h5 ⊢
  obtain ⟨L1, hL1⟩ : ∃ L1, es.length = L1 := ⟨_, rfl⟩
  obtain ⟨M1, hM1⟩ : ∃ M1, ks.length = M1 := ⟨_, rfl⟩
  have HS := Lib.hid (And.intro K17 (And.intro K18 (And.intro hL1 hM1)))
  clear K17 K18 he hc hL hM hr hL1 hM1 hLi
  go_enter Tryz.func4, Tryz.ntmps4
  go_wp2_with (go_at_call 17; refine HS.out.1.mono ?_; rintro e w2 ⟨a1, c1, b1, d1, rfl, q1, q2, q3⟩; rw [HS.out.2.2.1, HS.out.2.2.2]; have HB := Lib.hid (And.intro q1 (And.intro q2 q3)); clear q1 q2 q3)
  obtain ⟨W1, hW1⟩ : ∃ W1, W1 = w2.alloc (.cells #[.int .i64 N, .slice a1 L1 c1, .slice b1 M1 d1] 25) := ⟨_, rfl⟩
  have hbW1 : Below w2.heap.size w2 W1 := by rw [hW1]; exact (Below.refl _ _).alloc (Nat.le_refl _) _
  have hx1 : ∀ w', Below W1.heap.size W1 w' → w'.cell? ⟨w2.heap.size, 0, none⟩ = some (.int .i64 N) ∧ w'.cell? ⟨w2.heap.size, 1, none⟩ = some (.slice a1 L1 c1) ∧ w'.cell? ⟨w2.heap.size, 2, none⟩ = some (.slice b1 M1 d1) ∧ w2.heap.size < w'.heap.size := fun w' h => by
    rw [hW1] at h; exact box3 h
  have hw1 : Below w.heap.size w W1 := HB.out.2.2.trans (hbW1.mono HB.out.2.2.size)
  have K18 := HS.out.2.1 W1 hw1
  have HC := Lib.hid (And.intro K18 (And.intro hx1 (And.intro hw1 hbW1)))
  rw [← hW1]
  clear hW1 hbW1 hx1 hw1 K18
  go_wp2_with (go_at_call 18; refine HC.out.1.mono ?_; rintro e w3 ⟨a2, c2, b2, d2, rfl, q1, q2, q3⟩; rw [HS.out.2.2.1, HS.out.2.2.2]; obtain ⟨x0, x1, x2, x3⟩ := HC.out.2.1 _ q3; have HD := Lib.hid (And.intro q1 (And.intro q2 q3)); clear q1 q2 q3)
  obtain ⟨W2, hW2⟩ : ∃ W2, W2 = w3.alloc (.cells #[.int .i64 N, .slice a2 L1 c2, .slice b2 M1 d2] 25) := ⟨_, rfl⟩
  have hbW2 : Below w3.heap.size w3 W2 := by rw [hW2]; exact (Below.refl _ _).alloc (Nat.le_refl _) _
  have K16 := sameGraph_calls (w := W2) (g := ⟨N, es, ks⟩) (h := ⟨N, es, ks⟩) (c1 := c1) (d1 := d1) (c2 := c2) (d2 := d2) (((HB.out.1.below HC.out.2.2.2).below HD.out.2.2).below hbW2) (((HB.out.2.1.below HC.out.2.2.2).below HD.out.2.2).below hbW2) (HD.out.1.below hbW2) (HD.out.2.1.below hbW2)
  simp only at K16
  rw [sameG_iff.2 rfl, HS.out.2.2.1, HS.out.2.2.2] at K16
  have hw2 : Below w.heap.size w W2 := (HC.out.2.2.1.trans (HD.out.2.2.mono HC.out.2.2.1.size)).trans (hbW2.mono (HC.out.2.2.1.trans (HD.out.2.2.mono HC.out.2.2.1.size)).size)
  have HE := Lib.hid (And.intro K16 hw2)
  rw [← hW2]
  clear hW2 hbW2 K16 hw2
  refine HE.out.1.mono ?_
  rintro e w4 ⟨rfl, hw4⟩
  have HF := Lib.hid hw4
  clear hw4
  have hA4 := Lib.hid (awake_calls w4)
  go_wp2_with (go_at_call 11; refine hA4.out.mono ?_; rintro e w5 ⟨rfl, hw5⟩; have HG := Lib.hid hw5; clear hw5)
  go_ret
  exact ⟨rfl, (HE.out.2.trans (HF.out.mono HE.out.2.size)).trans (HG.out.mono (HE.out.2.trans (HF.out.mono HE.out.2.size)).size)⟩
theorem makesW {w : World} {a1 a2 : Option Addr} {c1 c2 : Nat} {l1 : List (Int × Int)} {l2 : List Int} (he : Edg w a1 l1) (hc : Ints w a2 l2) (n : Int) :
    Calls Tryz.prog 4 #[.int .i64 n, .slice a1 l1.length c1, .slice a2 l2.length c2] w fun e w' => e = .returned (.bool true) ∧ Below w.heap.size w w' := makes_calls c1 c2 n he hc
end Go.Proofs.YtifkieopaoooeaaGreatDoor
