/- The graph of a matrix, the reference's. -/
import Derived.Test.YtifkieopaoooeaaGreatDoorBuilt
import Derived.Test.YtifkieopaoooeaaGreatDoorPlainG
import Derived.Test.YtifkieopaoooeaaGreatDoorMats
set_option linter.unusedSimpArgs false
set_option linter.unusedVariables false
namespace Go.Proofs.YtifkieopaoooeaaGreatDoor
open Go.RowKit Plain PlainG
/-- A matrix's adjacency. -/
def one (f : Nat → Nat → Int) (i k : Nat) : Bool := f i k == 1
set_option maxRecDepth 100000 in
set_option maxHeartbeats 8000000 in
theorem ofR_graph_calls {w : World} {G n c d : Nat} {ad : Addr} {f : Nat → Nat → Int} {cs : List Int} (hm : Rows w (some ⟨G, 0, none⟩) (matF n f)) (hn : n ≤ 100) (hc : Ints w (some ad) cs) (hcl : cs.length ≤ 1000000) :
    Calls Tryz.prog 74 #[.slice (some ⟨G, 0, none⟩) n c, .slice (some ad) cs.length d] w fun e w' => ∃ a1 c1 b1 d1, e = .returned (.agg #[.int .i64 (n : Int), .slice a1 (canon n (one f)).length c1, .slice b1 cs.length d1]) ∧
      OwnE w' w.heap.size 69 (.slice a1 (canon n (one f)).length c1) (canon n (one f)) ∧ Own w' w.heap.size (.slice b1 cs.length d1) 3 (ints cs) ∧ Below w.heap.size w w' := by
  obtain ⟨i3, hi3, hz3, hs3, hb3⟩ := info_parts Tryz.info3
  have I3 := Lib.hid (And.intro hi3 (And.intro hz3 (And.intro hs3 hb3)))
  clear hi3 hz3 hs3 hb3
  obtain ⟨i0, hi, hz0, hz1, hz2⟩ := info_parts Tryz.info69
  have I := Lib.hid (And.intro hi (And.intro hz0 (And.intro hz1 hz2)))
  clear hi hz0 hz1 hz2
  obtain ⟨M, hM⟩ : ∃ M, cs.length = M := ⟨_, rfl⟩
  rw [hM] at hcl ⊢
  obtain ⟨R, hR⟩ : ∃ R, w.heap.size = R := ⟨_, rfl⟩
  rw [hR]
  obtain ⟨z, hz⟩ : ∃ z, canon n (one f) = z := ⟨_, rfl⟩
  rw [hz]
  have hlen : ∀ i k, (upto n (one f) i k).length ≤ 10000 := fun i k => Nat.le_trans (upto_len _ _ _ _) (Nat.mul_le_mul hn hn)
  have hb1 : Below R w (w.alloc (.cells #[.int .i64 0, .slice none 0 0, .slice none 0 0] 25)) := by rw [← hR]; exact (Below.refl _ _).alloc (Nat.le_refl _) _
  have hs1 : (w.alloc (.cells #[.int .i64 0, .slice none 0 0, .slice none 0 0] 25)).heap.size = R + 1 := by rw [← hR]; simp
  have hem := Own.new (w := w.alloc (.cells #[.int .i64 0, .slice none 0 0, .slice none 0 0] 25)) (B := R) 3 [] (by rw [hs1]; omega) (Nat.zero_le _)
  obtain ⟨W2, hW2⟩ : ∃ W2, W2 = (w.alloc (.cells #[.int .i64 0, .slice none 0 0, .slice none 0 0] 25)).alloc (.cells #[] 3) := ⟨_, rfl⟩
  have hb2 : Below R w W2 := by rw [hW2]; exact hb1.alloc (by rw [hs1]; omega) _
  have hs2 : W2.heap.size = R + 2 := by rw [hW2, World.alloc, Array.size_push]; rw [hs1]
  have hR2 : W2.heap[R]? = some (.cells #[.int .i64 0, .slice none 0 0, .slice none 0 0] 25) := by rw [hW2, Below.heap_alloc _ _ _ (by rw [hs1]; omega), ← hR]; exact heap_new w _
  rw [hs1] at hem
  replace hem : Own W2 R (.slice (some ⟨R + 1, 0, none⟩) 0 0) 3 [] := by rw [hW2]; exact hem
  have hc2 : Ints W2 (some ad) cs := hc.below (by rw [hR]; exact hb2)
  have H := Lib.hid (And.intro hm (And.intro hc2 (And.intro hM (And.intro hR (And.intro hz (And.intro hlen (And.intro hb2 (And.intro hs2 (And.intro hR2 (And.intro hem hW2))))))))))
  clear hm hc hc2 hM hz hlen hb1 hb2 hs1 hs2 hR2 hem hW2
  go_enter Tryz.func74, Tryz.ntmps74
  go_wp2_with (at_builtin; rw [← H.out.2.2.2.2.2.2.2.2.2.2]; refine appA rfl (.tmp 10) (.tmp 11) 23 3 rfl i3 (.int .i64 0) 8 Tryz.underlying23 I3.out.1 I3.out.2.1 I3.out.2.2.1 I3.out.2.2.2 rfl (by omega) R (.slice (some ⟨R + 1, 0, none⟩) 0 0) [] (ints cs) rfl H.out.2.2.2.2.2.2.2.2.2.1 ad M d rfl (by rw [ints_len]; exact H.out.2.2.1) H.out.2.1.src (ints_one cs) (by simp; omega) (by rw [H.out.2.2.2.2.2.2.2.1]; omega) ?_; intro v' w' h2 h3; rw [List.nil_append] at h2; obtain ⟨b1, d1, hu, _⟩ := h2.row (by rw [ints_len, H.out.2.2.1]; unfold maxLen; omega); rw [ints_len, H.out.2.2.1] at hu; subst hu; have HC := Lib.hid (And.intro h2 h3); clear h2 h3)
  obtain ⟨W4, hW4⟩ : ∃ W4, W4 = w'.alloc (.cells #[.int .i64 (n : Int), .slice none 0 0, .slice b1 M d1] 25) := ⟨_, rfl⟩
  rw [← hW4]
  obtain ⟨q, hq⟩ : ∃ q, w'.heap.size = q := ⟨_, rfl⟩
  have hs3 : R + 2 ≤ q := by rw [← hq, ← H.out.2.2.2.2.2.2.2.1]; exact HC.out.2.size
  have hG4 : GB W4 q n (.slice none 0 0) (.slice b1 M d1) := by rw [hW4, ← hq]; exact ⟨by simp, by simp, by simp, fun o => World.frozen?_alloc_new w' _ _ o, by simp⟩
  have hU4 : Own W4 R (.slice b1 M d1) 3 (ints cs) := by rw [hW4]; exact HC.out.1.alloc _
  have hs4 : W4.heap.size = q + 1 := by rw [hW4, ← hq]; simp
  have hub : ∀ g, (Value.slice b1 M d1).ownBlock = some g → g < W4.heap.size ∧ g ≠ q := fun g hg => by have h1 := (HC.out.1.block_lt hg).1; rw [hs4]; omega
  have hubR : ∀ g, (Value.slice b1 M d1).ownBlock = some g → g ≠ R := fun g hg e => by
    subst e
    rcases hU4.blk with h0 | ⟨g2, cur, h0, _, _, h1⟩
    · rw [h0] at hg; cases hg
    · rw [h0] at hg; cases hg
      have h2 := (HC.out.2.block g (by rw [H.out.2.2.2.2.2.2.2.1]; omega) (by intro e; cases e)).trans H.out.2.2.2.2.2.2.2.2.1
      rw [hW4, Below.heap_alloc _ _ _ (by omega), h2] at h1
      cases h1
  have hR4 : W4.heap[R]? = some (.cells #[.int .i64 0, .slice none 0 0, .slice none 0 0] 25) := by
    rw [hW4, Below.heap_alloc _ _ _ (by omega), HC.out.2.block _ (by rw [H.out.2.2.2.2.2.2.2.1]; omega) (by intro e; cases e)]
    exact H.out.2.2.2.2.2.2.2.2.1
  have hB4 : Below R w W4 := by
    rw [hW4]
    refine Below.alloc ?_ (by omega) _
    exact H.out.2.2.2.2.2.2.1.grown HC.out.2 (by rw [H.out.2.2.2.2.2.2.2.1]; omega) (by intro k hk; cases hk; exact Nat.le_succ R)
  have hmr : ∀ wr, Kept W4 wr [q] → Rows wr (some ⟨G, 0, none⟩) (matF n f) := fun wr hk => H.out.1.below (by rw [H.out.2.2.2.1]; exact hB4.trans (hk.below (by omega) (by simp; omega)))
  have HG := Lib.hid (And.intro hG4 (And.intro hU4 (And.intro hR4 (And.intro hB4 (And.intro (by omega : q < W4.heap.size) (And.intro hub (And.intro hmr (And.intro hs3 hubR))))))))
  clear hW4 hs3 hG4 hU4 hs4 hub hR4 hB4 hmr hubR HC
  rw [hq]
  go_loopw [6] (fun i wr => ∃ (j : Nat) (v : Value), j ≤ n ∧ i = .int .i64 (j : Int) ∧ GB wr q n v (.slice b1 M d1) ∧ OwnE wr W4.heap.size 69 v (upto n (one f) j 0) ∧ Own wr R (.slice b1 M d1) 3 (ints cs) ∧ Kept W4 wr [q]) (fun i _ => n - (intOf i).toNat)
  case atStart => exact ⟨0, .slice none 0 0, Nat.zero_le _, rfl, HG.out.1, by rw [upto_start]; exact OwnE.nil _ _ _, HG.out.2.1, Kept.refl _ _⟩
  case round =>
    obtain ⟨j, v, hj, rfl, hGr, hEr, hUr, hKr⟩ := hrel
    by_cases hjn : j < n
    · have HO := Lib.hid (And.intro hGr (And.intro hEr (And.intro hUr hKr)))
      clear hGr hEr hUr hKr
      go_wp2
      go_loopw [7] (fun i wr => ∃ (k : Nat) (v : Value), j < k ∧ k ≤ n ∧ i = .int .i64 (k : Int) ∧ GB wr q n v (.slice b1 M d1) ∧ OwnE wr W4.heap.size 69 v (upto n (one f) j k) ∧ Own wr R (.slice b1 M d1) 3 (ints cs) ∧ Kept W4 wr [q]) (fun i _ => n - (intOf i).toNat)
      case atStart => exact ⟨j + 1, v, by omega, by omega, by go_num, HO.out.1, by rw [upto_row]; exact HO.out.2.1, HO.out.2.2⟩
      case round =>
        clear HO
        obtain ⟨k, v, hjk, hk, rfl, hGr, hEr, hUr, hKr⟩ := hrel
        by_cases hkn : k < n
        · obtain ⟨g, o, bb, cc, ea, hg, hcell, hrow⟩ := (HG.out.2.2.2.2.2.2.1 wr hKr).at_ (k := j) (by rw [(matF_isMat n f).1]; exact hjn)
          cases ea
          rw [matF_row hjn] at hcell hrow
          obtain ⟨B2, o2, rfl, hB2, hcell2⟩ := hrow.at_ (k := k) (by simp; exact hkn)
          rw [show ((List.range n).map (f j))[k]?.getD 0 = f j k by simp [hkn]] at hcell2
          rw [show ((List.range n).map (f j)).length = n by simp, Nat.zero_add] at hcell
          obtain ⟨y, hy⟩ : ∃ y, f j k = y := ⟨_, rfl⟩
          rw [hy] at hcell2
          obtain ⟨av, cv, hv⟩ := hEr.any_form
          obtain ⟨L1, hL1⟩ : ∃ L1, (upto n (one f) j k).length = L1 := ⟨_, rfl⟩
          rw [hL1] at hv
          subst hv
          have d1 := hGr.c1
          have hL1b : L1 < 1099511627776 := by have := H.out.2.2.2.2.2.1 j k; omega
          have hWw := hKr.size
          have HR := Lib.hid (And.intro hGr (And.intro hEr (And.intro hUr (And.intro hKr (And.intro hL1 (And.intro hWw hy))))))
          clear hGr hEr hUr hKr hrow hL1 hWw hy
          by_cases c0 : y = 1
          · subst c0
            go_wp2_with (at_builtin; refine appE rfl (.tmp 37) (.tmp 41) 22 69 rfl i0 _ 16 Tryz.underlying22 I.out.1 I.out.2.1 I.out.2.2.1 I.out.2.2.2 rfl (by omega) W4.heap.size (.slice av L1 cv) (upto n (one f) j k) L1 rfl (HR.out.2.1.alloc _) HR.out.2.2.2.2.1 _ 1 ((j : Int), (k : Int)) rfl (pair_new _ _ _ _).1 (pair_new _ _ _ _).2 hL1b (by have h1 := HR.out.2.2.2.2.2.1; simp; omega) ?_; intro G cap w6 k2 k3 k4 k5 k6 k7; have HE := Lib.hid (And.intro k2 (And.intro k3 k6)); have hgb6 := (gb_app2 HR.out.1 HR.out.2.1 HR.out.2.2.1 HG.out.2.2.2.2.2.1 HR.out.2.2.2.1 HG.out.2.2.2.2.1 k3 k2 k6).1; have d6 := hgb6.c1; have f6 := hgb6.fr 1; clear k2 k3 k4 k5 k6 k7 hgb6)
            obtain ⟨_, r1, r2, r3, r4⟩ := gb_app2 HR.out.1 HR.out.2.1 HR.out.2.2.1 HG.out.2.2.2.2.2.1 HR.out.2.2.2.1 HG.out.2.2.2.2.1 HE.out.2.1 HE.out.1 HE.out.2.2
            exact ⟨⟨k + 1, _, by omega, by omega, by go_num, r1, by rw [upto_yes hjk hkn (by unfold one; rw [HR.out.2.2.2.2.2.2]; rfl)]; exact r2, r3, r4⟩, by simp [intOf]; omega⟩
          · have c1 : (y == 1) = false := by simp [c0]
            go_wp2
            exact ⟨⟨k + 1, _, by omega, by omega, by go_num, HR.out.1, by rw [upto_no (by unfold one; rw [HR.out.2.2.2.2.2.2]; exact c1)]; exact HR.out.2.1, HR.out.2.2.1, HR.out.2.2.2.1⟩, by simp [intOf]; omega⟩
        · obtain rfl : k = n := by omega
          have HX := Lib.hid (And.intro hGr (And.intro hEr (And.intro hUr hKr)))
          clear hGr hEr hUr hKr
          go_wp2
          exact ⟨⟨j + 1, v, by omega, by go_num, HX.out.1, by rw [upto_next _ _ _ (Nat.le_refl _)]; exact HX.out.2.1, HX.out.2.2⟩, by simp [intOf]; omega⟩
    · obtain rfl : j = n := by omega
      rw [upto_end _ _ (Nat.le_refl _), H.out.2.2.2.2.1] at hEr
      obtain ⟨av, cv, hv⟩ := hEr.any_form
      subst hv
      have c0 := hGr.c0
      have c1 := hGr.c1
      have c2 := hGr.c2
      have hRq : R ≠ q := by have := HG.out.2.2.2.2.2.2.2.1; omega
      have hRr : wr.heap[R]? = some (.cells #[.int .i64 0, .slice none 0 0, .slice none 0 0] 25) := (hKr.block R (by have h1 := HG.out.2.2.2.2.1; have := HG.out.2.2.2.2.2.2.2.1; omega) (by simp; exact hRq)).trans HG.out.2.2.1
      obtain ⟨r1, r2, r3, r4⟩ := zres_cells hRr
      have fr0 := r4 0
      have fr1 := r4 1
      have fr2 := r4 2
      have hqR : q ≠ R := fun e => hRq e.symm
      have HX := Lib.hid (And.intro hEr (And.intro hUr (And.intro hKr hRr)))
      clear hGr hEr hUr hKr hRr r4
      go_wp2
      obtain ⟨W, hW, x0, x1, x2, x3, x4⟩ := res_out (.int .i64 (j : Int)) (.slice av z.length cv) (.slice b1 M d1) HX.out.2.2.2
      rw [← hW]
      have hRl : R < W4.heap.size := by have h1 := HG.out.2.2.2.2.1; have := HG.out.2.2.2.2.2.2.2.1; omega
      have hEW : OwnE W W4.heap.size 69 (.slice av z.length cv) z := ownsRow_block HX.out.1 fun g hg => x4 g (by have := (HX.out.1.block_lt hg).2; omega)
      have hUW : Own W R (.slice b1 M d1) 3 (ints cs) := ownsRow_block HX.out.2.1 fun g hg => x4 g (HG.out.2.2.2.2.2.2.2.2 g hg)
      refine bodyPost_ret (v := .agg #[.int .i64 (j : Int), .slice av z.length cv, .slice b1 M d1]) (by simp [results, Tryz.results74, go_sem, x0, x1, x2]) rfl ?_
      refine ⟨av, cv, b1, d1, rfl, hEW.mono (by omega), hUW, ?_⟩
      exact (HG.out.2.2.2.1.trans (HX.out.2.2.1.below (by omega) (by simp; have := HG.out.2.2.2.2.2.2.2.1; omega))).trans x3
end Go.Proofs.YtifkieopaoooeaaGreatDoor
