/- The kit's Partition. -/
import Derived.Test.YtlnikgcanimggaaPlainKit
set_option linter.unusedSimpArgs false
set_option linter.unusedVariables false
namespace Go.Proofs.Ytlnikgcanimggaa
open Go.RowKit Plain

set_option maxRecDepth 100000 in
set_option maxHeartbeats 1000000 in
theorem partition_calls (n : Nat) (a : Option Addr) (c : Nat) (l : List Int) (w : World) (ha : Ints w a l) (hn : n ≤ 1000) :
    Calls Try.prog 16 #[.int .i64 n, .slice a l.length c] w fun e w' => ∃ a' c', e = .returned (.slice a' ((partN n l).map (·.map Int.ofNat)).length c') ∧ Rows w' a' ((partN n l).map (·.map Int.ofNat)) ∧ Below w.heap.size w w' := by
  obtain ⟨i3, hi3, hz3, hs3, hb3⟩ := info_parts Try.info3
  obtain ⟨i29, hi29, hz29, hs29, hb29⟩ := info_parts Try.info29
  have I3 := Lib.hid (And.intro hi3 (And.intro hz3 (And.intro hs3 hb3)))
  have I29 := Lib.hid (And.intro hi29 (And.intro hz29 (And.intro hs29 hb29)))
  clear hi3 hz3 hs3 hb3 hi29 hz29 hs29 hb29
  have Hnum := Lib.hid (fun (i : Nat) (w1 : World) (h : Below w.heap.size w w1) (hi : i ≤ 1000000) => number_calls a c l i w1 (ha.below h) hi)
  obtain ⟨f, hf⟩ : ∃ f, f = fun i => bel (num l i) (max 1 n) := ⟨_, rfl⟩
  have hP : partN n l = cellsTo f n n := by rw [partN, hf]
  have Hbel := Lib.hid (fun (i : Nat) (w1 : World) (m : Int) (hm : m = max 1 (n : Int)) => below_calls (num l i) m w1 (by omega))
  have hf2 : ∀ i, bel (num l i) (max 1 (n : Int)) = f i := fun i => by rw [hf]
  have Hf := Lib.hid hf2
  obtain ⟨L, hL⟩ : ∃ L, L = l.length := ⟨_, rfl⟩
  rw [← hL] at Hnum ⊢
  rw [hP]
  obtain ⟨D, hD⟩ : ∃ D, D = w.heap.size := ⟨_, rfl⟩
  rw [← hD] at Hnum ⊢
  have HD := Lib.hid hD
  clear hD hL hP hf hf2 ha
  go_enter Try.func16, Try.ntmps16
  go_wp2
  go_loopw [5, 6] (fun v kk wr => ∃ (k : Nat) (cs : List Value), k ≤ n ∧ kk = .int .i64 k ∧ Own wr D v 29 cs ∧ Cellsof wr D cs (cellsTo f n k) ∧ Below D w wr) (fun _ kk _ => n - (intOf kk).toNat)
  case atStart => exact ⟨0, [], by omega, rfl, Own.nil _ _ _, ⟨rfl, by simp⟩, Below.refl _ _⟩
  case round =>
    obtain ⟨k, cs, hk, rfl, hv, hcs, hbl⟩ := hrel
    obtain ⟨wo, rfl⟩ : ∃ wo : World, wo = wr := ⟨_, rfl⟩
    have Hv := Lib.hid (And.intro hv (And.intro hcs hbl))
    clear hv hcs hbl
    by_cases hlt : k < n
    · go_wp2
      go_loopw [7, 8] (fun v8 jj wr => ∃ (j : Nat), j ≤ n ∧ jj = .int .i64 j ∧ Own wr wo.heap.size v8 3 (nums (selTo f k j)) ∧ wo.grownBy wr none) (fun _ jj _ => n - (intOf jj).toNat)
      case atStart => exact ⟨0, by omega, rfl, Own.nil _ _ _, World.grownBy.refl _ _⟩
      case round =>
        obtain ⟨j, hj, rfl, ho, hg⟩ := hrel
        have hDo : D ≤ wo.heap.size := by have := Hv.out.2.2.size; have := HD.out; omega
        have hbr : Below D w wr := Hv.out.2.2.grown hg hDo (fun k hk => by cases hk)
        have H := Lib.hid (And.intro ho (And.intro hg (And.intro hbr hDo)))
        have hlen := selTo_len f k j
        clear ho hg hbr hDo
        by_cases hlt2 : j < n
        · have Hn1 := Lib.hid (Hnum.out j wr H.out.2.2.1 (by omega))
          have hb1 : ∀ m : Int, m = n → Calls Try.prog 15 #[.int .i64 (num l j), .int .i64 m] wr fun e w' => e = .returned (.int .i64 (f j)) ∧ w' = wr := fun m hm => by
            have h2 : m = max 1 (n : Int) := by omega
            have := Hbel.out j wr m h2
            rwa [h2, Hf.out j, ← h2] at this
          have Hb1 := Lib.hid hb1
          clear hb1
          obtain ⟨x, hx⟩ : ∃ x, num l j = x := ⟨_, rfl⟩
          rw [hx] at Hn1 Hb1
          obtain ⟨y, hy⟩ : ∃ y, f j = y := ⟨_, rfl⟩
          rw [hy] at Hb1
          have Hy := Lib.hid hy
          clear hx hy
          by_cases he : y = k
          · subst he
            have hs : selTo f k (j + 1) = selTo f k j ++ [j] := by rw [selTo, if_pos Hy.out]
            have Hs := Lib.hid hs
            have hsl : (nums (selTo f k j)).length < 1099511627776 := by rw [nums, List.length_map]; omega
            have hsz : wo.heap.size ≤ wr.heap.size := H.out.2.1.size
            clear hs
            go_wp2_with (first | (go_at_call 58; refine Hn1.out.mono ?_; rintro e w' ⟨rfl, hw⟩; replace hw := hw.symm; subst hw) | (go_at_call 15; refine (Hb1.out _ (by omega)).mono ?_; rintro e w' ⟨rfl, hw⟩; replace hw := hw.symm; subst hw) | (at_builtin; refine app1 rfl (.tmp 27) (.tmp 29) 29 3 rfl i3 (.int .i64 0) 8 Try.underlying29 I3.out.1 I3.out.2.1 I3.out.2.2.1 I3.out.2.2.2 rfl (by omega) wo.heap.size (.int .i64 j) u7 (nums (selTo f k j)) rfl H.out.1 rfl rfl hsl hsz ?_; intro v' w' h2 h3 h4; have H9 := Lib.hid (And.intro h2 h3); clear h2 h3 h4))
            refine ⟨⟨j + 1, by omega, by go_num, ?_, grown_new H.out.2.1 H9.out.2 ?_⟩, by simp [intOf]; omega⟩
            · rw [Hs.out]
              have := H9.out.1
              simpa [nums] using this
            · intro g hg
              rcases H.out.1.blk with e | ⟨g', _, e, hB, _⟩
              · rw [e] at hg; cases hg
              · rw [e] at hg; cases hg; exact .inl hB
          · have hs : selTo f k (j + 1) = selTo f k j := by rw [selTo, if_neg (by rw [Hy.out]; exact he)]
            have he' : (y == (k : Int)) = false := by simpa using he
            have Hs := Lib.hid hs
            clear hs
            go_wp2_with (first | (go_at_call 58; refine Hn1.out.mono ?_; rintro e w' ⟨rfl, hw⟩; replace hw := hw.symm; subst hw) | (go_at_call 15; refine (Hb1.out _ (by omega)).mono ?_; rintro e w' ⟨rfl, hw⟩; replace hw := hw.symm; subst hw))
            exact ⟨⟨j + 1, by omega, by go_num, by rw [Hs.out]; exact H.out.1, H.out.2.1⟩, by simp [intOf]; omega⟩
        · obtain rfl : j = n := by omega
          obtain ⟨a8, c8, rfl, _⟩ := H.out.1.row (by rw [nums, List.length_map]; unfold maxLen; omega)
          have hvr : Own wr D u5 29 cs := Hv.out.1.kept H.out.2.1 (by rcases Hv.out.1.blk with e | ⟨g, _, e, _⟩ <;> rw [e] <;> simp)
          have hcr : Cellsof wr D cs (cellsTo f j k) := Hv.out.2.1.kept H.out.2.1 (fun u xs h => by rcases h.blk with e | ⟨g, _, e, _⟩ <;> rw [e] <;> simp)
          have hcl := cellsTo_len f j k
          have hsz2 : cs.length < 1099511627776 := by rw [hcr.1]; omega
          have hDr : D ≤ wr.heap.size := by have := H.out.2.1.size; have := H.out.2.2.2; omega
          have Hs := Lib.hid (And.intro hsz2 (And.intro hDr (And.intro hvr hcr)))
          clear hvr hcr hsz2 hDr
          obtain ⟨N8, hN8⟩ : ∃ N, (nums (selTo f k j)).length = N := ⟨_, rfl⟩
          rw [hN8] at H ⊢
          have HN8 := Lib.hid hN8
          have hNj : N8 ≤ j := by rw [← hN8, nums, List.length_map]; exact hlen
          clear hN8
          by_cases h0 : N8 = 0
          · subst h0
            have hc : cellsTo f j (k + 1) = cellsTo f j k := by
              rw [cellsTo, if_pos]
              have := HN8.out
              rw [nums, List.length_map] at this
              exact List.eq_nil_of_length_eq_zero this
            have Hc := Lib.hid hc
            clear hc
            go_wp2
            exact ⟨⟨k + 1, cs, by omega, by go_num, Hs.out.2.2.1, by rw [Hc.out]; exact Hs.out.2.2.2, H.out.2.2.1⟩, by simp [intOf]; omega⟩
          · have hc : cellsTo f j (k + 1) = cellsTo f j k ++ [selTo f k j] := by
              rw [cellsTo, if_neg]
              intro h
              have := HN8.out
              rw [h] at this
              simp [nums] at this
              omega
            have Hc := Lib.hid hc
            have h0' : (0 : Int) < N8 := by omega
            clear hc
            go_wp2_with (at_builtin; refine app1 rfl (.tmp 34) (.tmp 36) 22 29 rfl i29 (.slice none 0 0) 24 Try.underlying22 I29.out.1 I29.out.2.1 I29.out.2.2.1 I29.out.2.2.2 rfl (by omega) D (.slice a8 N8 c8) u5 cs rfl Hs.out.2.2.1 rfl rfl Hs.out.1 Hs.out.2.1 ?_; intro v' w' h2 h3 h4; have H9 := Lib.hid (And.intro h2 h3); clear h2 h3 h4)
            obtain ⟨h2, h3⟩ := H9.out
            refine ⟨⟨k + 1, cs ++ [.slice a8 N8 c8], by omega, by go_num, h2, ?_, ?_⟩, by simp [intOf]; omega⟩
            · rw [Hc.out]
              refine Cellsof.snoc (Hs.out.2.2.2.kept h3 (fun u xs h => h.ne_type Hs.out.2.2.1 (by decide))) ?_
              exact (H.out.1.mono H.out.2.2.2).kept h3 (H.out.1.ne_type Hs.out.2.2.1 (by decide))
            · refine H.out.2.2.1.grown h3 Hs.out.2.1 (fun k hk => ?_)
              rcases Hs.out.2.2.1.blk with e | ⟨g', _, e, hB, _⟩
              · rw [e] at hk; cases hk
              · rw [e] at hk; cases hk; exact hB
    · obtain rfl : k = n := by omega
      have hcl := cellsTo_len f k k
      obtain ⟨a', c', rfl, hrows⟩ := Hv.out.2.1.rows Hv.out.1 (by have := Hv.out.2.1.1; unfold maxLen; omega) (fun x hx => by have := cellsTo_mem_len f k k x hx; unfold maxLen; omega)
      have Hr := Lib.hid hrows
      clear hrows
      go_wp2
      go_ret
      exact ⟨a', c', by rw [List.length_map]; rfl, Hr.out, Hv.out.2.2⟩
end Go.Proofs.Ytlnikgcanimggaa
