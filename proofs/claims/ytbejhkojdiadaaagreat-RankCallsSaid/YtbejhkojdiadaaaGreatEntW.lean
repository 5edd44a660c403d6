/- The reference's table: its entries. -/
import Derived.Test.YtbejhkojdiadaaaGreatInsW
set_option linter.unusedSimpArgs false
set_option linter.unusedVariables false
namespace Go.Proofs.YtbejhkojdiadaaaGreat
open Go.RowKit PlainPm
theorem fm_snoc {n k : Nat} {t : Nat → Option (Pm n)} : (List.range (k + 1)).filterMap t = (List.range k).filterMap t ++ (t k).toList := by
  rw [List.range_succ, List.filterMap_append]
  cases h : t k <;> simp [h]
set_option maxRecDepth 100000 in
set_option maxHeartbeats 2000000 in
theorem entries152 {n B g c : Nat} {w : World} {R : Nat → Nat} {t : Nat → Nat → Option (Pm n)} (hT : TabW n B g w R t) :
    Calls Tryz.prog 152 #[.slice (some ⟨g, 0, none⟩) n c] w fun e w' => ∃ v us, e = .returned v ∧ Own w' w.heap.size v 27 us ∧ PmL w' (rowsM n R) us (entL n t) ∧ Below w.heap.size w w' ∧ PmL w (rowsM n R) us (entL n t) := by
  obtain ⟨i27, hi27, hz27, hs27, hb27⟩ := info_parts Tryz.info27
  have I27 := Lib.hid (And.intro hi27 (And.intro hz27 (And.intro hs27 hb27)))
  clear hi27 hz27 hs27 hb27
  have hn := hT.hn
  have H := Lib.hid hT
  clear hT
  have hn1 := hn.2
  go_enter Tryz.func152, Tryz.ntmps152
  go_wp2_with fail
  go_loopw [3, 4] (fun v i wr => ∃ (k : Nat) (us : List Value), k ≤ n ∧ i = .int .i64 (k : Int) ∧ Own wr w.heap.size v 27 us ∧ PmL w (rowsM n R) us ((List.range k).flatMap (rowE n t)) ∧ Below w.heap.size w wr ∧ us.length ≤ k * 64) (fun _ i _ => n - (intOf i).toNat)
  case atStart => exact ⟨0, [], by omega, rfl, Own.nil _ _ _, ⟨rfl, fun k s h => by simp at h⟩, Below.refl _ _, by simp⟩
  case round =>
    obtain ⟨k, us, hk, rfl, ho, hp, hb, hl⟩ := hrel
    have HP := Lib.hid (And.intro ho (And.intro hp (And.intro hb hl)))
    clear ho hp hb hl
    by_cases hkn : k < n
    · have hk1 : (k : Int) < n := by omega
      go_wp2_with fail
      go_loopw [3, 5] (fun v i wr => ∃ (q : Nat) (us : List Value), q ≤ n ∧ i = .int .i64 (q : Int) ∧ Own wr w.heap.size v 27 us ∧ PmL w (rowsM n R) us ((List.range k).flatMap (rowE n t) ++ (List.range q).filterMap (t k)) ∧ Below w.heap.size w wr ∧ us.length ≤ k * 64 + q) (fun _ i _ => n - (intOf i).toNat)
      case atStart => exact ⟨0, us, by omega, rfl, HP.out.1, by simpa using HP.out.2.1, HP.out.2.2.1, HP.out.2.2.2⟩
      case round =>
        obtain ⟨q, us, hq, rfl, ho, hp, hb, hl⟩ := hrel
        by_cases hqn : q < n
        · have hT' := H.out.below hb
          have tp := hT'.top k hkn
          obtain ⟨u, hu0, _, hov⟩ := H.out.at_ hkn hqn
          have hu := (hb.cell (block_lt_of_cell hu0)).trans hu0
          clear hu0
          have hsz := hb.size
          have hul : us.length < 1099511627776 := by
            have : k * 64 ≤ 64 * 64 := Nat.mul_le_mul (by omega) (Nat.le_refl _)
            omega
          have HQ := Lib.hid (And.intro ho (And.intro hp (And.intro hb hl)))
          clear ho hp hb hl hT'
          have hq1 : (q : Int) < n := by omega
          cases hto : t k q with
          | none =>
            rw [hto] at hov
            have hun : u = .slice none 0 0 := hov
            subst hun
            have hnil : ∀ W, (binOp .neq 27 (.slice none 0 0) (.slice none 0 0)).run Tryz.prog W = .ok (.bool false) W := fun W => neq_nil27 W none 0 0
            have Ht := Lib.hid hto
            clear hov hto
            go_wp2_with fail
            exact ⟨⟨q + 1, us, by omega, by go_num, HQ.out.1, by rw [fm_snoc, Ht.out]; simpa using HQ.out.2.1, HQ.out.2.2.1, by have := HQ.out.2.2.2; omega⟩, by simp [intOf]; omega⟩
          | some y =>
            rw [hto] at hov
            have hov : PmV w (rowsM n R) u y := hov
            obtain ⟨ub, uo, uc, rfl⟩ := hov.form
            have hnil : ∀ W, (binOp .neq 27 (.slice (some ⟨ub, uo, none⟩) n uc) (.slice none 0 0)).run Tryz.prog W = .ok (.bool true) W := fun W => neq_nil27 W _ _ _
            have Ht := Lib.hid (And.intro hto hov)
            clear hov hto
            go_wp2_with (at_builtin; refine app1 rfl (.tmp 26) (.tmp 34) 44 27 rfl i27 (.slice none 0 0) 24 Tryz.underlying44 I27.out.1 I27.out.2.1 I27.out.2.2.1 I27.out.2.2.2 rfl (by omega) w.heap.size (.slice (some ⟨ub, uo, none⟩) n uc) u3 us rfl HQ.out.1 rfl rfl hul hsz ?_; intro v8 w8 k1 k2 k3; have H8 := Lib.hid (And.intro k1 (And.intro k2 k3)); clear k1 k2 k3)
            have hb8 := HQ.out.2.2.1.grown H8.out.2.1 hsz (fun g hg => (HQ.out.1.block_lt hg).2)
            refine ⟨⟨q + 1, us ++ [.slice (some ⟨ub, uo, none⟩) n uc], by omega, by go_num, H8.out.1, ?_, hb8, by rw [List.length_append]; have := HQ.out.2.2.2; simp; omega⟩, by simp [intOf]; omega⟩
            rw [fm_snoc, Ht.out.1, Option.toList_some, ← List.append_assoc]
            exact HQ.out.2.1.snoc Ht.out.2
        · obtain rfl : q = n := by omega
          have HQ := Lib.hid (And.intro ho (And.intro hp (And.intro hb hl)))
          clear ho hp hb hl
          go_wp2_with fail
          refine ⟨⟨k + 1, us, by omega, by go_num, HQ.out.1, ?_, HQ.out.2.2.1, by have := HQ.out.2.2.2; omega⟩, by simp [intOf]; omega⟩
          rw [List.range_succ, List.flatMap_append]
          simpa [rowE] using HQ.out.2.1
    · obtain rfl : k = n := by omega
      go_wp2_with fail
      go_ret
      exact ⟨_, us, rfl, HP.out.1, HP.out.2.1.stp (Stp.below HP.out.2.2.1), HP.out.2.2.1, HP.out.2.1⟩
end Go.Proofs.YtbejhkojdiadaaaGreat
