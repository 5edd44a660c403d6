/- The tower's sift. -/
import Derived.Test.YtbejhkojdiadaaaGreatPmW
import Derived.Deep.DeepCutAuto
import Derived.Laws.Cover3
set_option linter.unusedSimpArgs false
set_option linter.unusedVariables false
namespace Go.Proofs.YtbejhkojdiadaaaGreat
open Go.RowKit PlainPm
theorem below_drewN_self (w : World) (q : Nat) : Below w.heap.size w (w.drewN q) := ⟨rfl, rfl, rfl, Nat.le_refl _, fun _ _ => rfl⟩
theorem below_trans {a b c : World} (h : Below a.heap.size a b) (k : Below b.heap.size b c) : Below a.heap.size a c := h.trans (k.mono h.size)
theorem eql_nil27 (w : World) (a : Option Addr) (l c : Nat) : (binOp .eql 27 (.slice a l c) (.slice none 0 0)).run Tryz.prog w = .ok (.bool a.isNone) w := by
  simp [binOp, run_equal_slice_nil w 27 3 a l c Tryz.underlying27]
set_option maxRecDepth 100000 in
set_option maxHeartbeats 1000000 in
theorem sift_calls {n B t G i : Nat} {w : World} {M : List Nat} {T : Tw n} {F : Nat → Value} {x : Pm n} {vx : Value} (hT : TowW n B t G w M T F) (hx : PmV w M vx x) (hi : i ≤ n) :
    Calls Tryz.prog 157 #[.pointer (some ⟨t, 0, none⟩), vx, .int .i64 (i : Int)] w fun e w' => ∃ v, e = .returned (.tuple #[.int .i64 ((sft T (n - i) i x).1 : Int), v]) ∧ PmV w' M v (sft T (n - i) i x).2 ∧ Below w.heap.size w w' := by
  have hn := hT.hn.2
  have H := Lib.hid (And.intro hT hx)
  clear hT hx
  go_enter Tryz.func157, Tryz.ntmps157
  go_wp2_with fail
  go_loopw [1, 8] (fun v i' wr => ∃ (k : Nat) (x' : Pm n), k ≤ n ∧ i' = .int .i64 (k : Int) ∧ PmV wr M v x' ∧ Below w.heap.size w wr ∧ sft T (n - i) i x = sft T (n - k) k x') (fun _ i' _ => n - (intOf i').toNat)
  case atStart => exact ⟨i, x, hi, rfl, H.out.2, Below.refl _ _, rfl⟩
  case round =>
    obtain ⟨k, x', hk, rfl, hx', hb, hs⟩ := hrel
    have hT' := H.out.1.below hb
    have t0 := hT'.tb
    have t1 := hT'.tl
    by_cases hkn : k < n
    · have hbx := hT'.by_ hkn (p := x'.at k) (by have := x'.lt hkn; omega)
      have hcx := hT'.cell hkn (c := 66 + x'.at k) (by have := x'.lt hkn; omega)
      obtain ⟨p, hp⟩ : ∃ p, x'.at k = p := ⟨_, rfl⟩
      rw [hp] at hbx hcx
      have hpn : p < n := by rw [← hp]; exact x'.lt hkn
      obtain ⟨bx, ox, cx, rfl, hxm, hxl, hxc⟩ := id hx'
      have c1 := hxc k hkn
      rw [hp] at c1
      have HP := Lib.hid (And.intro hT' (And.intro hx' (And.intro hb (And.intro hs (And.intro hp hxm)))))
      clear hT' hx' hb hs hp hxc hxm
      obtain ⟨f, hf⟩ : ∃ f, F (194 * k + (66 + p)) = f := ⟨_, rfl⟩
      rw [hf] at hbx hcx
      clear hf
      have hk1 : (k : Int) < n := by omega
      have hp64 : (p : Int) < 64 := by omega
      rw [show 194 * k + (66 + p) = k * 194 + 66 + p by omega] at hcx
      go_wp2_with fail
      go_quiet (fail)
      have hst : sft T (n - k) k x' = match (T k).to p with
          | none => (k, x')
          | some y => sft T (n - (k + 1)) (k + 1) (if p = k then x' else x'.mul y.inv) := by
        rw [show n - k = n - (k + 1) + 1 by omega, sft, HP.out.2.2.2.2.1]
        cases (T k).to p <;> rfl
      cases hto : (T k).to p with
      | none =>
        rw [hto] at hbx hst
        have hfn : f = .slice none 0 0 := hbx
        subst hfn
        have he := eql_nil27 (wr.drewN nq) none 0 0
        have Hs := Lib.hid hst
        clear hst hto hbx
        go_wp2_with fail
        go_ret2
        rw [HP.out.2.2.2.1, Hs.out]
        exact ⟨_, rfl, HP.out.2.1, below_drewN HP.out.2.2.1 _⟩
      | some y =>
        rw [hto] at hbx hst
        have hbx : PmV wr M f y.inv := hbx
        have hbw := hbx.weak
        obtain ⟨bf, of', cf, rfl, _, _, _⟩ := id hbx
        have he := eql_nil27 (wr.drewN nq) (some ⟨bf, of', none⟩) n cf
        have Hs := Lib.hid (And.intro hst (And.intro hbx hbw))
        clear hst hto hbx hbw
        by_cases hpk : p = k
        · have hne : ((p : Int) != (k : Int)) = false := by simp [hpk]
          have hpk' := Lib.hid hpk
          clear hpk
          go_wp2_with fail
          refine ⟨⟨k + 1, x', by omega, by go_num, HP.out.2.1.drewN _, below_drewN HP.out.2.2.1 _, ?_⟩, by simp [intOf]; omega⟩
          rw [HP.out.2.2.2.1, Hs.out.1]
          try dsimp only
          rw [if_pos hpk'.out]
        · have hne : ((p : Int) != (k : Int)) = true := by simp; omega
          have hpk' := Lib.hid hpk
          clear hpk
          go_wp2_with (go_at_call 161; refine (mul161 hn (HP.out.2.1.weak.drewN nq) (Hs.out.2.2.drewN nq)).mono ?_; rintro e w4 ⟨v4, rfl, k4, k5⟩; have HM := Lib.hid (And.intro k4 k5); clear k4 k5)
          refine ⟨⟨k + 1, x'.mul y.inv, by omega, by go_num, ?_, ?_, ?_⟩, by simp [intOf]; omega⟩
          · exact HM.out.1.pm fun m hm => (HP.out.1.mb m hm).2
          · exact below_trans (below_drewN HP.out.2.2.1 nq) HM.out.2
          · rw [HP.out.2.2.2.1, Hs.out.1]
            try dsimp only
            rw [if_neg hpk'.out]
    · obtain rfl : k = n := by omega
      have HP := Lib.hid (And.intro hT' (And.intro hx' (And.intro hb hs)))
      clear hT' hx' hb hs
      go_wp2_with fail
      go_ret2
      rw [HP.out.2.2.2, Nat.sub_self]
      exact ⟨_, rfl, HP.out.2.1, HP.out.2.2.1⟩
end Go.Proofs.YtbejhkojdiadaaaGreat
