/- The reference's table: a permutation inserted. -/
import Derived.Test.YtbejhkojdiadaaaGreatTabW
set_option linter.unusedSimpArgs false
set_option linter.unusedVariables false
namespace Go.Proofs.YtbejhkojdiadaaaGreat
open Go.RowKit PlainPm
theorem neq_nil27 (w : World) (a : Option Addr) (l c : Nat) : (binOp .neq 27 (.slice a l c) (.slice none 0 0)).run Tryz.prog w = .ok (.bool (!a.isNone)) w := run_neq_slice_nil w 27 3 a l c Tryz.underlying27
/-- What an insertion leaves. -/
def InsR {n : Nat} (B g : Nat) (R : Nat → Nat) (t : Nat → Nat → Option (Pm n)) (x : Pm n) (e : Ending) (w' : World) : Prop :=
  ((sft (tabTw t) n 0 x).1 = n ∧ e = .returned (.bool false) ∧ TabW n B g w' R t) ∨
  ((sft (tabTw t) n 0 x).1 < n ∧ e = .returned (.bool true) ∧ TabW n B g w' R (setE t (sft (tabTw t) n 0 x).1 ((sft (tabTw t) n 0 x).2.at (sft (tabTw t) n 0 x).1) (sft (tabTw t) n 0 x).2))
set_option maxRecDepth 100000 in
set_option maxHeartbeats 2000000 in
theorem insert129 {n B g c : Nat} {w : World} {R : Nat → Nat} {t : Nat → Nat → Option (Pm n)} {x : Pm n} {vx : Value} (hT : TabW n B g w R t) (hx : PmV w (rowsM n R) vx x) :
    Calls Tryz.prog 129 #[.slice (some ⟨g, 0, none⟩) n c, vx] w fun e w' => InsR B g R t x e w' ∧ Stp w (rowsM n R) w' (rowsM n R) ∧ ∀ b, b < w.heap.size → (∀ i, i < n → R i ≠ b) → w'.heap[b]? = w.heap[b]? := by
  have hn := hT.hn
  have H := Lib.hid (And.intro hT hx)
  clear hT hx
  have hn1 := hn.2
  go_enter Tryz.func129, Tryz.ntmps129
  go_wp2_with fail
  go_loopw [1, 5] (fun v i' wr => ∃ (k : Nat) (x' : Pm n), k ≤ n ∧ i' = .int .i64 (k : Int) ∧ PmV wr (rowsM n R) v x' ∧ Below w.heap.size w wr ∧ sft (tabTw t) n 0 x = sft (tabTw t) (n - k) k x') (fun _ i' _ => n - (intOf i').toNat)
  case atStart => exact ⟨0, x, by omega, rfl, H.out.2, Below.refl _ _, rfl⟩
  case round =>
    obtain ⟨k, x', hk, rfl, hx', hb, hs⟩ := hrel
    have hT' := H.out.1.below hb
    by_cases hkn : k < n
    · obtain ⟨bx, ox, cx, rfl, hxm, hxl, hxc⟩ := id hx'
      have c1 := hxc k hkn
      have tp := hT'.top k hkn
      obtain ⟨p, hp⟩ : ∃ p, x'.at k = p := ⟨_, rfl⟩
      have hpn : p < n := by rw [← hp]; exact x'.lt hkn
      rw [hp] at c1
      obtain ⟨u, hu, hf, ho⟩ := hT'.at_ hkn hpn
      have hst : sft (tabTw t) (n - k) k x' = match (if p = k then some (PlainPm.one n) else t k p) with
          | none => (k, x')
          | some y => sft (tabTw t) (n - (k + 1)) (k + 1) (if p = k then x' else x'.mul y.inv) := by
        rw [show n - k = n - (k + 1) + 1 by omega, sft, hp]
        show (match (if p = k then some (PlainPm.one n) else t k p) with | none => _ | some y => _) = _
        cases (if p = k then some (PlainPm.one n) else t k p) <;> rfl
      have HP := Lib.hid (And.intro hT' (And.intro hx' (And.intro hb (And.intro hs (And.intro hp hxm)))))
      clear hT' hx' hb hs hp hxc hxm
      have hk1 : (k : Int) < n := by omega
      have hp1 : (p : Int) < n := by omega
      by_cases hpk : p = k
      · simp only [if_pos hpk] at hst
        have Hs := Lib.hid hst
        have he : ((p : Int) == (k : Int)) = true := by simp [hpk]
        clear hst ho hpk hu hf
        go_wp2_with fail
        refine ⟨⟨k + 1, x', by omega, by go_num, HP.out.2.1, HP.out.2.2.1, ?_⟩, by simp [intOf]; omega⟩
        rw [HP.out.2.2.2.1, Hs.out]
      · simp only [if_neg hpk] at hst
        have he : ((p : Int) == (k : Int)) = false := by simp; omega
        cases hto : t k p with
        | none =>
          rw [hto] at ho hst
          have hun : u = .slice none 0 0 := ho
          subst hun
          have hnil : ∀ W, (binOp .eql 27 (.slice none 0 0) (.slice none 0 0)).run Tryz.prog W = .ok (.bool true) W := fun W => eql_nil27 W none 0 0
          have hset := HP.out.1.set (v := .slice (some ⟨bx, ox, none⟩) n cx) hkn hpn HP.out.2.1
          have Hs := Lib.hid (And.intro hst hset)
          clear hst hset hto ho hpk
          go_wp2_with fail
          go_ret
          have e : sft (tabTw t) n 0 x = (k, x') := HP.out.2.2.2.1.trans Hs.out.1
          refine ⟨.inr ⟨by rw [e]; exact hkn, rfl, ?_⟩, (Stp.below HP.out.2.2.1).trans Hs.out.2.2, fun b hb hne => ((grown_put p _).block b (Nat.lt_of_lt_of_le hb HP.out.2.2.1.size) (fun e => hne k hkn (Option.some.inj e).symm)).trans (HP.out.2.2.1.block b hb)⟩
          rw [e]
          dsimp only
          rw [HP.out.2.2.2.2.1]
          exact Hs.out.2.1
        | some y =>
          rw [hto] at ho hst
          have ho : PmV wr (rowsM n R) u y := ho
          obtain ⟨ub, uo, uc, rfl⟩ := ho.form
          have hnil : ∀ W, (binOp .eql 27 (.slice (some ⟨ub, uo, none⟩) n uc) (.slice none 0 0)).run Tryz.prog W = .ok (.bool false) W := fun W => eql_nil27 W _ _ _
          have Hs := Lib.hid (And.intro hst ho)
          clear hst hto ho hpk
          go_wp2_with (first
            | (go_at_call 49; refine H4.out.2.2.mono ?_; rintro e w5 ⟨v5, rfl, k4, k5⟩; have HM := Lib.hid (And.intro k4 k5); clear k4 k5)
            | (go_at_call 50; refine (inv50 hn1 Hs.out.2.weak).mono ?_; rintro e w4 ⟨v4, rfl, k4, k5⟩; have H4 := Lib.hid (And.intro k4 (And.intro k5 (mul49 (w := w4) hn1 hn.1 (HP.out.2.1.below k5).weak (k4.pm (M := []) (by simp))))); clear k4 k5))
          refine ⟨⟨k + 1, x'.mul y.inv, by omega, by go_num, ?_, ?_, ?_⟩, by simp [intOf]; omega⟩
          · exact HM.out.1.pm fun m hm => by
              exact Nat.lt_of_lt_of_le (HP.out.1.mlt m hm) H4.out.2.1.size
          · exact below_trans (below_trans HP.out.2.2.1 H4.out.2.1) HM.out.2
          · rw [HP.out.2.2.2.1, Hs.out.1]
    · obtain rfl : k = n := by omega
      have HP := Lib.hid (And.intro hT' (And.intro hx' (And.intro hb hs)))
      clear hT' hx' hb hs
      go_wp2_with fail
      go_ret
      rw [Nat.sub_self] at HP
      exact ⟨.inl ⟨by rw [HP.out.2.2.2]; rfl, rfl, HP.out.1⟩, Stp.below HP.out.2.2.1, fun b hb _ => HP.out.2.2.1.block b hb⟩
end Go.Proofs.YtbejhkojdiadaaaGreat
