/- with: the program's look at a graph and vertices. -/
import Derived.Test.YtifkieopaoooeaaGreatDoorLawKit
set_option linter.unusedSimpArgs false
set_option linter.unusedVariables false
namespace Go.Proofs.YtifkieopaoooeaaGreatDoor
open Go.RowKit Plain PlainG
theorem withOne_calls (v N : Int) (R : Nat) (w : World) (hR : w.cell? ⟨R, 0, none⟩ = some (.int .i64 N)) : Calls Tryz.prog 99 #[.int .i64 v, .pointer (some ⟨R, 0, none⟩)] w fun e w' => e = .returned (.bool (!vert N v)) ∧ w' = w := by
  obtain ⟨r, hr⟩ : ∃ r, vert N v = r := ⟨_, rfl⟩
  have K := vertex_calls N v w
  rw [hr] at K ⊢
  have H := Lib.hid K
  clear K hr
  go_enter Tryz.func99, Tryz.ntmps99
  go_wp2_with (go_at_call 67; refine H.out.mono ?_; rintro e w2 ⟨rfl, hw2⟩; subst hw2)
  go_ret
  exact ⟨rfl, rfl⟩
def badW (N : Int) (l : List Int) : Bool := l.any fun v => !vert N v
def withA (g : Gr) (l : List Int) : Int := if chkGr g ≠ 0 then chkGr g else if badW g.n l = true then 2 else 0
set_option maxHeartbeats 400000 in
theorem indexW_calls (a : Option Addr) (c : Nat) (m : List Int) (w : World) (R : Nat) (N : Int) (hm : Ints w a m) (hR : w.cell? ⟨R, 0, none⟩ = some (.int .i64 N)) :
    Calls Tryz.prog 117 #[.slice a m.length c, .func (.func 99) #[] #[.pointer (some ⟨R, 0, none⟩)]] w fun e w' => (∃ i : Int, e = .returned (.int .i64 i) ∧ decide (0 ≤ i) = badW N m) ∧ w' = w := by
  have hA := Lib.hid hm
  have hmx := hm.len
  clear hm
  obtain ⟨L, hL⟩ : ∃ L, L = m.length := ⟨_, rfl⟩
  rw [← hL] at hmx ⊢
  have HL := Lib.hid hL
  clear hL
  go_enter Tryz.func117, Tryz.ntmps117
  go_wp2
  go_loop [8] (fun i => ∃ k : Nat, k ≤ L ∧ i = .int .i64 k ∧ badW N m = badW N (m.drop k)) (fun i => L - (intOf i).toNat)
  case atStart => exact ⟨0, Nat.zero_le _, rfl, rfl⟩
  case round =>
    obtain ⟨k, hk, rfl, he⟩ := hrel
    have He := Lib.hid he
    clear he
    by_cases hlt : k < L
    · have hkm : k < m.length := by rw [← HL.out]; exact hlt
      obtain ⟨g, o, rfl, hg, hc⟩ := hA.out.at_ (k := k) hkm
      have hd : m.drop k = (m[k]?.getD 0) :: m.drop (k + 1) := by
        rw [List.getElem?_eq_getElem hkm]; exact (List.getElem_cons_drop hkm).symm
      obtain ⟨r, hr⟩ : ∃ r, m[k]?.getD 0 = r := ⟨_, rfl⟩
      rw [hr] at hc hd
      have hcall := withOne_calls r N R w hR
      have he2 : badW N m = ((!vert N r) || badW N (m.drop (k + 1))) := by rw [He.out, hd]; rfl
      have H := Lib.hid (And.intro hcall he2)
      clear hd hr hcall he2 hkm
      cases hb : (!vert N r) with
      | false =>
        rw [hb] at H
        have Hb := Lib.hid hb
        clear hb
        go_wp2_with (go_at_call 99; refine H.out.1.mono ?_; rintro e w' ⟨rfl, rfl⟩)
        exact ⟨⟨k + 1, by omega, by go_num, by rw [H.out.2]; simp⟩, by simp [intOf]; omega⟩
      | true =>
        rw [hb] at H
        have Hb := Lib.hid hb
        clear hb
        go_wp2_with (go_at_call 99; refine H.out.1.mono ?_; rintro e w' ⟨rfl, rfl⟩)
        go_ret
        exact ⟨⟨(k : Int), rfl, by rw [H.out.2]; simp⟩, rfl⟩
    · go_wp2
      go_ret
      exact ⟨⟨-1, rfl, by rw [He.out, List.drop_eq_nil_of_le (by rw [← HL.out]; omega)]; simp [badW]⟩, rfl⟩
theorem containsW_calls (a : Option Addr) (c : Nat) (m : List Int) (w : World) (R : Nat) (N : Int) (hm : Ints w a m) (hR : w.cell? ⟨R, 0, none⟩ = some (.int .i64 N)) :
    Calls Tryz.prog 92 #[.slice a m.length c, .func (.func 99) #[] #[.pointer (some ⟨R, 0, none⟩)]] w fun e w' => e = .returned (.bool (badW N m)) ∧ w' = w := by
  have hc := Lib.hid (indexW_calls a c m w R N hm hR)
  clear hm
  obtain ⟨L, hL⟩ : ∃ L, L = m.length := ⟨_, rfl⟩
  rw [← hL] at hc ⊢
  clear hL
  go_enter Tryz.func92, Tryz.ntmps92
  go_wp2_with (go_at_call 117; refine hc.out.mono ?_; rintro e w' ⟨⟨i, rfl, hi⟩, rfl⟩; have Hi := Lib.hid hi; clear hi)
  go_ret
  exact ⟨ret_bool Hi.out, rfl⟩
set_option maxHeartbeats 1000000 in
theorem with_calls {w : World} {a b al : Option Addr} {c d cl : Nat} {g : Gr} {l : List Int} (he : Edg w a g.es) (hc : Ints w b g.cs) (hl : Ints w al l) :
    Calls Tryz.prog 77 #[.agg #[.int .i64 g.n, .slice a g.es.length c, .slice b g.cs.length d], .slice al l.length cl] w fun e w' => e = .returned (.int .i64 (withA g l)) ∧ Below w.heap.size w w' := by
  obtain ⟨R, hR⟩ : ∃ R, w.heap.size = R := ⟨_, rfl⟩
  obtain ⟨W1, hW1⟩ : ∃ W1, W1 = w.alloc (.cells #[.int .i64 g.n, .slice a g.es.length c, .slice b g.cs.length d] 25) := ⟨_, rfl⟩
  have hb1 : Below R w W1 := by rw [hW1, ← hR]; exact (Below.refl _ w).alloc (Nat.le_refl _) _
  have hx1 : Bx W1 R (.int .i64 g.n) (.slice a g.es.length c) (.slice b g.cs.length d) := by rw [hW1, ← hR]; exact Bx.new _ _ _ _
  have K27 := gcheck_calls (w := W1) (c := c) (d := d) (he.below (by rw [hR]; exact hb1)) (hc.below (by rw [hR]; exact hb1))
  have K92 := fun (w' : World) (h : Below R w w') (hx : w'.cell? ⟨R, 0, none⟩ = some (.int .i64 g.n)) => containsW_calls al cl l w' R g.n (hl.below (by rw [hR]; exact h)) hx
  obtain ⟨z, hz⟩ : ∃ z, withA g l = z := ⟨_, rfl⟩
  rw [hz]
  unfold withA at hz
  obtain ⟨E, hE⟩ : ∃ E, chkGr g = E := ⟨_, rfl⟩
  obtain ⟨B, hB⟩ : ∃ B, badW g.n l = B := ⟨_, rfl⟩
  rw [hE] at K27 hz
  rw [hB] at K92 hz
  obtain ⟨L, hL⟩ : ∃ L, g.es.length = L := ⟨_, rfl⟩
  obtain ⟨M, hM⟩ : ∃ M, g.cs.length = M := ⟨_, rfl⟩
  obtain ⟨N, hN⟩ : ∃ N, g.n = N := ⟨_, rfl⟩
  obtain ⟨Q, hQ⟩ : ∃ Q, l.length = Q := ⟨_, rfl⟩
  rw [hN, hL, hM] at K27 hW1 hx1 ⊢
  rw [hN, hQ] at K92
  rw [hQ]
  have H := Lib.hid (And.intro K27 (And.intro K92 (And.intro hx1 (And.intro hb1 hR))))
  have HW := Lib.hid hW1
  obtain ⟨x0, x1, x2⟩ := hx1
  clear K27 K92 hW1 hb1 he hc hl hE hB hL hM hN hQ hR
  by_cases hE0 : E = 0
  · subst hE0
    rw [if_neg (by simp)] at hz
    have HZ := Lib.hid hz
    clear hz
    cases B
    all_goals
      go_enter Tryz.func77, Tryz.ntmps77
      go_upto_region 1 with (fail)
      rw [← HW.out]
      try rw [H.out.2.2.2.2]
      go_wp2_with (first
        | (go_at_call 27; refine H.out.1.mono ?_; rintro e w2 ⟨rfl, hw2⟩; have HA := Lib.hid (And.intro (bchain H.out.2.2.2.1 H.out.2.2.2.2 hw2) (H.out.2.2.1.below hw2)); clear hw2)
        | (go_at_call 92; refine (H.out.2.1 _ HA.out.1 HA.out.2.1).mono ?_; rintro e w3 ⟨rfl, hw3⟩; replace hw3 := hw3.symm; subst hw3))
      go_ret
      exact ⟨by rw [← HZ.out]; rfl, by rw [H.out.2.2.2.2]; exact HA.out.1⟩
  · rw [if_pos hE0] at hz
    subst hz
    have hEn : (E != 0) = true := by simp [hE0]
    clear hE0
    go_enter Tryz.func77, Tryz.ntmps77
    go_upto_region 1 with (fail)
    rw [← HW.out]
    try rw [H.out.2.2.2.2]
    go_wp2_with (go_at_call 27; refine H.out.1.mono ?_; rintro e w2 ⟨rfl, hw2⟩; have HA := Lib.hid (bchain H.out.2.2.2.1 H.out.2.2.2.2 hw2); clear hw2)
    go_ret
    exact ⟨rfl, by rw [H.out.2.2.2.2]; exact HA.out⟩
end Go.Proofs.YtifkieopaoooeaaGreatDoor
