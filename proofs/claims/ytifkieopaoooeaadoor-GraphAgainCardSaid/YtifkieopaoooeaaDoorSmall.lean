/- Small functions of the library: cmp.Or, slices.Compare, slices.Clone, slices.ContainsFunc at the test of a row's length. -/
import Derived.Test.YtifkieopaoooeaaDoorRoundR
set_option linter.unusedSimpArgs false
set_option linter.unusedVariables false
namespace Go.Proofs.YtifkieopaoooeaaDoor
open Go.RowKit Plain

/-- The first number that is not 0. -/
def orL : List Int → Int
  | [] => 0
  | x :: r => if x ≠ 0 then x else orL r
theorem orL_next {xs : List Int} {k : Nat} (h : k < xs.length) (h0 : xs[k]?.getD 0 = 0) : orL (xs.drop k) = orL (xs.drop (k + 1)) := by
  rw [drop_cons (d := 0) h, orL, if_neg (by simp [h0])]
theorem orL_hit {xs : List Int} {k : Nat} (h : k < xs.length) (h0 : xs[k]?.getD 0 ≠ 0) : orL (xs.drop k) = xs[k]?.getD 0 := by
  rw [drop_cons (d := 0) h, orL, if_pos h0]

set_option maxHeartbeats 400000 in
theorem or_calls (a : Option Addr) (c : Nat) (xs : List Int) (w : World) (ha : Ints w a xs) :
    Calls Tryd.prog 47 #[.slice a xs.length c] w fun e w' => e = .returned (.int .i64 (orL xs)) ∧ w' = w := by
  have hA := Lib.hid ha
  have hmx := ha.len
  clear ha
  obtain ⟨n, hn⟩ : ∃ n, n = xs.length := ⟨_, rfl⟩
  rw [← hn]
  rw [← hn] at hmx
  have Hn := Lib.hid hn
  clear hn
  go_enter Tryd.func47, Tryd.ntmps47
  go_wp2
  go_loop [8] (fun i => ∃ k : Nat, k ≤ n ∧ i = .int .i64 k ∧ orL xs = orL (xs.drop k)) (fun i => n - (intOf i).toNat)
  case atStart => exact ⟨0, Nat.zero_le _, rfl, rfl⟩
  case round =>
    obtain ⟨k, hk, rfl, he⟩ := hrel
    have He := Lib.hid he
    clear he
    by_cases hlt : k < n
    · obtain ⟨b, o, rfl, _, hc⟩ := hA.out.at_ (k := k) (by rw [← Hn.out]; exact hlt)
      obtain ⟨x, hx⟩ : ∃ x, xs[k]?.getD 0 = x := ⟨_, rfl⟩
      rw [hx] at hc
      have Hx := Lib.hid hx
      clear hx
      by_cases h0 : x = 0
      · subst h0
        go_wp2
        exact ⟨⟨k + 1, by omega, by go_num, by rw [He.out, orL_next (by rw [← Hn.out]; exact hlt) Hx.out]⟩, by simp [intOf]; omega⟩
      · have h1 : (x != 0) = true := by simpa using h0
        have h2 : (x == 0) = false := by simpa using h0
        go_wp2
        go_ret
        exact ⟨ret_int (by rw [He.out, orL_hit (by rw [← Hn.out]; exact hlt) (by rw [Hx.out]; exact h0), Hx.out]), rfl⟩
    · go_wp2
      go_ret
      exact ⟨ret_int (by rw [He.out, drop_all (by rw [← Hn.out]; omega)]; rfl), rfl⟩

theorem cmpInt_calls (x y : Int) (w : World) : Calls Tryd.prog 51 #[.int .i64 x, .int .i64 y] w fun e w' => e = .returned (.int .i64 (cmpL [x] [y])) ∧ w' = w := by
  by_cases h1 : x < y
  · rw [cmpL_lt h1]
    go_enter Tryd.func51, Tryd.ntmps51
    go_wp2
    go_ret
    exact ⟨rfl, rfl⟩
  · by_cases h2 : y < x
    · rw [cmpL_gt h2]
      go_enter Tryd.func51, Tryd.ntmps51
      go_wp2
      go_ret
      exact ⟨rfl, rfl⟩
    · rw [cmpL_eq (by omega)]
      go_enter Tryd.func51, Tryd.ntmps51
      go_wp2
      go_ret
      exact ⟨ret_int (by simp [cmpL]), rfl⟩
theorem cmpL_step (x y : Int) (xs ys : List Int) : cmpL (x :: xs) (y :: ys) = if cmpL [x] [y] ≠ 0 then cmpL [x] [y] else cmpL xs ys := by
  by_cases h1 : x < y
  · rw [cmpL_lt h1, cmpL_lt h1]; simp
  · by_cases h2 : y < x
    · rw [cmpL_gt h2, cmpL_gt h2]; simp
    · rw [cmpL_eq (by omega), cmpL_eq (by omega)]; simp [cmpL]

set_option maxHeartbeats 400000 in
theorem compareS_calls (a b : Option Addr) (c d : Nat) (xs ys : List Int) (w : World) (ha : Ints w a xs) (hb : Ints w b ys) (hl : xs.length = ys.length) :
    Calls Tryd.prog 35 #[.slice a xs.length c, .slice b ys.length d] w fun e w' => e = .returned (.int .i64 (cmpL xs ys)) ∧ w' = w := by
  have hA := Lib.hid ha
  have hB := Lib.hid hb
  have hmx := ha.len
  clear ha hb
  obtain ⟨n, hn⟩ : ∃ n, n = xs.length := ⟨_, rfl⟩
  rw [← hl, ← hn]
  rw [← hn] at hmx hl
  have Hn := Lib.hid hn
  have Hm := Lib.hid hl
  clear hn hl
  go_enter Tryd.func35, Tryd.ntmps35
  go_wp2
  go_loop [11] (fun i => ∃ k : Nat, k ≤ n ∧ i = .int .i64 k ∧ cmpL xs ys = cmpL (xs.drop k) (ys.drop k)) (fun i => n - (intOf i).toNat)
  case atStart => exact ⟨0, Nat.zero_le _, rfl, rfl⟩
  case round =>
    obtain ⟨k, hk, rfl, he⟩ := hrel
    have He := Lib.hid he
    clear he
    by_cases hlt : k < n
    · obtain ⟨a', oa, rfl, _, hca⟩ := hA.out.at_ (k := k) (by rw [← Hn.out]; exact hlt)
      obtain ⟨b', ob, rfl, _, hcb⟩ := hB.out.at_ (k := k) (by rw [← Hm.out]; exact hlt)
      have hd : xs.drop k = xs[k]?.getD 0 :: xs.drop (k + 1) := drop_cons (by rw [← Hn.out]; exact hlt)
      have hd2 : ys.drop k = ys[k]?.getD 0 :: ys.drop (k + 1) := drop_cons (by rw [← Hm.out]; exact hlt)
      obtain ⟨x, hx⟩ : ∃ x, xs[k]?.getD 0 = x := ⟨_, rfl⟩
      obtain ⟨y, hy⟩ : ∃ y, ys[k]?.getD 0 = y := ⟨_, rfl⟩
      rw [hx] at hca hd
      rw [hy] at hcb hd2
      have Hd := Lib.hid (And.intro hd hd2)
      have hcc := cmpInt_calls x y w
      obtain ⟨r, hr⟩ : ∃ r, cmpL [x] [y] = r := ⟨_, rfl⟩
      rw [hr] at hcc
      have Hc := Lib.hid hcc
      have Hr := Lib.hid hr
      clear hd hd2 hx hy hcc hr
      by_cases h0 : r = 0
      · subst h0
        go_wp2_with (go_at_call 51; refine Hc.out.mono ?_; rintro e w' ⟨rfl, rfl⟩)
        exact ⟨⟨k + 1, by omega, by go_num, by rw [He.out, Hd.out.1, Hd.out.2, cmpL_step, Hr.out]; simp⟩, by simp [intOf]; omega⟩
      · have h1 : (r != 0) = true := by simpa using h0
        have h2 : (r == 0) = false := by simpa using h0
        go_wp2_with (go_at_call 51; refine Hc.out.mono ?_; rintro e w' ⟨rfl, rfl⟩)
        go_ret
        exact ⟨ret_int (by rw [He.out, Hd.out.1, Hd.out.2, cmpL_step, Hr.out, if_pos h0]), rfl⟩
    · go_wp2
      go_ret
      exact ⟨ret_int (by rw [He.out, cmpL_end (.inl (drop_all (by rw [← Hn.out]; omega)))]; simp [← Hn.out, ← Hm.out]), rfl⟩

set_option maxHeartbeats 400000 in
theorem clone_calls (a : Option Addr) (c : Nat) (xs : List Int) (w : World) (ha : Ints w a xs) (hn : xs.length ≤ 1000000) :
    Calls Tryd.prog 18 #[.slice a xs.length c] w fun e w' => ∃ v, e = .returned v ∧ Own w' w.heap.size v 3 (ints xs) ∧ Below w.heap.size w w' := by
  have hA := Lib.hid ha
  clear ha
  obtain ⟨n, hnx⟩ : ∃ n, n = xs.length := ⟨_, rfl⟩
  rw [← hnx] at hn ⊢
  have Hn := Lib.hid hnx
  clear hnx
  obtain ⟨i3, hi3, hz3, hs3, hb3⟩ := info_parts Tryd.info3
  have I3 := Lib.hid (And.intro hi3 (And.intro hz3 (And.intro hs3 hb3)))
  clear hi3 hz3 hs3 hb3
  cases a with
  | none =>
    have h0 : xs = [] := by
      cases hx : xs with
      | nil => rfl
      | cons x r =>
        have := hA.out.at_ (k := 0) (by rw [hx]; simp)
        obtain ⟨_, _, e, _⟩ := this
        cases e
    have hn0 : n = 0 := by rw [Hn.out, h0]; rfl
    subst hn0
    have he := fun W : World => Lib.run_eql_slice_nil (P := Tryd.prog) W 22 3 none 0 c 0 0 Tryd.underlying22
    go_enter Tryd.func18, Tryd.ntmps18
    go_wp2
    go_ret
    exact ⟨_, rfl, by rw [h0]; exact Own.nil _ _ _, Below.refl _ _⟩
  | some ad =>
    have he := fun W : World => Lib.run_eql_slice_nil (P := Tryd.prog) W 22 3 (some ad) n c 0 0 Tryd.underlying22
    have hem := Own.new (w := w) (B := w.heap.size) 3 [] (Nat.le_refl _) (Nat.zero_le _)
    have hb : Below w.heap.size w (w.alloc (.cells #[] 3)) := (Below.refl _ _).alloc (Nat.le_refl _) _
    have H := Lib.hid (And.intro hem (And.intro hb (hA.out.below hb)))
    clear hem hb
    go_enter Tryd.func18, Tryd.ntmps18
    go_wp2_with (at_builtin; refine appA rfl (.tmp 5) (.tmp 6) 22 3 rfl i3 (.int .i64 0) 8 Tryd.underlying22 I3.out.1 I3.out.2.1 I3.out.2.2.1 I3.out.2.2.2 rfl (by omega) w.heap.size (.slice (some ⟨w.heap.size, 0, none⟩) 0 0) [] (ints xs) rfl H.out.1 ad n c rfl (by rw [ints_len, ← Hn.out]) H.out.2.2.src (ints_one xs) (by simp; omega) H.out.2.1.size ?_; intro v' w' h2 h3; have H9 := Lib.hid (And.intro h2 h3); clear h2 h3)
    go_ret
    refine ⟨_, rfl, H9.out.1, H.out.2.1.grown H9.out.2 H.out.2.1.size (fun k hk => by cases hk; exact Nat.le_refl _)⟩

set_option maxHeartbeats 400000 in
theorem len1_calls (a : Option Addr) (k c : Nat) (B : Nat) (n : Int) (w : World) (hB : w.cell? ⟨B, 0, none⟩ = some (.int .i64 n)) :
    Calls Tryd.prog 41 #[.slice a k c, .pointer (some ⟨B, 0, none⟩)] w fun e w' => e = .returned (.bool ((k : Int) != n)) ∧ w' = w := by
  go_enter Tryd.func41, Tryd.ntmps41
  go_wp2
  go_ret
  exact ⟨rfl, rfl⟩
end Go.Proofs.YtifkieopaoooeaaDoor
