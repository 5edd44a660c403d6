/- The reference's key of a point. · The reference's rounds and its refining. · The reference's Refine. · Small functions of the library: cmp.Or, slices.Compare, slices.Clone, slices.ContainsFunc at the test of a row's length. · slices.IndexFunc and slices.ContainsFunc at the test of a row's length. · The kit's small functions: Below, Number. -/
import Derived.Test.YtjjjohmppehejaaGreatLabs
import Derived.Test.YtjjjohmppehejaaGreatPlainC
set_option linter.unusedSimpArgs false
set_option linter.unusedVariables false
namespace Go.Proofs.YtjjjohmppehejaaGreat
open Go.RowKit Plain

/-- A matrix' entry, read. -/
theorem Rows.entry {w : World} {a : Option Addr} {m : List (List Int)} {n : Nat} (h : Rows w a m) (hm : IsMat n m) {i k : Nat} (hi : i < n) (hk : k < n) :
    ∃ g o g2 o2 c, a = some ⟨g, o, none⟩ ∧ w.cell? ⟨g, o + i, none⟩ = some (.slice (some ⟨g2, o2, none⟩) n c) ∧ w.cell? ⟨g2, o2 + k, none⟩ = some (.int .i64 (mat m i k)) := by
  obtain ⟨g, o, b, c, rfl, _, hc, hr⟩ := h.at_ (k := i) (by rw [hm.1]; exact hi)
  have hl := hm.row hi
  rw [hl] at hc
  obtain ⟨g2, o2, rfl, _, hc2⟩ := hr.at_ (k := k) (by rw [hl]; exact hk)
  exact ⟨g, o, g2, o2, c, rfl, hc, hc2⟩

end Go.Proofs.YtjjjohmppehejaaGreat

namespace Go.Proofs.YtjjjohmppehejaaGreat
open Go.RowKit Plain

end Go.Proofs.YtjjjohmppehejaaGreat

namespace Go.Proofs.YtjjjohmppehejaaGreat
open Go.RowKit Plain

theorem Rows.nil' (w : World) : Rows w none [] := ⟨[], Row.nil, rfl, fun i u xs h => by simp at h⟩
theorem Rows.rowlen {w : World} {a : Option Addr} {m : List (List Int)} (h : Rows w a m) {k : Nat} (hk : k < m.length) :
    ∃ g o b c, a = some ⟨g, o, none⟩ ∧ w.cell? ⟨g, o + k, none⟩ = some (.slice b (m[k]?.getD []).length c) ∧ (m[k]?.getD []).length ≤ 9223372036854775807 := by
  obtain ⟨g, o, b, c, e, _, h1, h2⟩ := h.at_ hk
  exact ⟨g, o, b, c, e, h1, h2.len⟩

end Go.Proofs.YtjjjohmppehejaaGreat

namespace Go.Proofs.YtjjjohmppehejaaGreat
open Go.RowKit Plain

/-- The first number that is not 0. -/
def orL : List Int → Int
  | [] => 0
  | x :: r => if x ≠ 0 then x else orL r
theorem orL_next {xs : List Int} {k : Nat} (h : k < xs.length) (h0 : xs[k]?.getD 0 = 0) : orL (xs.drop k) = orL (xs.drop (k + 1)) := by
  rw [drop_cons (d := 0) h, orL, if_neg (by simp [h0])]
theorem orL_hit {xs : List Int} {k : Nat} (h : k < xs.length) (h0 : xs[k]?.getD 0 ≠ 0) : orL (xs.drop k) = xs[k]?.getD 0 := by
  rw [drop_cons (d := 0) h, orL, if_pos h0]

set_option maxHeartbeats 400000 in
theorem or_calls (a : Option Addr) (c : Nat) (xs : List Int) (w : World) (ha : Ints w a xs) :
    Calls Tryz.prog 97 #[.slice a xs.length c] w fun e w' => e = .returned (.int .i64 (orL xs)) ∧ w' = w := by
  have hA := Lib.hid ha
  have hmx := ha.len
  clear ha
  obtain ⟨n, hn⟩ : ∃ n, n = xs.length := ⟨_, rfl⟩
  rw [← hn]
  rw [← hn] at hmx
  have Hn := Lib.hid hn
  clear hn
  go_enter Tryz.func97, Tryz.ntmps97
  go_wp2
  go_loop [8] (fun i => ∃ k : Nat, k ≤ n ∧ i = .int .i64 k ∧ orL xs = orL (xs.drop k)) (fun i => n - (intOf i).toNat)
  case atStart => exact ⟨0, Nat.zero_le _, rfl, rfl⟩
  case round =>
    obtain ⟨k, hk, rfl, he⟩ := hrel
    have He := Lib.hid he
    clear he
    by_cases hlt : k < n
    · obtain ⟨b, o, rfl, _, hc⟩ := hA.out.at_ (k := k) (by rw [← Hn.out]; exact hlt)
      obtain ⟨x, hx⟩ : ∃ x, xs[k]?.getD 0 = x := ⟨_, rfl⟩
      rw [hx] at hc
      have Hx := Lib.hid hx
      clear hx
      by_cases h0 : x = 0
      · subst h0
        go_wp2
        exact ⟨⟨k + 1, by omega, by go_num, by rw [He.out, orL_next (by rw [← Hn.out]; exact hlt) Hx.out]⟩, by simp [intOf]; omega⟩
      · have h1 : (x != 0) = true := by simpa using h0
        have h2 : (x == 0) = false := by simpa using h0
        go_wp2
        go_ret
        exact ⟨ret_int (by rw [He.out, orL_hit (by rw [← Hn.out]; exact hlt) (by rw [Hx.out]; exact h0), Hx.out]), rfl⟩
    · go_wp2
      go_ret
      exact ⟨ret_int (by rw [He.out, drop_all (by rw [← Hn.out]; omega)]; rfl), rfl⟩

theorem cmpInt_calls (x y : Int) (w : World) : Calls Tryz.prog 66 #[.int .i64 x, .int .i64 y] w fun e w' => e = .returned (.int .i64 (cmpL [x] [y])) ∧ w' = w := by
  by_cases h1 : x < y
  · rw [cmpL_lt h1]
    go_enter Tryz.func66, Tryz.ntmps66
    go_wp2
    go_ret
    exact ⟨rfl, rfl⟩
  · by_cases h2 : y < x
    · rw [cmpL_gt h2]
      go_enter Tryz.func66, Tryz.ntmps66
      go_wp2
      go_ret
      exact ⟨rfl, rfl⟩
    · rw [cmpL_eq (by omega)]
      go_enter Tryz.func66, Tryz.ntmps66
      go_wp2
      go_ret
      exact ⟨ret_int (by simp [cmpL]), rfl⟩
theorem cmpL_step (x y : Int) (xs ys : List Int) : cmpL (x :: xs) (y :: ys) = if cmpL [x] [y] ≠ 0 then cmpL [x] [y] else cmpL xs ys := by
  by_cases h1 : x < y
  · rw [cmpL_lt h1, cmpL_lt h1]; simp
  · by_cases h2 : y < x
    · rw [cmpL_gt h2, cmpL_gt h2]; simp
    · rw [cmpL_eq (by omega), cmpL_eq (by omega)]; simp [cmpL]

set_option maxHeartbeats 400000 in
theorem compareS_calls (a b : Option Addr) (c d : Nat) (xs ys : List Int) (w : World) (ha : Ints w a xs) (hb : Ints w b ys) (hl : xs.length = ys.length) :
    Calls Tryz.prog 44 #[.slice a xs.length c, .slice b ys.length d] w fun e w' => e = .returned (.int .i64 (cmpL xs ys)) ∧ w' = w := by
  have hA := Lib.hid ha
  have hB := Lib.hid hb
  have hmx := ha.len
  clear ha hb
  obtain ⟨n, hn⟩ : ∃ n, n = xs.length := ⟨_, rfl⟩
  rw [← hl, ← hn]
  rw [← hn] at hmx hl
  have Hn := Lib.hid hn
  have Hm := Lib.hid hl
  clear hn hl
  go_enter Tryz.func44, Tryz.ntmps44
  go_wp2
  go_loop [11] (fun i => ∃ k : Nat, k ≤ n ∧ i = .int .i64 k ∧ cmpL xs ys = cmpL (xs.drop k) (ys.drop k)) (fun i => n - (intOf i).toNat)
  case atStart => exact ⟨0, Nat.zero_le _, rfl, rfl⟩
  case round =>
    obtain ⟨k, hk, rfl, he⟩ := hrel
    have He := Lib.hid he
    clear he
    by_cases hlt : k < n
    · obtain ⟨a', oa, rfl, _, hca⟩ := hA.out.at_ (k := k) (by rw [← Hn.out]; exact hlt)
      obtain ⟨b', ob, rfl, _, hcb⟩ := hB.out.at_ (k := k) (by rw [← Hm.out]; exact hlt)
      have hd : xs.drop k = xs[k]?.getD 0 :: xs.drop (k + 1) := drop_cons (by rw [← Hn.out]; exact hlt)
      have hd2 : ys.drop k = ys[k]?.getD 0 :: ys.drop (k + 1) := drop_cons (by rw [← Hm.out]; exact hlt)
      obtain ⟨x, hx⟩ : ∃ x, xs[k]?.getD 0 = x := ⟨_, rfl⟩
      obtain ⟨y, hy⟩ : ∃ y, ys[k]?.getD 0 = y := ⟨_, rfl⟩
      rw [hx] at hca hd
      rw [hy] at hcb hd2
      have Hd := Lib.hid (And.intro hd hd2)
      have hcc := cmpInt_calls x y w
      obtain ⟨r, hr⟩ : ∃ r, cmpL [x] [y] = r := ⟨_, rfl⟩
      rw [hr] at hcc
      have Hc := Lib.hid hcc
      have Hr := Lib.hid hr
      clear hd hd2 hx hy hcc hr
      by_cases h0 : r = 0
      · subst h0
        go_wp2_with (go_at_call 66; refine Hc.out.mono ?_; rintro e w' ⟨rfl, rfl⟩)
        exact ⟨⟨k + 1, by omega, by go_num, by rw [He.out, Hd.out.1, Hd.out.2, cmpL_step, Hr.out]; simp⟩, by simp [intOf]; omega⟩
      · have h1 : (r != 0) = true := by simpa using h0
        have h2 : (r == 0) = false := by simpa using h0
        go_wp2_with (go_at_call 66; refine Hc.out.mono ?_; rintro e w' ⟨rfl, rfl⟩)
        go_ret
        exact ⟨ret_int (by rw [He.out, Hd.out.1, Hd.out.2, cmpL_step, Hr.out, if_pos h0]), rfl⟩
    · go_wp2
      go_ret
      exact ⟨ret_int (by rw [He.out, cmpL_end (.inl (drop_all (by rw [← Hn.out]; omega)))]; simp [← Hn.out, ← Hm.out]), rfl⟩

set_option maxHeartbeats 400000 in
theorem clone_calls (a : Option Addr) (c : Nat) (xs : List Int) (w : World) (ha : Ints w a xs) (hn : xs.length ≤ 1000000) :
    Calls Tryz.prog 65 #[.slice a xs.length c] w fun e w' => ∃ v, e = .returned v ∧ Own w' w.heap.size v 3 (ints xs) ∧ Below w.heap.size w w' := by
  have hA := Lib.hid ha
  clear ha
  obtain ⟨n, hnx⟩ : ∃ n, n = xs.length := ⟨_, rfl⟩
  rw [← hnx] at hn ⊢
  have Hn := Lib.hid hnx
  clear hnx
  obtain ⟨i3, hi3, hz3, hs3, hb3⟩ := info_parts Tryz.info3
  have I3 := Lib.hid (And.intro hi3 (And.intro hz3 (And.intro hs3 hb3)))
  clear hi3 hz3 hs3 hb3
  cases a with
  | none =>
    have h0 : xs = [] := by
      cases hx : xs with
      | nil => rfl
      | cons x r =>
        have := hA.out.at_ (k := 0) (by rw [hx]; simp)
        obtain ⟨_, _, e, _⟩ := this
        cases e
    have hn0 : n = 0 := by rw [Hn.out, h0]; rfl
    subst hn0
    have he := fun W : World => Lib.run_eql_slice_nil (P := Tryz.prog) W 23 3 none 0 c 0 0 Tryz.underlying23
    go_enter Tryz.func65, Tryz.ntmps65
    go_wp2
    go_ret
    exact ⟨_, rfl, by rw [h0]; exact Own.nil _ _ _, Below.refl _ _⟩
  | some ad =>
    have he := fun W : World => Lib.run_eql_slice_nil (P := Tryz.prog) W 23 3 (some ad) n c 0 0 Tryz.underlying23
    have hem := Own.new (w := w) (B := w.heap.size) 3 [] (Nat.le_refl _) (Nat.zero_le _)
    have hb : Below w.heap.size w (w.alloc (.cells #[] 3)) := (Below.refl _ _).alloc (Nat.le_refl _) _
    have H := Lib.hid (And.intro hem (And.intro hb (hA.out.below hb)))
    clear hem hb
    go_enter Tryz.func65, Tryz.ntmps65
    go_wp2_with (at_builtin; refine appA rfl (.tmp 5) (.tmp 6) 23 3 rfl i3 (.int .i64 0) 8 Tryz.underlying23 I3.out.1 I3.out.2.1 I3.out.2.2.1 I3.out.2.2.2 rfl (by omega) w.heap.size (.slice (some ⟨w.heap.size, 0, none⟩) 0 0) [] (ints xs) rfl H.out.1 ad n c rfl (by rw [ints_len, ← Hn.out]) H.out.2.2.src (ints_one xs) (by simp; omega) H.out.2.1.size ?_; intro v' w' h2 h3; have H9 := Lib.hid (And.intro h2 h3); clear h2 h3)
    go_ret
    refine ⟨_, rfl, H9.out.1, H.out.2.1.grown H9.out.2 H.out.2.1.size (fun k hk => by cases hk; exact Nat.le_refl _)⟩

set_option maxHeartbeats 400000 in
theorem len1_calls (a : Option Addr) (k c : Nat) (B : Nat) (n : Int) (w : World) (hB : w.cell? ⟨B, 0, none⟩ = some (.int .i64 n)) :
    Calls Tryz.prog 91 #[.slice a k c, .pointer (some ⟨B, 0, none⟩)] w fun e w' => e = .returned (.bool ((k : Int) != n)) ∧ w' = w := by
  go_enter Tryz.func91, Tryz.ntmps91
  go_wp2
  go_ret
  exact ⟨rfl, rfl⟩
end Go.Proofs.YtjjjohmppehejaaGreat

namespace Go.Proofs.YtjjjohmppehejaaGreat
open Go.RowKit Plain

def badLen (n : Int) (m : List (List Int)) : Bool := m.any fun r => ((r.length : Int) != n)

set_option maxHeartbeats 400000 in
theorem index_calls (a : Option Addr) (c : Nat) (m : List (List Int)) (n : Int) (B : Nat) (w : World) (hm : Rows w a m) (hB : w.cell? ⟨B, 0, none⟩ = some (.int .i64 n)) :
    Calls Tryz.prog 108 #[.slice a m.length c, .func (.func 91) #[] #[.pointer (some ⟨B, 0, none⟩)]] w fun e w' => (∃ i : Int, e = .returned (.int .i64 i) ∧ decide (0 ≤ i) = badLen n m) ∧ w' = w := by
  have hA := Lib.hid (And.intro hm hB)
  have hmx := hm.len
  clear hm hB
  obtain ⟨L, hL⟩ : ∃ L, L = m.length := ⟨_, rfl⟩
  rw [← hL] at hmx ⊢
  have HL := Lib.hid hL
  clear hL
  go_enter Tryz.func108, Tryz.ntmps108
  go_wp2
  go_loop [8] (fun i => ∃ k : Nat, k ≤ L ∧ i = .int .i64 k ∧ badLen n m = badLen n (m.drop k)) (fun i => L - (intOf i).toNat)
  case atStart => exact ⟨0, Nat.zero_le _, rfl, rfl⟩
  case round =>
    obtain ⟨k, hk, rfl, he⟩ := hrel
    have He := Lib.hid he
    clear he
    by_cases hlt : k < L
    · have hkm : k < m.length := by rw [← HL.out]; exact hlt
      obtain ⟨g, o, b, d, rfl, hg, hc, -⟩ := hA.out.1.at_ (k := k) hkm
      have hd : m.drop k = (m[k]?.getD []) :: m.drop (k + 1) := by
        rw [List.getElem?_eq_getElem hkm]; exact (List.getElem_cons_drop hkm).symm
      obtain ⟨r, hr⟩ : ∃ r, m[k]?.getD [] = r := ⟨_, rfl⟩
      rw [hr] at hc hd
      obtain ⟨q, hq⟩ : ∃ q, q = r.length := ⟨_, rfl⟩
      rw [← hq] at hc
      have hcall := len1_calls b q d B n w hA.out.2
      have he2 : badLen n m = (((q : Int) != n) || badLen n (m.drop (k + 1))) := by rw [He.out, hd, hq]; rfl
      have H := Lib.hid (And.intro hcall he2)
      clear hd hr hq hcall he2 hkm
      cases hb : ((q : Int) != n) with
      | false =>
        rw [hb] at H
        have Hb := Lib.hid hb
        clear hb
        go_wp2_with (go_at_call 91; refine H.out.1.mono ?_; rintro e w' ⟨rfl, rfl⟩)
        exact ⟨⟨k + 1, by omega, by go_num, by rw [H.out.2]; simp⟩, by simp [intOf]; omega⟩
      | true =>
        rw [hb] at H
        have Hb := Lib.hid hb
        clear hb
        go_wp2_with (go_at_call 91; refine H.out.1.mono ?_; rintro e w' ⟨rfl, rfl⟩)
        go_ret
        exact ⟨⟨(k : Int), rfl, by rw [H.out.2]; simp⟩, rfl⟩
    · go_wp2
      go_ret
      exact ⟨⟨-1, rfl, by rw [He.out, List.drop_eq_nil_of_le (by rw [← HL.out]; omega)]; simp [badLen]⟩, rfl⟩

theorem contains_calls (a : Option Addr) (c : Nat) (m : List (List Int)) (n : Int) (B : Nat) (w : World) (hm : Rows w a m) (hB : w.cell? ⟨B, 0, none⟩ = some (.int .i64 n)) :
    Calls Tryz.prog 90 #[.slice a m.length c, .func (.func 91) #[] #[.pointer (some ⟨B, 0, none⟩)]] w fun e w' => e = .returned (.bool (badLen n m)) ∧ w' = w := by
  have hc := Lib.hid (index_calls a c m n B w hm hB)
  clear hm hB
  obtain ⟨L, hL⟩ : ∃ L, L = m.length := ⟨_, rfl⟩
  rw [← hL] at hc ⊢
  clear hL
  go_enter Tryz.func90, Tryz.ntmps90
  go_wp2_with (go_at_call 108; refine hc.out.mono ?_; rintro e w' ⟨⟨i, rfl, hi⟩, rfl⟩; have Hi := Lib.hid hi; clear hi)
  go_ret
  exact ⟨ret_bool Hi.out, rfl⟩
end Go.Proofs.YtjjjohmppehejaaGreat

namespace Go.Proofs.YtjjjohmppehejaaGreat
open Go.RowKit Plain

/-- The number from 0 to k - 1 that an int selects. -/
def bel (n k : Int) : Int := if k < 1 then 0 else n % k
theorem bel_range {n k : Int} (h : 1 ≤ k) : 0 ≤ bel n k ∧ bel n k < k := by
  rw [bel, if_neg (by omega)]
  exact ⟨Int.emod_nonneg _ (by omega), Int.emod_lt_of_pos _ (by omega)⟩
theorem bel_tmod {n k : Int} (h : ¬ k < 1) : bel n k = if n.tmod k < 0 then n.tmod k + k else n.tmod k := by
  rw [bel, if_neg h, Int.emod_eq_tmod]
  have h2 := Int.tmod_lt_of_pos n (b := k) (by omega)
  have h3 := Int.lt_tmod_of_pos n (b := k) (by omega)
  by_cases h4 : 0 ≤ n ∨ k ∣ n
  · rw [if_pos h4, if_neg]
    · omega
    · rcases h4 with h4 | h4
      · have := Int.tmod_nonneg k h4; omega
      · rw [Int.tmod_eq_zero_of_dvd h4]; omega
  · rw [if_neg h4]
    have hn : ¬ 0 ≤ n := fun h => h4 (.inl h)
    have hd : n.tmod k ≠ 0 := fun h => h4 (.inr (Int.dvd_of_tmod_eq_zero h))
    have h5 : n.tmod k ≤ 0 := by
      have h6 := Int.tmod_nonneg k (a := -n) (by omega)
      rw [Int.neg_tmod] at h6; omega
    rw [if_pos (by omega)]
    omega

theorem below_calls (n k : Int) (w : World) (hk : k ≤ 1000000) : Calls Tryz.prog 15 #[.int .i64 n, .int .i64 k] w fun e w' => e = .returned (.int .i64 (bel n k)) ∧ w' = w := by
  by_cases h1 : k < 1
  · go_enter Tryz.func15, Tryz.ntmps15
    go_wp2
    go_ret
    exact ⟨ret_int (by rw [bel, if_pos h1]), rfl⟩
  · have h1' : decide (k < 1) = false := by simpa using h1
    have hb := bel_tmod (n := n) h1
    have h2 := Int.tmod_lt_of_pos n (b := k) (by omega)
    have h3 := Int.lt_tmod_of_pos n (b := k) (by omega)
    have h0 : (k == 0) = false := by simp; omega
    have h0' : k ≠ 0 := by omega
    obtain ⟨r, hr⟩ : ∃ r, n.tmod k = r := ⟨_, rfl⟩
    rw [hr] at hb h2 h3
    by_cases h4 : r < 0
    · rw [if_pos h4] at hb
      have Hb := Lib.hid hb
      clear hb
      go_enter Tryz.func15, Tryz.ntmps15
      go_wp2
      go_ret
      exact ⟨ret_int (by rw [Hb.out]), rfl⟩
    · rw [if_neg h4] at hb
      have Hb := Lib.hid hb
      clear hb
      go_enter Tryz.func15, Tryz.ntmps15
      go_wp2
      go_ret
      exact ⟨ret_int (by rw [Hb.out]), rfl⟩

/-- The number at a place, 0 if there is none. -/
def numAt (l : List Int) (i : Nat) : Int := l[i]?.getD 0
theorem kitnum_calls (a : Option Addr) (c : Nat) (l : List Int) (i : Nat) (w : World) (ha : Ints w a l) (hi : i ≤ 1000000) :
    Calls Tryz.prog 38 #[.slice a l.length c, .int .i64 i] w fun e w' => e = .returned (.int .i64 (numAt l i)) ∧ w' = w := by
  have hA := Lib.hid ha
  have hm := ha.len
  clear ha
  obtain ⟨L, hL⟩ : ∃ L, L = l.length := ⟨_, rfl⟩
  rw [← hL] at hm ⊢
  have HL := Lib.hid hL
  clear hL
  by_cases h : i < L
  · obtain ⟨b, o, rfl, _, hc⟩ := hA.out.at_ (k := i) (by rw [← HL.out]; exact h)
    go_enter Tryz.func38, Tryz.ntmps38
    go_wp2
    go_ret
    exact ⟨rfl, rfl⟩
  · have h' : decide ((L : Int) ≤ i) = true := by simp; omega
    go_enter Tryz.func38, Tryz.ntmps38
    go_wp2
    go_ret
    exact ⟨ret_int (by rw [numAt, List.getElem?_eq_none (by rw [← HL.out]; omega)]; rfl), rfl⟩
end Go.Proofs.YtjjjohmppehejaaGreat
