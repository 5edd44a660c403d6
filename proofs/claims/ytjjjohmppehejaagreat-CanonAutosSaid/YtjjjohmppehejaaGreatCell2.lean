/- Labels, Target, Split and Single: the program's. -/
import Derived.Test.YtjjjohmppehejaaGreatLabs
import Derived.Test.YtjjjohmppehejaaGreatPlainC
import Derived.Test.YtjjjohmppehejaaGreatRefA
set_option linter.unusedSimpArgs false
set_option linter.unusedVariables false
namespace Go.Proofs.YtjjjohmppehejaaGreat
open Go.RowKit Plain



theorem labelsE_callsB (n : Int) (a : Option Addr) (c : Nat) (xs : List (List Int)) (w : World) (ha : Rows w a xs) :
    Calls Tryz.prog 100 #[.int .i64 n, .slice a xs.length c] w fun e w' => ∃ a c, e = .returned (.tuple #[.slice a (labA n xs).length c, .int .i64 (chk n xs)]) ∧ IntsB w.heap.size w' a (labA n xs) ∧ Below w.heap.size w w' := by
  have hck := Lib.hid (check_calls n a c xs w ha)
  by_cases h0 : chk n xs = 0
  · obtain ⟨hn0, hn64, _⟩ := chk_zero h0
    obtain ⟨N, rfl⟩ := Int.eq_ofNat_of_zero_le hn0
    have hin := chk_in h0
    have hlA : labA N xs = labelsL N xs := by rw [labA, if_neg (by simp [h0])]; rfl
    have Hy := Lib.hid (fun (w1 : World) (h : Below w.heap.size w w1) => labels_calls N a c xs w1 (ha.below h) (by omega) hin)
    have hlen := labelsL_len N xs
    simp only [h0] at hck ⊢
    rw [hlA]
    obtain ⟨lb, hlb⟩ : ∃ x, labelsL N xs = x := ⟨_, rfl⟩
    rw [hlb] at Hy hlen ⊢
    have Hl := Lib.hid hlen
    obtain ⟨L, hL⟩ : ∃ L, L = xs.length := ⟨_, rfl⟩
    rw [← hL] at hck Hy ⊢
    clear hL ha h0 hlb hn0 hin hlA hlen
    go_enter Tryz.func100, Tryz.ntmps100
    go_wp2_with fail
    refine hck.out.mono ?_
    rintro e w1 ⟨rfl, hb1⟩
    have H1 := Lib.hid hb1
    clear hb1
    go_wp2_with fail
    refine (Hy.out w1 H1.out).mono ?_
    rintro e w2 ⟨u, rfl, hu, hb2⟩
    obtain ⟨ua, uc, rfl, -⟩ := hu.row (by rw [ints_len, Hl.out]; unfold maxLen; omega)
    rw [ints_len, Hl.out] at hu ⊢
    have H2 := Lib.hid (And.intro ((hu.intsB (by rw [Hl.out]; unfold maxLen; omega)).mono H1.out.size) (H1.out.trans (hb2.mono H1.out.size)))
    clear hu hb2
    go_wp2
    go_ret2
    exact ⟨_, _, by rw [Hl.out]; rfl, H2.out.1, H2.out.2⟩
  · have hlA : labA n xs = [] := by rw [labA, if_pos h0]
    obtain ⟨E, hE⟩ : ∃ E, chk n xs = E := ⟨_, rfl⟩
    rw [hE] at hck h0 ⊢
    rw [hlA]
    have hE1 : (E != 0) = true := by simpa using h0
    clear hE hlA
    go_enter Tryz.func100, Tryz.ntmps100
    go_wp2_with fail
    refine hck.out.mono ?_
    rintro e w1 ⟨rfl, hb1⟩
    have H1 := Lib.hid hb1
    clear hb1
    go_wp2
    go_ret2
    exact ⟨none, 0, rfl, ⟨Row.nil, fun ad e => by cases e⟩, H1.out⟩

theorem labelsE_calls (n : Int) (a : Option Addr) (c : Nat) (xs : List (List Int)) (w : World) (ha : Rows w a xs) :
    Calls Tryz.prog 100 #[.int .i64 n, .slice a xs.length c] w fun e w' => ∃ a c, e = .returned (.tuple #[.slice a (labA n xs).length c, .int .i64 (chk n xs)]) ∧ Ints w' a (labA n xs) ∧ Below w.heap.size w w' :=
  (labelsE_callsB n a c xs w ha).mono fun e w' ⟨a, c, h1, h2, h3⟩ => ⟨a, c, h1, h2.1, h3⟩
set_option maxRecDepth 100000 in
set_option maxHeartbeats 1000000 in
theorem target_calls (n : Int) (a : Option Addr) (c : Nat) (xs : List (List Int)) (w : World) (ha : Rows w a xs) :
    Calls Tryz.prog 99 #[.int .i64 n, .slice a xs.length c] w fun e w' => e = .returned (.tuple #[.int .i64 (tgtA n xs), .int .i64 (chk n xs)]) ∧ Below w.heap.size w w' := by
  have hck := Lib.hid (check_calls n a c xs w ha)
  have hml := ha.len
  have H0 := Lib.hid ha
  by_cases h0 : chk n xs = 0
  · have hlA : tgtA n xs = encOpt (tgtTo xs xs.length) := by rw [tgtA, if_neg (by simp [h0])]
    rw [h0] at hck ⊢
    rw [hlA]
    obtain ⟨L, hL⟩ : ∃ L, L = xs.length := ⟨_, rfl⟩
    rw [← hL] at hck hml ⊢
    have HL := Lib.hid hL
    clear hL ha h0 hlA
    go_enter Tryz.func99, Tryz.ntmps99
    go_wp2_with fail
    refine hck.out.mono ?_
    rintro e w1 ⟨rfl, hb1⟩
    have H1 := Lib.hid (And.intro hb1 (H0.out.below hb1))
    clear hb1
    go_wp2
    go_loop [7, 18] (fun b i => ∃ k : Nat, k ≤ L ∧ i = .int .i64 k ∧ b = .int .i64 (encOpt (tgtTo xs k))) (fun _ i => L - (intOf i).toNat)
    case atStart => exact ⟨0, by omega, rfl, rfl⟩
    case round =>
      obtain ⟨k, hk, rfl, rfl⟩ := hrel
      by_cases hlt : k < L
      · obtain ⟨g, o, b, cc, rfl, _, hc, hi⟩ := H1.out.2.at_ (k := k) (by rw [← HL.out]; exact hlt)
        have hs : tgtTo xs (k + 1) = if 1 < (xs[k]?.getD []).length ∧ (∀ b, tgtTo xs k = some b → (xs[k]?.getD []).length < (xs[b]?.getD []).length) then some k else tgtTo xs k := rfl
        obtain ⟨N, hN⟩ : ∃ N, (xs[k]?.getD []).length = N := ⟨_, rfl⟩
        rw [hN] at hc hs
        by_cases h1 : 1 < N
        · cases hb : tgtTo xs k with
          | none =>
            rw [if_pos ⟨h1, fun b hb' => by rw [hb] at hb'; cases hb'⟩] at hs
            have Hs := Lib.hid hs
            clear hs hi hN hb
            simp only [encOpt]
            go_wp2
            exact ⟨⟨k + 1, by omega, by go_num, by rw [Hs.out]⟩, by simp [intOf]; omega⟩
          | some t =>
            have htk := tgtTo_lt hb
            obtain ⟨g', o', b2, c2, e, _, hc2, _⟩ := H1.out.2.at_ (k := t) (by rw [← HL.out]; omega)
            cases e
            obtain ⟨M, hM⟩ : ∃ N, (xs[t]?.getD []).length = N := ⟨_, rfl⟩
            rw [hM] at hc2
            have htn : decide ((t : Int) < 0) = false := by simp
            by_cases h2 : N < M
            · rw [if_pos ⟨h1, fun b hb' => by rw [hb] at hb'; cases hb'; rw [hM]; exact h2⟩] at hs
              have Hs := Lib.hid hs
              clear hs hi hN hb hM
              simp only [encOpt]
              go_wp2
              exact ⟨⟨k + 1, by omega, by go_num, by rw [Hs.out]⟩, by simp [intOf]; omega⟩
            · rw [if_neg (fun h => h2 (by have := h.2 t hb; rwa [hM] at this))] at hs
              have Hs := Lib.hid (hs.trans hb)
              have h2' : decide ((N : Int) < M) = false := decide_eq_false (by omega)
              clear hs hi hN hb hM
              simp only [encOpt]
              go_wp2
              exact ⟨⟨k + 1, by omega, by go_num, by rw [Hs.out]⟩, by simp [intOf]; omega⟩
        · rw [if_neg (fun h => h1 h.1)] at hs
          have Hs := Lib.hid hs
          have h1' : decide ((1 : Int) < N) = false := decide_eq_false (by omega)
          obtain ⟨V, hV⟩ : ∃ V, encOpt (tgtTo xs k) = V := ⟨_, rfl⟩
          rw [hV]
          have HV := Lib.hid hV
          clear hs hi hN hV
          go_wp2
          exact ⟨⟨k + 1, by omega, by go_num, by rw [Hs.out, HV.out]⟩, by simp [intOf]; omega⟩
      · obtain rfl : k = L := by omega
        go_wp2
        go_ret2
        exact ⟨rfl, H1.out.1⟩
  · have hlA : tgtA n xs = 0 := by rw [tgtA, if_pos h0]
    obtain ⟨E, hE⟩ : ∃ E, chk n xs = E := ⟨_, rfl⟩
    rw [hE] at hck h0 ⊢
    rw [hlA]
    have hE1 : (E != 0) = true := by simpa using h0
    clear hE hlA
    go_enter Tryz.func99, Tryz.ntmps99
    go_wp2_with fail
    refine hck.out.mono ?_
    rintro e w1 ⟨rfl, hb1⟩
    have H1 := Lib.hid hb1
    clear hb1
    go_wp2
    go_ret2
    exact ⟨rfl, H1.out⟩

/-- Some point of the set is none of the n points. -/


theorem split1_calls (p n : Int) (B : Nat) (w : World) (hB : w.cell? ⟨B, 0, none⟩ = some (.int .i64 n)) :
    Calls Tryz.prog 143 #[.int .i64 p, .pointer (some ⟨B, 0, none⟩)] w fun e w' => e = .returned (.bool (decide (p < 0) || decide (n ≤ p))) ∧ w' = w := by
  by_cases h1 : p < 0
  · rw [decide_eq_true h1]
    go_enter Tryz.func143, Tryz.ntmps143
    go_wp2
    go_ret
    exact ⟨rfl, rfl⟩
  · have h1' := decide_eq_false h1
    rw [h1']
    by_cases h2 : n ≤ p
    · rw [decide_eq_true h2]
      go_enter Tryz.func143, Tryz.ntmps143
      go_wp2
      go_ret
      exact ⟨rfl, rfl⟩
    · have h2' := decide_eq_false h2
      rw [h2']
      go_enter Tryz.func143, Tryz.ntmps143
      go_wp2
      go_ret
      exact ⟨rfl, rfl⟩

set_option maxHeartbeats 400000 in
theorem indexI_calls (a : Option Addr) (c : Nat) (s : List Int) (n : Int) (B : Nat) (w : World) (hs : Ints w a s) (hB : w.cell? ⟨B, 0, none⟩ = some (.int .i64 n)) :
    Calls Tryz.prog 102 #[.slice a s.length c, .func (.func 143) #[] #[.pointer (some ⟨B, 0, none⟩)]] w fun e w' => (∃ i : Int, e = .returned (.int .i64 i) ∧ decide (0 ≤ i) = badPt n s) ∧ w' = w := by
  have hA := Lib.hid (And.intro hs hB)
  have hmx := hs.len
  clear hs hB
  obtain ⟨L, hL⟩ : ∃ L, L = s.length := ⟨_, rfl⟩
  rw [← hL] at hmx ⊢
  have HL := Lib.hid hL
  clear hL
  go_enter Tryz.func102, Tryz.ntmps102
  go_wp2
  go_loop [8] (fun i => ∃ k : Nat, k ≤ L ∧ i = .int .i64 k ∧ badPt n s = badPt n (s.drop k)) (fun i => L - (intOf i).toNat)
  case atStart => exact ⟨0, Nat.zero_le _, rfl, rfl⟩
  case round =>
    obtain ⟨k, hk, rfl, he⟩ := hrel
    have He := Lib.hid he
    clear he
    by_cases hlt : k < L
    · have hkm : k < s.length := by rw [← HL.out]; exact hlt
      obtain ⟨g, o, rfl, hg, hc⟩ := hA.out.1.at_ (k := k) hkm
      have hd : s.drop k = (s[k]?.getD 0) :: s.drop (k + 1) := drop_cons hkm
      obtain ⟨r, hr⟩ : ∃ r, s[k]?.getD 0 = r := ⟨_, rfl⟩
      rw [hr] at hc hd
      have hcall := split1_calls r n B w hA.out.2
      have he2 : badPt n s = ((decide (r < 0) || decide (n ≤ r)) || badPt n (s.drop (k + 1))) := by rw [He.out, hd]; rfl
      have H := Lib.hid (And.intro hcall he2)
      clear hd hr hcall he2 hkm
      cases hb : (decide (r < 0) || decide (n ≤ r)) with
      | false =>
        rw [hb] at H
        have Hb := Lib.hid hb
        clear hb
        go_wp2_with (go_at_call 143; refine H.out.1.mono ?_; rintro e w' ⟨rfl, rfl⟩)
        exact ⟨⟨k + 1, by omega, by go_num, by rw [H.out.2]; simp⟩, by simp [intOf]; omega⟩
      | true =>
        rw [hb] at H
        have Hb := Lib.hid hb
        clear hb
        go_wp2_with (go_at_call 143; refine H.out.1.mono ?_; rintro e w' ⟨rfl, rfl⟩)
        go_ret
        exact ⟨⟨(k : Int), rfl, by rw [H.out.2]; simp⟩, rfl⟩
    · go_wp2
      go_ret
      exact ⟨⟨-1, rfl, by rw [He.out, List.drop_eq_nil_of_le (by rw [← HL.out]; omega)]; simp [badPt]⟩, rfl⟩
theorem containsF_calls (a : Option Addr) (c : Nat) (s : List Int) (n : Int) (B : Nat) (w : World) (hs : Ints w a s) (hB : w.cell? ⟨B, 0, none⟩ = some (.int .i64 n)) :
    Calls Tryz.prog 81 #[.slice a s.length c, .func (.func 143) #[] #[.pointer (some ⟨B, 0, none⟩)]] w fun e w' => e = .returned (.bool (badPt n s)) ∧ w' = w := by
  have hc := Lib.hid (indexI_calls a c s n B w hs hB)
  clear hs hB
  obtain ⟨L, hL⟩ : ∃ L, L = s.length := ⟨_, rfl⟩
  rw [← hL] at hc ⊢
  clear hL
  go_enter Tryz.func81, Tryz.ntmps81
  go_wp2_with (go_at_call 102; refine hc.out.mono ?_; rintro e w' ⟨⟨i, rfl, hi⟩, rfl⟩; have Hi := Lib.hid hi; clear hi)
  go_ret
  exact ⟨ret_bool Hi.out, rfl⟩
set_option maxHeartbeats 400000 in
theorem indexE_calls (a : Option Addr) (c : Nat) (s : List Int) (p : Int) (w : World) (hs : Ints w a s) :
    Calls Tryz.prog 164 #[.slice a s.length c, .int .i64 p] w fun e w' => (∃ i : Int, e = .returned (.int .i64 i) ∧ decide (0 ≤ i) = decide (p ∈ s)) ∧ w' = w := by
  have hA := Lib.hid hs
  have hmx := hs.len
  clear hs
  obtain ⟨L, hL⟩ : ∃ L, L = s.length := ⟨_, rfl⟩
  rw [← hL] at hmx ⊢
  have HL := Lib.hid hL
  clear hL
  go_enter Tryz.func164, Tryz.ntmps164
  go_wp2
  go_loop [8] (fun i => ∃ k : Nat, k ≤ L ∧ i = .int .i64 k ∧ (p ∈ s ↔ p ∈ s.drop k)) (fun i => L - (intOf i).toNat)
  case atStart => exact ⟨0, Nat.zero_le _, rfl, Iff.rfl⟩
  case round =>
    obtain ⟨k, hk, rfl, he⟩ := hrel
    have He := Lib.hid he
    clear he
    by_cases hlt : k < L
    · have hkm : k < s.length := by rw [← HL.out]; exact hlt
      obtain ⟨g, o, rfl, hg, hc⟩ := hA.out.at_ (k := k) hkm
      have hd : s.drop k = (s[k]?.getD 0) :: s.drop (k + 1) := drop_cons hkm
      obtain ⟨r, hr⟩ : ∃ r, s[k]?.getD 0 = r := ⟨_, rfl⟩
      rw [hr] at hc hd
      have he2 : p ∈ s ↔ p = r ∨ p ∈ s.drop (k + 1) := by rw [He.out, hd, List.mem_cons]
      have H := Lib.hid he2
      clear hd hr he2 hkm
      by_cases hb : p = r
      · subst hb
        go_wp2
        go_ret
        refine ⟨⟨(k : Int), rfl, ?_⟩, rfl⟩
        exact ⟨fun _ => H.out.2 (.inl (by first | rfl | trivial)), fun _ => by omega⟩
      · have hb' : (p == r) = false := by simpa using hb
        have H2 := Lib.hid (H.out.trans (or_iff_right hb))
        go_wp2
        exact ⟨⟨k + 1, by omega, by go_num, H2.out⟩, by simp [intOf]; omega⟩
    · go_wp2
      go_ret
      refine ⟨⟨-1, rfl, ?_⟩, rfl⟩
      refine ⟨fun h => (by omega), fun h => ?_⟩
      have := He.out.1 h
      rw [List.drop_eq_nil_of_le (by rw [← HL.out]; omega)] at this
      simp at this
theorem containsE_calls (a : Option Addr) (c : Nat) (s : List Int) (p : Int) (w : World) (hs : Ints w a s) :
    Calls Tryz.prog 144 #[.slice a s.length c, .int .i64 p] w fun e w' => e = .returned (.bool (decide (p ∈ s))) ∧ w' = w := by
  have hc := Lib.hid (indexE_calls a c s p w hs)
  clear hs
  obtain ⟨L, hL⟩ : ∃ L, L = s.length := ⟨_, rfl⟩
  rw [← hL] at hc ⊢
  clear hL
  go_enter Tryz.func144, Tryz.ntmps144
  go_wp2_with (go_at_call 164; refine hc.out.mono ?_; rintro e w' ⟨⟨i, rfl, hi⟩, rfl⟩; have Hi := Lib.hid hi; clear hi)
  go_ret
  exact ⟨ret_bool Hi.out, rfl⟩

/-- Two slices lie apart. -/
def Apart2 (u v : Value) : Prop := u.ownBlock = none ∨ u.ownBlock ≠ v.ownBlock
theorem Apart2.symm {u v : Value} (h : Apart2 u v) : Apart2 v u := by
  rcases h with h | h
  · by_cases h2 : v.ownBlock = none
    · exact .inl h2
    · right; rw [h]; exact h2
  · exact .inr (Ne.symm h)
theorem Apart2.app {w : World} {B : Nat} {u v u' : Value} {e : TypeId} {xs : List Value} (h : Apart2 u v) (hv : Own w B v e xs) (hu : u'.ownBlock = u.ownBlock ∨ ∃ g, u'.ownBlock = some g ∧ w.heap.size ≤ g) : Apart2 u' v := by
  rcases hu with hu | ⟨g, hu, hg⟩
  · rw [Apart2, hu]; exact h
  · right
    rw [hu]
    rcases hv.blk with e | ⟨q, _, e, _, hq, _⟩
    · rw [e]; simp
    · rw [e]; intro h; cases h; omega

theorem chk_bound {n : Int} {l : List (List Int)} (h : chk n l = 0) : l.length ≤ 1000 ∧ ∀ c ∈ l, c.length ≤ 1000 := by
  obtain ⟨hn0, hn64, _⟩ := chk_zero h
  obtain ⟨N, rfl⟩ := Int.eq_ofNat_of_zero_le hn0
  have hg := chk_good h
  refine ⟨by have := hg.len_le; omega, fun c hc => ?_⟩
  have := nodup_len N c (hg.nodup.sublist (List.sublist_flatten_of_mem hc)) (hg.inr c hc)
  omega

set_option maxRecDepth 100000 in
set_option maxHeartbeats 2000000 in
theorem split_callsB (n : Int) (a b : Option Addr) (c d : Nat) (l : List (List Int)) (s : List Int) (w : World) (ha : Rows w a l) (hb : Ints w b s) :
    Calls Tryz.prog 113 #[.int .i64 n, .slice a l.length c, .slice b s.length d] w fun e w' => ∃ a c, e = .returned (.tuple #[.slice a (splitA n l s).1.length c, .int .i64 (splitA n l s).2]) ∧ RowsB w.heap.size w' a (splitA n l s).1 ∧ Below w.heap.size w w' := by
  obtain ⟨i3, hi3, hz3, hs3, hb3⟩ := info_parts Tryz.info3
  obtain ⟨i29, hi29, hz29, hs29, hb29⟩ := info_parts Tryz.info23
  have I3 := Lib.hid (And.intro hi3 (And.intro hz3 (And.intro hs3 hb3)))
  have I29 := Lib.hid (And.intro hi29 (And.intro hz29 (And.intro hs29 hb29)))
  clear hi3 hz3 hs3 hb3 hi29 hz29 hs29 hb29
  have hbx : Below w.heap.size w (w.alloc (.cells #[.int .i64 n] 3)) := (Below.refl _ _).alloc (Nat.le_refl _) _
  obtain ⟨wb, hwb⟩ : ∃ wb, wb = w.alloc (.cells #[.int .i64 n] 3) := ⟨_, rfl⟩
  have hcb : wb.cell? ⟨w.heap.size, 0, none⟩ = some (.int .i64 n) := by rw [hwb]; simp [go_sem]
  have hszb : wb.heap.size = w.heap.size + 1 := by rw [hwb]; simp
  rw [← hwb] at hbx
  have hck := check_calls n a c l wb (ha.below hbx)
  have hml := ha.len
  by_cases h0 : chk n l = 0
  · obtain ⟨hll, hlc⟩ := chk_bound h0
    rw [h0] at hck
    have hcf := fun (w1 : World) (h : Below wb.heap.size wb w1) => containsF_calls b d s n w.heap.size w1 (hb.below (hbx.trans (h.mono (by omega)))) (by rw [h.cell (by simp; omega)]; exact hcb)
    by_cases hbad : badPt n s = true
    · have hA : splitA n l s = ([], 2) := by rw [splitA, if_neg (by simp [h0]), if_pos hbad]
      rw [hA]
      rw [hbad] at hcf
      have Hck := Lib.hid hck
      have Hcf := Lib.hid hcf
      have Hbx := Lib.hid hbx
      obtain ⟨L, hL⟩ : ∃ L, L = l.length := ⟨_, rfl⟩
      obtain ⟨S, hS⟩ : ∃ L, L = s.length := ⟨_, rfl⟩
      rw [← hL] at Hck ⊢
      rw [← hS] at Hcf ⊢
      clear ha hb hck hcf hbx hL hS h0 hbad hA hml hll hlc
      go_enter Tryz.func113, Tryz.ntmps113
      go_wp2_with fail
      rw [← hwb]
      refine Hck.out.mono ?_
      rintro e w1 ⟨rfl, hb1⟩
      have H1 := Lib.hid hb1
      clear hb1
      go_wp2_with fail
      refine (Hcf.out w1 H1.out).mono ?_
      rintro e w2 ⟨rfl, hw⟩
      replace hw := hw.symm
      subst hw
      go_wp2
      go_ret2
      exact ⟨none, 0, rfl, RowsB.none, Hbx.out.trans (H1.out.mono (by omega))⟩
    · have hbad : badPt n s = false := by simpa using hbad
      have hA : splitA n l s = (splitL s l, 0) := by rw [splitA, if_neg (by simp [h0]), if_neg (by simp [hbad])]
      rw [hA]
      rw [hbad] at hcf
      have hco := fun (p : Int) (w1 : World) (h : Below w.heap.size w w1) => containsE_calls b d s p w1 (hb.below h)
      have H0 := Lib.hid (And.intro ha hlc)
      have Hck := Lib.hid hck
      have Hcf := Lib.hid hcf
      have Hco := Lib.hid hco
      have Hbx := Lib.hid hbx
      obtain ⟨L, hL⟩ : ∃ L, L = l.length := ⟨_, rfl⟩
      obtain ⟨S, hS⟩ : ∃ L, L = s.length := ⟨_, rfl⟩
      rw [← hL] at Hck hml hll ⊢
      rw [← hS] at Hcf Hco ⊢
      have HL := Lib.hid hL
      clear ha hb hck hcf hco hbx hL hS h0 hbad hA hlc
      go_enter Tryz.func113, Tryz.ntmps113
      go_wp2_with fail
      rw [← hwb]
      refine Hck.out.mono ?_
      rintro e w1 ⟨rfl, hb1⟩
      have H1 := Lib.hid hb1
      clear hb1
      go_wp2_with fail
      refine (Hcf.out w1 H1.out).mono ?_
      rintro e w2 ⟨rfl, hw⟩
      replace hw := hw.symm
      subst hw
      have hbw1 : Below w.heap.size w w1 := Hbx.out.trans (H1.out.mono (by omega))
      obtain ⟨D, hD⟩ : ∃ D, D = w.heap.size := ⟨_, rfl⟩
      rw [← hD] at hbw1 Hco ⊢
      have HD := Lib.hid hD
      have H2 := Lib.hid hbw1
      clear hbw1 H1 Hcf Hck hwb Hbx hcb hszb
      go_wp2
      go_loopw [9, 29] (fun v kk wr => ∃ (k : Nat) (cs : List Value), k ≤ L ∧ kk = .int .i64 k ∧ Own wr D v 23 cs ∧ OwnRows wr D 3 cs (splitL s (l.take k)) ∧ Below D w wr) (fun _ kk _ => L - (intOf kk).toNat)
      case atStart => exact ⟨0, [], by omega, rfl, Own.nil _ _ _, OwnRows.nil _ _ _, H2.out⟩
      case round =>
        clear H2
        obtain ⟨k, cs, hk, rfl, hv, hcs, hbl⟩ := hrel
        obtain ⟨wo, rfl⟩ : ∃ wo : World, wo = wr := ⟨_, rfl⟩
        have hDo : D ≤ wo.heap.size := by have := hbl.size; have := HD.out; omega
        have Hv := Lib.hid (And.intro hv (And.intro hcs (And.intro hbl hDo)))
        clear hv hcs hbl hDo
        by_cases hlt : k < L
        · obtain ⟨x, hx⟩ : ∃ x, l[k]?.getD [] = x := ⟨_, rfl⟩
          have hxl : x.length ≤ 1000 := by
            rw [← hx, List.getElem?_eq_getElem (by rw [← HL.out]; exact hlt)]
            exact H0.out.2 _ (List.getElem_mem _)
          have hrd : ∀ wr, Below D w wr → ∃ g o b cc, a = some ⟨g, o, none⟩ ∧ wr.cell? ⟨g, o + k, none⟩ = some (.slice b x.length cc) ∧ Ints wr b x := fun wr hb => by
            obtain ⟨g, o, b, cc, e, _, hc, hi⟩ := (H0.out.1.below (by rw [← HD.out]; exact hb)).at_ (k := k) (by rw [← HL.out]; exact hlt)
            rw [hx] at hc hi
            exact ⟨g, o, b, cc, e, hc, hi⟩
          obtain ⟨g, o, bx, cx, rfl, hcx, hix⟩ := hrd wo Hv.out.2.2.1
          have hlook : ∀ wr, wo.grownBy wr none → Ints wr bx x := fun wr hg => Row.keep hix hg.size (fun p hp => World.cell?_of_block (hg.block p.block hp (by simp)))
          have Hr := Lib.hid (And.intro hlook hx)
          clear hrd hx hix hlook
          obtain ⟨M, hM⟩ : ∃ M, M = x.length := ⟨_, rfl⟩
          rw [← hM] at hxl hcx
          have HM := Lib.hid hM
          clear hM
          go_wp2
          go_loopw [12, 13, 35] (fun u v jj wr => ∃ (j : Nat), j ≤ M ∧ jj = .int .i64 j ∧ Own wr wo.heap.size u 3 (ints (inS s (x.take j))) ∧ Own wr wo.heap.size v 3 (ints (outS s (x.take j))) ∧ Apart2 u v ∧ wo.grownBy wr none) (fun _ _ jj _ => M - (intOf jj).toNat)
          case atStart => exact ⟨0, by omega, rfl, Own.nil _ _ _, Own.nil _ _ _, .inl rfl, World.grownBy.refl _ _⟩
          case round =>
            obtain ⟨j, hj, rfl, hu, hv, hap, hg⟩ := hrel
            have hbr : Below D w wr := Hv.out.2.2.1.grown hg Hv.out.2.2.2 (fun k hk => by cases hk)
            have H := Lib.hid (And.intro hu (And.intro hv (And.intro hap (And.intro hg hbr))))
            have hl1 := inS_len s (x.take j)
            have hl2 := outS_len s (x.take j)
            have hl3 : (x.take j).length ≤ M := by rw [List.length_take, ← HM.out]; omega
            clear hu hv hap hg hbr
            by_cases hjl : j < M
            · obtain ⟨gb, ob, rfl, _, hcp⟩ := (Hr.out.1 wr H.out.2.2.2.1).at_ (k := j) (by rw [← HM.out]; exact hjl)
              have Hc := Lib.hid (Hco.out (x[j]?.getD 0) wr H.out.2.2.2.2)
              obtain ⟨p, hp⟩ : ∃ p, x[j]?.getD 0 = p := ⟨_, rfl⟩
              rw [hp] at hcp Hc
              have Hp := Lib.hid hp
              have hsz : wo.heap.size ≤ wr.heap.size := H.out.2.2.2.1.size
              clear hp
              by_cases hm : p ∈ s
              · have hI := inS_yes (s := s) (c := x) (j := j) (by rw [← HM.out]; exact hjl) (by rw [Hp.out]; exact hm)
                have hO := outS_yes (s := s) (c := x) (j := j) (by rw [← HM.out]; exact hjl) (by rw [Hp.out]; exact hm)
                rw [Hp.out] at hI
                rw [decide_eq_true hm] at Hc
                have Hs := Lib.hid (And.intro hI hO)
                have hsl : (ints (inS s (x.take j))).length < 1099511627776 := by rw [ints_len]; omega
                clear hI hO hm
                go_wp2_with (first | (go_at_call 144; refine Hc.out.mono ?_; rintro e w' ⟨rfl, hw⟩; replace hw := hw.symm; subst hw) | (at_builtin; refine app1 rfl (.tmp 42) (.tmp 44) 23 3 rfl i3 (.int .i64 0) 8 Tryz.underlying23 I3.out.1 I3.out.2.1 I3.out.2.2.1 I3.out.2.2.2 rfl (by omega) wo.heap.size (.int .i64 p) u12 (ints (inS s (x.take j))) rfl H.out.1 rfl rfl hsl hsz ?_; intro v' w' h2 h3 h4; have H9 := Lib.hid (And.intro h2 (And.intro h3 h4)); clear h2 h3 h4))
                refine ⟨⟨j + 1, by omega, by go_num, ?_, ?_, H.out.2.2.1.app H.out.2.1 H9.out.2.2, grown_new H.out.2.2.2.1 H9.out.2.1 ?_⟩, by simp [intOf]; omega⟩
                · rw [Hs.out.1]; simpa [ints] using H9.out.1
                · rw [Hs.out.2]; exact H.out.2.1.kept H9.out.2.1 H.out.2.2.1.symm
                · intro g hg
                  rcases H.out.1.blk with e | ⟨g', _, e, hB, _⟩
                  · rw [e] at hg; cases hg
                  · rw [e] at hg; cases hg; exact .inl hB
              · have hI := inS_no (s := s) (c := x) (j := j) (by rw [← HM.out]; exact hjl) (by rw [Hp.out]; exact hm)
                have hO := outS_no (s := s) (c := x) (j := j) (by rw [← HM.out]; exact hjl) (by rw [Hp.out]; exact hm)
                rw [Hp.out] at hO
                rw [decide_eq_false hm] at Hc
                have Hs := Lib.hid (And.intro hI hO)
                have hsl : (ints (outS s (x.take j))).length < 1099511627776 := by rw [ints_len]; omega
                clear hI hO hm
                go_wp2_with (first | (go_at_call 144; refine Hc.out.mono ?_; rintro e w' ⟨rfl, hw⟩; replace hw := hw.symm; subst hw) | (at_builtin; refine app1 rfl (.tmp 46) (.tmp 48) 23 3 rfl i3 (.int .i64 0) 8 Tryz.underlying23 I3.out.1 I3.out.2.1 I3.out.2.2.1 I3.out.2.2.2 rfl (by omega) wo.heap.size (.int .i64 p) u13 (ints (outS s (x.take j))) rfl H.out.2.1 rfl rfl hsl hsz ?_; intro v' w' h2 h3 h4; have H9 := Lib.hid (And.intro h2 (And.intro h3 h4)); clear h2 h3 h4))
                refine ⟨⟨j + 1, by omega, by go_num, ?_, ?_, (H.out.2.2.1.symm.app H.out.1 H9.out.2.2).symm, grown_new H.out.2.2.2.1 H9.out.2.1 ?_⟩, by simp [intOf]; omega⟩
                · rw [Hs.out.1]; exact H.out.1.kept H9.out.2.1 H.out.2.2.1
                · rw [Hs.out.2]; simpa [ints] using H9.out.1
                · intro g hg
                  rcases H.out.2.1.blk with e | ⟨g', _, e, hB, _⟩
                  · rw [e] at hg; cases hg
                  · rw [e] at hg; cases hg; exact .inl hB
            · obtain rfl : j = M := by omega
              have hta : x.take j = x := by rw [HM.out, List.take_length]
              rw [hta] at H hl1 hl2
              obtain ⟨au, cu, rfl, _⟩ := H.out.1.row (by rw [ints_len]; have := HM.out; unfold maxLen; omega)
              obtain ⟨av, cv, rfl, _⟩ := H.out.2.1.row (by rw [ints_len]; have := HM.out; unfold maxLen; omega)
              have hvr : Own wr D u9 23 cs := Hv.out.1.kept H.out.2.2.2.1 (by rcases Hv.out.1.blk with e | ⟨g, _, e, _⟩ <;> rw [e] <;> simp)
              have hcr : OwnRows wr D 3 cs (splitL s (l.take k)) := Hv.out.2.1.kept H.out.2.2.2.1 (fun u xs h => by rcases h.blk with e | ⟨g, _, e, _⟩ <;> rw [e] <;> simp)
              have hsplit := splitL_take (s := s) (l := l) (k := k) (by rw [← HL.out]; exact hlt)
              rw [Hr.out.2] at hsplit
              have hcl : cs.length ≤ 2 * k := by
                rw [hcr.1]
                have := splitL_len s (l.take k)
                rw [List.length_take] at this; omega
              have hDr : D ≤ wr.heap.size := by have := H.out.2.2.2.1.size; have := Hv.out.2.2.2; omega
              have Hw := Lib.hid (And.intro hvr (And.intro hcr (And.intro (H.out.1.mono Hv.out.2.2.2) (And.intro (H.out.2.1.mono Hv.out.2.2.2) (And.intro H.out.2.2.2.2 (And.intro hcl hDr))))))
              obtain ⟨I, hI⟩ : ∃ I, inS s x = I := ⟨_, rfl⟩
              obtain ⟨O, hO⟩ : ∃ I, outS s x = I := ⟨_, rfl⟩
              rw [hI, hO] at Hw hsplit
              rw [hI] at hl1 ⊢
              rw [hO] at hl2 ⊢
              have Hsp := Lib.hid hsplit
              clear hvr hcr hsplit hDr hcl hI hO hta H
              obtain ⟨NI, hNI⟩ : ∃ N, (ints I).length = N := ⟨_, rfl⟩
              obtain ⟨NO, hNO⟩ : ∃ N, (ints O).length = N := ⟨_, rfl⟩
              rw [hNI] at Hw ⊢
              rw [hNO] at Hw ⊢
              rw [ints_len] at hNI hNO
              have HN := Lib.hid (And.intro hNI hNO)
              obtain ⟨wp, rfl⟩ : ∃ wp : World, wp = wr := ⟨_, rfl⟩
              clear hNI hNO
              go_wp2
              go_loopw [9, 54] (fun v ii wr => ∃ (i : Nat) (cs' : List Value), i ≤ 2 ∧ ii = .int .i64 i ∧ Own wr D v 23 cs' ∧ OwnRows wr D 3 cs' (splitL s (l.take k) ++ ((if 0 < i then part1 I else []) ++ (if 1 < i then part1 O else []))) ∧ cs'.length ≤ 2 * k + i ∧ Own wr D (.slice au NI cu) 3 (ints I) ∧ Own wr D (.slice av NO cv) 3 (ints O) ∧ Below D w wr ∧ D ≤ wr.heap.size) (fun _ ii _ => 2 - (intOf ii).toNat)
              case atStart => exact ⟨0, cs, by omega, rfl, Hw.out.1, by simpa using Hw.out.2.1, by have := Hw.out.2.2.2.2.2.1; omega, Hw.out.2.2.1, Hw.out.2.2.2.1, Hw.out.2.2.2.2.1, Hw.out.2.2.2.2.2.2⟩
              case round =>
                clear Hw
                obtain ⟨i, cs', hi, rfl, hv, hcs, hcl, hoi, hoo, hbl, hDr⟩ := hrel
                have hsz : cs'.length < 1099511627776 := by omega
                have Hw := Lib.hid (And.intro hv (And.intro hcs (And.intro hcl (And.intro hoi (And.intro hoo (And.intro hbl hDr))))))
                clear hv hcs hoi hoo hbl
                have i0 : ∀ w, (Instr.index 168 (.agg #[.slice au NI cu, .slice av NO cv]) (.int .i64 0)).run Tryz.prog w = .ok (.slice au NI cu) w := fun _ => by kernel_rfl
                have i1 : ∀ w, (Instr.index 168 (.agg #[.slice au NI cu, .slice av NO cv]) (.int .i64 1)).run Tryz.prog w = .ok (.slice av NO cv) w := fun _ => by kernel_rfl
                rcases (by omega : i = 0 ∨ i = 1 ∨ i = 2) with rfl | rfl | rfl
                · by_cases hN : NI = 0
                  · have hp : part1 I = [] := by rw [part1, if_pos (by rw [HN.out.1]; exact hN)]
                    have Hp := Lib.hid hp
                    clear hp
                    subst hN
                    go_wp2
                    refine ⟨⟨1, cs', by omega, by go_num, Hw.out.1, ?_, by have := Hw.out.2.2.1; omega, Hw.out.2.2.2⟩, by simp [intOf]⟩
                    have := Hw.out.2.1
                    simpa [Hp.out] using this
                  · have hN' : (0 : Int) < (NI : Int) := by omega
                    have hp : part1 I = [I] := by rw [part1, if_neg (by rw [HN.out.1]; exact hN)]
                    have Hp := Lib.hid hp
                    clear hp hN
                    go_wp2_with (at_builtin; refine app1 rfl (.tmp 60) (.tmp 62) 28 23 rfl i29 (.slice none 0 0) 24 Tryz.underlying28 I29.out.1 I29.out.2.1 I29.out.2.2.1 I29.out.2.2.2 rfl (by omega) D (.slice au NI cu) u9 cs' rfl Hw.out.1 rfl rfl hsz hDr ?_; intro v' w' h2 h3 h4; have H9 := Lib.hid (And.intro h2 h3); clear h2 h3 h4)
                    obtain ⟨h2, h3⟩ := H9.out
                    refine ⟨⟨1, cs' ++ [.slice au NI cu], by omega, by go_num, h2, ?_, by have := Hw.out.2.2.1; simp; omega, Hw.out.2.2.2.1.kept h3 (Hw.out.2.2.2.1.ne_type Hw.out.1 (by decide)), Hw.out.2.2.2.2.1.kept h3 (Hw.out.2.2.2.2.1.ne_type Hw.out.1 (by decide)), ?_, by have := h3.size; omega⟩, by simp [intOf]⟩
                    · have h5 := (Hw.out.2.1.kept h3 (fun u xs h => h.ne_type Hw.out.1 (by decide))).app (OwnRows.one (Hw.out.2.2.2.1.kept h3 (Hw.out.2.2.2.1.ne_type Hw.out.1 (by decide))))
                      simpa [Hp.out] using h5
                    · refine Hw.out.2.2.2.2.2.1.grown h3 hDr (fun k hk => ?_)
                      rcases Hw.out.1.blk with e | ⟨g', _, e, hB, _⟩
                      · rw [e] at hk; cases hk
                      · rw [e] at hk; cases hk; exact hB
                · by_cases hN : NO = 0
                  · have hp : part1 O = [] := by rw [part1, if_pos (by rw [HN.out.2]; exact hN)]
                    have Hp := Lib.hid hp
                    clear hp
                    subst hN
                    go_wp2
                    refine ⟨⟨2, cs', by omega, by go_num, Hw.out.1, ?_, by have := Hw.out.2.2.1; omega, Hw.out.2.2.2⟩, by simp [intOf]⟩
                    have := Hw.out.2.1
                    simpa [Hp.out] using this
                  · have hN' : (0 : Int) < (NO : Int) := by omega
                    have hp : part1 O = [O] := by rw [part1, if_neg (by rw [HN.out.2]; exact hN)]
                    have Hp := Lib.hid hp
                    clear hp hN
                    go_wp2_with (at_builtin; refine app1 rfl (.tmp 60) (.tmp 62) 28 23 rfl i29 (.slice none 0 0) 24 Tryz.underlying28 I29.out.1 I29.out.2.1 I29.out.2.2.1 I29.out.2.2.2 rfl (by omega) D (.slice av NO cv) u9 cs' rfl Hw.out.1 rfl rfl hsz hDr ?_; intro v' w' h2 h3 h4; have H9 := Lib.hid (And.intro h2 h3); clear h2 h3 h4)
                    obtain ⟨h2, h3⟩ := H9.out
                    refine ⟨⟨2, cs' ++ [.slice av NO cv], by omega, by go_num, h2, ?_, by have := Hw.out.2.2.1; simp; omega, Hw.out.2.2.2.1.kept h3 (Hw.out.2.2.2.1.ne_type Hw.out.1 (by decide)), Hw.out.2.2.2.2.1.kept h3 (Hw.out.2.2.2.2.1.ne_type Hw.out.1 (by decide)), ?_, by have := h3.size; omega⟩, by simp [intOf]⟩
                    · have h5 := (Hw.out.2.1.kept h3 (fun u xs h => h.ne_type Hw.out.1 (by decide))).app (OwnRows.one (Hw.out.2.2.2.2.1.kept h3 (Hw.out.2.2.2.2.1.ne_type Hw.out.1 (by decide))))
                      simpa [Hp.out] using h5
                    · refine Hw.out.2.2.2.2.2.1.grown h3 hDr (fun k hk => ?_)
                      rcases Hw.out.1.blk with e | ⟨g', _, e, hB, _⟩
                      · rw [e] at hk; cases hk
                      · rw [e] at hk; cases hk; exact hB
                · go_wp2
                  refine ⟨⟨k + 1, cs', by omega, by go_num, Hw.out.1, ?_, Hw.out.2.2.2.2.2.1⟩, by simp [intOf]; omega⟩
                  have := Hw.out.2.1
                  rw [Hsp.out]
                  simpa using this
        · obtain rfl : k = L := by omega
          have hcs := Hv.out.2.1
          rw [List.take_of_length_le (by rw [← HL.out]; omega)] at hcs
          have hlen := splitL_len s l
          rw [← HL.out] at hlen
          obtain ⟨a', c', rfl, hrows⟩ := hcs.rowsB Hv.out.1 (by rw [hcs.1]; unfold maxLen; omega) (fun y hy => by
            obtain ⟨c, hc, h⟩ := splitL_mem s l y hy
            have := H0.out.2 c hc
            unfold maxLen; omega)
          have Hr := Lib.hid hrows
          clear hrows hcs
          go_wp2
          go_ret2
          exact ⟨a', c', rfl, by rw [← HD.out]; exact Hr.out, by rw [← HD.out]; exact Hv.out.2.2.1⟩
  · have hA : splitA n l s = ([], chk n l) := by rw [splitA, if_pos h0]
    rw [hA]
    obtain ⟨E, hE⟩ : ∃ E, chk n l = E := ⟨_, rfl⟩
    rw [hE] at hck h0 ⊢
    have hE1 : (E != 0) = true := by simpa using h0
    have Hck := Lib.hid hck
    have Hbx := Lib.hid hbx
    obtain ⟨L, hL⟩ : ∃ L, L = l.length := ⟨_, rfl⟩
    rw [← hL] at Hck ⊢
    clear hE hA hck ha hb hL hml hbx
    go_enter Tryz.func113, Tryz.ntmps113
    go_wp2_with fail
    rw [← hwb]
    refine Hck.out.mono ?_
    rintro e w1 ⟨rfl, hb1⟩
    have H1 := Lib.hid (Hbx.out.trans (hb1.mono (by omega)))
    clear hb1
    go_wp2
    go_ret2
    exact ⟨none, 0, rfl, RowsB.none, H1.out⟩
theorem split_calls (n : Int) (a b : Option Addr) (c d : Nat) (l : List (List Int)) (s : List Int) (w : World) (ha : Rows w a l) (hb : Ints w b s) :
    Calls Tryz.prog 113 #[.int .i64 n, .slice a l.length c, .slice b s.length d] w fun e w' => ∃ a c, e = .returned (.tuple #[.slice a (splitA n l s).1.length c, .int .i64 (splitA n l s).2]) ∧ Rows w' a (splitA n l s).1 ∧ Below w.heap.size w w' :=
  (split_callsB n a b c d l s w ha hb).mono fun e w' ⟨a, c, h1, h2, h3⟩ => ⟨a, c, h1, h2.1, h3⟩
theorem single_callsB (n : Int) (a : Option Addr) (c : Nat) (l : List (List Int)) (p : Int) (w : World) (ha : Rows w a l) :
    Calls Tryz.prog 101 #[.int .i64 n, .slice a l.length c, .int .i64 p] w fun e w' => ∃ a c, e = .returned (.tuple #[.slice a (splitA n l [p]).1.length c, .int .i64 (splitA n l [p]).2]) ∧ RowsB w.heap.size w' a (splitA n l [p]).1 ∧ Below w.heap.size w w' := by
  have hb : Below w.heap.size w (w.alloc (.cells #[.int .i64 p] 3)) := (Below.refl _ _).alloc (Nat.le_refl _) _
  have hnew := Own.new (w := w) (B := 0) 3 (ints [p]) (Nat.zero_le _) (by unfold maxLen; simp [ints])
  have hs := split_callsB n a (some ⟨w.heap.size, 0, none⟩) c 1 l [p] _ (ha.below hb) (hnew.toInts (by unfold maxLen; simp))
  have Hs := Lib.hid (And.intro hs hb)
  obtain ⟨L, hL⟩ : ∃ L, L = l.length := ⟨_, rfl⟩
  rw [← hL] at Hs ⊢
  obtain ⟨A, hA⟩ : ∃ A, A = splitA n l [p] := ⟨_, rfl⟩
  rw [← hA] at Hs ⊢
  clear ha hb hnew hs hL hA
  go_enter Tryz.func101, Tryz.ntmps101
  go_wp2_with fail
  refine Hs.out.1.mono ?_
  rintro e w2 ⟨a2, c2, rfl, hr2, hb2⟩
  have H2 := Lib.hid (And.intro (hr2.mono Hs.out.2.size) (Hs.out.2.trans (hb2.mono Hs.out.2.size)))
  clear hr2 hb2
  go_wp2
  go_ret2
  first | exact ⟨a2, c2, rfl, H2.out.1, H2.out.2⟩ | exact ⟨a2, ⟨c2, rfl⟩, H2.out.1, H2.out.2⟩
theorem single_calls (n : Int) (a : Option Addr) (c : Nat) (l : List (List Int)) (p : Int) (w : World) (ha : Rows w a l) :
    Calls Tryz.prog 101 #[.int .i64 n, .slice a l.length c, .int .i64 p] w fun e w' => ∃ a c, e = .returned (.tuple #[.slice a (splitA n l [p]).1.length c, .int .i64 (splitA n l [p]).2]) ∧ Rows w' a (splitA n l [p]).1 ∧ Below w.heap.size w w' :=
  (single_callsB n a c l p w ha).mono fun e w' ⟨a, c, h1, h2, h3⟩ => ⟨a, c, h1, h2.1, h3⟩
end Go.Proofs.YtjjjohmppehejaaGreat
