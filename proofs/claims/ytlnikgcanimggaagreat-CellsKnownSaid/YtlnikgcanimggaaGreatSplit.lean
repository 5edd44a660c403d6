/- Split: the library's small functions, and the program's and the reference's Split. -/
import Derived.Test.YtlnikgcanimggaaGreatTarget
import Derived.Test.YtlnikgcanimggaaGreatContains
set_option linter.unusedSimpArgs false
set_option linter.unusedVariables false
namespace Go.Proofs.YtlnikgcanimggaaGreat
open Go.RowKit Plain

/-- Some point of the set is none of the n points. -/
def badPt (n : Int) : List Int → Bool
  | [] => false
  | p :: r => (decide (p < 0) || decide (n ≤ p)) || badPt n r
theorem badPt_false {n : Int} : ∀ {s : List Int}, badPt n s = false → ∀ p ∈ s, 0 ≤ p ∧ p < n
  | [], _, p, hp => by simp at hp
  | q :: r, h, p, hp => by
    rw [badPt, Bool.or_eq_false_iff, Bool.or_eq_false_iff] at h
    rcases List.mem_cons.1 hp with rfl | hp
    · have h1 := of_decide_eq_false h.1.1
      have h2 := of_decide_eq_false h.1.2
      omega
    · exact badPt_false h.2 p hp

theorem split1_calls (p n : Int) (B : Nat) (w : World) (hB : w.cell? ⟨B, 0, none⟩ = some (.int .i64 n)) :
    Calls Tryz.prog 25 #[.int .i64 p, .pointer (some ⟨B, 0, none⟩)] w fun e w' => e = .returned (.bool (decide (p < 0) || decide (n ≤ p))) ∧ w' = w := by
  by_cases h1 : p < 0
  · rw [decide_eq_true h1]
    go_enter Tryz.func25, Tryz.ntmps25
    go_wp2
    go_ret
    exact ⟨rfl, rfl⟩
  · have h1' := decide_eq_false h1
    rw [h1']
    by_cases h2 : n ≤ p
    · rw [decide_eq_true h2]
      go_enter Tryz.func25, Tryz.ntmps25
      go_wp2
      go_ret
      exact ⟨rfl, rfl⟩
    · have h2' := decide_eq_false h2
      rw [h2']
      go_enter Tryz.func25, Tryz.ntmps25
      go_wp2
      go_ret
      exact ⟨rfl, rfl⟩

set_option maxHeartbeats 400000 in
theorem indexI_calls (a : Option Addr) (c : Nat) (s : List Int) (n : Int) (B : Nat) (w : World) (hs : Ints w a s) (hB : w.cell? ⟨B, 0, none⟩ = some (.int .i64 n)) :
    Calls Tryz.prog 48 #[.slice a s.length c, .func (.func 25) #[] #[.pointer (some ⟨B, 0, none⟩)]] w fun e w' => (∃ i : Int, e = .returned (.int .i64 i) ∧ decide (0 ≤ i) = badPt n s) ∧ w' = w := by
  have hA := Lib.hid (And.intro hs hB)
  have hmx := hs.len
  clear hs hB
  obtain ⟨L, hL⟩ : ∃ L, L = s.length := ⟨_, rfl⟩
  rw [← hL] at hmx ⊢
  have HL := Lib.hid hL
  clear hL
  go_enter Tryz.func48, Tryz.ntmps48
  go_wp2
  go_loop [8] (fun i => ∃ k : Nat, k ≤ L ∧ i = .int .i64 k ∧ badPt n s = badPt n (s.drop k)) (fun i => L - (intOf i).toNat)
  case atStart => exact ⟨0, Nat.zero_le _, rfl, rfl⟩
  case round =>
    obtain ⟨k, hk, rfl, he⟩ := hrel
    have He := Lib.hid he
    clear he
    by_cases hlt : k < L
    · have hkm : k < s.length := by rw [← HL.out]; exact hlt
      obtain ⟨g, o, rfl, hg, hc⟩ := hA.out.1.at_ (k := k) hkm
      have hd : s.drop k = (s[k]?.getD 0) :: s.drop (k + 1) := drop_cons hkm
      obtain ⟨r, hr⟩ : ∃ r, s[k]?.getD 0 = r := ⟨_, rfl⟩
      rw [hr] at hc hd
      have hcall := split1_calls r n B w hA.out.2
      have he2 : badPt n s = ((decide (r < 0) || decide (n ≤ r)) || badPt n (s.drop (k + 1))) := by rw [He.out, hd]; rfl
      have H := Lib.hid (And.intro hcall he2)
      clear hd hr hcall he2 hkm
      cases hb : (decide (r < 0) || decide (n ≤ r)) with
      | false =>
        rw [hb] at H
        have Hb := Lib.hid hb
        clear hb
        go_wp2_with (go_at_call 25; refine H.out.1.mono ?_; rintro e w' ⟨rfl, rfl⟩)
        exact ⟨⟨k + 1, by omega, by go_num, by rw [H.out.2]; simp⟩, by simp [intOf]; omega⟩
      | true =>
        rw [hb] at H
        have Hb := Lib.hid hb
        clear hb
        go_wp2_with (go_at_call 25; refine H.out.1.mono ?_; rintro e w' ⟨rfl, rfl⟩)
        go_ret
        exact ⟨⟨(k : Int), rfl, by rw [H.out.2]; simp⟩, rfl⟩
    · go_wp2
      go_ret
      exact ⟨⟨-1, rfl, by rw [He.out, List.drop_eq_nil_of_le (by rw [← HL.out]; omega)]; simp [badPt]⟩, rfl⟩
theorem containsF_calls (a : Option Addr) (c : Nat) (s : List Int) (n : Int) (B : Nat) (w : World) (hs : Ints w a s) (hB : w.cell? ⟨B, 0, none⟩ = some (.int .i64 n)) :
    Calls Tryz.prog 24 #[.slice a s.length c, .func (.func 25) #[] #[.pointer (some ⟨B, 0, none⟩)]] w fun e w' => e = .returned (.bool (badPt n s)) ∧ w' = w := by
  have hc := Lib.hid (indexI_calls a c s n B w hs hB)
  clear hs hB
  obtain ⟨L, hL⟩ : ∃ L, L = s.length := ⟨_, rfl⟩
  rw [← hL] at hc ⊢
  clear hL
  go_enter Tryz.func24, Tryz.ntmps24
  go_wp2_with (go_at_call 48; refine hc.out.mono ?_; rintro e w' ⟨⟨i, rfl, hi⟩, rfl⟩; have Hi := Lib.hid hi; clear hi)
  go_ret
  exact ⟨ret_bool Hi.out, rfl⟩
set_option maxHeartbeats 400000 in
theorem indexE_calls (a : Option Addr) (c : Nat) (s : List Int) (p : Int) (w : World) (hs : Ints w a s) :
    Calls Tryz.prog 49 #[.slice a s.length c, .int .i64 p] w fun e w' => (∃ i : Int, e = .returned (.int .i64 i) ∧ decide (0 ≤ i) = decide (p ∈ s)) ∧ w' = w := by
  have hA := Lib.hid hs
  have hmx := hs.len
  clear hs
  obtain ⟨L, hL⟩ : ∃ L, L = s.length := ⟨_, rfl⟩
  rw [← hL] at hmx ⊢
  have HL := Lib.hid hL
  clear hL
  go_enter Tryz.func49, Tryz.ntmps49
  go_wp2
  go_loop [8] (fun i => ∃ k : Nat, k ≤ L ∧ i = .int .i64 k ∧ (p ∈ s ↔ p ∈ s.drop k)) (fun i => L - (intOf i).toNat)
  case atStart => exact ⟨0, Nat.zero_le _, rfl, Iff.rfl⟩
  case round =>
    obtain ⟨k, hk, rfl, he⟩ := hrel
    have He := Lib.hid he
    clear he
    by_cases hlt : k < L
    · have hkm : k < s.length := by rw [← HL.out]; exact hlt
      obtain ⟨g, o, rfl, hg, hc⟩ := hA.out.at_ (k := k) hkm
      have hd : s.drop k = (s[k]?.getD 0) :: s.drop (k + 1) := drop_cons hkm
      obtain ⟨r, hr⟩ : ∃ r, s[k]?.getD 0 = r := ⟨_, rfl⟩
      rw [hr] at hc hd
      have he2 : p ∈ s ↔ p = r ∨ p ∈ s.drop (k + 1) := by rw [He.out, hd, List.mem_cons]
      have H := Lib.hid he2
      clear hd hr he2 hkm
      by_cases hb : p = r
      · subst hb
        go_wp2
        go_ret
        refine ⟨⟨(k : Int), rfl, ?_⟩, rfl⟩
        exact ⟨fun _ => H.out.2 (.inl (by first | rfl | trivial)), fun _ => by omega⟩
      · have hb' : (p == r) = false := by simpa using hb
        have H2 := Lib.hid (H.out.trans (or_iff_right hb))
        go_wp2
        exact ⟨⟨k + 1, by omega, by go_num, H2.out⟩, by simp [intOf]; omega⟩
    · go_wp2
      go_ret
      refine ⟨⟨-1, rfl, ?_⟩, rfl⟩
      refine ⟨fun h => (by omega), fun h => ?_⟩
      have := He.out.1 h
      rw [List.drop_eq_nil_of_le (by rw [← HL.out]; omega)] at this
      simp at this
theorem containsE_calls (a : Option Addr) (c : Nat) (s : List Int) (p : Int) (w : World) (hs : Ints w a s) :
    Calls Tryz.prog 26 #[.slice a s.length c, .int .i64 p] w fun e w' => e = .returned (.bool (decide (p ∈ s))) ∧ w' = w := by
  have hc := Lib.hid (indexE_calls a c s p w hs)
  clear hs
  obtain ⟨L, hL⟩ : ∃ L, L = s.length := ⟨_, rfl⟩
  rw [← hL] at hc ⊢
  clear hL
  go_enter Tryz.func26, Tryz.ntmps26
  go_wp2_with (go_at_call 49; refine hc.out.mono ?_; rintro e w' ⟨⟨i, rfl, hi⟩, rfl⟩; have Hi := Lib.hid hi; clear hi)
  go_ret
  exact ⟨ret_bool Hi.out, rfl⟩

def inS (s c : List Int) : List Int := c.filter fun p => decide (p ∈ s)
def outS (s c : List Int) : List Int := c.filter fun p => !decide (p ∈ s)
def part1 (c : List Int) : List (List Int) := if c.length = 0 then [] else [c]
def splitL (s : List Int) (l : List (List Int)) : List (List Int) := l.flatMap fun c => part1 (inS s c) ++ part1 (outS s c)
def splitA (n : Int) (l : List (List Int)) (s : List Int) : List (List Int) × Int :=
  if chk n l ≠ 0 then ([], chk n l) else if badPt n s = true then ([], 2) else (splitL s l, 0)
theorem inS_yes {s c : List Int} {j : Nat} (h : j < c.length) (hm : c[j]?.getD 0 ∈ s) : inS s (c.take (j + 1)) = inS s (c.take j) ++ [c[j]?.getD 0] := by
  rw [List.getElem?_eq_getElem h, Option.getD_some] at hm ⊢
  have e : c.take (j + 1) = c.take j ++ [c[j]] := by rw [List.take_add_one, List.getElem?_eq_getElem h]; rfl
  rw [inS, e, List.filter_append, List.filter_cons, List.filter_nil, decide_eq_true hm]
  rfl
theorem inS_no {s c : List Int} {j : Nat} (h : j < c.length) (hm : c[j]?.getD 0 ∉ s) : inS s (c.take (j + 1)) = inS s (c.take j) := by
  rw [List.getElem?_eq_getElem h, Option.getD_some] at hm
  have e : c.take (j + 1) = c.take j ++ [c[j]] := by rw [List.take_add_one, List.getElem?_eq_getElem h]; rfl
  rw [inS, e, List.filter_append, List.filter_cons, List.filter_nil, decide_eq_false hm]
  exact List.append_nil _
theorem outS_no {s c : List Int} {j : Nat} (h : j < c.length) (hm : c[j]?.getD 0 ∉ s) : outS s (c.take (j + 1)) = outS s (c.take j) ++ [c[j]?.getD 0] := by
  rw [List.getElem?_eq_getElem h, Option.getD_some] at hm ⊢
  have e : c.take (j + 1) = c.take j ++ [c[j]] := by rw [List.take_add_one, List.getElem?_eq_getElem h]; rfl
  rw [outS, e, List.filter_append, List.filter_cons, List.filter_nil, decide_eq_false hm]
  rfl
theorem outS_yes {s c : List Int} {j : Nat} (h : j < c.length) (hm : c[j]?.getD 0 ∈ s) : outS s (c.take (j + 1)) = outS s (c.take j) := by
  rw [List.getElem?_eq_getElem h, Option.getD_some] at hm
  have e : c.take (j + 1) = c.take j ++ [c[j]] := by rw [List.take_add_one, List.getElem?_eq_getElem h]; rfl
  rw [outS, e, List.filter_append, List.filter_cons, List.filter_nil, decide_eq_true hm]
  exact List.append_nil _
theorem inS_len (s c : List Int) : (inS s c).length ≤ c.length := List.length_filter_le _ _
theorem outS_len (s c : List Int) : (outS s c).length ≤ c.length := List.length_filter_le _ _
theorem part1_len (c : List Int) : (part1 c).length ≤ 1 := by rw [part1]; split <;> simp
theorem splitL_take {s : List Int} {l : List (List Int)} {k : Nat} (h : k < l.length) : splitL s (l.take (k + 1)) = splitL s (l.take k) ++ (part1 (inS s (l[k]?.getD [])) ++ part1 (outS s (l[k]?.getD []))) := by
  rw [splitL, List.take_add_one, List.flatMap_append, List.getElem?_eq_getElem h]
  simp [splitL]
theorem splitL_len (s : List Int) : ∀ l : List (List Int), (splitL s l).length ≤ 2 * l.length
  | [] => by simp [splitL]
  | c :: l => by
    have := splitL_len s l
    have h1 := part1_len (inS s c)
    have h2 := part1_len (outS s c)
    simp only [splitL, List.flatMap_cons, List.length_append, List.length_cons] at this ⊢
    omega
theorem splitL_mem (s : List Int) (l : List (List Int)) : ∀ x ∈ splitL s l, ∃ c ∈ l, x.length ≤ c.length := by
  intro x hx
  obtain ⟨c, hc, hx⟩ := List.mem_flatMap.1 hx
  refine ⟨c, hc, ?_⟩
  rcases List.mem_append.1 hx with h | h
  · rw [part1] at h; split at h
    · simp at h
    · rw [List.mem_singleton.1 h]; exact inS_len _ _
  · rw [part1] at h; split at h
    · simp at h
    · rw [List.mem_singleton.1 h]; exact outS_len _ _
/-- Two slices lie apart. -/
def Apart2 (u v : Value) : Prop := u.ownBlock = none ∨ u.ownBlock ≠ v.ownBlock
theorem Apart2.symm {u v : Value} (h : Apart2 u v) : Apart2 v u := by
  rcases h with h | h
  · by_cases h2 : v.ownBlock = none
    · exact .inl h2
    · right; rw [h]; exact h2
  · exact .inr (Ne.symm h)
theorem Apart2.app {w : World} {B : Nat} {u v u' : Value} {e : TypeId} {xs : List Value} (h : Apart2 u v) (hv : Own w B v e xs) (hu : u'.ownBlock = u.ownBlock ∨ ∃ g, u'.ownBlock = some g ∧ w.heap.size ≤ g) : Apart2 u' v := by
  rcases hu with hu | ⟨g, hu, hg⟩
  · rw [Apart2, hu]; exact h
  · right
    rw [hu]
    rcases hv.blk with e | ⟨q, _, e, _, hq, _⟩
    · rw [e]; simp
    · rw [e]; intro h; cases h; omega
end Go.Proofs.YtlnikgcanimggaaGreat
