/- The checks of a graph: vertices, edges, colours. · The check of a graph, both programs. · Worlds that differ in few blocks; rows of pairs of the call's own. · The reader of a graph's text: fail, sign, next, number. · The reader's number. -/
import Derived.Test.YtjjjohmppehejaaGreatRefA
import Derived.Test.YtjjjohmppehejaaGreatPlainG
set_option linter.unusedSimpArgs false
set_option linter.unusedVariables false
namespace Go.Proofs.YtjjjohmppehejaaGreat
open Go.RowKit Plain PlainG
/-- A slice of edges. -/
structure Edg (w : World) (a : Option Addr) (es : List (Int × Int)) : Prop where
  len : es.length ≤ 9223372036854775807
  at_ : ∀ i e, es[i]? = some e → ∃ b o, a = some ⟨b, o, none⟩ ∧ b < w.heap.size ∧ w.cell? ⟨b, o + i * 2, none⟩ = some (.int .i64 e.1) ∧ w.cell? ⟨b, o + i * 2 + 1, none⟩ = some (.int .i64 e.2)
theorem Edg.below {w w' : World} {a : Option Addr} {es : List (Int × Int)} (h : Edg w a es) (hb : Below w.heap.size w w') : Edg w' a es :=
  ⟨h.len, fun i e he => by
    obtain ⟨b, o, ha, hl, h1, h2⟩ := h.at_ i e he
    exact ⟨b, o, ha, Nat.lt_of_lt_of_le hl hb.size, (hb.cell (p := ⟨b, o + i * 2, none⟩) hl).trans h1, (hb.cell (p := ⟨b, o + i * 2 + 1, none⟩) hl).trans h2⟩⟩
/-- A graph's value. -/
def IsGr (w : World) (v : Value) (g : Gr) : Prop := ∃ a c b d, v = .agg #[.int .i64 g.n, .slice a g.es.length c, .slice b g.cs.length d] ∧ Edg w a g.es ∧ Ints w b g.cs
theorem IsGr.below {w w' : World} {v : Value} {g : Gr} (h : IsGr w v g) (hb : Below w.heap.size w w') : IsGr w' v g := by
  obtain ⟨a, c, b, d, rfl, h1, h2⟩ := h
  exact ⟨a, c, b, d, rfl, h1.below hb, h2.below hb⟩
theorem vertex_calls (n v : Int) (w : World) : Calls Tryz.prog 67 #[.int .i64 n, .int .i64 v] w fun e w' => e = .returned (.bool (vert n v)) ∧ w' = w := by
  obtain ⟨r, hr⟩ : ∃ r, vert n v = r := ⟨_, rfl⟩
  have hv := hr
  unfold vert at hv
  rw [hr]
  clear hr
  cases h1 : decide (0 ≤ v) <;> cases h2 : decide (v < n) <;> rw [h1, h2] at hv <;> cases hv <;> (
    go_enter Tryz.func67, Tryz.ntmps67
    go_wp2
    go_ret
    exact ⟨rfl, rfl⟩)
theorem vertexR_calls (n v : Int) (w : World) : Calls Tryz.prog 57 #[.int .i64 n, .int .i64 v] w fun e w' => e = .returned (.bool (vert n v)) ∧ w' = w := by
  obtain ⟨r, hr⟩ : ∃ r, vert n v = r := ⟨_, rfl⟩
  have hv := hr
  unfold vert at hv
  rw [hr]
  clear hr
  cases h1 : decide (0 ≤ v) <;> cases h2 : decide (v < n) <;> rw [h1, h2] at hv <;> cases hv <;> (
    go_enter Tryz.func57, Tryz.ntmps57
    go_wp2
    go_ret
    exact ⟨rfl, rfl⟩)
theorem colours1_calls (c : Int) (w : World) : Calls Tryz.prog 82 #[.int .i64 c] w fun e w' => e = .returned (.bool (!okC c)) ∧ w' = w := by
  obtain ⟨r, hr⟩ : ∃ r, (!okC c) = r := ⟨_, rfl⟩
  rw [hr]
  by_cases h1 : c < 0
  · have : r = true := by rw [← hr]; unfold okC; simp; omega
    subst this
    clear hr
    have h1 : decide (c < 0) = true := by simp [h1]
    go_enter Tryz.func82, Tryz.ntmps82
    go_wp2
    go_ret
    exact ⟨rfl, rfl⟩
  · have e : r = decide (99 < c) := by rw [← hr]; unfold okC; rw [show decide (0 ≤ c) = true by simp; omega, Bool.true_and, ← decide_not]; congr 1; simp
    cases h2 : decide (99 < c) <;> rw [h2] at e <;> subst e <;> clear hr <;> (
      have h1 : decide (c < 0) = false := by simpa using h1
      go_enter Tryz.func82, Tryz.ntmps82
      go_wp2
      go_ret
      exact ⟨rfl, rfl⟩)
def badC (cs : List Int) : Bool := cs.any fun c => !okC c
theorem badC_ok (cs : List Int) : badC cs = !cs.all okC := by unfold badC; rw [List.any_eq_not_all_not]; simp
set_option maxHeartbeats 400000 in
theorem indexC_calls (a : Option Addr) (c : Nat) (m : List Int) (w : World) (hm : Ints w a m) :
    Calls Tryz.prog 102 #[.slice a m.length c, .func (.func 82) #[] #[]] w fun e w' => (∃ i : Int, e = .returned (.int .i64 i) ∧ decide (0 ≤ i) = badC m) ∧ w' = w := by
  have hA := Lib.hid hm
  have hmx := hm.len
  clear hm
  obtain ⟨L, hL⟩ : ∃ L, L = m.length := ⟨_, rfl⟩
  rw [← hL] at hmx ⊢
  have HL := Lib.hid hL
  clear hL
  go_enter Tryz.func102, Tryz.ntmps102
  go_wp2
  go_loop [8] (fun i => ∃ k : Nat, k ≤ L ∧ i = .int .i64 k ∧ badC m = badC (m.drop k)) (fun i => L - (intOf i).toNat)
  case atStart => exact ⟨0, Nat.zero_le _, rfl, rfl⟩
  case round =>
    obtain ⟨k, hk, rfl, he⟩ := hrel
    have He := Lib.hid he
    clear he
    by_cases hlt : k < L
    · have hkm : k < m.length := by rw [← HL.out]; exact hlt
      obtain ⟨g, o, rfl, hg, hc⟩ := hA.out.at_ (k := k) hkm
      have hd : m.drop k = (m[k]?.getD 0) :: m.drop (k + 1) := by
        rw [List.getElem?_eq_getElem hkm]; exact (List.getElem_cons_drop hkm).symm
      obtain ⟨r, hr⟩ : ∃ r, m[k]?.getD 0 = r := ⟨_, rfl⟩
      rw [hr] at hc hd
      have hcall := colours1_calls r w
      have he2 : badC m = ((!okC r) || badC (m.drop (k + 1))) := by rw [He.out, hd]; rfl
      have H := Lib.hid (And.intro hcall he2)
      clear hd hr hcall he2 hkm
      cases hb : (!okC r) with
      | false =>
        rw [hb] at H
        have Hb := Lib.hid hb
        clear hb
        go_wp2_with (go_at_call 82; refine H.out.1.mono ?_; rintro e w' ⟨rfl, rfl⟩)
        exact ⟨⟨k + 1, by omega, by go_num, by rw [H.out.2]; simp⟩, by simp [intOf]; omega⟩
      | true =>
        rw [hb] at H
        have Hb := Lib.hid hb
        clear hb
        go_wp2_with (go_at_call 82; refine H.out.1.mono ?_; rintro e w' ⟨rfl, rfl⟩)
        go_ret
        exact ⟨⟨(k : Int), rfl, by rw [H.out.2]; simp⟩, rfl⟩
    · go_wp2
      go_ret
      exact ⟨⟨-1, rfl, by rw [He.out, List.drop_eq_nil_of_le (by rw [← HL.out]; omega)]; simp [badC]⟩, rfl⟩
theorem containsC_calls (a : Option Addr) (c : Nat) (m : List Int) (w : World) (hm : Ints w a m) :
    Calls Tryz.prog 81 #[.slice a m.length c, .func (.func 82) #[] #[]] w fun e w' => e = .returned (.bool (badC m)) ∧ w' = w := by
  have hc := Lib.hid (indexC_calls a c m w hm)
  clear hm
  obtain ⟨L, hL⟩ : ∃ L, L = m.length := ⟨_, rfl⟩
  rw [← hL] at hc ⊢
  clear hL
  go_enter Tryz.func81, Tryz.ntmps81
  go_wp2_with (go_at_call 102; refine hc.out.mono ?_; rintro e w' ⟨⟨i, rfl, hi⟩, rfl⟩; have Hi := Lib.hid hi; clear hi)
  go_ret
  exact ⟨ret_bool Hi.out, rfl⟩
theorem colours_calls (n : Int) (a : Option Addr) (c : Nat) (m : List Int) (w : World) (hm : Ints w a m) :
    Calls Tryz.prog 69 #[.int .i64 n, .slice a m.length c] w fun e w' => e = .returned (.int .i64 (chkC n m)) ∧ w' = w := by
  have hc := Lib.hid (containsC_calls a c m w hm)
  clear hm
  have hcp : chkC n m = if (m.length : Int) ≠ n then 3 else if badC m = true then 2 else 0 := by
    unfold chkC; rw [badC_ok]; cases m.all okC <;> simp
  rw [hcp]
  clear hcp
  obtain ⟨L, hL⟩ : ∃ L, L = m.length := ⟨_, rfl⟩
  rw [← hL] at hc ⊢
  clear hL
  by_cases h1 : (L : Int) = n
  · rw [if_neg (by simpa using h1)]
    have h1 : ((L : Int) != n) = false := by simpa using h1
    cases hb : badC m
    · rw [hb] at hc
      rw [if_neg (by simp)]
      have Hb := Lib.hid hb
      clear hb
      go_enter Tryz.func69, Tryz.ntmps69
      go_wp2_with (go_at_call 81; refine hc.out.mono ?_; rintro e w' ⟨rfl, rfl⟩)
      go_ret
      exact ⟨rfl, rfl⟩
    · rw [hb] at hc
      rw [if_pos rfl]
      have Hb := Lib.hid hb
      clear hb
      go_enter Tryz.func69, Tryz.ntmps69
      go_wp2_with (go_at_call 81; refine hc.out.mono ?_; rintro e w' ⟨rfl, rfl⟩)
      go_ret
      exact ⟨rfl, rfl⟩
  · rw [if_pos h1]
    have h1 : ((L : Int) != n) = true := by simpa using h1
    go_enter Tryz.func69, Tryz.ntmps69
    go_wp2
    go_ret
    exact ⟨rfl, rfl⟩
end Go.Proofs.YtjjjohmppehejaaGreat

namespace Go.Proofs.YtjjjohmppehejaaGreat
open Go.RowKit Plain PlainG
theorem coloursR_calls (n : Int) (a : Option Addr) (c : Nat) (m : List Int) (w : World) (hm : Ints w a m) :
    Calls Tryz.prog 59 #[.int .i64 n, .slice a m.length c] w fun e w' => e = .returned (.int .i64 (chkC n m)) ∧ w' = w := by
  have hA := Lib.hid hm
  have hmx := hm.len
  clear hm
  have hcp : chkC n m = if (m.length : Int) ≠ n then 3 else if badC m = true then 2 else 0 := by
    unfold chkC; rw [badC_ok]; cases m.all okC <;> simp
  rw [hcp]
  clear hcp
  obtain ⟨L, hL⟩ : ∃ L, L = m.length := ⟨_, rfl⟩
  rw [← hL] at hmx ⊢
  have HL := Lib.hid hL
  clear hL
  by_cases h1 : (L : Int) = n
  · rw [if_neg (by simpa using h1)]
    subst h1
    obtain ⟨z, hz⟩ : ∃ z : Int, (if badC m = true then 2 else 0) = z := ⟨_, rfl⟩
    rw [hz]
    have HZ := Lib.hid hz
    clear hz
    go_enter Tryz.func59, Tryz.ntmps59
    go_wp2
    go_loop [5] (fun i => ∃ k : Nat, k ≤ L ∧ i = .int .i64 k ∧ badC m = badC (m.drop k)) (fun i => L - (intOf i).toNat)
    case atStart => exact ⟨0, Nat.zero_le _, rfl, rfl⟩
    case round =>
      obtain ⟨k, hk, rfl, he⟩ := hrel
      have He := Lib.hid he
      clear he
      by_cases hlt : k < L
      · have hkm : k < m.length := by rw [← HL.out]; exact hlt
        obtain ⟨g, o, rfl, hg, hc⟩ := hA.out.at_ (k := k) hkm
        have hd : m.drop k = (m[k]?.getD 0) :: m.drop (k + 1) := by
          rw [List.getElem?_eq_getElem hkm]; exact (List.getElem_cons_drop hkm).symm
        obtain ⟨r, hr⟩ : ∃ r, m[k]?.getD 0 = r := ⟨_, rfl⟩
        rw [hr] at hc hd
        have he2 : badC m = ((!okC r) || badC (m.drop (k + 1))) := by rw [He.out, hd]; rfl
        have hok : okC r = (!decide (r < 0) && !decide (99 < r)) := by unfold okC; rw [← decide_not, ← decide_not]; congr 1 <;> (congr 1; simp)
        rw [hok] at he2
        have H := Lib.hid he2
        clear hd hr he2 hkm hok
        cases h1 : decide (r < 0)
        · cases h2 : decide (99 < r)
          · rw [h1, h2] at H
            go_wp2
            exact ⟨⟨k + 1, by omega, by go_num, by rw [H.out]; simp⟩, by simp [intOf]; omega⟩
          · rw [h1, h2] at H
            go_wp2
            go_ret
            exact ⟨ret_int (by rw [← HZ.out, if_pos (by rw [H.out]; rfl)]), rfl⟩
        · rw [h1] at H
          go_wp2
          go_ret
          exact ⟨ret_int (by rw [← HZ.out, if_pos (by rw [H.out]; rfl)]), rfl⟩
      · go_wp2
        go_ret
        exact ⟨ret_int (by rw [← HZ.out, if_neg (by rw [He.out, List.drop_eq_nil_of_le (by rw [← HL.out]; omega)]; simp [badC])]), rfl⟩
  · rw [if_pos h1]
    have h1 : ((L : Int) != n) = true := by simpa using h1
    go_enter Tryz.func59, Tryz.ntmps59
    go_wp2
    go_ret
    exact ⟨rfl, rfl⟩
theorem cmp_bef (x y : Int × Int) : decide (0 ≤ cmpL [x.1, x.2] [y.1, y.2]) = !bef x y := by
  obtain ⟨a, b⟩ := x
  obtain ⟨c, d⟩ := y
  simp only [cmpL, bef]
  repeat' split
  all_goals simp
  all_goals omega
set_option maxHeartbeats 400000 in
theorem edgeCmp_calls (x y : Int × Int) (w : World) : Calls Tryz.prog 68 #[.agg #[.int .i64 x.1, .int .i64 x.2], .agg #[.int .i64 y.1, .int .i64 y.2]] w fun e w' => e = .returned (.int .i64 (cmpL [x.1, x.2] [y.1, y.2])) ∧ Below w.heap.size w w' := by
  obtain ⟨a, b⟩ := x
  obtain ⟨d, e⟩ := y
  have h1 : Own (w.alloc (.cells #[.int .i64 a, .int .i64 b] 95)) 0 (.slice (some ⟨w.heap.size, 0, none⟩) 2 2) 95 (ints [a, b]) := Own.new 95 (ints [a, b]) (Nat.zero_le _) (by unfold maxLen; simp [ints])
  have h2 : Own ((w.alloc (.cells #[.int .i64 a, .int .i64 b] 95)).alloc (.cells #[.int .i64 d, .int .i64 e] 95)) 0 (.slice (some ⟨(w.alloc (.cells #[.int .i64 a, .int .i64 b] 95)).heap.size, 0, none⟩) 2 2) 95 (ints [d, e]) := Own.new 95 (ints [d, e]) (Nat.zero_le _) (by unfold maxLen; simp [ints])
  have h3 := fun m : Nat => compareS_calls _ _ 2 2 [a, b] [d, e] (World.drewN _ m) (((h1.alloc (.cells #[.int .i64 d, .int .i64 e] 95)).drewN m).toInts (by unfold maxLen; simp)) ((h2.drewN m).toInts (by unfold maxLen; simp)) rfl
  have hs : (w.alloc (.cells #[.int .i64 a, .int .i64 b] 95)).heap.size = w.heap.size + 1 := by simp
  simp only [hs] at h3
  have Hs := Lib.hid hs
  clear hs
  have Hc := Lib.hid h3
  clear h1 h2 h3
  go_enter Tryz.func68, Tryz.ntmps68
  go_wp2
  go_quiet ((go_at_call 44; exact Calls.quiet_of_same (Hc.out _)))
  go_wp2
  go_ret
  exact ⟨rfl, below_drewN (((Below.refl _ w).alloc (Nat.le_refl _) _).alloc (by simp) _) _⟩
set_option maxHeartbeats 400000 in
theorem before_calls (x y : Int × Int) (w : World) : Calls Tryz.prog 58 #[.agg #[.int .i64 x.1, .int .i64 x.2], .agg #[.int .i64 y.1, .int .i64 y.2]] w fun e w' => e = .returned (.bool (bef x y)) ∧ Below w.heap.size w w' := by
  obtain ⟨a, b⟩ := x
  obtain ⟨d, e⟩ := y
  obtain ⟨r, hr⟩ : ∃ r, bef (a, b) (d, e) = r := ⟨_, rfl⟩
  have hv := hr
  unfold bef at hv
  rw [hr]
  clear hr
  simp only at hv
  cases h1 : decide (a < d)
  · cases h2 : (a == d)
    · rw [h1, h2] at hv; cases hv
      go_enter Tryz.func58, Tryz.ntmps58
      go_wp2
      go_ret
      exact ⟨rfl, ((Below.refl _ w).alloc (Nat.le_refl _) _).alloc (by simp) _⟩
    · cases h3 : decide (b < e) <;> rw [h1, h2, h3] at hv <;> cases hv <;> (
        go_enter Tryz.func58, Tryz.ntmps58
        go_wp2
        go_ret
        exact ⟨rfl, ((Below.refl _ w).alloc (Nat.le_refl _) _).alloc (by simp) _⟩)
  · rw [h1] at hv; cases hv
    go_enter Tryz.func58, Tryz.ntmps58
    go_wp2
    go_ret
    exact ⟨rfl, ((Below.refl _ w).alloc (Nat.le_refl _) _).alloc (by simp) _⟩
def eAt (n : Int) (l : List (Int × Int)) (k : Nat) : Int := chkE n (match k with | 0 => none | j + 1 => l[j]?) (l.drop k)
theorem eAt_end {n : Int} {l : List (Int × Int)} {k : Nat} (hk : l.length ≤ k) : eAt n l k = 0 := by
  unfold eAt
  rw [List.drop_of_length_le hk]; rfl
theorem eAt_vert {n : Int} {l : List (Int × Int)} {k : Nat} {x : Int × Int} (hx : l[k]? = some x) (h : (vert n x.1 && vert n x.2) = false) : eAt n l k = 2 := by
  obtain ⟨hk, rfl⟩ := List.getElem?_eq_some_iff.1 hx
  unfold eAt
  rw [List.drop_eq_getElem_cons hk, chkE, if_pos h]
theorem eAt_form {n : Int} {l : List (Int × Int)} {k : Nat} {x : Int × Int} (hx : l[k]? = some x) (h : (vert n x.1 && vert n x.2) = true) (h2 : x.2 ≤ x.1) : eAt n l k = 3 := by
  obtain ⟨hk, rfl⟩ := List.getElem?_eq_some_iff.1 hx
  unfold eAt
  rw [List.drop_eq_getElem_cons hk, chkE, if_neg (by simp [h]), if_pos h2]
theorem eAt_order {n : Int} {l : List (Int × Int)} {k : Nat} {x y : Int × Int} (hx : l[k + 1]? = some x) (hy : l[k]? = some y) (h : (vert n x.1 && vert n x.2) = true) (h2 : ¬ x.2 ≤ x.1) (h3 : bef y x = false) : eAt n l (k + 1) = 9 := by
  obtain ⟨hk, rfl⟩ := List.getElem?_eq_some_iff.1 hx
  unfold eAt
  rw [List.drop_eq_getElem_cons hk, chkE, if_neg (by simp [h]), if_neg h2]
  simp only [hy, Option.any_some]
  rw [if_pos (by simp [h3])]
def lastOk (l : List (Int × Int)) (k : Nat) (x : Int × Int) : Prop := match k with | 0 => True | j + 1 => ∃ y, l[j]? = some y ∧ bef y x = true
theorem eAt_next {n : Int} {l : List (Int × Int)} {k : Nat} {x : Int × Int} (hx : l[k]? = some x) (h : (vert n x.1 && vert n x.2) = true) (h2 : ¬ x.2 ≤ x.1) (h3 : lastOk l k x) : eAt n l k = eAt n l (k + 1) := by
  obtain ⟨hk, rfl⟩ := List.getElem?_eq_some_iff.1 hx
  unfold eAt
  rw [List.drop_eq_getElem_cons hk, chkE, if_neg (by simp [h]), if_neg h2]
  cases k with
  | zero => simp only [Option.any_none]; rw [if_neg (by simp)]; simp [List.getElem?_eq_getElem hk]
  | succ j =>
    obtain ⟨y, hy, h3⟩ := h3
    simp only [hy, Option.any_some]
    rw [if_neg (by simp [h3])]; simp [List.getElem?_eq_getElem hk]
theorem chkGr_big {g : Gr} (h : g.n < 0 ∨ 24 < g.n) : chkGr g = 2 := by unfold chkGr; rw [if_pos h]
theorem chkGr_edge {g : Gr} (h1 : ¬ g.n < 0) (h2 : ¬ 24 < g.n) (h : eAt g.n g.es 0 ≠ 0) : chkGr g = eAt g.n g.es 0 := by
  unfold chkGr; rw [if_neg (by omega)]; unfold eAt at h; rw [List.drop_zero] at h; rw [if_pos h]; rfl
theorem chkGr_cols {g : Gr} (h1 : ¬ g.n < 0) (h2 : ¬ 24 < g.n) (h : eAt g.n g.es 0 = 0) : chkGr g = chkC g.n g.cs := by
  unfold chkGr; rw [if_neg (by omega)]; unfold eAt at h; rw [List.drop_zero] at h; rw [if_neg (by simpa using h)]
end Go.Proofs.YtjjjohmppehejaaGreat

namespace Go.Proofs.YtjjjohmppehejaaGreat
open Go.RowKit Plain PlainG
/-- Only the blocks of S may have changed. -/
structure Kept (w w' : World) (S : List Nat) : Prop where
  os : w'.os = w.os
  tape : w'.tape = w.tape
  output : w'.output = w.output
  size : w.heap.size ≤ w'.heap.size
  block : ∀ k, k < w.heap.size → k ∉ S → w'.heap[k]? = w.heap[k]?
theorem Kept.refl (w : World) (S : List Nat) : Kept w w S := ⟨rfl, rfl, rfl, Nat.le_refl _, fun _ _ _ => rfl⟩
theorem Kept.trans {a b c : World} {S : List Nat} (h : Kept a b S) (k : Kept b c S) : Kept a c S :=
  ⟨k.os.trans h.os, k.tape.trans h.tape, k.output.trans h.output, Nat.le_trans h.size k.size, fun i hi hs => (k.block i (Nat.lt_of_lt_of_le hi h.size) hs).trans (h.block i hi hs)⟩
theorem Kept.ofGrown {w w' : World} {r : Option Nat} {S : List Nat} (h : w.grownBy w' r) (hr : ∀ k, r = some k → k ∈ S) : Kept w w' S :=
  ⟨h.os, h.tape, h.output, h.size, fun k hk hs => h.block k hk (fun e => hs (hr k e.symm))⟩
theorem Kept.ofBelow {w w' : World} {S : List Nat} (h : Below w.heap.size w w') : Kept w w' S := ⟨h.os, h.tape, h.output, h.size, fun k hk _ => h.block k hk⟩
theorem Kept.below {w w' : World} {S : List Nat} {D : Nat} (h : Kept w w' S) (hd : D ≤ w.heap.size) (hs : ∀ k ∈ S, D ≤ k) : Below D w w' :=
  ⟨h.os, h.tape, h.output, h.size, fun k hk => h.block k (Nat.lt_of_lt_of_le hk hd) (fun hm => by have := hs k hm; omega)⟩
theorem Kept.cell {w w' : World} {S : List Nat} (h : Kept w w' S) {p : Addr} (hp : p.block < w.heap.size) (hs : p.block ∉ S) : w'.cell? p = w.cell? p := World.cell?_of_block (w := w) (h.block p.block hp hs)
theorem Kept.frozen {w w' : World} {S : List Nat} (h : Kept w w' S) {p : Addr} (hp : p.block < w.heap.size) (hs : p.block ∉ S) : w'.frozen? p = w.frozen? p := World.frozen?_of_block (w := w) (h.block p.block hp hs)
theorem Kept.drewN {w w' : World} {S : List Nat} (h : Kept w w' S) (n : Nat) : Kept w (w'.drewN n) S := ⟨h.os, h.tape, h.output, h.size, h.block⟩
theorem Kept.mono {w w' : World} {S S' : List Nat} (h : Kept w w' S) (hs : ∀ k ∈ S, k ∈ S') : Kept w w' S' := ⟨h.os, h.tape, h.output, h.size, fun k hk hn => h.block k hk (fun hm => hn (hs k hm))⟩
theorem ownsRow_block {w w' : World} {B : Nat} {v : Value} {e : TypeId} {s n : Nat} {xs : List Value} (h : w.ownsRow B e s v n xs) (hb : ∀ g, v.ownBlock = some g → w'.heap[g]? = w.heap[g]?) : w'.ownsRow B e s v n xs := by
  refine ⟨h.1, ?_⟩
  rcases h.2 with h2 | ⟨g, cap, cur, rfl, hB, hh, r⟩
  · exact .inl h2
  · exact .inr ⟨g, cap, cur, rfl, hB, (hb g rfl).trans hh, r⟩
theorem Own.block_lt {w : World} {B : Nat} {v : Value} {e : TypeId} {xs : List Value} {g : Nat} (h : Own w B v e xs) (hg : v.ownBlock = some g) : g < w.heap.size ∧ B ≤ g := by
  rcases h.2 with ⟨rfl, _⟩ | ⟨g', cap, cur, rfl, hB, hh, _⟩
  · cases hg
  · cases hg
    refine ⟨?_, hB⟩
    rcases Nat.lt_or_ge g' w.heap.size with hl | hl
    · exact hl
    · rw [Array.getElem?_eq_none hl] at hh; cases hh
theorem Own.keptL {w w' : World} {B : Nat} {v : Value} {e : TypeId} {xs : List Value} {S : List Nat} (h : Own w B v e xs) (k : Kept w w' S) (hs : ∀ g, v.ownBlock = some g → g ∉ S) : Own w' B v e xs :=
  ownsRow_block h fun g hg => k.block g (h.block_lt hg).1 (hs g hg)
def tl2 (x : Int × Int) : List Int := [x.1, x.2]
def tv2 (x : Int × Int) : List Value := ints (tl2 x)
def flat2 (xs : List (Int × Int)) : List Int := xs.flatMap tl2
theorem flat2_len : ∀ xs, (flat2 xs).length = xs.length * 2
  | [] => rfl
  | x :: r => by
    have : flat2 (x :: r) = tl2 x ++ flat2 r := by simp [flat2]
    rw [this, List.length_append, flat2_len r]; simp [tl2]; omega
theorem flat2_get : ∀ (xs : List (Int × Int)) (i j : Nat), j < 2 → (flat2 xs)[i * 2 + j]? = (xs[i]?).bind fun x => (tl2 x)[j]?
  | [], i, j, _ => by simp [flat2]
  | x :: r, 0, j, h => by
    have : flat2 (x :: r) = tl2 x ++ flat2 r := by simp [flat2]
    rw [this, List.getElem?_append_left (by simp [tl2]; omega)]
    simp
  | x :: r, i + 1, j, h => by
    have : flat2 (x :: r) = tl2 x ++ flat2 r := by simp [flat2]
    rw [this, List.getElem?_append_right (by simp [tl2]; omega)]
    have e : (i + 1) * 2 + j - (tl2 x).length = i * 2 + j := by simp [tl2]; omega
    rw [e, flat2_get r i j h]
    simp
/-- A row of pairs of the call's own; T: the pair's type. -/
def OwnE (w : World) (B : Nat) (T : TypeId) (v : Value) (ts : List (Int × Int)) : Prop := w.ownsRow B T 2 v ts.length (ints (flat2 ts))
section
variable {w w' : World} {B : Nat} {T : TypeId} {v : Value} {ts : List (Int × Int)}
theorem OwnE.nil (w : World) (B : Nat) (T : TypeId) : OwnE w B T (.slice none 0 0) [] := World.ownsRow_nil w B T 2
theorem OwnE.kept (h : OwnE w B T v ts) {row : Option Nat} (hg : w.grownBy w' row) (hne : v.ownBlock = none ∨ v.ownBlock ≠ row) : OwnE w' B T v ts := World.ownsRow.kept h hg hne
theorem OwnE.alloc (h : OwnE w B T v ts) (o : Obj) : OwnE (w.alloc o) B T v ts := World.ownsRow.alloc h o
theorem OwnE.drewN (h : OwnE w B T v ts) (n : Nat) : OwnE (w.drewN n) B T v ts := h
theorem OwnE.mono {B' : Nat} (h : OwnE w B T v ts) (hb : B' ≤ B) : OwnE w B' T v ts := by
  obtain ⟨h1, h2⟩ := h
  refine ⟨h1, ?_⟩
  rcases h2 with h2 | ⟨g, cap, cur, hv, hg, r⟩
  · exact .inl h2
  · exact .inr ⟨g, cap, cur, hv, by omega, r⟩
theorem OwnE.block_lt {g : Nat} (h : OwnE w B T v ts) (hg : v.ownBlock = some g) : g < w.heap.size ∧ B ≤ g := by
  rcases h.2 with ⟨rfl, _⟩ | ⟨g', cap, cur, rfl, hB, hh, _⟩
  · cases hg
  · cases hg
    refine ⟨?_, hB⟩
    rcases Nat.lt_or_ge g' w.heap.size with hl | hl
    · exact hl
    · rw [Array.getElem?_eq_none hl] at hh; cases hh
theorem OwnE.keptL {S : List Nat} (h : OwnE w B T v ts) (k : Kept w w' S) (hs : ∀ g, v.ownBlock = some g → g ∉ S) : OwnE w' B T v ts :=
  ownsRow_block h fun g hg => k.block g (h.block_lt hg).1 (hs g hg)
theorem OwnE.form (h : OwnE w B T v ts) (hn : 0 < ts.length) :
    ∃ g cap, v = .slice (some ⟨g, 0, none⟩) ts.length cap ∧ B ≤ g ∧ g < w.heap.size ∧ ts.length ≤ cap ∧ cap ≤ maxLen := by
  rcases h.2 with ⟨_, h0⟩ | ⟨g, cap, cur, rfl, hB, hh, hnc, hcm, _⟩
  · omega
  · refine ⟨g, cap, rfl, hB, ?_, hnc, hcm⟩
    rcases Nat.lt_or_ge g w.heap.size with hl | hl
    · exact hl
    · rw [Array.getElem?_eq_none hl] at hh; cases hh
theorem OwnE.any_form (h : OwnE w B T v ts) : ∃ a c, v = .slice a ts.length c := by
  rcases h.2 with ⟨rfl, h0⟩ | ⟨g, cap, cur, rfl, _⟩
  · exact ⟨none, 0, by rw [h0]⟩
  · exact ⟨_, _, rfl⟩
theorem OwnE.at_cells {a : Option Addr} {n c : Nat} (h : OwnE w B T (.slice a n c) ts) {i : Nat} {x : Int × Int} (hx : ts[i]? = some x) :
    ∃ g, a = some ⟨g, 0, none⟩ ∧ B ≤ g ∧ g < w.heap.size ∧ w.cell? ⟨g, i * 2, none⟩ = some (.int .i64 x.1) ∧ w.cell? ⟨g, i * 2 + 1, none⟩ = some (.int .i64 x.2) := by
  have hi : i < ts.length := (List.getElem?_eq_some_iff.1 hx).1
  obtain ⟨g, cap, e, hB, hlt, _⟩ := h.form (by omega)
  cases e
  have hc : ∀ j, j < 2 → w.cell? ⟨g, i * 2 + j, none⟩ = some (.int .i64 ((tl2 x)[j]?.getD 0)) := fun j hj => by
    have h1 := World.ownsRow.cells h (g := g) rfl (i * 2 + j) (.int .i64 ((tl2 x)[j]?.getD 0)) (by
      simp only [ints, List.getElem?_map, flat2_get ts i j hj, hx, Option.bind_some]
      obtain ⟨p, q⟩ := x
      have hm : j = 0 ∨ j = 1 := by omega
      rcases hm with hm | hm <;> subst hm <;> simp [tl2])
    rw [add_zero_addr] at h1
    simpa using h1
  exact ⟨g, rfl, hB, hlt, hc 0 (by omega), hc 1 (by omega)⟩
theorem OwnE.len_eq {a : Option Addr} {n c : Nat} (h : OwnE w B T (.slice a n c) ts) : n = ts.length := by
  rcases h.2 with ⟨h1, h0⟩ | ⟨g, cap, cur, h1, _⟩
  · cases h1; omega
  · injection h1
theorem OwnE.edg {a : Option Addr} {n c : Nat} (h : OwnE w B T (.slice a n c) ts) (hl : ts.length ≤ 9223372036854775807) : Edg w a ts :=
  ⟨hl, fun i x hx => by
    obtain ⟨g, e, _, hg, h1, h2⟩ := h.at_cells hx
    exact ⟨g, 0, e, hg, by rw [Nat.zero_add]; exact h1, by rw [Nat.zero_add]; exact h2⟩⟩
end
section
variable {P : Program} {w : World}
/-- append of one pair; its box lies somewhere. -/
theorem appE {ops : Array Oper} {rest : List Oper} {o : Oper} {a : Act} {Q : Exit → Act → World → Prop} (hgd : o.guard = none) (s x : Operand) (T e : TypeId)
    (ho : o.op = .call { callee := .builtin .append, args := #[s, x], argTypes := #[T, T] })
    (i : TypeInfo) (z : Value) (bytes : Nat) (ht : P.underlying T = some (.slice e)) (hi : P.info? e = some i) (hz : i.zero = some z)
    (hsize : i.size = 2) (hby : i.bytes = bytes) (hzs : z.cells.size = 2) (hb64 : bytes ≤ 64)
    (B : Nat) (v : Value) (xs : List (Int × Int)) (n : Nat) (hs : a.eval s = v) (hown : OwnE w B e v xs) (hn : xs.length = n) (ad : Addr) (c : Nat) (y : Int × Int) (hx : a.eval x = .slice (some ad) 1 c)
    (h0 : w.cell? (ad.add 0) = some (.int .i64 y.1)) (h1 : w.cell? (ad.add 1) = some (.int .i64 y.2)) (hlen : n < 1099511627776) (hB : B ≤ w.heap.size)
    (h : ∀ G cap w', OwnE w' B e (.slice (some ⟨G, 0, none⟩) (n + 1) cap) (xs ++ [y]) → w.grownBy w' v.ownBlock → (v.ownBlock = some G ∨ w.heap.size ≤ G) → G < w'.heap.size → B ≤ G → n + 1 ≤ cap → wpList P ops Q rest (a.put o.dst (.slice (some ⟨G, 0, none⟩) (n + 1) cap)) w') :
    wpList P ops Q (o :: rest) a w := by
  refine wpList_append_own_at (w := w) hgd s x T ho B e i z 2 bytes ht hi hz hsize hby hzs (by omega) v xs.length (ints (flat2 xs)) hs hown ad 1 c (tv2 y) hx rfl ?_ ?_ (by unfold maxLen; omega)
    (Nat.le_trans (Nat.mul_le_mul_left _ hb64) (by omega)) hB ?_
  · intro j u hu
    match j, hu with
    | 0, hu => simp [tv2, tl2, ints] at hu; subst hu; exact h0
    | 1, hu => simp [tv2, tl2, ints] at hu; subst hu; exact h1
    | j + 2, hu => simp [tv2, tl2, ints] at hu
  · intro u hu
    simp [tv2, tl2, ints] at hu
    rcases hu with rfl | rfl <;> rfl
  intro v' w' h2 h3 _ h5
  have h6 : OwnE w' B e v' (xs ++ [y]) := by
    unfold OwnE
    rw [show flat2 (xs ++ [y]) = flat2 xs ++ tl2 y by simp [flat2], List.length_append]
    rw [show ints (flat2 xs ++ tl2 y) = ints (flat2 xs) ++ tv2 y by simp [ints, tv2]]
    exact h2
  obtain ⟨G, cap, rfl, hG, hG2, hc1, hc2⟩ := h6.form (by simp)
  have hle : (xs ++ [y]).length = n + 1 := by simp [hn]
  rw [hle] at h6 hc1 ⊢
  refine h G cap w' h6 h3 ?_ hG2 hG hc1
  rcases h5 with h5 | h5
  · exact .inl h5.symm
  · cases h5; exact .inr (Nat.le_refl _)
end
end Go.Proofs.YtjjjohmppehejaaGreat

namespace Go.Proofs.YtjjjohmppehejaaGreat
open Go.RowKit Plain PlainG
def bytesOf (s : ByteArray) : List Nat := s.data.toList.map UInt8.toNat
theorem bytesOf_len (s : ByteArray) : (bytesOf s).length = s.size := by unfold bytesOf; simp
theorem bytesOf_lt (s : ByteArray) (k : Nat) : (bytesOf s)[k]?.getD 0 < 256 := by
  unfold bytesOf
  rw [List.getElem?_map]
  cases h : s.data.toList[k]? with
  | none => simp
  | some x => simp only [Option.map_some, Option.getD_some]; exact x.toNat_lt
theorem str_byte {s : ByteArray} {k : Nat} (hk : k < s.size) (w : World) :
    (Instr.index 9 (.string s) (.int .i64 (k : Int))).run Tryz.prog w = .ok (.int .u8 (((bytesOf s)[k]?.getD 0 : Nat) : Int)) w := by
  rw [run_index_string w 9 s .i64 _ Tryz.underlying9, dif_pos ⟨by omega, by omega⟩]
  have e : ((k : Int)).toNat = k := by omega
  simp only [e]
  have hl : k < s.data.toList.length := by simpa using hk
  have : (bytesOf s)[k]?.getD 0 = (s[k]'hk).toNat := by
    unfold bytesOf
    rw [List.getElem?_map, List.getElem?_eq_getElem hl]
    rfl
  rw [this]
/-- A reader: its text, its place, its fault. -/
structure Rg (w : World) (p : Nat) (b : ByteArray) (at_ : Nat) (f : Int × Nat) : Prop where
  c0 : w.cell? ⟨p, 0, none⟩ = some (.string b)
  c1 : w.cell? ⟨p, 1, none⟩ = some (.int .i64 (at_ : Int))
  c2 : w.cell? ⟨p, 2, none⟩ = some (.int .i64 f.1)
  c3 : w.cell? ⟨p, 3, none⟩ = some (.int .i64 (f.2 : Int))
  fr : ∀ o, w.frozen? ⟨p, o, none⟩ = false
  lt : p < w.heap.size
  len : b.size ≤ 20000
section
variable {w : World} {p : Nat} {b : ByteArray} {at_ : Nat} {f : Int × Nat}
theorem Rg.grown {w' : World} (h : Rg w p b at_ f) {row : Option Nat} (k : w.grownBy w' row) (hr : row ≠ some p) : Rg w' p b at_ f := by
  have hb := k.block p h.lt (fun e => hr e.symm)
  have hc : ∀ o, w'.cell? ⟨p, o, none⟩ = w.cell? ⟨p, o, none⟩ := fun o => by unfold World.cell?; rw [hb]
  have hf : ∀ o, w'.frozen? ⟨p, o, none⟩ = w.frozen? ⟨p, o, none⟩ := fun o => by unfold World.frozen?; rw [hb]
  exact ⟨(hc 0).trans h.c0, (hc 1).trans h.c1, (hc 2).trans h.c2, (hc 3).trans h.c3, fun o => (hf o).trans (h.fr o), Nat.lt_of_lt_of_le h.lt k.size, h.len⟩
theorem Rg.drewN (h : Rg w p b at_ f) (n : Nat) : Rg (w.drewN n) p b at_ f := ⟨h.c0, h.c1, h.c2, h.c3, h.fr, h.lt, h.len⟩
theorem Rg.set1 (h : Rg w p b at_ f) (n : Nat) : Rg (w.setCell ⟨p, 1, none⟩ (.int .i64 (n : Int))) p b n f :=
  ⟨(World.cell?_setCell_other _ _ _ _ (by intro e; simp at e)).trans h.c0, World.cell?_setCell_same _ _ _ h.c1, (World.cell?_setCell_other _ _ _ _ (by intro e; simp at e)).trans h.c2, (World.cell?_setCell_other _ _ _ _ (by intro e; simp at e)).trans h.c3, fun o => (World.frozen?_setCell _ _ _ _).trans (h.fr o), by simpa [World.setCell] using h.lt, h.len⟩
theorem Rg.setF (h : Rg w p b at_ f) (e : Int) (n : Nat) : Rg ((w.setCell ⟨p, 2, none⟩ (.int .i64 e)).setCell ⟨p, 3, none⟩ (.int .i64 (n : Int))) p b at_ (e, n) := by
  have h1 : Rg (w.setCell ⟨p, 2, none⟩ (.int .i64 e)) p b at_ (e, f.2) :=
    ⟨(World.cell?_setCell_other _ _ _ _ (by intro e; simp at e)).trans h.c0, (World.cell?_setCell_other _ _ _ _ (by intro e; simp at e)).trans h.c1, World.cell?_setCell_same _ _ _ h.c2, (World.cell?_setCell_other _ _ _ _ (by intro e; simp at e)).trans h.c3, fun o => (World.frozen?_setCell _ _ _ _).trans (h.fr o), by simpa [World.setCell] using h.lt, h.len⟩
  exact ⟨(World.cell?_setCell_other _ _ _ _ (by intro e; simp at e)).trans h1.c0, (World.cell?_setCell_other _ _ _ _ (by intro e; simp at e)).trans h1.c1, (World.cell?_setCell_other _ _ _ _ (by intro e; simp at e)).trans h1.c2, World.cell?_setCell_same _ _ _ h1.c3, fun o => (World.frozen?_setCell _ _ _ _).trans (h1.fr o), by simpa [World.setCell] using h1.lt, h.len⟩
end
/-- Only block p has changed: the reader stands at another place. -/
def RgTo (w w' : World) (p : Nat) (b : ByteArray) (at_ : Nat) (f : Int × Nat) : Prop := Rg w' p b at_ f ∧ w.grownBy w' (some p)
theorem RgTo.trans {w w1 w2 : World} {p : Nat} {b : ByteArray} {a1 a2 : Nat} {f1 f2 : Int × Nat} (h : RgTo w w1 p b a1 f1) (k : RgTo w1 w2 p b a2 f2) : RgTo w w2 p b a2 f2 := ⟨k.1, h.2.trans k.2⟩
end Go.Proofs.YtjjjohmppehejaaGreat

namespace Go.Proofs.YtjjjohmppehejaaGreat
open Go.RowKit Plain PlainG
/-- What number gives. -/
def NumRes (w : World) (p : Nat) (b : ByteArray) (at_ : Nat) (r : Except Flt (Nat × Nat)) (e : Ending) (w' : World) : Prop :=
  match r with
  | .ok x => e = .returned (.tuple #[.int .i64 (x.1 : Int), .bool true]) ∧ RgTo w w' p b x.2 (0, 0)
  | .error f => e = .returned (.tuple #[.int .i64 0, .bool false]) ∧ ∃ a, RgTo w w' p b a f
theorem numL_bound {b : List Nat} {F : Nat} : ∀ f k n, (numL b F f k n).1 ≤ k + f ∧ k ≤ (numL b F f k n).1 := by
  intro f
  induction f with
  | zero => intro k n; exact ⟨Nat.le_refl _, Nat.le_refl _⟩
  | succ f ih =>
    intro k n
    rw [numL]
    split
    · have := ih (k + 1) (10 * n + (b[F + k]?.getD 0 - 48)); omega
    · exact ⟨by omega, Nat.le_refl _⟩
theorem numL_go {b : List Nat} {F k n : Nat} (hk : k < 3) (h1 : F + k < b.length) (h2 : isD (b[F + k]?.getD 0) = true) (h3 : k = 0 ∨ b[F]?.getD 0 ≠ 48) :
    numL b F (3 - k) k n = numL b F (3 - (k + 1)) (k + 1) (10 * n + (b[F + k]?.getD 0 - 48)) := by
  rw [show 3 - k = (3 - (k + 1)) + 1 by omega, numL, if_pos ⟨h1, h2, h3⟩]
theorem numL_halt {b : List Nat} {F k n : Nat} (h : ¬ (k < 3 ∧ F + k < b.length ∧ isD (b[F + k]?.getD 0) = true ∧ (k = 0 ∨ b[F]?.getD 0 ≠ 48))) :
    numL b F (3 - k) k n = (k, n) := by
  by_cases hk : k < 3
  · rw [show 3 - k = (3 - (k + 1)) + 1 by omega, numL, if_neg (fun hh => h ⟨hk, hh⟩)]
  · rw [show 3 - k = 0 by omega]; rfl
theorem num_none {b : List Nat} {F k n : Nat} {top : Int} (h : numL b F 3 0 0 = (k, n)) (h0 : k = 0) : num b F top = .error (11, F) := by
  unfold num; rw [h, if_pos h0]
theorem num_more {b : List Nat} {F k n : Nat} {top : Int} (h : numL b F 3 0 0 = (k, n)) (h0 : k ≠ 0) (h1 : F + k < b.length) (h2 : isD (b[F + k]?.getD 0) = true) : num b F top = .error (11, F + k) := by
  unfold num; rw [h, if_neg h0, if_pos ⟨h1, h2⟩]
theorem num_big {b : List Nat} {F k n : Nat} {top : Int} (h : numL b F 3 0 0 = (k, n)) (h0 : k ≠ 0) (h1 : ¬ (F + k < b.length ∧ isD (b[F + k]?.getD 0) = true)) (h2 : top < (n : Int)) : num b F top = .error (2, F) := by
  unfold num; rw [h, if_neg h0, if_neg h1, if_pos h2]
theorem num_fine {b : List Nat} {F k n : Nat} {top : Int} (h : numL b F 3 0 0 = (k, n)) (h0 : k ≠ 0) (h1 : ¬ (F + k < b.length ∧ isD (b[F + k]?.getD 0) = true)) (h2 : ¬ top < (n : Int)) : num b F top = .ok (n, F + k) := by
  unfold num; rw [h, if_neg h0, if_neg h1, if_neg h2]
def posOf (w : World) (p : Nat) : Nat := match w.cell? ⟨p, 1, none⟩ with | some v => (intOf v).toNat | none => 0
theorem Rg.pos {w : World} {p : Nat} {b : ByteArray} {at_ : Nat} {f : Int × Nat} (h : Rg w p b at_ f) : posOf w p = at_ := by
  unfold posOf; rw [h.c1]; simp [intOf]
theorem NumRes.fail {w w1 w' : World} {p : Nat} {b : ByteArray} {F a : Nat} {r : Except Flt (Nat × Nat)} {f : Flt} (hr : r = .error f) (h1 : w.grownBy w1 (some p)) (h : RgTo w1 w' p b a f) :
    NumRes w p b F r (.returned (.tuple #[.int .i64 0, .bool false])) w' := by
  subst hr
  exact ⟨rfl, a, h.1, h1.trans h.2⟩
theorem NumRes.good {w w' : World} {p : Nat} {b : ByteArray} {F a n : Nat} {r : Except Flt (Nat × Nat)} (hr : r = .ok (n, a)) (h : RgTo w w' p b a (0, 0)) :
    NumRes w p b F r (.returned (.tuple #[.int .i64 (n : Int), .bool true])) w' := by
  subst hr
  exact ⟨rfl, h⟩
end Go.Proofs.YtjjjohmppehejaaGreat
