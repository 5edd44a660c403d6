/- The checks of a graph: vertices, edges, colours. -/
import Derived.Test.YtifkieopaoooeaaDoorSmall
import Derived.Test.YtifkieopaoooeaaDoorPlainGraph
set_option linter.unusedSimpArgs false
set_option linter.unusedVariables false
namespace Go.Proofs.YtifkieopaoooeaaDoor
open Go.RowKit Plain PlainG
/-- A slice of edges. -/
structure Edg (w : World) (a : Option Addr) (es : List (Int × Int)) : Prop where
  len : es.length ≤ 9223372036854775807
  at_ : ∀ i e, es[i]? = some e → ∃ b o, a = some ⟨b, o, none⟩ ∧ b < w.heap.size ∧ w.cell? ⟨b, o + i * 2, none⟩ = some (.int .i64 e.1) ∧ w.cell? ⟨b, o + i * 2 + 1, none⟩ = some (.int .i64 e.2)
theorem Edg.below {w w' : World} {a : Option Addr} {es : List (Int × Int)} (h : Edg w a es) (hb : Below w.heap.size w w') : Edg w' a es :=
  ⟨h.len, fun i e he => by
    obtain ⟨b, o, ha, hl, h1, h2⟩ := h.at_ i e he
    exact ⟨b, o, ha, Nat.lt_of_lt_of_le hl hb.size, (hb.cell (p := ⟨b, o + i * 2, none⟩) hl).trans h1, (hb.cell (p := ⟨b, o + i * 2 + 1, none⟩) hl).trans h2⟩⟩
/-- A graph's value. -/
def IsGr (w : World) (v : Value) (g : Gr) : Prop := ∃ a c b d, v = .agg #[.int .i64 g.n, .slice a g.es.length c, .slice b g.cs.length d] ∧ Edg w a g.es ∧ Ints w b g.cs
theorem IsGr.below {w w' : World} {v : Value} {g : Gr} (h : IsGr w v g) (hb : Below w.heap.size w w') : IsGr w' v g := by
  obtain ⟨a, c, b, d, rfl, h1, h2⟩ := h
  exact ⟨a, c, b, d, rfl, h1.below hb, h2.below hb⟩
theorem vertex_calls (n v : Int) (w : World) : Calls Tryd.prog 26 #[.int .i64 n, .int .i64 v] w fun e w' => e = .returned (.bool (vert n v)) ∧ w' = w := by
  obtain ⟨r, hr⟩ : ∃ r, vert n v = r := ⟨_, rfl⟩
  have hv := hr
  unfold vert at hv
  rw [hr]
  clear hr
  cases h1 : decide (0 ≤ v) <;> cases h2 : decide (v < n) <;> rw [h1, h2] at hv <;> cases hv <;> (
    go_enter Tryd.func26, Tryd.ntmps26
    go_wp2
    go_ret
    exact ⟨rfl, rfl⟩)
theorem colours1_calls (c : Int) (w : World) : Calls Tryd.prog 37 #[.int .i64 c] w fun e w' => e = .returned (.bool (!okC c)) ∧ w' = w := by
  obtain ⟨r, hr⟩ : ∃ r, (!okC c) = r := ⟨_, rfl⟩
  rw [hr]
  by_cases h1 : c < 0
  · have : r = true := by rw [← hr]; unfold okC; simp; omega
    subst this
    clear hr
    have h1 : decide (c < 0) = true := by simp [h1]
    go_enter Tryd.func37, Tryd.ntmps37
    go_wp2
    go_ret
    exact ⟨rfl, rfl⟩
  · have e : r = decide (99 < c) := by rw [← hr]; unfold okC; rw [show decide (0 ≤ c) = true by simp; omega, Bool.true_and, ← decide_not]; congr 1; simp
    cases h2 : decide (99 < c) <;> rw [h2] at e <;> subst e <;> clear hr <;> (
      have h1 : decide (c < 0) = false := by simpa using h1
      go_enter Tryd.func37, Tryd.ntmps37
      go_wp2
      go_ret
      exact ⟨rfl, rfl⟩)
def badC (cs : List Int) : Bool := cs.any fun c => !okC c
theorem badC_ok (cs : List Int) : badC cs = !cs.all okC := by unfold badC; rw [List.any_eq_not_all_not]; simp
set_option maxHeartbeats 400000 in
theorem indexC_calls (a : Option Addr) (c : Nat) (m : List Int) (w : World) (hm : Ints w a m) :
    Calls Tryd.prog 52 #[.slice a m.length c, .func (.func 37) #[] #[]] w fun e w' => (∃ i : Int, e = .returned (.int .i64 i) ∧ decide (0 ≤ i) = badC m) ∧ w' = w := by
  have hA := Lib.hid hm
  have hmx := hm.len
  clear hm
  obtain ⟨L, hL⟩ : ∃ L, L = m.length := ⟨_, rfl⟩
  rw [← hL] at hmx ⊢
  have HL := Lib.hid hL
  clear hL
  go_enter Tryd.func52, Tryd.ntmps52
  go_wp2
  go_loop [8] (fun i => ∃ k : Nat, k ≤ L ∧ i = .int .i64 k ∧ badC m = badC (m.drop k)) (fun i => L - (intOf i).toNat)
  case atStart => exact ⟨0, Nat.zero_le _, rfl, rfl⟩
  case round =>
    obtain ⟨k, hk, rfl, he⟩ := hrel
    have He := Lib.hid he
    clear he
    by_cases hlt : k < L
    · have hkm : k < m.length := by rw [← HL.out]; exact hlt
      obtain ⟨g, o, rfl, hg, hc⟩ := hA.out.at_ (k := k) hkm
      have hd : m.drop k = (m[k]?.getD 0) :: m.drop (k + 1) := by
        rw [List.getElem?_eq_getElem hkm]; exact (List.getElem_cons_drop hkm).symm
      obtain ⟨r, hr⟩ : ∃ r, m[k]?.getD 0 = r := ⟨_, rfl⟩
      rw [hr] at hc hd
      have hcall := colours1_calls r w
      have he2 : badC m = ((!okC r) || badC (m.drop (k + 1))) := by rw [He.out, hd]; rfl
      have H := Lib.hid (And.intro hcall he2)
      clear hd hr hcall he2 hkm
      cases hb : (!okC r) with
      | false =>
        rw [hb] at H
        have Hb := Lib.hid hb
        clear hb
        go_wp2_with (go_at_call 37; refine H.out.1.mono ?_; rintro e w' ⟨rfl, rfl⟩)
        exact ⟨⟨k + 1, by omega, by go_num, by rw [H.out.2]; simp⟩, by simp [intOf]; omega⟩
      | true =>
        rw [hb] at H
        have Hb := Lib.hid hb
        clear hb
        go_wp2_with (go_at_call 37; refine H.out.1.mono ?_; rintro e w' ⟨rfl, rfl⟩)
        go_ret
        exact ⟨⟨(k : Int), rfl, by rw [H.out.2]; simp⟩, rfl⟩
    · go_wp2
      go_ret
      exact ⟨⟨-1, rfl, by rw [He.out, List.drop_eq_nil_of_le (by rw [← HL.out]; omega)]; simp [badC]⟩, rfl⟩
theorem containsC_calls (a : Option Addr) (c : Nat) (m : List Int) (w : World) (hm : Ints w a m) :
    Calls Tryd.prog 36 #[.slice a m.length c, .func (.func 37) #[] #[]] w fun e w' => e = .returned (.bool (badC m)) ∧ w' = w := by
  have hc := Lib.hid (indexC_calls a c m w hm)
  clear hm
  obtain ⟨L, hL⟩ : ∃ L, L = m.length := ⟨_, rfl⟩
  rw [← hL] at hc ⊢
  clear hL
  go_enter Tryd.func36, Tryd.ntmps36
  go_wp2_with (go_at_call 52; refine hc.out.mono ?_; rintro e w' ⟨⟨i, rfl, hi⟩, rfl⟩; have Hi := Lib.hid hi; clear hi)
  go_ret
  exact ⟨ret_bool Hi.out, rfl⟩
theorem colours_calls (n : Int) (a : Option Addr) (c : Nat) (m : List Int) (w : World) (hm : Ints w a m) :
    Calls Tryd.prog 28 #[.int .i64 n, .slice a m.length c] w fun e w' => e = .returned (.int .i64 (chkC n m)) ∧ w' = w := by
  have hc := Lib.hid (containsC_calls a c m w hm)
  clear hm
  have hcp : chkC n m = if (m.length : Int) ≠ n then 3 else if badC m = true then 2 else 0 := by
    unfold chkC; rw [badC_ok]; cases m.all okC <;> simp
  rw [hcp]
  clear hcp
  obtain ⟨L, hL⟩ : ∃ L, L = m.length := ⟨_, rfl⟩
  rw [← hL] at hc ⊢
  clear hL
  by_cases h1 : (L : Int) = n
  · rw [if_neg (by simpa using h1)]
    have h1 : ((L : Int) != n) = false := by simpa using h1
    cases hb : badC m
    · rw [hb] at hc
      rw [if_neg (by simp)]
      have Hb := Lib.hid hb
      clear hb
      go_enter Tryd.func28, Tryd.ntmps28
      go_wp2_with (go_at_call 36; refine hc.out.mono ?_; rintro e w' ⟨rfl, rfl⟩)
      go_ret
      exact ⟨rfl, rfl⟩
    · rw [hb] at hc
      rw [if_pos rfl]
      have Hb := Lib.hid hb
      clear hb
      go_enter Tryd.func28, Tryd.ntmps28
      go_wp2_with (go_at_call 36; refine hc.out.mono ?_; rintro e w' ⟨rfl, rfl⟩)
      go_ret
      exact ⟨rfl, rfl⟩
  · rw [if_pos h1]
    have h1 : ((L : Int) != n) = true := by simpa using h1
    go_enter Tryd.func28, Tryd.ntmps28
    go_wp2
    go_ret
    exact ⟨rfl, rfl⟩
end Go.Proofs.YtifkieopaoooeaaDoor
