/- Labels and Target, of the program and of the reference. -/
import Derived.Test.YtlnikgcanimggaaGreatLabels2
set_option linter.unusedSimpArgs false
set_option linter.unusedVariables false
namespace Go.Proofs.YtlnikgcanimggaaGreat
open Go.RowKit Plain

/-- What Labels answers. -/
def labA (n : Int) (l : List (List Int)) : List Int := if chk n l ≠ 0 then [] else labelsL n.toNat l

theorem labelsE_calls (n : Int) (a : Option Addr) (c : Nat) (xs : List (List Int)) (w : World) (ha : Rows w a xs) :
    Calls Tryz.prog 5 #[.int .i64 n, .slice a xs.length c] w fun e w' => ∃ a c, e = .returned (.tuple #[.slice a (labA n xs).length c, .int .i64 (chk n xs)]) ∧ Ints w' a (labA n xs) ∧ Below w.heap.size w w' := by
  have hck := Lib.hid (check_calls n a c xs w ha)
  by_cases h0 : chk n xs = 0
  · obtain ⟨hn0, hn64, _⟩ := chk_zero h0
    obtain ⟨N, rfl⟩ := Int.eq_ofNat_of_zero_le hn0
    have hin := chk_in h0
    have hlA : labA N xs = labelsL N xs := by rw [labA, if_neg (by simp [h0])]; rfl
    have Hy := Lib.hid (fun (w1 : World) (h : Below w.heap.size w w1) => labels_calls N a c xs w1 (ha.below h) (by omega) hin)
    have hlen := labelsL_len N xs
    simp only [h0] at hck ⊢
    rw [hlA]
    obtain ⟨lb, hlb⟩ : ∃ x, labelsL N xs = x := ⟨_, rfl⟩
    rw [hlb] at Hy hlen ⊢
    have Hl := Lib.hid hlen
    obtain ⟨L, hL⟩ : ∃ L, L = xs.length := ⟨_, rfl⟩
    rw [← hL] at hck Hy ⊢
    clear hL ha h0 hlb hn0 hin hlA hlen
    go_enter Tryz.func5, Tryz.ntmps5
    go_wp2_with fail
    refine hck.out.mono ?_
    rintro e w1 ⟨rfl, hb1⟩
    have H1 := Lib.hid hb1
    clear hb1
    go_wp2_with fail
    refine (Hy.out w1 H1.out).mono ?_
    rintro e w2 ⟨u, rfl, hu, hb2⟩
    obtain ⟨ua, uc, rfl, -⟩ := hu.row (by rw [ints_len, Hl.out]; unfold maxLen; omega)
    rw [ints_len, Hl.out] at hu ⊢
    have H2 := Lib.hid (And.intro (hu.toInts (by rw [Hl.out]; unfold maxLen; omega)) (H1.out.trans (hb2.mono H1.out.size)))
    clear hu hb2
    go_wp2
    go_ret2
    exact ⟨_, _, by rw [Hl.out]; rfl, H2.out.1, H2.out.2⟩
  · have hlA : labA n xs = [] := by rw [labA, if_pos h0]
    obtain ⟨E, hE⟩ : ∃ E, chk n xs = E := ⟨_, rfl⟩
    rw [hE] at hck h0 ⊢
    rw [hlA]
    have hE1 : (E != 0) = true := by simpa using h0
    clear hE hlA
    go_enter Tryz.func5, Tryz.ntmps5
    go_wp2_with fail
    refine hck.out.mono ?_
    rintro e w1 ⟨rfl, hb1⟩
    have H1 := Lib.hid hb1
    clear hb1
    go_wp2
    go_ret2
    exact ⟨none, 0, rfl, Row.nil, H1.out⟩
/-- The first one of the smallest cells with more than one point, so far. -/
def tgtTo (l : List (List Int)) : Nat → Option Nat
  | 0 => none
  | k + 1 => if 1 < (l[k]?.getD []).length ∧ (∀ b, tgtTo l k = some b → (l[k]?.getD []).length < (l[b]?.getD []).length) then some k else tgtTo l k
theorem tgtTo_lt {l : List (List Int)} : ∀ {k b : Nat}, tgtTo l k = some b → b < k
  | 0, b, h => by simp [tgtTo] at h
  | k + 1, b, h => by
    rw [tgtTo] at h
    split at h
    · cases h; omega
    · have := tgtTo_lt h; omega
def encOpt : Option Nat → Int
  | none => -1
  | some l => l
def tgtA (n : Int) (l : List (List Int)) : Int := if chk n l ≠ 0 then 0 else encOpt (tgtTo l l.length)

set_option maxRecDepth 100000 in
set_option maxHeartbeats 1000000 in
theorem target_calls (n : Int) (a : Option Addr) (c : Nat) (xs : List (List Int)) (w : World) (ha : Rows w a xs) :
    Calls Tryz.prog 11 #[.int .i64 n, .slice a xs.length c] w fun e w' => e = .returned (.tuple #[.int .i64 (tgtA n xs), .int .i64 (chk n xs)]) ∧ Below w.heap.size w w' := by
  have hck := Lib.hid (check_calls n a c xs w ha)
  have hml := ha.len
  have H0 := Lib.hid ha
  by_cases h0 : chk n xs = 0
  · have hlA : tgtA n xs = encOpt (tgtTo xs xs.length) := by rw [tgtA, if_neg (by simp [h0])]
    rw [h0] at hck ⊢
    rw [hlA]
    obtain ⟨L, hL⟩ : ∃ L, L = xs.length := ⟨_, rfl⟩
    rw [← hL] at hck hml ⊢
    have HL := Lib.hid hL
    clear hL ha h0 hlA
    go_enter Tryz.func11, Tryz.ntmps11
    go_wp2_with fail
    refine hck.out.mono ?_
    rintro e w1 ⟨rfl, hb1⟩
    have H1 := Lib.hid (And.intro hb1 (H0.out.below hb1))
    clear hb1
    go_wp2
    go_loop [7, 18] (fun b i => ∃ k : Nat, k ≤ L ∧ i = .int .i64 k ∧ b = .int .i64 (encOpt (tgtTo xs k))) (fun _ i => L - (intOf i).toNat)
    case atStart => exact ⟨0, by omega, rfl, rfl⟩
    case round =>
      obtain ⟨k, hk, rfl, rfl⟩ := hrel
      by_cases hlt : k < L
      · obtain ⟨g, o, b, cc, rfl, _, hc, hi⟩ := H1.out.2.at_ (k := k) (by rw [← HL.out]; exact hlt)
        have hs : tgtTo xs (k + 1) = if 1 < (xs[k]?.getD []).length ∧ (∀ b, tgtTo xs k = some b → (xs[k]?.getD []).length < (xs[b]?.getD []).length) then some k else tgtTo xs k := rfl
        obtain ⟨N, hN⟩ : ∃ N, (xs[k]?.getD []).length = N := ⟨_, rfl⟩
        rw [hN] at hc hs
        by_cases h1 : 1 < N
        · cases hb : tgtTo xs k with
          | none =>
            rw [if_pos ⟨h1, fun b hb' => by rw [hb] at hb'; cases hb'⟩] at hs
            have Hs := Lib.hid hs
            clear hs hi hN hb
            simp only [encOpt]
            go_wp2
            exact ⟨⟨k + 1, by omega, by go_num, by rw [Hs.out]⟩, by simp [intOf]; omega⟩
          | some t =>
            have htk := tgtTo_lt hb
            obtain ⟨g', o', b2, c2, e, _, hc2, _⟩ := H1.out.2.at_ (k := t) (by rw [← HL.out]; omega)
            cases e
            obtain ⟨M, hM⟩ : ∃ N, (xs[t]?.getD []).length = N := ⟨_, rfl⟩
            rw [hM] at hc2
            have htn : decide ((t : Int) < 0) = false := by simp
            by_cases h2 : N < M
            · rw [if_pos ⟨h1, fun b hb' => by rw [hb] at hb'; cases hb'; rw [hM]; exact h2⟩] at hs
              have Hs := Lib.hid hs
              clear hs hi hN hb hM
              simp only [encOpt]
              go_wp2
              exact ⟨⟨k + 1, by omega, by go_num, by rw [Hs.out]⟩, by simp [intOf]; omega⟩
            · rw [if_neg (fun h => h2 (by have := h.2 t hb; rwa [hM] at this))] at hs
              have Hs := Lib.hid (hs.trans hb)
              have h2' : decide ((N : Int) < M) = false := decide_eq_false (by omega)
              clear hs hi hN hb hM
              simp only [encOpt]
              go_wp2
              exact ⟨⟨k + 1, by omega, by go_num, by rw [Hs.out]⟩, by simp [intOf]; omega⟩
        · rw [if_neg (fun h => h1 h.1)] at hs
          have Hs := Lib.hid hs
          have h1' : decide ((1 : Int) < N) = false := decide_eq_false (by omega)
          obtain ⟨V, hV⟩ : ∃ V, encOpt (tgtTo xs k) = V := ⟨_, rfl⟩
          rw [hV]
          have HV := Lib.hid hV
          clear hs hi hN hV
          go_wp2
          exact ⟨⟨k + 1, by omega, by go_num, by rw [Hs.out, HV.out]⟩, by simp [intOf]; omega⟩
      · obtain rfl : k = L := by omega
        go_wp2
        go_ret2
        exact ⟨rfl, H1.out.1⟩
  · have hlA : tgtA n xs = 0 := by rw [tgtA, if_pos h0]
    obtain ⟨E, hE⟩ : ∃ E, chk n xs = E := ⟨_, rfl⟩
    rw [hE] at hck h0 ⊢
    rw [hlA]
    have hE1 : (E != 0) = true := by simpa using h0
    clear hE hlA
    go_enter Tryz.func11, Tryz.ntmps11
    go_wp2_with fail
    refine hck.out.mono ?_
    rintro e w1 ⟨rfl, hb1⟩
    have H1 := Lib.hid hb1
    clear hb1
    go_wp2
    go_ret2
    exact ⟨rfl, H1.out⟩

end Go.Proofs.YtlnikgcanimggaaGreat
