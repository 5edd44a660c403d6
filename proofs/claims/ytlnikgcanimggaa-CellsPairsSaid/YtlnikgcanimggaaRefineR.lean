/- The reference's rounds and its refining. -/
import Derived.Test.YtlnikgcanimggaaKey
import Derived.Test.YtlnikgcanimggaaPlainRound
set_option linter.unusedSimpArgs false
set_option linter.unusedVariables false
namespace Go.Proofs.Ytlnikgcanimggaa
open Go.RowKit Plain

set_option maxHeartbeats 1000000 in
theorem roundR_calls (n : Nat) (al am : Option Addr) (cl cm : Nat) (l m : List (List Int)) (w : World) (hl : Rows w al l) (hm : Rows w am m) (hn : n ≤ 64) (hin : InRange n l) (hmm : IsMat n m) :
    Calls Try.prog 57 #[.int .i64 n, .slice al l.length cl, .slice am n cm] w fun e w' => ∃ a c, e = .returned (.slice a (roundL n l m).length c) ∧ Rows w' a (roundL n l m) ∧ Below w.heap.size w w' := by
  have hlab := labelsR_calls n al cl l w hl (by omega) hin
  have H0 := Lib.hid (And.intro hl (And.intro hm (And.intro hin (And.intro hmm hlab))))
  obtain ⟨L, hL⟩ : ∃ L, L = l.length := ⟨_, rfl⟩
  rw [← hL] at H0 ⊢
  have HL := Lib.hid hL
  clear hl hm hin hmm hlab hL
  obtain ⟨i29, hi29, hz29, hs29, hb29⟩ := info_parts Try.info29
  have I29 := Lib.hid (And.intro hi29 (And.intro hz29 (And.intro hs29 hb29)))
  clear hi29 hz29 hs29 hb29
  obtain ⟨D, hD⟩ : ∃ D, D = w.heap.size := ⟨_, rfl⟩
  rw [← hD]
  have HD := Lib.hid hD
  clear hD
  obtain ⟨x, hx⟩ : ∃ x, x = labelsL n l := ⟨_, rfl⟩
  have Hx := Lib.hid hx
  clear hx
  go_enter Try.func57, Try.ntmps57
  go_wp2_with (go_at_call 65; refine H0.out.2.2.2.2.mono ?_; rintro e w1 ⟨v, rfl, hv, hb⟩; have H1 := Lib.hid (And.intro hv hb); clear hv hb)
  have hlx : (ints (labelsL n l)).length = n := by rw [ints_len, labelsL_len]
  obtain ⟨ax, cx, rfl, _⟩ := H1.out.1.row (by rw [hlx]; unfold maxLen; omega)
  rw [hlx] at H1 ⊢
  have H2 : Hid (Own w1 D (.slice ax n cx) 3 (ints x)) := Lib.hid (by rw [Hx.out, HD.out]; exact H1.out.1)
  clear hlx
  obtain ⟨R, hR⟩ : ∃ R : Nat → List Int, R = fun v => keyL n x m v := ⟨_, rfl⟩
  have HR := Lib.hid hR
  clear hR
  go_loopw [8, 9] (fun v i wr => ∃ (k : Nat) (cs : List Value), k ≤ n ∧ i = .int .i64 k ∧ Own wr D v 29 cs ∧ OwnRows wr D 3 cs ((List.range k).map R) ∧ Below D w wr ∧ Own wr D (.slice ax n cx) 3 (ints x)) (fun _ i _ => n - (intOf i).toNat)
  case atStart => exact ⟨0, [], by omega, rfl, Own.nil _ _ _, OwnRows.nil _ _ _, by rw [HD.out]; exact H1.out.2, H2.out⟩
  case round =>
    obtain ⟨k, cs, hk, rfl, ho, hr, hbl, hxi⟩ := hrel
    have hm2 : Rows wr am m := H0.out.2.1.below (by rw [← HD.out]; exact hbl)
    have hDw : D ≤ wr.heap.size := by have := hbl.size; have := HD.out; omega
    have hxl : x.length = n := by rw [Hx.out, labelsL_len]
    have hcs : cs.length = k := by rw [hr.1]; simp
    by_cases hlt : k < n
    · have hkey := key_calls n k ax am cx cm x m wr (hxi.toInts (by rw [hxl]; unfold maxLen; omega)) hm2 (by omega) hxl H0.out.2.2.2.1 hlt
      have hRk : R k = keyL n x m k := by rw [HR.out]
      rw [← hRk] at hkey
      have hRl : (R k).length = 3 * n + 1 := by rw [hRk, keyL_len]
      have H := Lib.hid (And.intro ho (And.intro hr (And.intro hbl (And.intro hDw (And.intro hcs (And.intro hkey (And.intro hxi hRl)))))))
      clear ho hr hbl hm2 hDw hcs hkey hRk hxi hRl hxl
      go_wp2_with (first
        | (go_at_call 84; refine H.out.2.2.2.2.2.1.mono ?_; rintro e w3 ⟨v3, rfl, hv3, hb3⟩; obtain ⟨a3, c3, rfl, _⟩ := hv3.row (by rw [ints_len, H.out.2.2.2.2.2.2.2]; unfold maxLen; omega); have H3 := Lib.hid (And.intro hv3 hb3); clear hv3 hb3)
        | (at_builtin; refine app1f rfl (.tmp 18) (.tmp 24) 22 29 rfl i29 (.slice none 0 0) 24 Try.underlying22 I29.out.1 I29.out.2.1 I29.out.2.2.1 I29.out.2.2.2 rfl (by omega) D _ u8 cs k rfl (H.out.1.kept (grown_below H3.out.2 none) (by rcases H.out.1.blk with e | ⟨g, _, e, _⟩ <;> simp [e])) rfl rfl H.out.2.2.2.2.1 (by omega) (Nat.le_trans H.out.2.2.2.1 H3.out.2.size) ?_; intro G cap w' h2 h3 h4 h5 h6; have H9 := Lib.hid (And.intro h2 (And.intro h3 (And.intro h4 h5))); clear h2 h3 h4 h5))
      refine ⟨⟨k + 1, cs ++ [_], by omega, by go_num, H9.out.1, ?_, ?_, ?_⟩, by simp [intOf]; omega⟩
      · rw [List.range_succ, List.map_append]
        have hbk : ∀ (uv : Value) (ys : List Value), uv.ownBlock = none ∨ uv.ownBlock ≠ none := fun uv ys => by
          cases uv.ownBlock <;> simp
        have hok := H.out.1.kept (grown_below H3.out.2 none) (hbk _ [])
        have h1 := (H.out.2.1.kept (grown_below H3.out.2 none) (fun uv ys _ => hbk uv ys)).kept H9.out.2.1 (fun uv ys h => h.ne_type hok (by decide))
        have h2 := (H3.out.1.mono H.out.2.2.2.1).kept H9.out.2.1 (H3.out.1.ne_type hok (by decide))
        exact h1.app (OwnRows.one h2)
      · exact (H.out.2.2.1.trans (H3.out.2.mono H.out.2.2.2.1)).grown H9.out.2.1 (Nat.le_trans H.out.2.2.2.1 H3.out.2.size) (fun g hg => by
          rcases H.out.1.blk with e | ⟨g', _, e, hB, _⟩
          · rw [e] at hg; cases hg
          · rw [e] at hg; cases hg; exact hB)
      · have hbk : ∀ (uv : Value), uv.ownBlock = none ∨ uv.ownBlock ≠ none := fun uv => by
          cases uv.ownBlock <;> simp
        have hok := H.out.1.kept (grown_below H3.out.2 none) (hbk _)
        have h1 := H.out.2.2.2.2.2.2.1.kept (grown_below H3.out.2 none) (hbk _)
        exact h1.kept H9.out.2.1 (h1.ne_type hok (by decide))
    · have hrows := hr.rows ho (by rw [hcs]; unfold maxLen; omega) (fun xs hx => by
        obtain ⟨i, _, rfl⟩ := List.mem_map.1 hx
        rw [HR.out, keyL_len]; unfold maxLen; omega)
      obtain rfl : k = n := by omega
      have hrow : (List.range k).map R = rowsL k m x := by rw [HR.out]; rfl
      rw [hrow] at hrows
      obtain ⟨a8, c8, rfl, hrows⟩ := hrows
      have hcol := collect_calls a8 c8 (rowsL k m x) wr hrows (by rw [rowsL_len]; omega)
      have hfin : collect (rowsL k m x) = roundL k l m := by rw [roundL, Hx.out]
      rw [hfin] at hcol
      obtain ⟨N, hN⟩ : ∃ N, (rowsL k m x).length = N := ⟨_, rfl⟩
      rw [hN] at hcol ⊢
      have Hc := Lib.hid (And.intro hcol (And.intro hbl hDw))
      clear hcol hrows hrow hcs hbl ho hr hxi hm2 hDw hfin hN hxl
      go_wp2_with (go_at_call 64; refine Hc.out.1.mono ?_; rintro e w3 ⟨a3, c3, rfl, hr3, hb3⟩; have H3 := Lib.hid (And.intro hr3 hb3); clear hr3 hb3)
      go_ret
      exact ⟨a3, c3, rfl, H3.out.1, Hc.out.2.1.trans (H3.out.2.mono Hc.out.2.2)⟩
end Go.Proofs.Ytlnikgcanimggaa
