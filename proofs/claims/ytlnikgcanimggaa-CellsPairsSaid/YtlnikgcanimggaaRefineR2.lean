/- The reference's Refine. -/
import Derived.Test.YtlnikgcanimggaaRefineR
set_option linter.unusedSimpArgs false
set_option linter.unusedVariables false
namespace Go.Proofs.Ytlnikgcanimggaa
open Go.RowKit Plain

theorem Rows.nil' (w : World) : Rows w none [] := ⟨[], Row.nil, rfl, fun i u xs h => by simp at h⟩
theorem Rows.rowlen {w : World} {a : Option Addr} {m : List (List Int)} (h : Rows w a m) {k : Nat} (hk : k < m.length) :
    ∃ g o b c, a = some ⟨g, o, none⟩ ∧ w.cell? ⟨g, o + k, none⟩ = some (.slice b (m[k]?.getD []).length c) ∧ (m[k]?.getD []).length ≤ 9223372036854775807 := by
  obtain ⟨g, o, b, c, e, _, h1, h2⟩ := h.at_ hk
  exact ⟨g, o, b, c, e, h1, h2.len⟩

set_option maxHeartbeats 1000000 in
theorem refineR_calls (n : Int) (al am : Option Addr) (cl cm : Nat) (l m : List (List Int)) (w : World) (hl : Rows w al l) (hm : Rows w am m) :
    Calls Try.prog 13 #[.int .i64 n, .slice al l.length cl, .slice am m.length cm] w fun e w' => ∃ a c, e = .returned (.tuple #[.slice a (refineA n l m).1.length c, .int .i64 (refineA n l m).2]) ∧ Rows w' a (refineA n l m).1 ∧ Below w.heap.size w w' := by
  have hck := checkR_calls n al cl l w hl
  by_cases h0 : chk n l = 0
  case neg =>
    rw [refineA_bad h0]
    obtain ⟨L, hL⟩ : ∃ L, L = l.length := ⟨_, rfl⟩
    rw [← hL] at hck ⊢
    obtain ⟨M, hM⟩ : ∃ M, M = m.length := ⟨_, rfl⟩
    rw [← hM]
    obtain ⟨r, hr⟩ : ∃ r, chk n l = r := ⟨_, rfl⟩
    rw [hr] at hck h0 ⊢
    have Hc := Lib.hid hck
    have h1 : (r == 0) = false := by simpa using h0
    have h2 : (r != 0) = true := by simpa using h0
    clear hck hL hM hr hl hm
    go_enter Try.func13, Try.ntmps13
    go_wp2_with (go_at_call 30; refine Hc.out.mono ?_; rintro e w1 ⟨rfl, hb⟩; have H1 := Lib.hid hb; clear hb)
    go_ret2
    exact ⟨none, 0, rfl, Rows.nil' _, H1.out⟩
  rw [h0] at hck
  obtain ⟨hn0, hn64, _⟩ := chk_zero h0
  obtain ⟨n, rfl⟩ := Int.eq_ofNat_of_zero_le hn0
  have hg := chk_good h0
  have H0 := Lib.hid (And.intro hl (And.intro hm (And.intro hg (And.intro h0 hck))))
  have hml := hm.len
  clear hl hm hg h0 hck hn0
  obtain ⟨L, hL⟩ : ∃ L, L = l.length := ⟨_, rfl⟩
  rw [← hL] at H0 ⊢
  obtain ⟨M, hM⟩ : ∃ M, M = m.length := ⟨_, rfl⟩
  rw [← hM] at hml ⊢
  have HL := Lib.hid (And.intro hL hM)
  clear hL hM
  by_cases hmn : M = n
  case neg =>
    have hno : ¬ IsMat n m := fun h => hmn (by rw [HL.out.2]; exact h.1)
    rw [refineA_mat H0.out.2.2.2.1 hno]
    have h1 : ((M : Int) == n) = false := by simp; omega
    have h2 : ((M : Int) != n) = true := by simp; omega
    go_enter Try.func13, Try.ntmps13
    go_wp2_with (go_at_call 30; refine H0.out.2.2.2.2.mono ?_; rintro e w1 ⟨rfl, hb⟩; have H1 := Lib.hid hb; clear hb)
    go_ret2
    exact ⟨none, 0, rfl, Rows.nil' _, H1.out⟩
  subst hmn
  obtain ⟨D, hD⟩ : ∃ D, D = w.heap.size := ⟨_, rfl⟩
  rw [← hD]
  have HD := Lib.hid hD
  clear hD
  go_enter Try.func13, Try.ntmps13
  go_wp2_with (go_at_call 30; refine H0.out.2.2.2.2.mono ?_; rintro e w1 ⟨rfl, hb⟩; have H1 := Lib.hid hb; clear hb)
  go_loopw [9] (fun i wr => ∃ k : Nat, k ≤ M ∧ i = .int .i64 k ∧ wr = w1 ∧ ∀ j, j < k → (m[j]?.getD []).length = M) (fun i _ => M - (intOf i).toNat)
  case atStart => exact ⟨0, by omega, rfl, rfl, fun j hj => by omega⟩
  case round =>
    obtain ⟨k, hk, rfl, rfl, hall⟩ := hrel
    have Hall := Lib.hid hall
    clear hall
    by_cases hlt : k < M
    · obtain ⟨g, o, b, c, rfl, hc, hlen⟩ := (H0.out.2.1.below H1.out).rowlen (k := k) (by rw [← HL.out.2]; exact hlt)
      obtain ⟨q, hq⟩ : ∃ q, (m[k]?.getD []).length = q := ⟨_, rfl⟩
      rw [hq] at hc hlen
      have Hq := Lib.hid hq
      clear hq
      by_cases hqM : q = M
      · have Hq2 := Lib.hid (Hq.out.trans hqM)
        subst hqM
        go_wp2
        exact ⟨⟨k + 1, by omega, by go_num, by trivial, fun j hj => by
          by_cases e : j = k
          · rw [e]; exact Hq2.out
          · exact Hall.out j (by omega)⟩, by simp [intOf]; omega⟩
      · have h1 : ((q : Int) == M) = false := by simp; omega
        have h2 : ((q : Int) != M) = true := by simp; omega
        have hno : ¬ IsMat M m := fun h => hqM (by rw [← Hq.out]; exact h.row hlt)
        have Hno := Lib.hid hno
        clear hno
        go_wp2
        go_ret2
        rw [refineA_mat H0.out.2.2.2.1 Hno.out]
        exact ⟨none, 0, rfl, Rows.nil' _, by rw [HD.out]; exact H1.out⟩
    · have hmat : IsMat M m := ⟨HL.out.2.symm, fun r hr => by
        obtain ⟨j, hj⟩ := List.mem_iff_getElem?.1 hr
        have hjl := (List.getElem?_eq_some_iff.1 hj).1
        have := Hall.out j (by have := HL.out.2; omega)
        rw [hj] at this; exact this⟩
      have Hmat := Lib.hid hmat
      clear hmat
      have hD1 : D ≤ wr.heap.size := by rw [HD.out]; exact H1.out.size
      have HD1 := Lib.hid hD1
      clear hD1
      go_wp2
      go_loopg [1] (M + 1) (fun f v wr => ∃ (a : Option Addr) (c : Nat) (cur : List (List Int)) (f' : Nat), v = .slice a cur.length c ∧ Rows wr a cur ∧ Plain.Good M cur ∧ Below D w wr ∧ f = f' + 1 ∧ M ≤ f' + cur.length ∧ refineL M l m = refL M m f cur)
      case atStart => exact ⟨al, cl, l, M, by rw [HL.out.1], H0.out.1.below H1.out, H0.out.2.2.1, by rw [HD.out]; exact H1.out, rfl, by omega, rfl⟩
      case round =>
        obtain ⟨a, c, cur, f', rfl, hrows, hgood, hbl, rfl, hf, he⟩ := hrel
        have hm2 : Rows wr am m := H0.out.2.1.below (by rw [← HD.out]; exact hbl)
        have hrd := roundR_calls M a am c cm cur m wr hrows hm2 (by omega) hgood.inr Hmat.out
        have hDw : D ≤ wr.heap.size := by have := hbl.size; have := HD.out; omega
        obtain ⟨C, hC⟩ : ∃ C, C = cur.length := ⟨_, rfl⟩
        rw [← hC] at hrd ⊢
        obtain ⟨N, hN⟩ : ∃ N, N = (roundL M cur m).length := ⟨_, rfl⟩
        rw [← hN] at hrd
        have hgr := round_grows (m := m) hgood
        have hgd2 := (round_good M cur m).len_le
        rw [← hN] at hgr hgd2
        rw [← hC] at hgr hf
        have H := Lib.hid (And.intro hrd (And.intro hC (And.intro hN (And.intro hbl (And.intro hDw he)))))
        clear hrd hC hN hbl hDw he hm2 hrows hgood
        by_cases hNC : N = C
        · have h1 : ((N : Int) == C) = true := by simp; omega
          have Hf := Lib.hid hNC
          go_wp2_with (go_at_call 57; refine H.out.1.mono ?_; rintro e w3 ⟨a3, c3, rfl, hr3, hb3⟩; have H3 := Lib.hid (And.intro hr3 hb3); clear hr3 hb3)
          go_ret2
          have hfin : refineL M l m = roundL M cur m := by rw [H.out.2.2.2.2.2, refL_end (by rw [← H.out.2.2.1, ← H.out.2.1]; exact Hf.out)]
          rw [refineA_ok H0.out.2.2.2.1 Hmat.out]
          simp only [hfin]
          exact ⟨a3, c3, by rw [← H.out.2.2.1, hNC]; rfl, H3.out.1, H.out.2.2.2.1.trans (H3.out.2.mono H.out.2.2.2.2.1)⟩
        · have h1 : ((N : Int) == C) = false := by simp; omega
          go_wp2_with (go_at_call 57; refine H.out.1.mono ?_; rintro e w3 ⟨a3, c3, rfl, hr3, hb3⟩; have H3 := Lib.hid (And.intro hr3 hb3); clear hr3 hb3)
          go_roundg (f')
          case measure => omega
          case rel =>
            obtain ⟨f', rfl⟩ : ∃ f, f' = f + 1 := ⟨f' - 1, by omega⟩
            refine ⟨a3, c3, roundL M cur m, f', by rw [H.out.2.2.1], H3.out.1, round_good _ _ _, H.out.2.2.2.1.trans (H3.out.2.mono H.out.2.2.2.2.1), rfl, by rw [← H.out.2.2.1]; omega, ?_⟩
            rw [H.out.2.2.2.2.2, refL_next (by rw [← H.out.2.2.1, ← H.out.2.1]; exact hNC)]
end Go.Proofs.Ytlnikgcanimggaa
