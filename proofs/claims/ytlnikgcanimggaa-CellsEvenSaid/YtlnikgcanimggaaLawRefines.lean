/- CellsRefines answers true, and leaves what stood. -/
import Derived.Test.YtlnikgcanimggaaAwake
set_option linter.unusedSimpArgs false
set_option linter.unusedVariables false
namespace Go.Proofs.Ytlnikgcanimggaa
open Go.RowKit Plain

set_option maxRecDepth 100000 in
set_option maxHeartbeats 2000000 in
theorem cellsRefines_calls (n : Int) (al am : Option Addr) (cl cm : Nat) (l m : List (List Int)) (w : World) (hl : Rows w al l) (hm : Rows w am m) :
    Calls Try.prog 3 #[.int .i64 n, .slice al l.length cl, .slice am m.length cm] w fun e w' => e = .returned (.bool true) ∧ Below w.heap.size w w' := by
  have Hlg := Lib.hid (large_calls al am cl cm l m w hl hm)
  have Haw := Lib.hid (awake_calls)
  have Hre := Lib.hid (refine_calls n al am cl cm l m w hl hm)
  have Hrr := Lib.hid (fun (w1 : World) (h : Below w.heap.size w w1) => refineR_calls n al am cl cm l m w1 (hl.below h) (hm.below h))
  have hlx := hl.len
  have hmx := hm.len
  obtain ⟨A, hA⟩ : ∃ A, (refineA n l m).1 = A := ⟨_, rfl⟩
  obtain ⟨E, hE⟩ : ∃ A, (refineA n l m).2 = A := ⟨_, rfl⟩
  rw [hA, hE] at Hre
  simp only [hA, hE] at Hrr
  obtain ⟨L, hL⟩ : ∃ L, L = l.length := ⟨_, rfl⟩
  obtain ⟨M, hM⟩ : ∃ L, L = m.length := ⟨_, rfl⟩
  rw [← hL] at Hlg Hre Hrr hlx ⊢
  rw [← hM] at Hlg Hre Hrr hmx ⊢
  clear hA hE hL hM hl hm
  by_cases h1 : 24 < L
  · have h1' : decide (24 < (L : Int)) = true := by simp; omega
    go_enter Try.func3, Try.ntmps3
    go_wp2_with (go_at_call 11; refine (Haw.out _).mono ?_; rintro e w1 ⟨rfl, hb⟩; have H1 := Lib.hid hb; clear hb)
    go_ret
    exact ⟨rfl, H1.out⟩
  have h1' : decide (24 < (L : Int)) = false := by simp; omega
  by_cases h2 : 24 < M
  · have h2' : decide (24 < (M : Int)) = true := by simp; omega
    go_enter Try.func3, Try.ntmps3
    go_wp2_with (go_at_call 11; refine (Haw.out _).mono ?_; rintro e w1 ⟨rfl, hb⟩; have H1 := Lib.hid hb; clear hb)
    go_ret
    exact ⟨rfl, H1.out⟩
  have h2' : decide (24 < (M : Int)) = false := by simp; omega
  go_enter Try.func3, Try.ntmps3
  go_wp2_with fail
  refine Hlg.out.mono ?_
  rintro e w1 ⟨⟨z, rfl⟩, hw⟩
  replace hw := hw.symm
  subst hw
  cases z with
  | true =>
    go_wp2_with (go_at_call 11; refine (Haw.out _).mono ?_; rintro e w1 ⟨rfl, hb⟩; have H1 := Lib.hid hb; clear hb)
    go_ret
    exact ⟨rfl, H1.out⟩
  | false =>
    by_cases h3 : 24 < n
    · have h3' : decide (24 < n) = true := by simpa using h3
      go_wp2_with (go_at_call 11; refine (Haw.out _).mono ?_; rintro e w1 ⟨rfl, hb⟩; have H1 := Lib.hid hb; clear hb)
      go_ret
      exact ⟨rfl, H1.out⟩
    · have h3' : decide (24 < n) = false := by simpa using h3
      go_wp2_with fail
      refine Hre.out.mono ?_
      rintro e w2 ⟨a2, c2, rfl, hr2, hb2⟩
      have H2 := Lib.hid (And.intro hr2 hb2)
      clear hr2 hb2
      go_wp2_with fail
      refine (Hrr.out w2 H2.out.2).mono ?_
      rintro e w3 ⟨a3, c3, rfl, hr3, hb3⟩
      have H3 := Lib.hid (And.intro (same_true a2 a3 c2 c3 A w3 (H2.out.1.below hb3) hr3) (H2.out.2.trans (hb3.mono H2.out.2.size)))
      clear hr3 hb3 H2
      obtain ⟨N, hN⟩ : ∃ N, N = A.length := ⟨_, rfl⟩
      rw [← hN] at H3 ⊢
      clear hN
      go_wp2_with fail
      refine H3.out.1.mono ?_
      rintro e w4 ⟨rfl, hb4⟩
      have H4 := Lib.hid (H3.out.2.trans (hb4.mono H3.out.2.size))
      clear hb4
      go_wp2_with (go_at_call 11; refine (Haw.out _).mono ?_; rintro e w5 ⟨rfl, hb⟩; have H5 := Lib.hid (H4.out.trans (hb.mono H4.out.size)); clear hb)
      go_ret
      exact ⟨rfl, H5.out⟩
end Go.Proofs.Ytlnikgcanimggaa
