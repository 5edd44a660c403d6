/- CellsCalls answers true, and leaves what stood. -/
import Derived.Test.YtlnikgcanimggaaOfs
import Derived.Test.YtlnikgcanimggaaAwake
import Derived.Test.YtlnikgcanimggaaLarge
set_option linter.unusedSimpArgs false
set_option linter.unusedVariables false
namespace Go.Proofs.Ytlnikgcanimggaa
open Go.RowKit Plain

set_option maxRecDepth 100000 in
set_option maxHeartbeats 4000000 in
theorem cellsCalls_calls (n p : Int) (al ax ay : Option Addr) (cl cx cy : Nat) (l : List (List Int)) (xs ys : List Int) (w : World) (hl : Rows w al l) (hx : Ints w ax xs) (hy : Ints w ay ys) :
    Calls Try.prog 6 #[.int .i64 n, .slice al l.length cl, .slice ax xs.length cx, .slice ay ys.length cy, .int .i64 p] w fun e w' => e = .returned (.bool true) ∧ Below w.heap.size w w' := by
  have Hlg := Lib.hid (large_calls al none cl 0 l [] w hl Rows.empty)
  have Haw := Lib.hid awake_calls
  have Hof := Lib.hid (fun (w1 : World) (h : Below w.heap.size w w1) => ofE_calls ax cx xs w1 (hx.below h))
  have HofR := Lib.hid (fun (w1 : World) (h : Below w.heap.size w w1) => ofR_calls ax cx xs w1 (hx.below h))
  have Hla := Lib.hid (fun (w1 : World) (h : Below w.heap.size w w1) => labelsE_calls n al cl l w1 (hl.below h))
  have HlaR := Lib.hid (fun (w1 : World) (h : Below w.heap.size w w1) => labelsER_calls n al cl l w1 (hl.below h))
  have Hck := Lib.hid (fun (w1 : World) (h : Below w.heap.size w w1) => check_calls n al cl l w1 (hl.below h))
  have HckR := Lib.hid (fun (w1 : World) (h : Below w.heap.size w w1) => checkR_calls n al cl l w1 (hl.below h))
  have Hsp := Lib.hid (fun (w1 : World) (h : Below w.heap.size w w1) => split_calls n al ay cl cy l ys w1 (hl.below h) (hy.below h))
  have HspR := Lib.hid (fun (w1 : World) (h : Below w.heap.size w w1) => splitR_calls n al ay cl cy l ys w1 (hl.below h) (hy.below h))
  have Hsi := Lib.hid (fun (w1 : World) (h : Below w.heap.size w w1) => single_calls n al cl l p w1 (hl.below h))
  have HsiR := Lib.hid (fun (w1 : World) (h : Below w.heap.size w w1) => singleR_calls n al cl l p w1 (hl.below h))
  have Htg := Lib.hid (fun (w1 : World) (h : Below w.heap.size w w1) => target_calls n al cl l w1 (hl.below h))
  have HtgR := Lib.hid (fun (w1 : World) (h : Below w.heap.size w w1) => targetR_calls n al cl l w1 (hl.below h))
  have hmx := hx.len
  have hmy := hy.len
  obtain ⟨⟨OA, OE⟩, hO⟩ : ∃ A, ofA xs = A := ⟨_, rfl⟩
  obtain ⟨LA, hLA⟩ : ∃ A, labA n l = A := ⟨_, rfl⟩
  obtain ⟨LE, hLE⟩ : ∃ A, chk n l = A := ⟨_, rfl⟩
  obtain ⟨⟨SA, SE⟩, hS⟩ : ∃ A, splitA n l ys = A := ⟨_, rfl⟩
  obtain ⟨⟨UA, UE⟩, hU⟩ : ∃ A, splitA n l [p] = A := ⟨_, rfl⟩
  obtain ⟨T, hT⟩ : ∃ A, tgtA n l = A := ⟨_, rfl⟩
  simp only [hO] at Hof HofR
  simp only [hLA, hLE] at Hla HlaR
  simp only [hLE] at Hck HckR
  simp only [hS] at Hsp HspR
  simp only [hU] at Hsi HsiR
  simp only [hT, hLE] at Htg HtgR
  obtain ⟨L, hL⟩ : ∃ L, L = l.length := ⟨_, rfl⟩
  obtain ⟨X, hX⟩ : ∃ L, L = xs.length := ⟨_, rfl⟩
  obtain ⟨Y, hY⟩ : ∃ L, L = ys.length := ⟨_, rfl⟩
  simp only [← hL, ← hX, ← hY] at Hlg Hof HofR Hla HlaR Hck HckR Hsp HspR Hsi HsiR Htg HtgR hmx hmy ⊢
  simp only [List.length_nil] at Hlg
  clear hL hX hY hO hLA hLE hS hU hT hl hx hy
  go_enter Try.func6, Try.ntmps6
  go_wp2_with fail
  refine Hlg.out.mono ?_
  rintro e w1 ⟨⟨z, rfl⟩, hw⟩
  replace hw := hw.symm
  subst hw
  cases z with
  | true =>
    go_wp2_with (go_at_call 11; refine (Haw.out _).mono ?_; rintro e w1 ⟨rfl, hb⟩; have H1 := Lib.hid hb; clear hb)
    go_ret
    exact ⟨rfl, H1.out⟩
  | false =>
    by_cases h1 : 70 < X
    · have h1' : (70 : Int) < X := by omega
      go_wp2_with (go_at_call 11; refine (Haw.out _).mono ?_; rintro e w1 ⟨rfl, hb⟩; have H1 := Lib.hid hb; clear hb)
      go_ret
      exact ⟨rfl, H1.out⟩
    have h1' : decide ((70 : Int) < X) = false := decide_eq_false (by omega)
    by_cases h2 : 70 < Y
    · have h2' : (70 : Int) < Y := by omega
      go_wp2_with (go_at_call 11; refine (Haw.out _).mono ?_; rintro e w1 ⟨rfl, hb⟩; have H1 := Lib.hid hb; clear hb)
      go_ret
      exact ⟨rfl, H1.out⟩
    have h2' : decide ((70 : Int) < Y) = false := decide_eq_false (by omega)
    go_wp2_with fail
    refine (Hof.out w (Below.refl _ _)).mono ?_
    rintro e w1 ⟨a1, c1, rfl, hr1, hb1⟩
    have H1 := Lib.hid (And.intro hb1 hr1)
    clear hr1 hb1
    go_wp2_with fail
    refine (HofR.out w1 H1.out.1).mono ?_
    rintro e w2 ⟨a2, c2, rfl, hr2, hb2⟩
    have H2 := Lib.hid (And.intro (H1.out.1.trans (hb2.mono H1.out.1.size)) (And.intro (H1.out.2.below hb2) hr2))
    clear hr2 hb2 H1
    go_wp2_with fail
    refine (Hla.out w2 H2.out.1).mono ?_
    rintro e w3 ⟨a3, c3, rfl, hr3, hb3⟩
    have H3 := Lib.hid (And.intro (H2.out.1.trans (hb3.mono H2.out.1.size)) (And.intro (H2.out.2.1.below hb3) (And.intro (H2.out.2.2.below hb3) hr3)))
    clear hr3 hb3 H2
    go_wp2_with fail
    refine (HlaR.out w3 H3.out.1).mono ?_
    rintro e w4 ⟨a4, c4, rfl, hr4, hb4⟩
    have H4 := Lib.hid (And.intro (H3.out.1.trans (hb4.mono H3.out.1.size)) (And.intro (H3.out.2.1.below hb4) (And.intro (H3.out.2.2.1.below hb4) (And.intro (H3.out.2.2.2.below hb4) hr4))))
    clear hr4 hb4 H3
    go_wp2_with fail
    refine (Hck.out w4 H4.out.1).mono ?_
    rintro e w5 ⟨rfl, hb5⟩
    have H5 := Lib.hid (And.intro (H4.out.1.trans (hb5.mono H4.out.1.size)) (And.intro (H4.out.2.1.below hb5) (And.intro (H4.out.2.2.1.below hb5) (And.intro (H4.out.2.2.2.1.below hb5) (H4.out.2.2.2.2.below hb5)))))
    clear hb5 H4
    go_wp2_with fail
    refine (HckR.out w5 H5.out.1).mono ?_
    rintro e w6 ⟨rfl, hb6⟩
    have H6 := Lib.hid (And.intro (H5.out.1.trans (hb6.mono H5.out.1.size)) (And.intro (H5.out.2.1.below hb6) (And.intro (H5.out.2.2.1.below hb6) (And.intro (H5.out.2.2.2.1.below hb6) (H5.out.2.2.2.2.below hb6)))))
    clear hb6 H5
    have hsc := sameCells_calls a1 a2 c1 c2 OA OA w6 H6.out.2.1 H6.out.2.2.1
    rw [decide_eq_true rfl] at hsc
    have Hsc := Lib.hid hsc
    obtain ⟨OL, hOL⟩ : ∃ OL, OL = OA.length := ⟨_, rfl⟩
    rw [← hOL] at Hsc ⊢
    clear hsc hOL
    go_wp2_with fail
    refine Hsc.out.mono ?_
    rintro e w7 ⟨rfl, q, rfl⟩
    have hsi := sameInts_calls a3 a4 c3 c4 LA LA (w6.drewN q) (H6.out.2.2.2.1.drewN q) (H6.out.2.2.2.2.drewN q)
    rw [decide_eq_true rfl] at hsi
    have Hsi2 := Lib.hid hsi
    obtain ⟨LL, hLL⟩ : ∃ OL, OL = LA.length := ⟨_, rfl⟩
    rw [← hLL] at Hsi2 ⊢
    clear hsi hLL Hsc
    go_wp2_with fail
    refine Hsi2.out.mono ?_
    rintro e w7 ⟨rfl, q2, rfl⟩
    have H7 := Lib.hid (below_drewN (below_drewN H6.out.1 q) q2)
    obtain ⟨w7, hw7⟩ : ∃ x, x = (w6.drewN q).drewN q2 := ⟨_, rfl⟩
    rw [← hw7] at H7 ⊢
    clear hw7 H6 Hsi2
    go_wp2_with fail
    refine (Hsp.out w7 H7.out).mono ?_
    rintro e w8 ⟨a8, c8, rfl, hr8, hb8⟩
    have H8 := Lib.hid (And.intro (H7.out.trans (hb8.mono H7.out.size)) hr8)
    clear hr8 hb8 H7
    go_wp2_with fail
    refine (HspR.out w8 H8.out.1).mono ?_
    rintro e w9 ⟨a9, c9, rfl, hr9, hb9⟩
    have hsc := sameCells_calls a8 a9 c8 c9 SA SA w9 (H8.out.2.below hb9) hr9
    rw [decide_eq_true rfl] at hsc
    have H9 := Lib.hid (And.intro (H8.out.1.trans (hb9.mono H8.out.1.size)) hsc)
    obtain ⟨SL, hSL⟩ : ∃ OL, OL = SA.length := ⟨_, rfl⟩
    rw [← hSL] at H9 ⊢
    clear hr9 hb9 H8 hsc hSL
    go_wp2_with fail
    refine H9.out.2.mono ?_
    rintro e w10 ⟨rfl, q3, rfl⟩
    have H10 := Lib.hid (below_drewN H9.out.1 q3)
    obtain ⟨w10, hw10⟩ : ∃ x, x = w9.drewN q3 := ⟨_, rfl⟩
    rw [← hw10] at H10 ⊢
    clear hw10 H9
    go_wp2_with fail
    refine (Hsi.out w10 H10.out).mono ?_
    rintro e w11 ⟨a11, c11, rfl, hr11, hb11⟩
    have H11 := Lib.hid (And.intro (H10.out.trans (hb11.mono H10.out.size)) hr11)
    clear hr11 hb11 H10
    go_wp2_with fail
    refine (HsiR.out w11 H11.out.1).mono ?_
    rintro e w12 ⟨a12, c12, rfl, hr12, hb12⟩
    have H12 := Lib.hid (And.intro (H11.out.1.trans (hb12.mono H11.out.1.size)) (And.intro (H11.out.2.below hb12) hr12))
    clear hr12 hb12 H11
    go_wp2_with fail
    refine (Htg.out w12 H12.out.1).mono ?_
    rintro e w13 ⟨rfl, hb13⟩
    have H13 := Lib.hid (And.intro (H12.out.1.trans (hb13.mono H12.out.1.size)) (And.intro (H12.out.2.1.below hb13) (H12.out.2.2.below hb13)))
    clear hb13 H12
    go_wp2_with fail
    refine (HtgR.out w13 H13.out.1).mono ?_
    rintro e w14 ⟨rfl, hb14⟩
    have hsc := sameCells_calls a11 a12 c11 c12 UA UA w14 (H13.out.2.1.below hb14) (H13.out.2.2.below hb14)
    rw [decide_eq_true rfl] at hsc
    have H14 := Lib.hid (And.intro (H13.out.1.trans (hb14.mono H13.out.1.size)) hsc)
    obtain ⟨UL, hUL⟩ : ∃ OL, OL = UA.length := ⟨_, rfl⟩
    rw [← hUL] at H14 ⊢
    clear hb14 H13 hsc hUL
    go_wp2_with fail
    refine H14.out.2.mono ?_
    rintro e w15 ⟨rfl, q4, rfl⟩
    go_wp2_with fail
    refine (Haw.out _).mono ?_
    rintro e w16 ⟨rfl, hb⟩
    have H16 := Lib.hid ((below_drewN H14.out.1 q4).trans (hb.mono H14.out.1.size))
    clear hb
    go_wp2
    go_ret
    exact ⟨rfl, H16.out⟩
end Go.Proofs.Ytlnikgcanimggaa
