/- CellsMoves answers true, and leaves what stood. -/
import Derived.Test.YtlnikgcanimggaaKitB
import Derived.Test.YtlnikgcanimggaaKitC
import Derived.Test.YtlnikgcanimggaaKitE
import Derived.Test.YtlnikgcanimggaaKitF
import Derived.Test.YtlnikgcanimggaaPlainPartN
import Derived.Test.YtlnikgcanimggaaLawRefines
set_option linter.unusedSimpArgs false
set_option linter.unusedVariables false
namespace Go.Proofs.Ytlnikgcanimggaa
open Go.RowKit Plain

set_option maxRecDepth 100000 in
set_option maxHeartbeats 2000000 in
theorem cellsMoves_calls (n : Int) (al am : Option Addr) (cl cm : Nat) (l m : List Int) (w : World) (hl : Ints w al l) (hm : Ints w am m) :
    Calls Try.prog 4 #[.int .i64 n, .slice al l.length cl, .slice am m.length cm] w fun e w' => e = .returned (.bool true) ∧ Below w.heap.size w w' := by
  have hbel := below_calls n 10 w (by omega)
  have hbr := bel_range (n := n) (k := 10) (by omega)
  obtain ⟨N, hN⟩ : ∃ N : Nat, bel n 10 = N := ⟨(bel n 10).toNat, by omega⟩
  rw [hN] at hbel hbr
  have hN10 : N ≤ 9 := by omega
  obtain ⟨P, hP⟩ : ∃ P, P = (partN N l).map (·.map Int.ofNat) := ⟨_, rfl⟩
  have hPg : GoodA N P := by rw [hP]; exact partN_goodA N l
  have hpart := fun (w1 : World) (h : Below w.heap.size w w1) => partition_calls N al cl l w1 (hl.below h) (by omega)
  rw [← hP] at hpart
  have Hp := Lib.hid hpart
  have Hs := Lib.hid (fun (w1 : World) (h : Below w.heap.size w w1) => square_calls N al cl l w1 (hl.below h) (by omega))
  have Hr := Lib.hid (fun (w1 : World) (h : Below w.heap.size w w1) => renaming_calls N am cm m w1 (hm.below h) (by omega))
  have Hb := Lib.hid hbel
  have Haw := Lib.hid awake_calls
  have HPg := Lib.hid hPg
  obtain ⟨L, hL⟩ : ∃ L, L = l.length := ⟨_, rfl⟩
  obtain ⟨M, hM⟩ : ∃ L, L = m.length := ⟨_, rfl⟩
  rw [← hL] at Hp Hs ⊢
  rw [← hM] at Hr ⊢
  clear hbel hbr hN hP hPg hpart hL hM hl hm
  go_enter Try.func4, Try.ntmps4
  go_wp2_with fail
  refine Hb.out.mono ?_
  rintro e w1 ⟨rfl, hw⟩
  replace hw := hw.symm
  subst hw
  go_wp2_with fail
  refine (Hp.out w (Below.refl _ _)).mono ?_
  rintro e w2 ⟨a1, c1, rfl, hr1, hb1⟩
  have H1 := Lib.hid (And.intro hr1 hb1)
  clear hr1 hb1
  go_wp2_with fail
  refine (Hs.out w2 H1.out.2).mono ?_
  rintro e w3 ⟨a2, c2, f, rfl, hr2, hf, hb2⟩
  have H2 := Lib.hid (And.intro (H1.out.1.below hb2) (And.intro hr2 (H1.out.2.trans (hb2.mono H1.out.2.size))))
  clear hr2 hb2 H1 hf
  go_wp2_with fail
  refine (Hr.out w3 H2.out.2.2).mono ?_
  rintro e w4 ⟨a3, c3, s, t, rfl, hpm, hr3, hb3⟩
  have H3 := Lib.hid (And.intro (H2.out.1.below hb3) (And.intro (H2.out.2.1.below hb3) (And.intro hr3 (And.intro (H2.out.2.2.trans (hb3.mono H2.out.2.2.size)) hpm))))
  clear hr3 hb3 H2 hpm
  have hre1 := refineA_ok (HPg.out.chk (by omega)) (matF_isMat N f)
  have hmf := (matF_isMat N f).1
  have hcr := refine_calls N a1 a2 c1 c2 P (matF N f) w4 H3.out.1 H3.out.2.1
  rw [hre1, hmf] at hcr
  have Hc := Lib.hid hcr
  have hA : GoodA N (refineL N P (matF N f)) := refL_goodA HPg.out
  obtain ⟨A, hAe⟩ : ∃ A, refineL N P (matF N f) = A := ⟨_, rfl⟩
  simp only [hAe] at Hc
  rw [hAe] at hA
  have HA := Lib.hid (And.intro hA hAe)
  obtain ⟨PL, hPL⟩ : ∃ PL, PL = P.length := ⟨_, rfl⟩
  rw [← hPL] at Hc ⊢
  have HPL := Lib.hid hPL
  clear hcr hre1 hmf hA hAe hPL
  go_wp2_with fail
  refine Hc.out.mono ?_
  rintro e w5 ⟨a4, c4, rfl, hr4, hb4⟩
  have H4 := Lib.hid (And.intro (H3.out.1.below hb4) (And.intro (H3.out.2.1.below hb4) (And.intro (H3.out.2.2.1.below hb4) (And.intro (H3.out.2.2.2.1.trans (hb4.mono H3.out.2.2.2.1.size)) (And.intro H3.out.2.2.2.2 hr4)))))
  clear hr4 hb4 H3 Hc
  have hren := renamed_calls N a1 a3 c1 c3 P (permL N s) w5 H4.out.1 H4.out.2.2.1 (permL_len N s) (by omega) HPg.out.good.inr (by have := HPg.out.good.len_le; omega) (fun c hc => by have := (GoodA.cell_len HPg.out) c hc; omega)
  rw [← HPL.out] at hren
  have Hren := Lib.hid hren
  clear hren
  obtain ⟨AL, hAL⟩ : ∃ AL, AL = A.length := ⟨_, rfl⟩
  rw [← hAL]
  have HAL := Lib.hid hAL
  clear hAL
  go_wp2_with fail
  refine Hren.out.mono ?_
  rintro e w6 ⟨a5, c5, rfl, hr5, hb5⟩
  have H5 := Lib.hid (And.intro (H4.out.2.1.below hb5) (And.intro (H4.out.2.2.1.below hb5) (And.intro (H4.out.2.2.2.1.trans (hb5.mono H4.out.2.2.2.1.size)) (And.intro H4.out.2.2.2.2.1 (And.intro (H4.out.2.2.2.2.2.below hb5) hr5)))))
  clear hr5 hb5 H4 Hren
  have Hmv := Lib.hid (moved_calls N a2 a3 c2 c3 (matF N f) s t H5.out.2.2.2.1 w6 H5.out.1 (matF_isMat N f) H5.out.2.1 (by omega))
  obtain ⟨RL, hRL⟩ : ∃ RL, RL = (renL N (permL N s) P).length := ⟨_, rfl⟩
  rw [← hRL]
  have HRL := Lib.hid hRL
  clear hRL
  go_wp2_with fail
  refine Hmv.out.mono ?_
  rintro e w7 ⟨a6, c6, g, rfl, hr6, hg, hb6⟩
  have H6 := Lib.hid (And.intro (H5.out.2.1.below hb6) (And.intro (H5.out.2.2.1.trans (hb6.mono H5.out.2.2.1.size)) (And.intro H5.out.2.2.2.1 (And.intro (H5.out.2.2.2.2.1.below hb6) (And.intro (H5.out.2.2.2.2.2.below hb6) (And.intro hr6 hg))))))
  clear hr6 hg hb6 H5 Hmv
  have hgood2 := renL_goodA H6.out.2.2.1 HPg.out.good
  have hre2 := refineA_ok (hgood2.chk (by omega)) (matF_isMat N g)
  have hmg := (matF_isMat N g).1
  have hcr := refine_calls N a5 a6 c5 c6 (renL N (permL N s) P) (matF N g) w7 H6.out.2.2.2.2.1 H6.out.2.2.2.2.2.1
  rw [hre2, hmg, ← HRL.out, ← ren_refine (m := matF N f) H6.out.2.2.1 (fun i k hi hk => by rw [matF_mat (H6.out.2.2.1.lt i hi) (H6.out.2.2.1.lt k hk), H6.out.2.2.2.2.2.2 i k hi hk]) HPg.out.good, HA.out.2] at hcr
  have Hc := Lib.hid hcr
  clear hgood2 hre2 hmg hcr
  go_wp2_with fail
  refine Hc.out.mono ?_
  rintro e w8 ⟨a7, c7, rfl, hr7, hb7⟩
  have H7 := Lib.hid (And.intro (H6.out.1.below hb7) (And.intro (H6.out.2.1.trans (hb7.mono H6.out.2.1.size)) (And.intro (H6.out.2.2.2.1.below hb7) hr7)))
  clear hr7 hb7 Hc H6
  have hins := inside_calls N a4 c4 A w8 H7.out.2.2.1 HA.out.1.good.inr
  rw [← HAL.out] at hins
  have Hi := Lib.hid hins
  have hren := renamed_calls N a4 a3 c4 c3 A (permL N s) w8 H7.out.2.2.1 H7.out.1 (permL_len N s) (by omega) HA.out.1.good.inr (by have := HA.out.1.good.len_le; omega) (fun c hc => by have := (GoodA.cell_len HA.out.1) c hc; omega)
  rw [← HAL.out] at hren
  have Hren := Lib.hid hren
  obtain ⟨BL, hBL⟩ : ∃ BL, BL = (renL N (permL N s) A).length := ⟨_, rfl⟩
  simp only [← hBL] at Hren ⊢
  have HBL := Lib.hid hBL
  clear hins hren hBL
  go_wp2_with fail
  refine Hi.out.mono ?_
  rintro e w9 ⟨rfl, hw⟩
  replace hw := hw.symm
  subst hw
  go_wp2_with fail
  refine Hren.out.mono ?_
  rintro e w9 ⟨a8, c8, rfl, hr8, hb8⟩
  have hsc := sameCells_calls a8 a7 c8 c7 (renL N (permL N s) A) (renL N (permL N s) A) w9 hr8 (H7.out.2.2.2.below hb8)
  rw [← HBL.out, decide_eq_true rfl] at hsc
  have H8 := Lib.hid (And.intro hsc (H7.out.2.1.trans (hb8.mono H7.out.2.1.size)))
  clear hr8 hb8 hsc
  go_wp2_with fail
  refine H8.out.1.mono ?_
  rintro e w10 ⟨rfl, q, rfl⟩
  go_wp2_with fail
  refine (Haw.out _).mono ?_
  rintro e w11 ⟨rfl, hb⟩
  have H9 := Lib.hid ((below_drewN H8.out.2 q).trans (hb.mono H8.out.2.size))
  clear hb
  go_wp2
  go_ret
  exact ⟨rfl, H9.out⟩
end Go.Proofs.Ytlnikgcanimggaa
