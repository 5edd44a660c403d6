/- CellsEven answers true, and leaves what stood. -/
import Derived.Test.YtlnikgcanimggaaKitB
import Derived.Test.YtlnikgcanimggaaKitC
import Derived.Test.YtlnikgcanimggaaKitE
import Derived.Test.YtlnikgcanimggaaPlainPartN
import Derived.Test.YtlnikgcanimggaaPlainEven2
import Derived.Test.YtlnikgcanimggaaLawRefines
set_option linter.unusedSimpArgs false
set_option linter.unusedVariables false
namespace Go.Proofs.Ytlnikgcanimggaa
open Go.RowKit Plain

theorem refine_again {n : Nat} {m l : List (List Int)} (h : roundL n l m = l) : refineL n l m = l := by
  rw [refineL, refL, if_pos (by rw [h]), h]
theorem chk_goodA {n : Nat} {l : List (List Int)} (h : GoodA n l) (hn : n ≤ 64) : chk n l = 0 := h.chk hn

set_option maxRecDepth 100000 in
set_option maxHeartbeats 2000000 in
theorem cellsEven_calls (n : Int) (al am : Option Addr) (cl cm : Nat) (l m : List Int) (w : World) (hl : Ints w al l) (hm : Ints w am m) :
    Calls Try.prog 5 #[.int .i64 n, .slice al l.length cl, .slice am m.length cm] w fun e w' => e = .returned (.bool true) ∧ Below w.heap.size w w' := by
  have hbel := below_calls n 10 w (by omega)
  have hbr := bel_range (n := n) (k := 10) (by omega)
  obtain ⟨N, hN⟩ : ∃ N : Nat, bel n 10 = N := ⟨(bel n 10).toNat, by omega⟩
  rw [hN] at hbel hbr
  have hN10 : N ≤ 9 := by omega
  obtain ⟨P, hP⟩ : ∃ P, P = (partN N l).map (·.map Int.ofNat) := ⟨_, rfl⟩
  have hPg : GoodA N P := by rw [hP]; exact partN_goodA N l
  have hpart := fun (w1 : World) (h : Below w.heap.size w w1) => partition_calls N al cl l w1 (hl.below h) (by omega)
  rw [← hP] at hpart
  obtain ⟨P2, hP2⟩ : ∃ P, P = (partN N m).map (·.map Int.ofNat) := ⟨_, rfl⟩
  have hP2g : GoodA N P2 := by rw [hP2]; exact partN_goodA N m
  have hpart2 := fun (w1 : World) (h : Below w.heap.size w w1) => partition_calls N am cm m w1 (hm.below h) (by omega)
  rw [← hP2] at hpart2
  have Hp := Lib.hid hpart
  have Hp2 := Lib.hid hpart2
  have Hs := Lib.hid (fun (w1 : World) (h : Below w.heap.size w w1) => square_calls N al cl l w1 (hl.below h) (by omega))
  have Hb := Lib.hid hbel
  have Haw := Lib.hid awake_calls
  have HPg := Lib.hid (And.intro hPg hP2g)
  obtain ⟨L, hL⟩ : ∃ L, L = l.length := ⟨_, rfl⟩
  obtain ⟨M, hM⟩ : ∃ L, L = m.length := ⟨_, rfl⟩
  rw [← hL] at Hp Hs ⊢
  rw [← hM] at Hp2 ⊢
  clear hbel hbr hN hP hPg hpart hL hM hl hm hP2 hP2g hpart2
  go_enter Try.func5, Try.ntmps5
  go_wp2_with fail
  refine Hb.out.mono ?_
  rintro e w1 ⟨rfl, hw⟩
  replace hw := hw.symm
  subst hw
  go_wp2_with fail
  refine (Hp.out w (Below.refl _ _)).mono ?_
  rintro e w2 ⟨a1, c1, rfl, hr1, hb1⟩
  have H1 := Lib.hid (And.intro hr1 hb1)
  clear hr1 hb1
  go_wp2_with fail
  refine (Hs.out w2 H1.out.2).mono ?_
  rintro e w3 ⟨a2, c2, f, rfl, hr2, hf, hb2⟩
  have H2 := Lib.hid (And.intro (H1.out.1.below hb2) (And.intro hr2 (And.intro (H1.out.2.trans (hb2.mono H1.out.2.size)) hf)))
  clear hr2 hb2 H1 hf
  -- the first refining
  have hmf := (matF_isMat N f).1
  have hA : GoodA N (refineL N P (matF N f)) := refL_goodA HPg.out.1
  have hst : roundL N (refineL N P (matF N f)) (matF N f) = refineL N P (matF N f) := refL_stable HPg.out.1 (by omega)
  have hfin : ∀ v u, v < N → u < N → lab N (refineL N P (matF N f)) v = lab N (refineL N P (matF N f)) u → lab N P v = lab N P u := fun v u hv hu h => refL_finer hv hu h
  have hcr := fun w a1 c1 a2 c2 h1 h2 => refine_calls N a1 a2 c1 c2 P (matF N f) w h1 h2
  rw [refineA_ok (chk_goodA HPg.out.1 (by omega)) (matF_isMat N f), hmf] at hcr
  obtain ⟨A, hAe⟩ : ∃ A, refineL N P (matF N f) = A := ⟨_, rfl⟩
  simp only [hAe] at hcr hA hst hfin
  have hcr2 := fun w a1 c1 a2 c2 h1 h2 => refine_calls N a1 a2 c1 c2 A (matF N f) w h1 h2
  rw [refineA_ok (chk_goodA hA (by omega)) (matF_isMat N f), hmf, refine_again hst] at hcr2
  have hchA := chk_goodA hA (by omega)
  have hchP := chk_goodA HPg.out.1 (by omega)
  have hchP2 := chk_goodA HPg.out.2 (by omega)
  have h00 : orL [(0 : Int), 0] = 0 := by simp [orL]
  have hfi := fun w a1 c1 a2 c2 h1 h2 => finer_calls (N : Int) a1 a2 c1 c2 A P w h1 h2
  simp only [hchA, hchP, h00] at hfi
  have hone := oneLabel_of hA.good hfin
  rw [show ((N : Int)).toNat = N by omega] at hfi
  have hins := fun w a1 c1 h1 => inside_calls N a1 c1 A w h1 hA.good.inr
  have heq := fun w a1 c1 a2 c2 h1 h2 => equitable_calls N a1 a2 c1 c2 A (matF N f) w h1 h2 (matF_isMat N f) hA.good.inr
  have hsa := fun w a1 c1 a2 c2 h1 h2 => sameCells_calls a1 a2 c1 c2 A A w h1 h2
  simp only [decide_eq_true rfl] at hsa
  have hme := fun w a1 c1 a2 c2 h1 h2 => meet_calls N a1 a2 c1 c2 P P2 w h1 h2 hchP hchP2
  have hfi2 := fun (C : List (List Int)) w a1 c1 a2 c2 h1 h2 => finer_calls (N : Int) a1 a2 c1 c2 C A w h1 h2
  rw [show ((N : Int)).toNat = N by omega] at hfi2
  have heq2 := fun (C : List (List Int)) hin w a1 c1 a2 c2 h1 h2 => equitable_calls N a1 a2 c1 c2 C (matF N f) w h1 h2 (matF_isMat N f) hin
  have HA := Lib.hid (And.intro hA (And.intro (stable_equit hA.good hst) (And.intro hone (And.intro hAe hchA))))
  obtain ⟨PL, hPL⟩ : ∃ PL, PL = P.length := ⟨_, rfl⟩
  obtain ⟨QL, hQL⟩ : ∃ PL, PL = P2.length := ⟨_, rfl⟩
  obtain ⟨AL, hAL⟩ : ∃ PL, PL = A.length := ⟨_, rfl⟩
  simp only [← hPL, ← hAL, ← hQL] at hcr hcr2 hfi hins heq hsa hme hfi2
  rw [← hPL]
  have Hcr := Lib.hid hcr
  have Hcr2 := Lib.hid hcr2
  have Hfi := Lib.hid hfi
  have Hins := Lib.hid hins
  have Heq := Lib.hid heq
  have Hsa := Lib.hid hsa
  have Hme := Lib.hid hme
  have Hfi2 := Lib.hid hfi2
  have Heq2 := Lib.hid heq2
  have HL := Lib.hid (And.intro hPL (And.intro hAL hQL))
  clear hcr hcr2 hfi hins heq hsa hme hfi2 heq2 hPL hAL hQL hA hst hfin hone hAe hchA hchP hchP2 h00 hmf
  go_wp2_with fail
  refine (Hcr.out w3 a1 c1 a2 c2 H2.out.1 H2.out.2.1).mono ?_
  rintro e w4 ⟨a4, c4, rfl, hr4, hb4⟩
  have H4 := Lib.hid (And.intro (H2.out.1.below hb4) (And.intro (H2.out.2.1.below hb4) (And.intro (H2.out.2.2.1.trans (hb4.mono H2.out.2.2.1.size)) (And.intro H2.out.2.2.2 hr4))))
  clear hr4 hb4 H2 Hcr
  try simp only [← HL.out.2.1]
  go_wp2_with fail
  refine (Hcr2.out w4 a4 c4 a2 c2 H4.out.2.2.2.2 H4.out.2.1).mono ?_
  rintro e w5 ⟨a5, c5, rfl, hr5, hb5⟩
  have H5 := Lib.hid (And.intro (H4.out.1.below hb5) (And.intro (H4.out.2.1.below hb5) (And.intro (H4.out.2.2.1.trans (hb5.mono H4.out.2.2.1.size)) (And.intro H4.out.2.2.2.1 (And.intro (H4.out.2.2.2.2.below hb5) hr5)))))
  clear hr5 hb5 H4 Hcr2
  try simp only [← HL.out.2.1]
  go_wp2_with fail
  refine (Hfi.out w5 a4 c4 a1 c1 H5.out.2.2.2.2.1 H5.out.1).mono ?_
  rintro e w6 ⟨r, rfl, -, hr, hb6⟩
  have hrt : r = true := (hr trivial).2 HA.out.2.2.1
  subst hrt
  have H6 := Lib.hid (And.intro (H5.out.1.below hb6) (And.intro (H5.out.2.1.below hb6) (And.intro (H5.out.2.2.1.trans (hb6.mono H5.out.2.2.1.size)) (And.intro H5.out.2.2.2.1 (And.intro (H5.out.2.2.2.2.1.below hb6) (H5.out.2.2.2.2.2.below hb6))))))
  clear hr hb6 H5 Hfi
  go_wp2_with fail
  refine (Hins.out w6 a4 c4 H6.out.2.2.2.2.1).mono ?_
  rintro e w7 ⟨rfl, hw⟩
  replace hw := hw.symm
  subst hw
  go_wp2_with fail
  refine (Heq.out w6 a4 c4 a2 c2 H6.out.2.2.2.2.1 H6.out.2.1).mono ?_
  rintro e w7 ⟨b, rfl, hbi, q, rfl⟩
  have hbt : b = true := hbi.2 HA.out.2.1
  subst hbt
  clear hbi
  go_wp2_with fail
  refine (Hsa.out (w6.drewN q) a4 c4 a5 c5 (H6.out.2.2.2.2.1.drewN q) (H6.out.2.2.2.2.2.drewN q)).mono ?_
  rintro e w7 ⟨rfl, q2, rfl⟩
  obtain ⟨w7, hw7⟩ : ∃ x, x = (w6.drewN q).drewN q2 := ⟨_, rfl⟩
  rw [← hw7]
  have H7 : Rows w7 a1 P ∧ Rows w7 a2 (matF N f) ∧ Below w.heap.size w w7 ∧ (∀ i k, 0 ≤ f i k ∧ f i k ≤ 2) ∧ Rows w7 a4 A := by
    rw [hw7]
    exact ⟨(H6.out.1.drewN q).drewN q2, (H6.out.2.1.drewN q).drewN q2, below_drewN (below_drewN H6.out.2.2.1 q) q2, H6.out.2.2.2.1, (H6.out.2.2.2.2.1.drewN q).drewN q2⟩
  have H7 := Lib.hid H7
  clear hw7 H6 Hsa
  go_wp2_with fail
  refine (Hp2.out w7 H7.out.2.2.1).mono ?_
  rintro e w8 ⟨a8, c8, rfl, hr8, hb8⟩
  have H8 := Lib.hid (And.intro (H7.out.1.below hb8) (And.intro (H7.out.2.1.below hb8) (And.intro (H7.out.2.2.1.trans (hb8.mono H7.out.2.2.1.size)) (And.intro H7.out.2.2.2.1 (And.intro (H7.out.2.2.2.2.below hb8) hr8)))))
  clear hr8 hb8 H7
  try simp only [← HL.out.2.2]
  go_wp2_with fail
  refine (Hme.out w8 a1 c1 a8 c8 H8.out.1 H8.out.2.2.2.2.2).mono ?_
  rintro e w9 ⟨a9, c9, Q, rfl, hr9, hq9, hb9⟩
  obtain ⟨C, hC⟩ : ∃ C, Q.map (·.map Int.ofNat) = C := ⟨_, rfl⟩
  have hCg : GoodA N C := by rw [← hC]; exact part_goodA hq9
  have hCf : ∀ v u, v < N → u < N → lab N C v = lab N C u → lab N P v = lab N P u := by
    intro v u hv hu h
    rw [← hC] at h
    have := part_lab hq9 hv hu h
    simp only [List.cons.injEq] at this
    exact this.1
  rw [hC] at hr9 ⊢
  have H9 := Lib.hid (And.intro (H8.out.2.1.below hb9) (And.intro (H8.out.2.2.1.trans (hb9.mono H8.out.2.2.1.size)) (And.intro H8.out.2.2.2.1 (And.intro (H8.out.2.2.2.2.1.below hb9) (And.intro hr9 (And.intro hCg hCf))))))
  have Hin := Lib.hid (inside_calls N a9 c9 C w9 hr9 hCg.good.inr)
  have He := Lib.hid (Heq2.out C hCg.good.inr w9 a9 c9 a2 c2 hr9 H9.out.1)
  have hfi := Hfi2.out C
  simp only [chk_goodA hCg (by omega), HA.out.2.2.2.2, show orL [(0 : Int), 0] = 0 by simp [orL]] at hfi
  have Hf := Lib.hid hfi
  obtain ⟨CL, hCL⟩ : ∃ CL, CL = C.length := ⟨_, rfl⟩
  simp only [← hCL] at Hin He Hf ⊢
  clear hr9 hq9 hb9 H8 hC hCg hCf hfi hCL Hme Hfi2 Heq2
  go_wp2_with fail
  refine Hin.out.mono ?_
  rintro e w10 ⟨rfl, hw⟩
  replace hw := hw.symm
  subst hw
  go_wp2_with fail
  refine He.out.mono ?_
  rintro e w10 ⟨b, rfl, hbi, q, rfl⟩
  cases b with
  | true =>
    have hE := hbi.1 rfl
    have hco := oneLabel_of (l := A) H9.out.2.2.2.2.2.1.good (fun v u hv hu h => by
      have := equit_refL (f := N + 1) (l := P) H9.out.2.2.2.2.2.1.good (fun i k hi hk => by rw [matF_mat hi hk]; exact H9.out.2.2.1 i k) hE H9.out.2.2.2.2.2.2 hv hu h
      rw [← HA.out.2.2.2.1]
      exact this)
    have Hco := Lib.hid hco
    clear hbi hE hco
    go_wp2_with fail
    refine (Hf.out (w9.drewN q) a9 c9 a4 c4 (H9.out.2.2.2.2.1.drewN q) (H9.out.2.2.2.1.drewN q)).mono ?_
    rintro e w11 ⟨r, rfl, -, hr, hb11⟩
    have hrt : r = true := (hr trivial).2 Hco.out
    subst hrt
    have H11 := Lib.hid ((below_drewN H9.out.2.1 q).trans (hb11.mono H9.out.2.1.size))
    clear hr hb11
    go_wp2_with fail
    refine (Haw.out _).mono ?_
    rintro e w12 ⟨rfl, hb⟩
    have H12 := Lib.hid (H11.out.trans (hb.mono H11.out.size))
    clear hb
    go_wp2
    go_ret
    exact ⟨rfl, H12.out⟩
  | false =>
    clear hbi
    go_wp2_with fail
    refine (Haw.out _).mono ?_
    rintro e w12 ⟨rfl, hb⟩
    have H12 := Lib.hid ((below_drewN H9.out.2.1 q).trans (hb.mono H9.out.2.1.size))
    clear hb
    go_wp2
    go_ret
    exact ⟨rfl, H12.out⟩
end Go.Proofs.Ytlnikgcanimggaa
