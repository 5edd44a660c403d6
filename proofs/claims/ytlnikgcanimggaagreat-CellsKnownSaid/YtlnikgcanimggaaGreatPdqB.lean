/- A sort by a comparison that may rewrite one block: the parting. · A sort by a comparison that may rewrite one block: the first look at a range that may lie in order. -/
import Derived.Test.YtlnikgcanimggaaGreatPdqA
set_option linter.unusedSimpArgs false
set_option linter.unusedVariables false
namespace Go.Proofs.YtlnikgcanimggaaGreat
open Go.RowKit Go.Sort Go.Shelf Plain
section
variable {w wr w' : World} {D F n blk c g : Nat} {cb : Array Value} {cf : Nat → Nat → Int} {Inv : World → Prop} {s : List Nat} {R : Nat → List Int}
set_option maxRecDepth 100000 in
set_option maxHeartbeats 8000000 in
theorem part_calls (K : Cmp n R g cb cf F Inv w) (hs : SortS w wr D F n blk c g cb Inv s) (a b p : Nat) (hap : a ≤ p) (hpb : p < b) (hab2 : a + 1 < b) (hb : b ≤ n) :
    Calls Tryz.prog 95 #[.slice (some ⟨blk, 0, none⟩) n c, .int .i64 (a : Int), .int .i64 (b : Int), .int .i64 (p : Int), .func (.func 57) #[] #[.pointer (some ⟨D, 0, none⟩)]] wr fun e w' => ∃ (m : Nat) (t : Bool) (s' : List Nat), e = .returned (.tuple #[.int .i64 m, .bool t]) ∧ Out s s' a b ∧ PartAt R s' a b m ∧ SortS w w' D F n blk c g cb Inv s' := by
  have hn := K.le
  have hab : a < b := by omega
  have H0 := Lib.hid (And.intro K hs)
  have Hst := Lib.hid K.ok.stable
  clear K hs
  have han : a < n := by omega
  have hpn : p < n := by omega
  have ha0 : (a : Int) < (n : Int) := by omega
  have hp0 : (p : Int) < (n : Int) := by omega
  have hb1 : (1 : Int) ≤ (b : Int) := by omega
  obtain ⟨j, hj⟩ : ∃ j, j = b - 1 := ⟨_, rfl⟩
  obtain ⟨i, hi⟩ : ∃ i, i = a + 1 := ⟨_, rfl⟩
  have ej : (b : Int) - 1 = (j : Int) := by omega
  have ei : (a : Int) + 1 = (i : Int) := by omega
  have hP0 : ∀ s1 : List Nat, PInv R s1 a b i j := fun s1 => by rw [hj, hi]; exact PInv.start hab2
  have hj64 : j ≤ 64 := by omega
  have HE := Lib.hid (And.intro ej (And.intro ei hP0))
  clear hj hi ej ei hP0
  go_enter Tryz.func95, Tryz.ntmps95
  have hc10 := H0.out.2.cell han
  have hc20 := H0.out.2.cell hpn
  have hf10 := H0.out.2.own.frozen a
  have hf20 := H0.out.2.own.frozen p
  have hsw0 := H0.out.2.swp Hst.out han hpn
  obtain ⟨x0, hx0⟩ : ∃ x, at' s a = x := ⟨_, rfl⟩
  obtain ⟨y0, hy0⟩ : ∃ x, at' s p = x := ⟨_, rfl⟩
  rw [hx0] at hc10 hsw0
  rw [hy0] at hc20 hsw0
  obtain ⟨u0, hc50⟩ := H0.out.2.cell2 han hpn (.int .i64 (y0 : Int))
  have HW0 := Lib.hid (hsw0.drewN Hst.out 1)
  clear hsw0 hx0 hy0 
  go_wp2
  go_region
  go_wp2
  rw [HE.out.1, HE.out.2.1]
  have hO1 := Lib.hid (Out.swp (Nat.le_refl a) hab hap hpb (show b ≤ s.length by rw [H0.out.2.len]; exact hb))
  obtain ⟨s1, hs1⟩ : ∃ s1, s1 = swp s a p := ⟨_, rfl⟩
  rw [← hs1] at hO1 HW0
  have HQ := Lib.hid (And.intro HW0.out (HE.out.2.2 s1))
  clear hs1 HW0 hc10 hc20 hf10 hf20 hc50 HE hp0 hpn
  obtain ⟨i0, hi0, hi00⟩ : ∃ i0, i0 ≤ i ∧ i ≤ i0 := ⟨i, Nat.le_refl _, Nat.le_refl _⟩
  obtain ⟨j0, hjj0, hjj00⟩ : ∃ j0, j ≤ j0 ∧ j0 ≤ j := ⟨j, Nat.le_refl _, Nat.le_refl _⟩
  go_loopw [12] (fun i wr => ∃ i' : Nat, i0 ≤ i' ∧ i = .int .i64 i' ∧ SortS w wr D F n blk c g cb Inv s1 ∧ PInv R s1 a b i' j) (fun i _ => b - (intOf i).toNat)
  case atStart => exact ⟨i, hi0, rfl, HQ.out⟩
  case round =>
    clear HQ hi0
    obtain ⟨i, hi0, rfl, hS, hP⟩ := hrel
    have hjb := hP.jb
    have hia := hP.ai
    have hij1 := hP.ij
    have hjn : j < n := by omega
    have han : a < n := by omega
    have hj64 : j ≤ 64 := by omega
    have hj0 : (j : Int) < (n : Int) := by omega
    have ha0 : (a : Int) < (n : Int) := by omega
    by_cases hij : i ≤ j
    · have hin : i < n := by omega
      have hi0 : (i : Int) < (n : Int) := by omega
      have hd : decide (i ≤ j) = true := decide_eq_true hij
      have HQ := Lib.hid hP
      clear hP
      have hc1A1 := hS.cell hin
      have hc2A1 := hS.cell han
      have hneA1 := hS.at_ne hin han (by omega)
      have hcallA1 := less_calls H0.out.1 (hS.drewN Hst.out 1) hin han
      obtain ⟨xA1, hxA1⟩ : ∃ x, at' s1 i = x := ⟨_, rfl⟩
      obtain ⟨yA1, hyA1⟩ : ∃ x, at' s1 a = x := ⟨_, rfl⟩
      rw [hxA1] at hc1A1 hcallA1 hneA1
      rw [hyA1] at hc2A1 hcallA1 hneA1
      have HxA1 := Lib.hid (And.intro hxA1 (And.intro hyA1 hneA1))
      have HcA1 := Lib.hid hcallA1
      clear hxA1 hyA1 hneA1 hcallA1 hS
      go_wp2
      go_still_tail 13, (by kernel_rfl)
      change wpList _ _ _ _ _ (World.drewN _ 1)
      go_wp2_with fail
      refine HcA1.out.mono ?_
      rintro eA1 wA1 ⟨rA1, rfl, hrA1, hSA1⟩
      clear hc1A1 hc2A1 HcA1
      by_cases hr0A1 : rA1 < 0
      · have hrtA1 : decide (rA1 < 0) = true := decide_eq_true hr0A1
        have hahA1 : Ahead R (at' s1 i) (at' s1 a) := by rw [HxA1.out.1, HxA1.out.2.1]; exact hrA1.1 hr0A1
        have HSA1 := Lib.hid (And.intro hSA1 hahA1)
        clear hSA1 hahA1 hrA1
        go_wp2
        exact ⟨⟨i + 1, by omega, by go_num, HSA1.out.1, HQ.out.up hij HSA1.out.2⟩, by simp [intOf]; omega⟩
      · have hrtA1 : decide (rA1 < 0) = false := decide_eq_false hr0A1
        have hahA1 : Ahead R (at' s1 a) (at' s1 i) := by
          rw [HxA1.out.1, HxA1.out.2.1]; exact not_ahead (fun h => hr0A1 (hrA1.2 h)) HxA1.out.2.2
        have HSA1 := Lib.hid (And.intro hSA1 hahA1)
        clear hSA1 hahA1 hrA1
        have HT := Lib.hid (And.intro HSA1.out.1 (And.intro HQ.out (fun (_ : i ≤ j) => HSA1.out.2)))
        clear HSA1 HxA1 hd hij hij1 hjb hjn hj0 hi0
        go_wp2
        go_loopw [13] (fun j wr => ∃ j' : Nat, j' ≤ 64 ∧ j' ≤ j0 ∧ j = .int .i64 j' ∧ SortS w wr D F n blk c g cb Inv s1 ∧ PInv R s1 a b i j' ∧ (i ≤ j' → Ahead R (at' s1 a) (at' s1 i))) (fun j _ => (intOf j).toNat)
        case atStart => exact ⟨j, by omega, hjj0, rfl, HT.out⟩
        case round =>
          clear HT HQ hjj0
          obtain ⟨j, hj64, hjj0, rfl, hS, hP, hai⟩ := hrel
          have hjb := hP.jb
          have hia := hP.ai
          have hij1 := hP.ij
          have hjn : j < n := by omega
          have han : a < n := by omega
          have hj0 : (j : Int) < (n : Int) := by omega
          have ha0 : (a : Int) < (n : Int) := by omega
          by_cases hij : i ≤ j
          · have hin : i < n := by omega
            have hi0 : (i : Int) < (n : Int) := by omega
            have hd : decide (i ≤ j) = true := decide_eq_true hij
            have hj1 : (1 : Int) ≤ (j : Int) := by omega
            have HP := Lib.hid (And.intro hP (hai hij))
            clear hP hai
            have hc1B1 := hS.cell hjn
            have hc2B1 := hS.cell han
            have hneB1 := hS.at_ne hjn han (by omega)
            have hcallB1 := less_calls H0.out.1 (hS.drewN Hst.out 1) hjn han
            obtain ⟨xB1, hxB1⟩ : ∃ x, at' s1 j = x := ⟨_, rfl⟩
            obtain ⟨yB1, hyB1⟩ : ∃ x, at' s1 a = x := ⟨_, rfl⟩
            rw [hxB1] at hc1B1 hcallB1 hneB1
            rw [hyB1] at hc2B1 hcallB1 hneB1
            have HxB1 := Lib.hid (And.intro hxB1 (And.intro hyB1 hneB1))
            have HcB1 := Lib.hid hcallB1
            clear hxB1 hyB1 hneB1 hcallB1 hS
            go_wp2
            go_still_tail 13, (by kernel_rfl)
            change wpList _ _ _ _ _ (World.drewN _ 1)
            go_wp2_with fail
            refine HcB1.out.mono ?_
            rintro eB1 wB1 ⟨rB1, rfl, hrB1, hSB1⟩
            clear hc1B1 hc2B1 HcB1
            by_cases hr0B1 : rB1 < 0
            · have hrtB1 : decide (rB1 < 0) = true := decide_eq_true hr0B1
              have hahB1 : Ahead R (at' s1 j) (at' s1 a) := by rw [HxB1.out.1, HxB1.out.2.1]; exact hrB1.1 hr0B1
              have HSB1 := Lib.hid (And.intro hSB1 hahB1)
              clear hSB1 hahB1 hrB1
              have hlt : i < j := by
                rcases Nat.lt_or_ge i j with h | h
                · exact h
                · exfalso
                  have e : i = j := by omega
                  have h1 := HP.out.2
                  rw [e] at h1
                  exact Ahead.irrefl _ (h1.trans HSB1.out.2)
              have hd2 : decide (j < i) = false := decide_eq_false (by omega)
              have hszB1 : b ≤ s1.length := by rw [HSB1.out.1.len]; exact hb
              have HN := Lib.hid (And.intro (hO1.out.trans (Out.swp (by omega : a ≤ i) (by omega : i < b) (by omega : a ≤ j) (by omega : j < b) hszB1)) (HP.out.1.swap hlt hszB1 HP.out.2 HSB1.out.2))
              go_wp2
              have hc1C1 := HSB1.out.1.cell hin
              have hc2C1 := HSB1.out.1.cell hjn
              have hf1C1 := HSB1.out.1.own.frozen i
              have hf2C1 := HSB1.out.1.own.frozen j
              have hswC1 := HSB1.out.1.swp Hst.out hin hjn
              obtain ⟨xC1, hxC1⟩ : ∃ x, at' s1 i = x := ⟨_, rfl⟩
              obtain ⟨yC1, hyC1⟩ : ∃ x, at' s1 j = x := ⟨_, rfl⟩
              rw [hxC1] at hc1C1 hswC1
              rw [hyC1] at hc2C1 hswC1
              obtain ⟨uC1, hc5C1⟩ := HSB1.out.1.cell2 hin hjn (.int .i64 (yC1 : Int))
              have HWC1 := Lib.hid (hswC1.drewN Hst.out 1)
              clear hswC1 hxC1 hyC1 
              go_wp2
              go_region
              have HR := Lib.hid (And.intro HWC1.out HN.out)
              clear HN HWC1 HSB1 HxB1 HP hc1C1 hc2C1 hf1C1 hf2C1 hc5C1 hrtB1 hd hd2
              go_wp2
              go_loopw [12, 13] (fun i j wr => ∃ (i' j' : Nat) (s2 : List Nat), j' ≤ 64 ∧ i = .int .i64 i' ∧ j = .int .i64 j' ∧ SortS w wr D F n blk c g cb Inv s2 ∧ Out s s2 a b ∧ PInv R s2 a b i' j') (fun i j _ => (intOf j - intOf i + 1).toNat)
              case atStart => exact ⟨i + 1, j - 1, swp s1 i j, by omega, by go_num, by rw [show (j : Int) - 1 = ((j - 1 : Nat) : Int) by omega], HR.out⟩
              case round =>
                clear HR
                obtain ⟨i, j, s2, hj64, rfl, rfl, hS, hO, hP⟩ := hrel
                have hO2 := Lib.hid hO
                have HQ := Lib.hid (And.intro hS hP)
                clear hS hO hP
                go_wp2
                obtain ⟨i0, hi0, hi00⟩ : ∃ i0, i0 ≤ i ∧ i ≤ i0 := ⟨i, Nat.le_refl _, Nat.le_refl _⟩
                obtain ⟨j0, hjj0, hjj00⟩ : ∃ j0, j ≤ j0 ∧ j0 ≤ j := ⟨j, Nat.le_refl _, Nat.le_refl _⟩
                go_loopw [12] (fun i wr => ∃ i' : Nat, i0 ≤ i' ∧ i = .int .i64 i' ∧ SortS w wr D F n blk c g cb Inv s2 ∧ PInv R s2 a b i' j) (fun i _ => b - (intOf i).toNat)
                case atStart => exact ⟨i, hi0, rfl, HQ.out⟩
                case round =>
                  clear HQ hi0
                  obtain ⟨i, hi0, rfl, hS, hP⟩ := hrel
                  have hjb := hP.jb
                  have hia := hP.ai
                  have hij1 := hP.ij
                  have hjn : j < n := by omega
                  have han : a < n := by omega
                  have hj64 : j ≤ 64 := by omega
                  have hj0 : (j : Int) < (n : Int) := by omega
                  have ha0 : (a : Int) < (n : Int) := by omega
                  by_cases hij : i ≤ j
                  · have hin : i < n := by omega
                    have hi0 : (i : Int) < (n : Int) := by omega
                    have hd : decide (i ≤ j) = true := decide_eq_true hij
                    have HQ := Lib.hid hP
                    clear hP
                    have hc1A2 := hS.cell hin
                    have hc2A2 := hS.cell han
                    have hneA2 := hS.at_ne hin han (by omega)
                    have hcallA2 := less_calls H0.out.1 (hS.drewN Hst.out 1) hin han
                    obtain ⟨xA2, hxA2⟩ : ∃ x, at' s2 i = x := ⟨_, rfl⟩
                    obtain ⟨yA2, hyA2⟩ : ∃ x, at' s2 a = x := ⟨_, rfl⟩
                    rw [hxA2] at hc1A2 hcallA2 hneA2
                    rw [hyA2] at hc2A2 hcallA2 hneA2
                    have HxA2 := Lib.hid (And.intro hxA2 (And.intro hyA2 hneA2))
                    have HcA2 := Lib.hid hcallA2
                    clear hxA2 hyA2 hneA2 hcallA2 hS
                    go_wp2
                    go_still_tail 13, (by kernel_rfl)
                    change wpList _ _ _ _ _ (World.drewN _ 1)
                    go_wp2_with fail
                    refine HcA2.out.mono ?_
                    rintro eA2 wA2 ⟨rA2, rfl, hrA2, hSA2⟩
                    clear hc1A2 hc2A2 HcA2
                    by_cases hr0A2 : rA2 < 0
                    · have hrtA2 : decide (rA2 < 0) = true := decide_eq_true hr0A2
                      have hahA2 : Ahead R (at' s2 i) (at' s2 a) := by rw [HxA2.out.1, HxA2.out.2.1]; exact hrA2.1 hr0A2
                      have HSA2 := Lib.hid (And.intro hSA2 hahA2)
                      clear hSA2 hahA2 hrA2
                      go_wp2
                      exact ⟨⟨i + 1, by omega, by go_num, HSA2.out.1, HQ.out.up hij HSA2.out.2⟩, by simp [intOf]; omega⟩
                    · have hrtA2 : decide (rA2 < 0) = false := decide_eq_false hr0A2
                      have hahA2 : Ahead R (at' s2 a) (at' s2 i) := by
                        rw [HxA2.out.1, HxA2.out.2.1]; exact not_ahead (fun h => hr0A2 (hrA2.2 h)) HxA2.out.2.2
                      have HSA2 := Lib.hid (And.intro hSA2 hahA2)
                      clear hSA2 hahA2 hrA2
                      have HT := Lib.hid (And.intro HSA2.out.1 (And.intro HQ.out (fun (_ : i ≤ j) => HSA2.out.2)))
                      clear HSA2 HxA2 hd hij hij1 hjb hjn hj0 hi0
                      go_wp2
                      go_loopw [13] (fun j wr => ∃ j' : Nat, j' ≤ 64 ∧ j' ≤ j0 ∧ j = .int .i64 j' ∧ SortS w wr D F n blk c g cb Inv s2 ∧ PInv R s2 a b i j' ∧ (i ≤ j' → Ahead R (at' s2 a) (at' s2 i))) (fun j _ => (intOf j).toNat)
                      case atStart => exact ⟨j, by omega, hjj0, rfl, HT.out⟩
                      case round =>
                        clear HT HQ hjj0
                        obtain ⟨j, hj64, hjj0, rfl, hS, hP, hai⟩ := hrel
                        have hjb := hP.jb
                        have hia := hP.ai
                        have hij1 := hP.ij
                        have hjn : j < n := by omega
                        have han : a < n := by omega
                        have hj0 : (j : Int) < (n : Int) := by omega
                        have ha0 : (a : Int) < (n : Int) := by omega
                        by_cases hij : i ≤ j
                        · have hin : i < n := by omega
                          have hi0 : (i : Int) < (n : Int) := by omega
                          have hd : decide (i ≤ j) = true := decide_eq_true hij
                          have hj1 : (1 : Int) ≤ (j : Int) := by omega
                          have HP := Lib.hid (And.intro hP (hai hij))
                          clear hP hai
                          have hc1B2 := hS.cell hjn
                          have hc2B2 := hS.cell han
                          have hneB2 := hS.at_ne hjn han (by omega)
                          have hcallB2 := less_calls H0.out.1 (hS.drewN Hst.out 1) hjn han
                          obtain ⟨xB2, hxB2⟩ : ∃ x, at' s2 j = x := ⟨_, rfl⟩
                          obtain ⟨yB2, hyB2⟩ : ∃ x, at' s2 a = x := ⟨_, rfl⟩
                          rw [hxB2] at hc1B2 hcallB2 hneB2
                          rw [hyB2] at hc2B2 hcallB2 hneB2
                          have HxB2 := Lib.hid (And.intro hxB2 (And.intro hyB2 hneB2))
                          have HcB2 := Lib.hid hcallB2
                          clear hxB2 hyB2 hneB2 hcallB2 hS
                          go_wp2
                          go_still_tail 13, (by kernel_rfl)
                          change wpList _ _ _ _ _ (World.drewN _ 1)
                          go_wp2_with fail
                          refine HcB2.out.mono ?_
                          rintro eB2 wB2 ⟨rB2, rfl, hrB2, hSB2⟩
                          clear hc1B2 hc2B2 HcB2
                          by_cases hr0B2 : rB2 < 0
                          · have hrtB2 : decide (rB2 < 0) = true := decide_eq_true hr0B2
                            have hahB2 : Ahead R (at' s2 j) (at' s2 a) := by rw [HxB2.out.1, HxB2.out.2.1]; exact hrB2.1 hr0B2
                            have HSB2 := Lib.hid (And.intro hSB2 hahB2)
                            clear hSB2 hahB2 hrB2
                            have hlt : i < j := by
                              rcases Nat.lt_or_ge i j with h | h
                              · exact h
                              · exfalso
                                have e : i = j := by omega
                                have h1 := HP.out.2
                                rw [e] at h1
                                exact Ahead.irrefl _ (h1.trans HSB2.out.2)
                            have hd2 : decide (j < i) = false := decide_eq_false (by omega)
                            have hszB2 : b ≤ s2.length := by rw [HSB2.out.1.len]; exact hb
                            have HN := Lib.hid (And.intro (hO2.out.trans (Out.swp (by omega : a ≤ i) (by omega : i < b) (by omega : a ≤ j) (by omega : j < b) hszB2)) (HP.out.1.swap hlt hszB2 HP.out.2 HSB2.out.2))
                            go_wp2
                            have hc1C2 := HSB2.out.1.cell hin
                            have hc2C2 := HSB2.out.1.cell hjn
                            have hf1C2 := HSB2.out.1.own.frozen i
                            have hf2C2 := HSB2.out.1.own.frozen j
                            have hswC2 := HSB2.out.1.swp Hst.out hin hjn
                            obtain ⟨xC2, hxC2⟩ : ∃ x, at' s2 i = x := ⟨_, rfl⟩
                            obtain ⟨yC2, hyC2⟩ : ∃ x, at' s2 j = x := ⟨_, rfl⟩
                            rw [hxC2] at hc1C2 hswC2
                            rw [hyC2] at hc2C2 hswC2
                            obtain ⟨uC2, hc5C2⟩ := HSB2.out.1.cell2 hin hjn (.int .i64 (yC2 : Int))
                            have HWC2 := Lib.hid (hswC2.drewN Hst.out 1)
                            clear hswC2 hxC2 hyC2 
                            go_wp2
                            go_region
                            have HR := Lib.hid (And.intro HWC2.out HN.out)
                            clear HN HWC2 HSB2 HxB2 HP hc1C2 hc2C2 hf1C2 hf2C2 hc5C2 hrtB2 hd hd2
                            go_wp2
                            exact ⟨⟨i + 1, j - 1, swp s2 i j, by omega, by go_num, by rw [show (j : Int) - 1 = ((j - 1 : Nat) : Int) by omega], HR.out⟩, by simp [intOf]; omega⟩
                          · have hrtB2 : decide (rB2 < 0) = false := decide_eq_false hr0B2
                            have hahB2 : Ahead R (at' s2 a) (at' s2 j) := by
                              rw [HxB2.out.1, HxB2.out.2.1]; exact not_ahead (fun h => hr0B2 (hrB2.2 h)) HxB2.out.2.2
                            have HSB2 := Lib.hid (And.intro hSB2 hahB2)
                            clear hSB2 hahB2 hrB2
                            go_wp2
                            exact ⟨⟨j - 1, by omega, by omega, by rw [show (j : Int) - 1 = ((j - 1 : Nat) : Int) by omega], HSB2.out.1, HP.out.1.down hij HSB2.out.2, fun _ => HP.out.2⟩, by simp [intOf]; omega⟩
                        · have hd : decide (i ≤ j) = false := decide_eq_false hij
                          have hd2 : decide (j < i) = true := decide_eq_true (by omega)
                          have HP := Lib.hid (And.intro hP hS)
                          clear hP hai hS
                          go_wp2
                          go_quiet (fail)
                          generalize hwq : World.drewN wr _ = w7
                          have HS7 := Lib.hid (show SortS w w7 D F n blk c g cb Inv s2 by rw [← hwq]; exact HP.out.2.drewN Hst.out _)
                          clear hwq
                          have hc1C2 := HS7.out.cell hjn
                          have hc2C2 := HS7.out.cell han
                          have hf1C2 := HS7.out.own.frozen j
                          have hf2C2 := HS7.out.own.frozen a
                          have hswC2 := HS7.out.swp Hst.out hjn han
                          obtain ⟨xC2, hxC2⟩ : ∃ x, at' s2 j = x := ⟨_, rfl⟩
                          obtain ⟨yC2, hyC2⟩ : ∃ x, at' s2 a = x := ⟨_, rfl⟩
                          rw [hxC2] at hc1C2 hswC2
                          rw [hyC2] at hc2C2 hswC2
                          obtain ⟨uC2, hc5C2⟩ := HS7.out.cell2 hjn han (.int .i64 (yC2 : Int))
                          have HWC2 := Lib.hid (hswC2.drewN Hst.out 1)
                          clear hswC2 hxC2 hyC2 
                          go_wp2
                          go_region
                          go_wp2
                          go_ret2
                          exact ⟨j, false, swp s2 j a, rfl, hO2.out.trans (Out.swp (by have := HP.out.1.ai; have := HP.out.1.ij; omega) (by omega) (Nat.le_refl a) hab (by rw [HS7.out.len]; exact hb)), HP.out.1.done (by omega) (by rw [HS7.out.len]; exact hb), HWC2.out⟩
                  · have hd : decide (i ≤ j) = false := decide_eq_false hij
                    have HQ := Lib.hid (And.intro hP hS)
                    clear hP hS
                    go_wp2
                    go_quiet (fail)
                    generalize hwq : World.drewN wr _ = w7
                    have HT := Lib.hid (And.intro (show SortS w w7 D F n blk c g cb Inv s2 by rw [← hwq]; exact HQ.out.2.drewN Hst.out _) HQ.out.1)
                    have hji : j < i := by omega
                    clear hwq hd hij1 hjb hjn hj0 hij
                    go_wp2
                    go_loopw [13] (fun j wr => ∃ j' : Nat, j' ≤ 64 ∧ j' < i ∧ j = .int .i64 j' ∧ SortS w wr D F n blk c g cb Inv s2 ∧ PInv R s2 a b i j') (fun j _ => (intOf j).toNat)
                    case atStart => exact ⟨j, by omega, hji, rfl, HT.out⟩
                    case round =>
                      clear HT HQ hji
                      obtain ⟨j, hj64, hji, rfl, hS, hP⟩ := hrel
                      have hjb := hP.jb
                      have hia := hP.ai
                      have hij1 := hP.ij
                      have hjn : j < n := by omega
                      have han : a < n := by omega
                      have hj0 : (j : Int) < (n : Int) := by omega
                      have ha0 : (a : Int) < (n : Int) := by omega
                      have hd : decide (i ≤ j) = false := decide_eq_false (by omega)
                      have hd2 : decide (j < i) = true := decide_eq_true (by omega)
                      have HP := Lib.hid (And.intro hP hS)
                      clear hP hS
                      go_wp2
                      go_quiet (fail)
                      generalize hwq : World.drewN wr _ = w7
                      have HS7 := Lib.hid (show SortS w w7 D F n blk c g cb Inv s2 by rw [← hwq]; exact HP.out.2.drewN Hst.out _)
                      clear hwq
                      have hc1C2 := HS7.out.cell hjn
                      have hc2C2 := HS7.out.cell han
                      have hf1C2 := HS7.out.own.frozen j
                      have hf2C2 := HS7.out.own.frozen a
                      have hswC2 := HS7.out.swp Hst.out hjn han
                      obtain ⟨xC2, hxC2⟩ : ∃ x, at' s2 j = x := ⟨_, rfl⟩
                      obtain ⟨yC2, hyC2⟩ : ∃ x, at' s2 a = x := ⟨_, rfl⟩
                      rw [hxC2] at hc1C2 hswC2
                      rw [hyC2] at hc2C2 hswC2
                      obtain ⟨uC2, hc5C2⟩ := HS7.out.cell2 hjn han (.int .i64 (yC2 : Int))
                      have HWC2 := Lib.hid (hswC2.drewN Hst.out 1)
                      clear hswC2 hxC2 hyC2 
                      go_wp2
                      go_region
                      go_wp2
                      go_ret2
                      exact ⟨j, false, swp s2 j a, rfl, hO2.out.trans (Out.swp (by have := HP.out.1.ai; have := HP.out.1.ij; omega) (by omega) (Nat.le_refl a) hab (by rw [HS7.out.len]; exact hb)), HP.out.1.done (by omega) (by rw [HS7.out.len]; exact hb), HWC2.out⟩
            · have hrtB1 : decide (rB1 < 0) = false := decide_eq_false hr0B1
              have hahB1 : Ahead R (at' s1 a) (at' s1 j) := by
                rw [HxB1.out.1, HxB1.out.2.1]; exact not_ahead (fun h => hr0B1 (hrB1.2 h)) HxB1.out.2.2
              have HSB1 := Lib.hid (And.intro hSB1 hahB1)
              clear hSB1 hahB1 hrB1
              go_wp2
              exact ⟨⟨j - 1, by omega, by omega, by rw [show (j : Int) - 1 = ((j - 1 : Nat) : Int) by omega], HSB1.out.1, HP.out.1.down hij HSB1.out.2, fun _ => HP.out.2⟩, by simp [intOf]; omega⟩
          · have hd : decide (i ≤ j) = false := decide_eq_false hij
            have hd2 : decide (j < i) = true := decide_eq_true (by omega)
            have HP := Lib.hid (And.intro hP hS)
            clear hP hai hS
            go_wp2
            go_quiet (fail)
            generalize hwq : World.drewN wr _ = w7
            have HS7 := Lib.hid (show SortS w w7 D F n blk c g cb Inv s1 by rw [← hwq]; exact HP.out.2.drewN Hst.out _)
            clear hwq
            have hc1C1 := HS7.out.cell hjn
            have hc2C1 := HS7.out.cell han
            have hf1C1 := HS7.out.own.frozen j
            have hf2C1 := HS7.out.own.frozen a
            have hswC1 := HS7.out.swp Hst.out hjn han
            obtain ⟨xC1, hxC1⟩ : ∃ x, at' s1 j = x := ⟨_, rfl⟩
            obtain ⟨yC1, hyC1⟩ : ∃ x, at' s1 a = x := ⟨_, rfl⟩
            rw [hxC1] at hc1C1 hswC1
            rw [hyC1] at hc2C1 hswC1
            obtain ⟨uC1, hc5C1⟩ := HS7.out.cell2 hjn han (.int .i64 (yC1 : Int))
            have HWC1 := Lib.hid (hswC1.drewN Hst.out 1)
            clear hswC1 hxC1 hyC1 
            go_wp2
            go_region
            go_wp2
            go_ret2
            exact ⟨j, true, swp s1 j a, rfl, hO1.out.trans (Out.swp (by have := HP.out.1.ai; have := HP.out.1.ij; omega) (by omega) (Nat.le_refl a) hab (by rw [HS7.out.len]; exact hb)), HP.out.1.done (by omega) (by rw [HS7.out.len]; exact hb), HWC1.out⟩
    · have hd : decide (i ≤ j) = false := decide_eq_false hij
      have HQ := Lib.hid (And.intro hP hS)
      clear hP hS
      go_wp2
      go_quiet (fail)
      generalize hwq : World.drewN wr _ = w7
      have HT := Lib.hid (And.intro (show SortS w w7 D F n blk c g cb Inv s1 by rw [← hwq]; exact HQ.out.2.drewN Hst.out _) HQ.out.1)
      have hji : j < i := by omega
      clear hwq hd hij1 hjb hjn hj0 hij
      go_wp2
      go_loopw [13] (fun j wr => ∃ j' : Nat, j' ≤ 64 ∧ j' < i ∧ j = .int .i64 j' ∧ SortS w wr D F n blk c g cb Inv s1 ∧ PInv R s1 a b i j') (fun j _ => (intOf j).toNat)
      case atStart => exact ⟨j, by omega, hji, rfl, HT.out⟩
      case round =>
        clear HT HQ hji
        obtain ⟨j, hj64, hji, rfl, hS, hP⟩ := hrel
        have hjb := hP.jb
        have hia := hP.ai
        have hij1 := hP.ij
        have hjn : j < n := by omega
        have han : a < n := by omega
        have hj0 : (j : Int) < (n : Int) := by omega
        have ha0 : (a : Int) < (n : Int) := by omega
        have hd : decide (i ≤ j) = false := decide_eq_false (by omega)
        have hd2 : decide (j < i) = true := decide_eq_true (by omega)
        have HP := Lib.hid (And.intro hP hS)
        clear hP hS
        go_wp2
        go_quiet (fail)
        generalize hwq : World.drewN wr _ = w7
        have HS7 := Lib.hid (show SortS w w7 D F n blk c g cb Inv s1 by rw [← hwq]; exact HP.out.2.drewN Hst.out _)
        clear hwq
        have hc1C1 := HS7.out.cell hjn
        have hc2C1 := HS7.out.cell han
        have hf1C1 := HS7.out.own.frozen j
        have hf2C1 := HS7.out.own.frozen a
        have hswC1 := HS7.out.swp Hst.out hjn han
        obtain ⟨xC1, hxC1⟩ : ∃ x, at' s1 j = x := ⟨_, rfl⟩
        obtain ⟨yC1, hyC1⟩ : ∃ x, at' s1 a = x := ⟨_, rfl⟩
        rw [hxC1] at hc1C1 hswC1
        rw [hyC1] at hc2C1 hswC1
        obtain ⟨uC1, hc5C1⟩ := HS7.out.cell2 hjn han (.int .i64 (yC1 : Int))
        have HWC1 := Lib.hid (hswC1.drewN Hst.out 1)
        clear hswC1 hxC1 hyC1 
        go_wp2
        go_region
        go_wp2
        go_ret2
        exact ⟨j, true, swp s1 j a, rfl, hO1.out.trans (Out.swp (by have := HP.out.1.ai; have := HP.out.1.ij; omega) (by omega) (Nat.le_refl a) hab (by rw [HS7.out.len]; exact hb)), HP.out.1.done (by omega) (by rw [HS7.out.len]; exact hb), HWC1.out⟩
end
end Go.Proofs.YtlnikgcanimggaaGreat

namespace Go.Proofs.YtlnikgcanimggaaGreat
open Go.RowKit Go.Sort Go.Shelf Plain
section
variable {w wr w' : World} {D F n blk c g : Nat} {cb : Array Value} {cf : Nat → Nat → Int} {Inv : World → Prop} {s : List Nat} {R : Nat → List Int}
set_option maxRecDepth 100000 in
set_option maxHeartbeats 8000000 in
theorem pins_calls (K : Cmp n R g cb cf F Inv w) (hs : SortS w wr D F n blk c g cb Inv s) (a b : Nat) (hab : a < b) (hb : b ≤ n) (hov : Over R s a b) :
    Calls Tryz.prog 93 #[.slice (some ⟨blk, 0, none⟩) n c, .int .i64 (a : Int), .int .i64 (b : Int), .func (.func 57) #[] #[.pointer (some ⟨D, 0, none⟩)]] wr fun e w' => ∃ (t : Bool) (s' : List Nat), e = .returned (.bool t) ∧ Out s s' a b ∧ (t = true → SrtIn R s' a b) ∧ SortS w w' D F n blk c g cb Inv s' := by
  have hn := K.le
  have hb64 : b ≤ 64 := by omega
  have H0 := Lib.hid (And.intro K hs)
  have Hst := Lib.hid K.ok.stable
  have HV := Lib.hid hov
  clear K hs hov
  go_enter Tryz.func93, Tryz.ntmps93
  go_wp2
  go_loopw [9, 10] (fun i j wr => ∃ (i' jj : Nat) (s1 : List Nat), a + 1 ≤ i' ∧ i' ≤ b ∧ jj ≤ 5 ∧ i = .int .i64 i' ∧ j = .int .i64 jj ∧ SortS w wr D F n blk c g cb Inv s1 ∧ Out s s1 a b ∧ SrtIn R s1 a i') (fun i j _ => 5 - (intOf j).toNat)
  case atStart => exact ⟨a + 1, 0, s, by omega, by omega, by omega, by go_num, rfl, H0.out.2, Out.refl _ _ _, SrtIn.one⟩
  case round =>
    obtain ⟨i, jj, s1, hai, hib, hjj5, rfl, rfl, hS, hO, hsr⟩ := hrel
    by_cases hjj : jj < 5
    · have hdj : decide ((jj : Int) < 5) = true := decide_eq_true (by omega)
      have HO := Lib.hid hO
      have HQ := Lib.hid (And.intro hS hsr)
      clear hS hO hsr
      go_wp2
      go_loopw [9] (fun i wr => ∃ i' : Nat, a + 1 ≤ i' ∧ i' ≤ b ∧ i = .int .i64 i' ∧ SortS w wr D F n blk c g cb Inv s1 ∧ SrtIn R s1 a i') (fun i _ => b - (intOf i).toNat)
      case atStart => exact ⟨i, hai, hib, rfl, HQ.out⟩
      case round =>
        clear HQ hai hib
        obtain ⟨i, hai, hib, rfl, hS, hsr⟩ := hrel
        by_cases hlt : i < b
        · have hd : decide (i < b) = true := decide_eq_true hlt
          have hin : i < n := by omega
          have hi0 : (i : Int) < (n : Int) := by omega
          have hi1 : (1 : Int) ≤ (i : Int) := by omega
          have HQ := Lib.hid hsr
          clear hsr
          obtain ⟨kI, hkI⟩ : ∃ k, k = i - 1 := ⟨_, rfl⟩
          have hklI : kI + 1 ≤ i := by omega
          have hkgI : i ≤ kI + 1 := by omega
          have hknI : kI < n := by omega
          have hk0I : (kI : Int) < (n : Int) := by omega
          have hwI : IntKind.i64.wrap ((i : Int) - 1) = (kI : Int) := by rw [show (i : Int) - 1 = (kI : Int) by omega]; exact IntWalk.i64_in _ (by omega)
          clear hkI
          have hc1I := hS.cell hin
          have hc2I := hS.cell hknI
          have hneI := hS.at_ne hin hknI (by omega)
          have hcallI := less_calls H0.out.1 (hS.drewN Hst.out 1) hin hknI
          obtain ⟨xI, hxI⟩ : ∃ x, at' s1 i = x := ⟨_, rfl⟩
          obtain ⟨yI, hyI⟩ : ∃ x, at' s1 kI = x := ⟨_, rfl⟩
          rw [hxI] at hc1I hcallI hneI
          rw [hyI] at hc2I hcallI hneI
          have HxI := Lib.hid (And.intro hxI (And.intro hyI hneI))
          have HcI := Lib.hid hcallI
          clear hxI hyI hneI hcallI hS
          go_wp2
          go_still_tail 14, (by kernel_rfl)
          change wpList _ _ _ _ _ (World.drewN _ 1)
          go_wp2_with fail
          refine HcI.out.mono ?_
          rintro eI wI ⟨rI, rfl, hrI, hSI⟩
          clear hc1I hc2I HcI
          by_cases hr0I : rI < 0
          · have hrtI : decide (rI < 0) = true := decide_eq_true hr0I
            have hahI : Ahead R (at' s1 i) (at' s1 kI) := by rw [HxI.out.1, HxI.out.2.1]; exact hrI.1 hr0I
            have HSI := Lib.hid (And.intro hSI hahI)
            clear hSI hahI hrI
            have hie : ((i : Int) == (b : Int)) = false := by simp; omega
            by_cases h50 : (b : Int) - (a : Int) < 50
            · have h50' : decide ((b : Int) - (a : Int) < 50) = true := decide_eq_true h50
              clear hwI
              go_wp2
              go_ret
              exact ⟨false, s1, rfl, HO.out, (fun h => by cases h), HSI.out.1⟩
            · have h50' : decide ((b : Int) - (a : Int) < 50) = false := decide_eq_false h50
              have hsz : b ≤ s1.length := by rw [HSI.out.1.len]; exact hb
              have hO2 : Out s (swp s1 i kI) a b := HO.out.trans (Out.swp (by omega : a ≤ i) (by omega : i < b) (by omega : a ≤ kI) (by omega : kI < b) hsz)
              have hs2 : SrtIn R (swp s1 i kI) a kI := (HQ.out.less (by omega : kI ≤ i)).out (Out.swp (by omega : kI ≤ i) (by omega : i < b) (Nat.le_refl kI) (by omega : kI < b) hsz)
              have HN := Lib.hid (And.intro hO2 hs2)
              clear hO2 hs2
              go_wp2
              have hc1V := HSI.out.1.cell hin
              have hc2V := HSI.out.1.cell hknI
              have hf1V := HSI.out.1.own.frozen i
              have hf2V := HSI.out.1.own.frozen kI
              have hswV := HSI.out.1.swp Hst.out hin hknI
              obtain ⟨xV, hxV⟩ : ∃ x, at' s1 i = x := ⟨_, rfl⟩
              obtain ⟨yV, hyV⟩ : ∃ x, at' s1 kI = x := ⟨_, rfl⟩
              rw [hxV] at hc1V hswV
              rw [hyV] at hc2V hswV
              obtain ⟨uV, hc5V⟩ := HSI.out.1.cell2 hin hknI (.int .i64 (yV : Int))
              have HWV := Lib.hid (hswV.drewN Hst.out 1)
              clear hswV hxV hyV 
              go_wp2
              go_region
              clear hc1V hc2V hf1V hf2V hc5V hwI hrtI h50'
              obtain ⟨s2, hs2⟩ : ∃ s2, s2 = swp s1 i kI := ⟨_, rfl⟩
              rw [← hs2] at HN HWV
              clear hs2 HSI HxI HO HQ
              by_cases hi2 : 2 ≤ (i : Int) - (a : Int)
              · have hi2' : decide (2 ≤ (i : Int) - (a : Int)) = true := decide_eq_true hi2
                go_wp2
                go_loopw [11] (fun j wr => ∃ (j' : Nat) (s3 : List Nat), a ≤ j' ∧ j' ≤ kI ∧ j = .int .i64 j' ∧ SortS w wr D F n blk c g cb Inv s3 ∧ Out s s3 a b ∧ SrtX R s3 a kI j') (fun j _ => (intOf j).toNat)
                case atStart => exact ⟨kI, s2, by omega, by omega, by rw [show (i : Int) - 1 = (kI : Int) by omega], HWV.out, HN.out.1, SrtX.start HN.out.2⟩
                case round =>
                  clear HN HWV
                  obtain ⟨j, s3, haj, hjk, rfl, hS, hO, hsr⟩ := hrel
                  by_cases hj1 : 1 ≤ j
                  · have hjI : decide (1 ≤ (j : Int)) = true := decide_eq_true (by omega)
                    have hjJ : (1 : Int) ≤ (j : Int) := by omega
                    have hjn : j < n := by omega
                    have hj0 : (j : Int) < (n : Int) := by omega
                    have HO := Lib.hid (And.intro hO hsr)
                    clear hO hsr
                    obtain ⟨kJ, hkJ⟩ : ∃ k, k = j - 1 := ⟨_, rfl⟩
                    have hklJ : kJ + 1 ≤ j := by omega
                    have hkgJ : j ≤ kJ + 1 := by omega
                    have hknJ : kJ < n := by omega
                    have hk0J : (kJ : Int) < (n : Int) := by omega
                    have hwJ : IntKind.i64.wrap ((j : Int) - 1) = (kJ : Int) := by rw [show (j : Int) - 1 = (kJ : Int) by omega]; exact IntWalk.i64_in _ (by omega)
                    clear hkJ
                    have hc1J := hS.cell hjn
                    have hc2J := hS.cell hknJ
                    have hneJ := hS.at_ne hjn hknJ (by omega)
                    have hcallJ := less_calls H0.out.1 (hS.drewN Hst.out 1) hjn hknJ
                    obtain ⟨xJ, hxJ⟩ : ∃ x, at' s3 j = x := ⟨_, rfl⟩
                    obtain ⟨yJ, hyJ⟩ : ∃ x, at' s3 kJ = x := ⟨_, rfl⟩
                    rw [hxJ] at hc1J hcallJ hneJ
                    rw [hyJ] at hc2J hcallJ hneJ
                    have HxJ := Lib.hid (And.intro hxJ (And.intro hyJ hneJ))
                    have HcJ := Lib.hid hcallJ
                    clear hxJ hyJ hneJ hcallJ hS
                    go_wp2
                    go_still_tail 10, (by kernel_rfl)
                    change wpList _ _ _ _ _ (World.drewN _ 1)
                    go_wp2_with fail
                    refine HcJ.out.mono ?_
                    rintro eJ wJ ⟨rJ, rfl, hrJ, hSJ⟩
                    clear hc1J hc2J HcJ
                    by_cases hr0J : rJ < 0
                    · have hrtJ : decide (rJ < 0) = true := decide_eq_true hr0J
                      have hahJ : Ahead R (at' s3 j) (at' s3 kJ) := by rw [HxJ.out.1, HxJ.out.2.1]; exact hrJ.1 hr0J
                      have HSJ := Lib.hid (And.intro hSJ hahJ)
                      clear hSJ hahJ hrJ
                      have hlt2 : a < j := by
                        rcases Nat.lt_or_ge a j with h | h
                        · exact h
                        · exfalso
                          have e : j = a := by omega
                          have h1 := (HV.out.out HO.out.1 H0.out.2.nodup (by rw [H0.out.2.len]; exact hb) (Nat.le_refl a) (Nat.le_refl b)) kJ j (by omega) (by omega) (by omega)
                          exact Ahead.irrefl _ (h1.trans HSJ.out.2)
                      have hsz : b ≤ s3.length := by rw [HSJ.out.1.len]; exact hb
                      have ekJ : kJ = j - 1 := by omega
                      have hx2 : SrtX R (swp s3 j kJ) a kI kJ := by
                        have h := HO.out.2.swap hlt2 hjk (by omega) (by rw [← ekJ]; exact HSJ.out.2)
                        rwa [← ekJ] at h
                      have HN := Lib.hid (And.intro (HO.out.1.trans (Out.swp (by omega : a ≤ j) (by omega : j < b) (by omega : a ≤ kJ) (by omega : kJ < b) hsz)) hx2)
                      clear hx2 ekJ
                      go_wp2
                      have hc1W := HSJ.out.1.cell hjn
                      have hc2W := HSJ.out.1.cell hknJ
                      have hf1W := HSJ.out.1.own.frozen j
                      have hf2W := HSJ.out.1.own.frozen kJ
                      have hswW := HSJ.out.1.swp Hst.out hjn hknJ
                      obtain ⟨xW, hxW⟩ : ∃ x, at' s3 j = x := ⟨_, rfl⟩
                      obtain ⟨yW, hyW⟩ : ∃ x, at' s3 kJ = x := ⟨_, rfl⟩
                      rw [hxW] at hc1W hswW
                      rw [hyW] at hc2W hswW
                      obtain ⟨uW, hc5W⟩ := HSJ.out.1.cell2 hjn hknJ (.int .i64 (yW : Int))
                      have HWW := Lib.hid (hswW.drewN Hst.out 1)
                      clear hswW hxW hyW 
                      go_wp2
                      go_region
                      clear hwJ
                      go_wp2
                      exact ⟨⟨kJ, swp s3 j kJ, by omega, by omega, by rw [show (j : Int) - 1 = (kJ : Int) by omega], HWW.out, HN.out⟩, by simp [intOf]; omega⟩
                    · have hrtJ : decide (rJ < 0) = false := decide_eq_false hr0J
                      have hahJ : Ahead R (at' s3 kJ) (at' s3 j) := by
                        rw [HxJ.out.1, HxJ.out.2.1]; exact not_ahead (fun h => hr0J (hrJ.2 h)) HxJ.out.2.2
                      have HSJ := Lib.hid (And.intro hSJ hahJ)
                      clear hSJ hahJ hrJ
                      have hfin : SrtIn R s3 a i := by
                        have ei : i = kI + 1 := by omega
                        rw [ei]
                        by_cases e : j = a
                        · have h := HO.out.2; rw [e] at h; exact h.zero
                        · refine HO.out.2.stop (by omega) hjk ?_
                          have ekJ : j - 1 = kJ := by omega
                          rw [ekJ]; exact HSJ.out.2
                      have HT := Lib.hid (And.intro HSJ.out.1 (And.intro HO.out.1 hfin))
                      clear hfin hwJ HSJ HxJ HO hjI hi2' hjJ hj0 hk0J
                      by_cases h2 : 2 ≤ (b : Int) - (i : Int)
                      · have h2' : decide (2 ≤ (b : Int) - (i : Int)) = true := decide_eq_true h2
                        go_wp2
                        go_loopw [12] (fun j wr => ∃ (j' : Nat) (s4 : List Nat), i + 1 ≤ j' ∧ j' ≤ b ∧ j = .int .i64 j' ∧ SortS w wr D F n blk c g cb Inv s4 ∧ Out s s4 a b ∧ SrtIn R s4 a i) (fun j _ => b - (intOf j).toNat)
                        case atStart => exact ⟨i + 1, s3, by omega, by omega, by go_num, HT.out⟩
                        case round =>
                          clear HT
                          obtain ⟨j, s4, hji, hjb, rfl, hS, hO, hsr⟩ := hrel
                          by_cases hlt : j < b
                          · have hd : decide (j < b) = true := decide_eq_true hlt
                            have hjn : j < n := by omega
                            have hj0 : (j : Int) < (n : Int) := by omega
                            have hj1 : (1 : Int) ≤ (j : Int) := by omega
                            obtain ⟨kT, hkT⟩ : ∃ k, k = j - 1 := ⟨_, rfl⟩
                            have hklT : kT + 1 ≤ j := by omega
                            have hkgT : j ≤ kT + 1 := by omega
                            have hknT : kT < n := by omega
                            have hk0T : (kT : Int) < (n : Int) := by omega
                            have hwT : IntKind.i64.wrap ((j : Int) - 1) = (kT : Int) := by rw [show (j : Int) - 1 = (kT : Int) by omega]; exact IntWalk.i64_in _ (by omega)
                            clear hkT
                            have HO := Lib.hid (And.intro hO hsr)
                            clear hO hsr
                            have hc1T := hS.cell hjn
                            have hc2T := hS.cell hknT
                            have hneT := hS.at_ne hjn hknT (by omega)
                            have hcallT := less_calls H0.out.1 (hS.drewN Hst.out 1) hjn hknT
                            obtain ⟨xT, hxT⟩ : ∃ x, at' s4 j = x := ⟨_, rfl⟩
                            obtain ⟨yT, hyT⟩ : ∃ x, at' s4 kT = x := ⟨_, rfl⟩
                            rw [hxT] at hc1T hcallT hneT
                            rw [hyT] at hc2T hcallT hneT
                            have HxT := Lib.hid (And.intro hxT (And.intro hyT hneT))
                            have HcT := Lib.hid hcallT
                            clear hxT hyT hneT hcallT hS
                            go_wp2
                            go_still_tail 10, (by kernel_rfl)
                            change wpList _ _ _ _ _ (World.drewN _ 1)
                            go_wp2_with fail
                            refine HcT.out.mono ?_
                            rintro eT wT ⟨rT, rfl, hrT, hST⟩
                            clear hc1T hc2T HcT
                            by_cases hr0T : rT < 0
                            · have hrtT : decide (rT < 0) = true := decide_eq_true hr0T
                              have hahT : Ahead R (at' s4 j) (at' s4 kT) := by rw [HxT.out.1, HxT.out.2.1]; exact hrT.1 hr0T
                              have HST := Lib.hid (And.intro hST hahT)
                              clear hST hahT hrT
                              have hsz : b ≤ s4.length := by rw [HST.out.1.len]; exact hb
                              have HN := Lib.hid (And.intro (HO.out.1.trans (Out.swp (by omega : a ≤ j) (by omega : j < b) (by omega : a ≤ kT) (by omega : kT < b) hsz)) (HO.out.2.out (Out.swp (by omega : i ≤ j) (by omega : j < b) (by omega : i ≤ kT) (by omega : kT < b) hsz)))
                              go_wp2
                              have hc1U := HST.out.1.cell hjn
                              have hc2U := HST.out.1.cell hknT
                              have hf1U := HST.out.1.own.frozen j
                              have hf2U := HST.out.1.own.frozen kT
                              have hswU := HST.out.1.swp Hst.out hjn hknT
                              obtain ⟨xU, hxU⟩ : ∃ x, at' s4 j = x := ⟨_, rfl⟩
                              obtain ⟨yU, hyU⟩ : ∃ x, at' s4 kT = x := ⟨_, rfl⟩
                              rw [hxU] at hc1U hswU
                              rw [hyU] at hc2U hswU
                              obtain ⟨uU, hc5U⟩ := HST.out.1.cell2 hjn hknT (.int .i64 (yU : Int))
                              have HWU := Lib.hid (hswU.drewN Hst.out 1)
                              clear hswU hxU hyU 
                              go_wp2
                              go_region
                              clear hwT
                              go_wp2
                              exact ⟨⟨j + 1, swp s4 j kT, by omega, by omega, by go_num, HWU.out, HN.out⟩, by simp [intOf]; omega⟩
                            · have hrtT : decide (rT < 0) = false := decide_eq_false hr0T
                              have hahT : Ahead R (at' s4 kT) (at' s4 j) := by
                                rw [HxT.out.1, HxT.out.2.1]; exact not_ahead (fun h => hr0T (hrT.2 h)) HxT.out.2.2
                              have HST := Lib.hid (And.intro hST hahT)
                              clear hST hahT hrT
                              clear hwT
                              go_wp2
                              exact ⟨⟨i, jj + 1, s4, by omega, by omega, by omega, rfl, by go_num, HST.out.1, HO.out⟩, by simp [intOf]; omega⟩
                          · have hd : decide (j < b) = false := decide_eq_false hlt
                            have HO := Lib.hid (And.intro hS (And.intro hO hsr))
                            clear hS hO hsr
                            go_wp2
                            exact ⟨⟨i, jj + 1, s4, by omega, by omega, by omega, rfl, by go_num, HO.out⟩, by simp [intOf]; omega⟩
                      · have h2' : decide (2 ≤ (b : Int) - (i : Int)) = false := decide_eq_false h2
                        go_wp2
                        exact ⟨⟨i, jj + 1, s3, by omega, by omega, by omega, rfl, by go_num, HT.out⟩, by simp [intOf]; omega⟩
                  · have hjI : decide (1 ≤ (j : Int)) = false := decide_eq_false (by omega)
                    have hfin : SrtIn R s3 a i := by
                      have ei : i = kI + 1 := by omega
                      have e : j = a := by omega
                      rw [ei]; rw [e] at hsr; exact hsr.zero
                    have HT := Lib.hid (And.intro hS (And.intro hO hfin))
                    clear hfin hS hO hsr hi2'
                    by_cases h2 : 2 ≤ (b : Int) - (i : Int)
                    · have h2' : decide (2 ≤ (b : Int) - (i : Int)) = true := decide_eq_true h2
                      go_wp2
                      go_loopw [12] (fun j wr => ∃ (j' : Nat) (s4 : List Nat), i + 1 ≤ j' ∧ j' ≤ b ∧ j = .int .i64 j' ∧ SortS w wr D F n blk c g cb Inv s4 ∧ Out s s4 a b ∧ SrtIn R s4 a i) (fun j _ => b - (intOf j).toNat)
                      case atStart => exact ⟨i + 1, s3, by omega, by omega, by go_num, HT.out⟩
                      case round =>
                        clear HT
                        obtain ⟨j, s4, hji, hjb, rfl, hS, hO, hsr⟩ := hrel
                        by_cases hlt : j < b
                        · have hd : decide (j < b) = true := decide_eq_true hlt
                          have hjn : j < n := by omega
                          have hj0 : (j : Int) < (n : Int) := by omega
                          have hj1 : (1 : Int) ≤ (j : Int) := by omega
                          obtain ⟨kT, hkT⟩ : ∃ k, k = j - 1 := ⟨_, rfl⟩
                          have hklT : kT + 1 ≤ j := by omega
                          have hkgT : j ≤ kT + 1 := by omega
                          have hknT : kT < n := by omega
                          have hk0T : (kT : Int) < (n : Int) := by omega
                          have hwT : IntKind.i64.wrap ((j : Int) - 1) = (kT : Int) := by rw [show (j : Int) - 1 = (kT : Int) by omega]; exact IntWalk.i64_in _ (by omega)
                          clear hkT
                          have HO := Lib.hid (And.intro hO hsr)
                          clear hO hsr
                          have hc1T := hS.cell hjn
                          have hc2T := hS.cell hknT
                          have hneT := hS.at_ne hjn hknT (by omega)
                          have hcallT := less_calls H0.out.1 (hS.drewN Hst.out 1) hjn hknT
                          obtain ⟨xT, hxT⟩ : ∃ x, at' s4 j = x := ⟨_, rfl⟩
                          obtain ⟨yT, hyT⟩ : ∃ x, at' s4 kT = x := ⟨_, rfl⟩
                          rw [hxT] at hc1T hcallT hneT
                          rw [hyT] at hc2T hcallT hneT
                          have HxT := Lib.hid (And.intro hxT (And.intro hyT hneT))
                          have HcT := Lib.hid hcallT
                          clear hxT hyT hneT hcallT hS
                          go_wp2
                          go_still_tail 10, (by kernel_rfl)
                          change wpList _ _ _ _ _ (World.drewN _ 1)
                          go_wp2_with fail
                          refine HcT.out.mono ?_
                          rintro eT wT ⟨rT, rfl, hrT, hST⟩
                          clear hc1T hc2T HcT
                          by_cases hr0T : rT < 0
                          · have hrtT : decide (rT < 0) = true := decide_eq_true hr0T
                            have hahT : Ahead R (at' s4 j) (at' s4 kT) := by rw [HxT.out.1, HxT.out.2.1]; exact hrT.1 hr0T
                            have HST := Lib.hid (And.intro hST hahT)
                            clear hST hahT hrT
                            have hsz : b ≤ s4.length := by rw [HST.out.1.len]; exact hb
                            have HN := Lib.hid (And.intro (HO.out.1.trans (Out.swp (by omega : a ≤ j) (by omega : j < b) (by omega : a ≤ kT) (by omega : kT < b) hsz)) (HO.out.2.out (Out.swp (by omega : i ≤ j) (by omega : j < b) (by omega : i ≤ kT) (by omega : kT < b) hsz)))
                            go_wp2
                            have hc1U := HST.out.1.cell hjn
                            have hc2U := HST.out.1.cell hknT
                            have hf1U := HST.out.1.own.frozen j
                            have hf2U := HST.out.1.own.frozen kT
                            have hswU := HST.out.1.swp Hst.out hjn hknT
                            obtain ⟨xU, hxU⟩ : ∃ x, at' s4 j = x := ⟨_, rfl⟩
                            obtain ⟨yU, hyU⟩ : ∃ x, at' s4 kT = x := ⟨_, rfl⟩
                            rw [hxU] at hc1U hswU
                            rw [hyU] at hc2U hswU
                            obtain ⟨uU, hc5U⟩ := HST.out.1.cell2 hjn hknT (.int .i64 (yU : Int))
                            have HWU := Lib.hid (hswU.drewN Hst.out 1)
                            clear hswU hxU hyU 
                            go_wp2
                            go_region
                            clear hwT
                            go_wp2
                            exact ⟨⟨j + 1, swp s4 j kT, by omega, by omega, by go_num, HWU.out, HN.out⟩, by simp [intOf]; omega⟩
                          · have hrtT : decide (rT < 0) = false := decide_eq_false hr0T
                            have hahT : Ahead R (at' s4 kT) (at' s4 j) := by
                              rw [HxT.out.1, HxT.out.2.1]; exact not_ahead (fun h => hr0T (hrT.2 h)) HxT.out.2.2
                            have HST := Lib.hid (And.intro hST hahT)
                            clear hST hahT hrT
                            clear hwT
                            go_wp2
                            exact ⟨⟨i, jj + 1, s4, by omega, by omega, by omega, rfl, by go_num, HST.out.1, HO.out⟩, by simp [intOf]; omega⟩
                        · have hd : decide (j < b) = false := decide_eq_false hlt
                          have HO := Lib.hid (And.intro hS (And.intro hO hsr))
                          clear hS hO hsr
                          go_wp2
                          exact ⟨⟨i, jj + 1, s4, by omega, by omega, by omega, rfl, by go_num, HO.out⟩, by simp [intOf]; omega⟩
                    · have h2' : decide (2 ≤ (b : Int) - (i : Int)) = false := decide_eq_false h2
                      go_wp2
                      exact ⟨⟨i, jj + 1, s3, by omega, by omega, by omega, rfl, by go_num, HT.out⟩, by simp [intOf]; omega⟩
              · have hi2' : decide (2 ≤ (i : Int) - (a : Int)) = false := decide_eq_false hi2
                obtain ⟨s3, hs3⟩ : ∃ s3, s3 = s2 := ⟨_, rfl⟩
                have hfin : SrtIn R s3 a i := by
                  have ei : i = a + 1 := by omega
                  rw [ei]; exact SrtIn.one
                rw [← hs3] at HWV HN
                have HT := Lib.hid (And.intro HWV.out (And.intro HN.out.1 hfin))
                clear hfin hs3 HWV HN
                by_cases h2 : 2 ≤ (b : Int) - (i : Int)
                · have h2' : decide (2 ≤ (b : Int) - (i : Int)) = true := decide_eq_true h2
                  go_wp2
                  go_loopw [12] (fun j wr => ∃ (j' : Nat) (s4 : List Nat), i + 1 ≤ j' ∧ j' ≤ b ∧ j = .int .i64 j' ∧ SortS w wr D F n blk c g cb Inv s4 ∧ Out s s4 a b ∧ SrtIn R s4 a i) (fun j _ => b - (intOf j).toNat)
                  case atStart => exact ⟨i + 1, s3, by omega, by omega, by go_num, HT.out⟩
                  case round =>
                    clear HT
                    obtain ⟨j, s4, hji, hjb, rfl, hS, hO, hsr⟩ := hrel
                    by_cases hlt : j < b
                    · have hd : decide (j < b) = true := decide_eq_true hlt
                      have hjn : j < n := by omega
                      have hj0 : (j : Int) < (n : Int) := by omega
                      have hj1 : (1 : Int) ≤ (j : Int) := by omega
                      obtain ⟨kT, hkT⟩ : ∃ k, k = j - 1 := ⟨_, rfl⟩
                      have hklT : kT + 1 ≤ j := by omega
                      have hkgT : j ≤ kT + 1 := by omega
                      have hknT : kT < n := by omega
                      have hk0T : (kT : Int) < (n : Int) := by omega
                      have hwT : IntKind.i64.wrap ((j : Int) - 1) = (kT : Int) := by rw [show (j : Int) - 1 = (kT : Int) by omega]; exact IntWalk.i64_in _ (by omega)
                      clear hkT
                      have HO := Lib.hid (And.intro hO hsr)
                      clear hO hsr
                      have hc1T := hS.cell hjn
                      have hc2T := hS.cell hknT
                      have hneT := hS.at_ne hjn hknT (by omega)
                      have hcallT := less_calls H0.out.1 (hS.drewN Hst.out 1) hjn hknT
                      obtain ⟨xT, hxT⟩ : ∃ x, at' s4 j = x := ⟨_, rfl⟩
                      obtain ⟨yT, hyT⟩ : ∃ x, at' s4 kT = x := ⟨_, rfl⟩
                      rw [hxT] at hc1T hcallT hneT
                      rw [hyT] at hc2T hcallT hneT
                      have HxT := Lib.hid (And.intro hxT (And.intro hyT hneT))
                      have HcT := Lib.hid hcallT
                      clear hxT hyT hneT hcallT hS
                      go_wp2
                      go_still_tail 10, (by kernel_rfl)
                      change wpList _ _ _ _ _ (World.drewN _ 1)
                      go_wp2_with fail
                      refine HcT.out.mono ?_
                      rintro eT wT ⟨rT, rfl, hrT, hST⟩
                      clear hc1T hc2T HcT
                      by_cases hr0T : rT < 0
                      · have hrtT : decide (rT < 0) = true := decide_eq_true hr0T
                        have hahT : Ahead R (at' s4 j) (at' s4 kT) := by rw [HxT.out.1, HxT.out.2.1]; exact hrT.1 hr0T
                        have HST := Lib.hid (And.intro hST hahT)
                        clear hST hahT hrT
                        have hsz : b ≤ s4.length := by rw [HST.out.1.len]; exact hb
                        have HN := Lib.hid (And.intro (HO.out.1.trans (Out.swp (by omega : a ≤ j) (by omega : j < b) (by omega : a ≤ kT) (by omega : kT < b) hsz)) (HO.out.2.out (Out.swp (by omega : i ≤ j) (by omega : j < b) (by omega : i ≤ kT) (by omega : kT < b) hsz)))
                        go_wp2
                        have hc1U := HST.out.1.cell hjn
                        have hc2U := HST.out.1.cell hknT
                        have hf1U := HST.out.1.own.frozen j
                        have hf2U := HST.out.1.own.frozen kT
                        have hswU := HST.out.1.swp Hst.out hjn hknT
                        obtain ⟨xU, hxU⟩ : ∃ x, at' s4 j = x := ⟨_, rfl⟩
                        obtain ⟨yU, hyU⟩ : ∃ x, at' s4 kT = x := ⟨_, rfl⟩
                        rw [hxU] at hc1U hswU
                        rw [hyU] at hc2U hswU
                        obtain ⟨uU, hc5U⟩ := HST.out.1.cell2 hjn hknT (.int .i64 (yU : Int))
                        have HWU := Lib.hid (hswU.drewN Hst.out 1)
                        clear hswU hxU hyU 
                        go_wp2
                        go_region
                        clear hwT
                        go_wp2
                        exact ⟨⟨j + 1, swp s4 j kT, by omega, by omega, by go_num, HWU.out, HN.out⟩, by simp [intOf]; omega⟩
                      · have hrtT : decide (rT < 0) = false := decide_eq_false hr0T
                        have hahT : Ahead R (at' s4 kT) (at' s4 j) := by
                          rw [HxT.out.1, HxT.out.2.1]; exact not_ahead (fun h => hr0T (hrT.2 h)) HxT.out.2.2
                        have HST := Lib.hid (And.intro hST hahT)
                        clear hST hahT hrT
                        clear hwT
                        go_wp2
                        exact ⟨⟨i, jj + 1, s4, by omega, by omega, by omega, rfl, by go_num, HST.out.1, HO.out⟩, by simp [intOf]; omega⟩
                    · have hd : decide (j < b) = false := decide_eq_false hlt
                      have HO := Lib.hid (And.intro hS (And.intro hO hsr))
                      clear hS hO hsr
                      go_wp2
                      exact ⟨⟨i, jj + 1, s4, by omega, by omega, by omega, rfl, by go_num, HO.out⟩, by simp [intOf]; omega⟩
                · have h2' : decide (2 ≤ (b : Int) - (i : Int)) = false := decide_eq_false h2
                  go_wp2
                  exact ⟨⟨i, jj + 1, s3, by omega, by omega, by omega, rfl, by go_num, HT.out⟩, by simp [intOf]; omega⟩
          · have hrtI : decide (rI < 0) = false := decide_eq_false hr0I
            have hahI : Ahead R (at' s1 kI) (at' s1 i) := by
              rw [HxI.out.1, HxI.out.2.1]; exact not_ahead (fun h => hr0I (hrI.2 h)) HxI.out.2.2
            have HSI := Lib.hid (And.intro hSI hahI)
            clear hSI hahI hrI
            have hsn : SrtIn R s1 a (i + 1) := HQ.out.snoc (by omega) (by rw [show i - 1 = kI by omega]; exact HSI.out.2)
            have HN := Lib.hid hsn
            clear hsn hwI
            go_wp2
            exact ⟨⟨i + 1, by omega, by omega, by go_num, HSI.out.1, HN.out⟩, by simp [intOf]; omega⟩
        · have hd : decide (i < b) = false := decide_eq_false hlt
          obtain rfl : i = b := by omega
          have HQ := Lib.hid (And.intro hS hsr)
          clear hS hsr
          go_wp2
          go_quiet (fail)
          generalize hwq : World.drewN wr _ = w7
          have HS7 := Lib.hid (show SortS w w7 D F n blk c g cb Inv s1 by rw [← hwq]; exact HQ.out.1.drewN Hst.out _)
          clear hwq
          go_wp2
          go_ret
          exact ⟨true, s1, rfl, HO.out, fun _ => HQ.out.2, HS7.out⟩
    · have hdj : decide ((jj : Int) < 5) = false := decide_eq_false (by omega)
      have HO := Lib.hid (And.intro hO hS)
      clear hS hO hsr
      go_wp2
      go_ret
      exact ⟨false, s1, rfl, HO.out.1, (fun h => by cases h), HO.out.2⟩
end
end Go.Proofs.YtlnikgcanimggaaGreat
