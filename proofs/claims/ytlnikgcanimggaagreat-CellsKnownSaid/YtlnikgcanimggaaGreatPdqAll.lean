/- A sort by a comparison that may rewrite one block. -/
import Derived.Test.YtlnikgcanimggaaGreatPdqA
import Derived.Test.YtlnikgcanimggaaGreatPdqB
import Derived.Deep.DeepCutAuto
set_option linter.unusedSimpArgs false
set_option linter.unusedVariables false
namespace Go.Proofs.YtlnikgcanimggaaGreat
open Go.RowKit Go.Sort Go.Shelf Plain
section
variable {w wr w' : World} {D F n blk c g : Nat} {cb : Array Value} {cf : Nat → Nat → Int} {Inv : World → Prop} {s : List Nat} {R : Nat → List Int}
def PdqAt (R : Nat → List Int) (D F n blk c g : Nat) (cb : Array Value) (Inv : World → Prop) (w : World) (m : Nat) : Prop :=
  ∀ (a b : Nat) (wr : World) (s : List Nat), SortS w wr D F n blk c g cb Inv s → Over R s a b → a ≤ b → b ≤ n → b - a ≤ m → ∀ lim : Int,
    Calls Tryz.prog 73 #[.slice (some ⟨blk, 0, none⟩) n c, .int .i64 (a : Int), .int .i64 (b : Int), .int .i64 lim, .func (.func 57) #[] #[.pointer (some ⟨D, 0, none⟩)]] wr fun e w' => e = .returned (.tuple #[]) ∧ ∃ s' : List Nat, Out s s' a b ∧ SrtIn R s' a b ∧ SortS w w' D F n blk c g cb Inv s'
set_option maxRecDepth 100000 in
set_option maxHeartbeats 8000000 in
theorem pdq_step (K : Cmp n R g cb cf F Inv w) (m0 : Nat) (hI : ∀ m, m < m0 → PdqAt R D F n blk c g cb Inv w m) : PdqAt R D F n blk c g cb Inv w m0 := by
  intro a b wr s hs hov hab hb hm lim
  have hn := K.le
  have H0 := Lib.hid (And.intro K (And.intro hs hov))
  have Hst := Lib.hid K.ok.stable
  have HI : Hid (∀ (a' b' : Nat) (wr : World) (s : List Nat), SortS w wr D F n blk c g cb Inv s → Over R s a' b' → a' ≤ b' → b' ≤ n → b' - a' < m0 → ∀ lim : Int,
    Calls Tryz.prog 73 #[.slice (some ⟨blk, 0, none⟩) n c, .int .i64 (a' : Int), .int .i64 (b' : Int), .int .i64 lim, .func (.func 57) #[] #[.pointer (some ⟨D, 0, none⟩)]] wr fun e w' => e = .returned (.tuple #[]) ∧ ∃ s' : List Nat, Out s s' a' b' ∧ SrtIn R s' a' b' ∧ SortS w w' D F n blk c g cb Inv s') :=
    Lib.hid (fun a' b' wr s h1 h2 h3 h4 h5 lim => hI (b' - a') h5 a' b' wr s h1 h2 h3 h4 (Nat.le_refl _) lim)
  clear hI K hs hov
  go_enter Tryz.func73, Tryz.ntmps73
  go_wp2
  go_loopw [1, 2, 3, 10, 11] (fun u1 u2 u3 u10 u11 wr => ∃ (a' b' : Nat) (lim : Int) (wb wp : Bool) (s1 : List Nat), a ≤ a' ∧ b' ≤ b ∧ a' ≤ b' ∧ u1 = .int .i64 a' ∧ u2 = .int .i64 b' ∧ u3 = .int .i64 lim ∧ u10 = .bool wb ∧ u11 = .bool wp ∧ SortS w wr D F n blk c g cb Inv s1 ∧ Out s s1 a b ∧ Over R s1 a' b' ∧ Most R s1 a b a' b') (fun u1 u2 _ _ _ _ => (intOf u2 - intOf u1).toNat)
  case atStart => exact ⟨a, b, lim, true, true, s, by omega, by omega, by omega, rfl, rfl, rfl, rfl, rfl, H0.out.2.1, Out.refl _ _ _, H0.out.2.2, Most.start⟩
  case round =>
    clear lim
    obtain ⟨a', b', lim, wb, wp, s1, haa, hbb, hab', rfl, rfl, rfl, rfl, rfl, hS, hO, hOv, hMo⟩ := hrel
    have HQ := Lib.hid (And.intro hS (And.intro hO (And.intro hOv hMo)))
    clear hS hO hOv hMo
    have hb64 : b' ≤ 64 := by omega
    by_cases h12 : (b' : Int) - (a' : Int) ≤ 12
    · have h12T : decide ((b' : Int) - (a' : Int) ≤ 12) = true := decide_eq_true h12
      go_wp2_with fail
      refine (insertR_calls H0.out.1 HQ.out.1 a' b' hab' (by omega)).mono ?_
      rintro e2 w2 ⟨rfl, s2, hO2, hs2, hS2⟩
      have hq := HQ.out
      have hfin : Out s s2 a b ∧ SrtIn R s2 a b := ⟨hq.2.1.trans (hO2.mono haa hbb), (hq.2.2.2.out hO2 hq.1.nodup (by rw [hq.1.len]; exact hb) haa hbb).sorted hs2⟩
      have HF := Lib.hid (And.intro hfin hS2)
      clear hq hO2 hs2 hS2 hfin
      go_wp2
      refine bodyPost_ret (results_none rfl _ _ _) rfl ?_
      exact ⟨rfl, s2, HF.out.1.1, HF.out.1.2, HF.out.2⟩
    · have h12T : decide ((b' : Int) - (a' : Int) ≤ 12) = false := decide_eq_false h12
      by_cases hl0 : lim = 0
      · subst hl0
        go_wp2_with fail
        refine (heap_calls H0.out.1 HQ.out.1 a' b' (by omega) (by omega)).mono ?_
        rintro e2 w2 ⟨rfl, s2, hO2, hs2, hS2⟩
        have hq := HQ.out
        have hfin : Out s s2 a b ∧ SrtIn R s2 a b := ⟨hq.2.1.trans (hO2.mono haa hbb), (hq.2.2.2.out hO2 hq.1.nodup (by rw [hq.1.len]; exact hb) haa hbb).sorted hs2⟩
        have HF := Lib.hid (And.intro hfin hS2)
        clear hq hO2 hs2 hS2 hfin
        go_wp2
        refine bodyPost_ret (results_none rfl _ _ _) rfl ?_
        exact ⟨rfl, s2, HF.out.1.1, HF.out.1.2, HF.out.2⟩
      · have hl0' : (lim == 0) = false := by simpa using hl0
        go_upto_if 39 with (fail)
        go_cut [3] (fun u3 wx => ∃ (lim' : Int) (sz : List Nat), u3 = .int .i64 lim' ∧ SortS w wx D F n blk c g cb Inv sz ∧ Out s1 sz a' b')
        case first =>
          cases wb with
          | true =>
            go_wp2
            go_meet
            exact ⟨lim, s1, rfl, HQ.out.1, Out.refl _ _ _⟩
          | false =>
            go_wp2_with fail
            refine (brk_calls H0.out.1 HQ.out.1 a' b' (by omega) (by omega)).mono ?_
            rintro e4 w4 ⟨rfl, sz, hO4, hS4⟩
            have HY := Lib.hid (And.intro hS4 hO4)
            clear hS4 hO4
            go_wp2
            go_meet
            exact ⟨_, sz, rfl, HY.out⟩
        case rest =>
          obtain ⟨lim', s2, rfl, hS, hO⟩ := hcut
          have HY := Lib.hid (And.intro hS hO)
          clear hS hO
          go_wp2_with fail
          refine (pivot_calls H0.out.1 HY.out.1 a' b' (by omega) (by omega)).mono ?_
          rintro e3 w3 ⟨p0, h, rfl, hpa0, hpb0, hh2, hS3⟩
          have HZ := Lib.hid (And.intro hS3 HY.out.2)
          clear hS3 HY
          go_upto_if 56 with (fail)
          go_cut [13, 14] (fun u13 u14 wx => ∃ (p h : Nat) (sz : List Nat), u13 = .int .i64 p ∧ u14 = .int .i64 h ∧ a' ≤ p ∧ p < b' ∧ h ≤ 1 ∧ SortS w wx D F n blk c g cb Inv sz ∧ Out s1 sz a' b')
          case first =>
            by_cases h2 : h = 2
            · subst h2
              go_wp2_with fail
              refine (rev_calls H0.out.1 HZ.out.1 a' b' (by omega) (by omega)).mono ?_
              rintro e9 w9 ⟨rfl, s9, hO9, hS9⟩
              have HY := Lib.hid (And.intro hS9 (HZ.out.2.trans hO9))
              clear hO9 hS9 HZ
              have hb1I : (1 : Int) ≤ (b' : Int) := by omega
              go_wp2
              go_meet
              exact ⟨b' - 1 - (p0 - a'), 1, s9, by rw [show (b' : Int) - 1 - ((p0 : Int) - (a' : Int)) = ((b' - 1 - (p0 - a') : Nat) : Int) by omega], rfl, by omega, by omega, by omega, HY.out⟩
            · have h2' : ((h : Int) == 2) = false := by simp; omega
              go_wp2
              go_meet
              exact ⟨p0, h, s2, rfl, rfl, hpa0, hpb0, by omega, HZ.out⟩
          case rest =>
            clear HZ hpa0 hpb0 hh2
            obtain ⟨p, h, s3, rfl, rfl, hpa, hpb, hh1, hS, hO⟩ := hcut
            have HZ := Lib.hid (And.intro hS hO)
            clear hS hO
            go_upto_region 15 with (fail)
            go_cut [75] (fun u75 wx => ∃ tb : Bool, u75 = .bool tb ∧ SortS w wx D F n blk c g cb Inv s3 ∧ Out s1 s3 a' b')
            case first =>
              cases wb with
              | false => go_wp2; go_meet; exact ⟨false, rfl, HZ.out⟩
              | true =>
                cases wp with
                | false => go_wp2; go_meet; exact ⟨false, rfl, HZ.out⟩
                | true =>
                  go_wp2; go_meet; exact ⟨_, rfl, HZ.out⟩
            case rest =>
            clear HZ
            obtain ⟨tb, rfl, hS, hO⟩ := hcut
            have HZ := Lib.hid (And.intro hS hO)
            clear hS hO
            go_upto_if 75 with (fail)
            go_cut [13] (fun u13 wx => ∃ sz : List Nat, u13 = .int .i64 p ∧ SortS w wx D F n blk c g cb Inv sz ∧ Out s1 sz a' b')
            case first =>
              cases tb with
              | false => go_wp2; go_meet; exact ⟨s3, rfl, HZ.out⟩
              | true =>
                go_wp2_with fail
                refine (pins_calls H0.out.1 HZ.out.1 a' b' (by omega) (by omega) (HQ.out.2.2.1.out HZ.out.2 HQ.out.1.nodup (by rw [HQ.out.1.len]; omega) (Nat.le_refl a') (Nat.le_refl b'))).mono ?_
                rintro e8 w8 ⟨t8, s8, rfl, hO8, hs8, hS8⟩
                cases t8 with
                | true =>
                  have hq := HQ.out
                  have hO18 := HZ.out.2.trans hO8
                  have hfin : Out s s8 a b ∧ SrtIn R s8 a b := ⟨hq.2.1.trans (hO18.mono haa hbb), (hq.2.2.2.out hO18 hq.1.nodup (by rw [hq.1.len]; exact hb) haa hbb).sorted (hs8 rfl)⟩
                  have HF := Lib.hid (And.intro hfin hS8)
                  clear hq hO18 hO8 hs8 hS8 hfin
                  go_wp2
                  refine bodyPost_ret (results_none rfl _ _ _) rfl ?_
                  exact ⟨rfl, s8, HF.out.1.1, HF.out.1.2, HF.out.2⟩
                | false =>
                  have HY := Lib.hid (And.intro hS8 (HZ.out.2.trans hO8))
                  clear hO8 hs8 hS8 HZ
                  go_wp2
                  go_meet
                  exact ⟨s8, rfl, HY.out⟩
            case rest =>
              clear HZ
              obtain ⟨sz, rfl, hS, hO⟩ := hcut
              have HZ := Lib.hid (And.intro hS hO)
              clear hS hO
              go_upto_region 17 with (fail)
              go_cut [97] (fun u97 wx => u97 = .bool false ∧ SortS w wx D F n blk c g cb Inv sz)
              case first =>
                by_cases ha0 : 0 < a'
                · have ha0T : decide (0 < a') = true := decide_eq_true ha0
                  have ha0I : (0 : Int) < (a' : Int) := by omega
                  have ha1I : (1 : Int) ≤ (a' : Int) := by omega
                  obtain ⟨k, hk⟩ : ∃ k, k = a' - 1 := ⟨_, rfl⟩
                  have hkl : k + 1 ≤ a' := by omega
                  have hkg : a' ≤ k + 1 := by omega
                  have hkn : k < n := by omega
                  have hpn : p < n := by omega
                  have hk0 : (k : Int) < (n : Int) := by omega
                  have hp0 : (p : Int) < (n : Int) := by omega
                  have hwk : IntKind.i64.wrap ((a' : Int) - 1) = (k : Int) := by rw [show (a' : Int) - 1 = (k : Int) by omega]; exact IntWalk.i64_in _ (by omega)
                  clear hk
                  have hzS := HZ.out.1
                  have hc1Z := hzS.cell hkn
                  have hc2Z := hzS.cell hpn
                  have hneZ := hzS.at_ne hkn hpn (by omega)
                  have hcallZ := less_calls H0.out.1 (hzS.drewN Hst.out 1) hkn hpn
                  obtain ⟨xZ, hxZ⟩ : ∃ x, at' sz k = x := ⟨_, rfl⟩
                  obtain ⟨yZ, hyZ⟩ : ∃ x, at' sz p = x := ⟨_, rfl⟩
                  rw [hxZ] at hc1Z hcallZ hneZ
                  rw [hyZ] at hc2Z hcallZ hneZ
                  have HxZ := Lib.hid (And.intro hxZ (And.intro hyZ hneZ))
                  have HcZ := Lib.hid hcallZ
                  clear hxZ hyZ hneZ hcallZ hzS
                  go_wp2
                  go_still_tail 13, (by kernel_rfl)
                  change wpList _ _ _ _ _ (World.drewN _ 1)
                  go_wp2_with fail
                  refine HcZ.out.mono ?_
                  rintro eZ wZ ⟨rZ, rfl, hrZ, hSZ⟩
                  clear hc1Z hc2Z HcZ
                  have hlt : rZ < 0 := by
                    refine hrZ.2 ?_
                    rw [← HxZ.out.1, ← HxZ.out.2.1]
                    exact (HQ.out.2.2.1.out HZ.out.2 HQ.out.1.nodup (by rw [HQ.out.1.len]; omega) (Nat.le_refl a') (Nat.le_refl b')) k p (by omega) hpa hpb
                  have hltT : decide (rZ < 0) = true := decide_eq_true hlt
                  have HZ2 := Lib.hid hSZ
                  clear hSZ hrZ hwk hlt hk0 hp0
                  go_wp2
                  go_meet
                  exact ⟨rfl, HZ2.out⟩
                · have ha0T : decide (0 < a') = false := decide_eq_false ha0
                  have ha0J : decide ((0 : Int) < (a' : Int)) = false := decide_eq_false (by omega)
                  have ha0I : (a' : Int) ≤ 0 := by omega
                  go_wp2
                  go_quiet (fail)
                  generalize hwq : World.drewN _ _ = w5
                  have HZ2 := Lib.hid (show SortS w w5 D F n blk c g cb Inv sz by rw [← hwq]; exact HZ.out.1.drewN Hst.out _)
                  clear hwq
                  go_wp2
                  go_meet
                  exact ⟨rfl, HZ2.out⟩
              case rest =>
              obtain ⟨rfl, hS⟩ := hcut
              have HZ2 := Lib.hid hS
              clear hS
              go_wp2_with fail
              refine (part_calls H0.out.1 HZ2.out a' b' p hpa hpb (by omega) (by omega)).mono ?_
              rintro e6 w6 ⟨m, t, s6, rfl, hO6, hP6, hS6⟩
              have hm1 := hP6.lo
              have hm2 := hP6.hi
              have hd6 : sz.Nodup := HZ2.out.nodup
              have hl6 : b' ≤ sz.length := by rw [HZ2.out.len]; omega
              have hO16 := HZ.out.2.trans hO6
              have hov6 : Over R s6 a' b' := HQ.out.2.2.1.out hO16 HQ.out.1.nodup (by rw [HQ.out.1.len]; omega) (Nat.le_refl a') (Nat.le_refl b')
              have H6 := Lib.hid (And.intro hS6 (And.intro hO16 (And.intro hP6 hov6)))
              clear hO6 hP6 hS6 hd6 hl6 hO16 hov6
              have hm64 : m ≤ 64 := by omega
              by_cases hlr : (m : Int) - (a' : Int) < (b' : Int) - (m : Int)
              · have hlrT : decide ((m : Int) - (a' : Int) < (b' : Int) - (m : Int)) = true := decide_eq_true hlr
                have hr := HI.out a' m w6 s6 H6.out.1 (H6.out.2.2.2.left (by omega)) hm1 (by omega) (by omega)
                have Hr := Lib.hid hr
                clear hr
                go_wp2_with fail
                refine (Hr.out _).mono ?_
                rintro e7 w7 ⟨rfl, s7, hO7, hs7, hS7⟩
                have h6 := H6.out
                have hq := HQ.out
                have hOut : Out s s7 a b := hq.2.1.trans ((h6.2.1.trans (hO7.mono (Nat.le_refl a') (by omega))).mono haa hbb)
                have hMost := hq.2.2.2.left hq.1.nodup (by rw [hq.1.len]; exact hb) haa hbb h6.2.1 h6.2.2.1 hO7 hs7
                have hOver := h6.2.2.2.right h6.1.nodup (by rw [h6.1.len]; omega) h6.2.2.1 hO7
                have H7 := Lib.hid (And.intro hS7 (And.intro hOut (And.intro hOver hMost)))
                clear hS7 hOut hOver hMost hO7 hs7 h6 hq Hr
                go_wp2
                exact ⟨⟨m + 1, b', _, _, _, s7, by omega, by omega, by omega, by go_num, rfl, rfl, rfl, rfl, H7.out⟩, by simp [intOf]; omega⟩
              · have hlrT : decide ((m : Int) - (a' : Int) < (b' : Int) - (m : Int)) = false := decide_eq_false hlr
                have hr := HI.out (m + 1) b' w6 s6 H6.out.1 (H6.out.2.2.2.right0 H6.out.1.nodup (by rw [H6.out.1.len]; omega) H6.out.2.2.1) (by omega) (by omega) (by omega)
                rw [show ((m + 1 : Nat) : Int) = (m : Int) + 1 by omega] at hr
                have Hr := Lib.hid hr
                clear hr
                go_wp2_with fail
                refine (Hr.out _).mono ?_
                rintro e7 w7 ⟨rfl, s7, hO7, hs7, hS7⟩
                have h6 := H6.out
                have hq := HQ.out
                have hOut : Out s s7 a b := hq.2.1.trans ((h6.2.1.trans (hO7.mono (by omega) (Nat.le_refl b'))).mono haa hbb)
                have hMost := hq.2.2.2.right hq.1.nodup (by rw [hq.1.len]; exact hb) haa hbb h6.2.1 h6.2.2.1 hO7 hs7
                have hOver : Over R s7 a' m := fun p q h1 h2 h3 => by
                  rw [hO7.out p (by omega), hO7.out q (by omega)]; exact h6.2.2.2 p q h1 h2 (by omega)
                have H7 := Lib.hid (And.intro hS7 (And.intro hOut (And.intro hOver hMost)))
                clear hS7 hOut hOver hMost hO7 hs7 h6 hq Hr
                go_wp2
                exact ⟨⟨a', m, _, _, _, s7, by omega, by omega, by omega, rfl, rfl, rfl, rfl, rfl, H7.out⟩, by simp [intOf]; omega⟩
theorem pdqR_calls (K : Cmp n R g cb cf F Inv w) (m : Nat) : PdqAt R D F n blk c g cb Inv w m := by
  induction m using Nat.strongRecOn with
  | ind m ih => exact pdq_step K m ih
end
theorem lenA_calls (x : Nat) (hx : x ≤ 64) (w : World) : Calls Tryz.prog 55 #[.int .u64 x] w fun e w' => (∃ i : Int, e = .returned (.int .i64 i)) ∧ w' = w := by
  by_cases h : x ≤ 12
  · exact len_calls x h w
  · exact (lenB_calls x (by omega) hx w).mono fun e w' ⟨he, hw⟩ => ⟨⟨_, he⟩, hw⟩
theorem sortR_calls (n : Nat) (hn : n ≤ 64) (R : Nat → List Int) (g : Nat) (cb : Array Value) (cf : Nat → Nat → Int) (F : Nat) (Inv : World → Prop) (w wr : World) (hok : CmpMut w g cb n cf F Inv)
    (hcf : ∀ x y, x < n → y < n → (cf x y < 0 ↔ cmpL (R x) (R y) < 0) ∧ (cf x y = 0 ↔ R x = R y)) (D : Nat) (hD : D = w.heap.size) (a : Option Addr) (c : Nat)
    (ho : Own wr D (.slice a n c) 3 (nums (List.range n))) (hbx : Own wr D (.slice (some ⟨D, 0, none⟩) 1 1) 73 [.func (.func g) #[] cb]) (hgr : w.grownBy wr (some F)) (hinv : Inv wr) :
    Calls Tryz.prog 56 #[.slice a n c, .func (.func 57) #[] #[.pointer (some ⟨D, 0, none⟩)]] wr fun e w' => e = .returned (.tuple #[]) ∧ ∃ s : List Nat, s.Perm (List.range n) ∧ s.Pairwise (fun p q => Ahead R p q) ∧
      Own w' D (.slice a n c) 3 (nums s) ∧ Own w' D (.slice (some ⟨D, 0, none⟩) 1 1) 73 [.func (.func g) #[] cb] ∧ w.grownBy w' (some F) ∧ Inv w' := by
  rcases Nat.eq_zero_or_pos n with h0 | h0
  · subst h0
    have h := AnyF.slices_SortFunc_none (P := Tryz.prog) (ρ := Tryz.sortI_ren) { Tryz.sortI with } a c (.func (.func 57) #[] #[.pointer (some ⟨D, 0, none⟩)]) wr
    change Calls Tryz.prog 56 _ _ _ at h
    exact h.mono fun e w' ⟨he, hw⟩ => ⟨he, [], by simp, by simp, by rw [hw]; exact ho, by rw [hw]; exact hbx, by rw [hw]; exact hgr, by rw [hw]; exact hinv⟩
  · obtain ⟨blk, rfl, hblk, hblt, -⟩ := ho.at_form h0
    have hS : SortS w wr D F n blk c g cb Inv (List.range n) := ⟨ho, hbx, hgr, hinv, .refl _, hblk, by rw [hD]; exact hok.lt, hD⟩
    have hp := pdqR_calls (R := R) (D := D) (blk := blk) (c := c) ⟨hok, hcf, hn⟩ n 0 n wr (List.range n) hS (fun p q h1 => by omega) (Nat.zero_le _) (Nat.le_refl _) (by omega)
    rw [show ((0 : Nat) : Int) = 0 from rfl] at hp
    have Hl := Lib.hid (lenA_calls n hn wr)
    have Hp := Lib.hid hp
    clear hp hS hok hcf ho hbx hgr hinv hD
    go_enter Tryz.func56, Tryz.ntmps56
    go_wp2_with fail
    refine Hl.out.mono ?_
    rintro e w1 ⟨⟨i, rfl⟩, hw⟩
    replace hw := hw.symm
    subst hw
    go_wp2_with fail
    refine (Hp.out i).mono ?_
    rintro e w2 ⟨rfl, s, hO, hs, hS⟩
    have H := Lib.hid (And.intro hs hS)
    clear hs hS hO
    go_wp2
    go_end0
    exact ⟨rfl, s, H.out.2.perm, H.out.1.pairwise H.out.2.len, H.out.2.own, H.out.2.box, H.out.2.grown, H.out.2.inv⟩
end Go.Proofs.YtlnikgcanimggaaGreat
