/- The reference's reading of an entry: behind its degree and the number of its generators. -/
import Derived.Test.YtjjjnpolhbbepaaDoorRefEntA
import Derived.Laws.Cover3
set_option linter.unusedSimpArgs false
set_option linter.unusedVariables false
namespace Go.Proofs.YtjjjnpolhbbepaaDoor
open Go.RowKit
open Plain
theorem perm_nil (a : Option Addr) (n c : Nat) (W : World) : (binOp BinOp.eql 57 (.slice a n c) (.slice none 0 0)).run Tryd.prog W = .ok (.bool a.isNone) W := by
  simp [binOp, run_equal_slice_nil W 57 3 a n c Tryd.underlying57]
theorem readF_zero_inv' {f : Nat → Nat} {p : Nat} : ∀ w, readF f p w = 0 → ∀ j, j < w → f (p + j) = 0
  | 0, _, j, h => by omega
  | w + 1, h, j, hj => by
    rw [readF] at h
    by_cases e : j = w
    · subst e; omega
    · exact readF_zero_inv' w (by omega) j (by omega)
theorem bit_and {x r : Nat} (hx : x < 256) : Go.bits .and .u8 ((x : Int) / 2 ^ (7 - r)) 1 = ((x / 2 ^ (7 - r) % 2 : Nat) : Int) := by
  have e1 : ((x : Int) / 2 ^ (7 - r)) = ((x / 2 ^ (7 - r) : Nat) : Int) := by simp
  have hle : x / 2 ^ (7 - r) ≤ x := Nat.div_le_self _ _
  have := u8_and_nat (x / 2 ^ (7 - r)) 1 (by omega) (by omega)
  rw [Nat.and_one_is_mod] at this
  rw [e1]
  exact this
noncomputable def code37 : Code := ((Tryd.f37.body.bind (fromR 19)).getD .skip)
set_option maxRecDepth 1000000 in
set_option maxHeartbeats 8000000 in
theorem rent_rest {w wc : World} {A3 N c d m bb oo : Nat} {at_ : Int} {xs : List Nat} {nm lastS : ByteArray} {r : Except Int (Ent × Nat)}
    (hE : RE w wc (.string nm) (.int .i64 (d : Int)) (.slice none 0 0)) (hB : Byts w (some ⟨bb, oo, none⟩) xs) (hx : ∀ x ∈ xs, x < 256) (hN : xs.length = N) (hl : N ≤ 500000) (hcap : N ≤ c) (hd1 : 1 ≤ d) (hd64 : d ≤ 64) (hm16 : m ≤ 16) (hA3 : A3 ≤ N) (hr : r = entT xs A3 nm d m)
    (u3 u4 u5 u12 u13 u14 u15 u16 u17 u18 u19 u20 u21 u22 u23 u24 u25 u26 u27 u28 u29 u30 u31 u32 u33 u34 u35 u36 u37 u38 u39 u40 u41 u42 u43 u44 u45 u46 u47 u48 u49 u50 u51 u52 u53 u54 u55 u56 u57 u58 u59 u60 u61 u62 u63 u64 u65 u66 u67 u68 u69 u70 u71 u72 u73 u74 u75 u76 u77 u78 u79 u80 u81 u82 u83 u84 u85 u86 u87 u88 u89 u90 u91 u92 u93 u94 u95 u96 u97 u98 u99 u100 u101 u102 u103 u104 u105 u106 u107 u108 u109 u110 u111 u112 u113 u114 u115 u116 u117 u118 u119 u120 u121 u122 u123 u124 u125 u126 u127 u128 u129 u130 u131 u132 u133 u134 u135 u136 u137 u138 u139 u140 u141 u142 u143 u144 u145 u146 u147 u148 u149 u150 u151 u152 u153 u154 u155 u156 u157 u158 u159 u160 u161 u162 u163 u164 u165 u166 u167 u168 u169 u170 u171 u172 u173 u174 u175 u176 u177 u178 u179 u180 u181 u182 u183 u184 u185 u186 u187 u188 u189 u190 u191 u192 u193 u194 u195 u196 u197 u198 u199 u200 u201 u202 u203 : Value) :
    Code.wp Tryd.prog code37 (bodyPost Tryd.prog Tryd.f37 (REntRes w r)) ⟨#[.slice (some ⟨bb, oo, none⟩) N c, .int .i64 (at_ : Int), .string lastS, u3, u4, u5, .pointer (some ⟨w.heap.size, 0, none⟩), .int .i64 0, .int .i64 0, .pointer (some ⟨w.heap.size + 1, 0, none⟩), .int .i64 (A3 : Int), .int .i64 (m : Int), u12, u13, u14, u15, u16, u17, u18, u19, u20, u21, u22, u23, u24, u25, u26, u27, u28, u29, u30, u31, u32, u33, u34, u35, u36, u37, u38, u39, u40, u41, u42, u43, u44, u45, u46, u47, u48, u49, u50, u51, u52, u53, u54, u55, u56, u57, u58, u59, u60, u61, u62, u63, u64, u65, u66, u67, u68, u69, u70, u71, u72, u73, u74, u75, u76, u77, u78, u79, u80, u81, u82, u83, u84, u85, u86, u87, u88, u89, u90, u91, u92, u93, u94, u95, u96, u97, u98, u99, u100, u101, u102, u103, u104, u105, u106, u107, u108, u109, u110, u111, u112, u113, u114, u115, u116, u117, u118, u119, u120, u121, u122, u123, u124, u125, u126, u127, u128, u129, u130, u131, u132, u133, u134, u135, u136, u137, u138, u139, u140, u141, u142, u143, u144, u145, u146, u147, u148, u149, u150, u151, u152, u153, u154, u155, u156, u157, u158, u159, u160, u161, u162, u163, u164, u165, u166, u167, u168, u169, u170, u171, u172, u173, u174, u175, u176, u177, u178, u179, u180, u181, u182, u183, u184, u185, u186, u187, u188, u189, u190, u191, u192, u193, u194, u195, u196, u197, u198, u199, u200, u201, u202, u203], []⟩ wc := by
  conv => arg 2; whnf
  have H := Lib.hid (And.intro hN (And.intro hr (And.intro hB hx)))
  have x1 := hE.x.a1
  have HE := Lib.hid hE
  clear hE hN hr hB hx
  have htw := totW_le d hd64
  have hmul : m * totW d ≤ 16 * 400 := Nat.mul_le_mul hm16 htw
  go_wp2_with fail
  go_loop [12, 13] (fun t i => ∃ k : Nat, k ≤ d ∧ i = .int .i64 (k : Int) ∧ t = .int .i64 ((m * totP d k : Nat) : Int)) (fun _ i => d - (intOf i).toNat)
  case atStart => exact ⟨0, Nat.zero_le _, rfl, rfl⟩
  case round =>
    obtain ⟨k, hk, rfl, rfl⟩ := hrel
    by_cases hkd : k < d
    · have hz6 := wid_le (d - k) (by omega)
      have hwc : ∀ W, Calls Tryd.prog 29 #[.int .i64 (IntKind.i64.wrap ((d : Int) - (k : Int)))] W fun e w' => e = .returned (.int .i64 ((wid (d - k) : Nat) : Int)) ∧ w' = W := fun W => by
        rw [show (d : Int) - (k : Int) = ((d - k : Nat) : Int) by omega, IntWalk.i64_in _ (by omega)]
        exact rwidth_calls (d - k) W (by omega)
      obtain ⟨z, hz⟩ : ∃ z, wid (d - k) = z := ⟨_, rfl⟩
      rw [hz] at hwc hz6
      have hp := totP_eq d k hk
      have hpl : totP d k ≤ 400 := by omega
      have hml : m * totP d k ≤ 16 * 400 := Nat.mul_le_mul hm16 hpl
      have hmz : m * z ≤ 16 * 6 := Nat.mul_le_mul hm16 (by omega)
      have hst : m * totP d (k + 1) = m * totP d k + m * z := by rw [totP, hz, Nat.mul_add]
      have e1 : (m : Int) * (z : Int) = ((m * z : Nat) : Int) := by simp
      obtain ⟨y, hy⟩ : ∃ y, m * z = y := ⟨_, rfl⟩
      obtain ⟨T, hT⟩ : ∃ T, m * totP d k = T := ⟨_, rfl⟩
      rw [hy] at e1 hst hmz
      rw [hT] at hst hml ⊢
      have HST := Lib.hid (And.intro hst (And.intro hz hwc))
      have hwr : IntKind.i64.wrap ((d : Int) - (k : Int)) = (d : Int) - (k : Int) := IntWalk.i64_in _ (by omega)
      clear hst hT hy hp hz hpl htw hmul hwc
      go_wp2_with (go_at_call 29; refine ((by have := HST.out.2.2 wc; rw [hwr] at this; exact this) : Calls Tryd.prog 29 #[.int .i64 ((d : Int) - (k : Int))] wc _).mono ?_; rintro e w' ⟨rfl, rfl⟩)
      go_round
      case rel => exact ⟨k + 1, by omega, by go_num, by rw [HST.out.1]; go_num⟩
      case measure => simp [intOf]; omega
    · obtain rfl : k = d := by omega
      rw [totP_all]
      obtain ⟨T, hT⟩ : ∃ T, m * totW k = T := ⟨_, rfl⟩
      rw [hT] at hmul ⊢
      obtain ⟨q, hq⟩ : ∃ q, (T + 7) / 8 = q := ⟨_, rfl⟩
      have e1 : ((T : Int) + 7).tdiv 8 = (q : Int) := by rw [Int.tdiv_eq_ediv_of_nonneg (by omega)]; omega
      have e3 : ((T : Int) + 7) / 8 = (q : Int) := by omega
      have e5 : IntKind.i64.wrap ((T : Int) + 7) = (T : Int) + 7 := IntWalk.i64_in _ (by omega)
      have e6 : IntKind.i64.wrap ((A3 : Int) + q) = (A3 : Int) + q := IntWalk.i64_in _ (by omega)
      have HT := Lib.hid (And.intro hT hq)
      have hkk : ¬ ((k : Int) < (k : Int)) := by omega
      clear hT hq htw
      by_cases hbig : N < A3 + q
      · have hR : r = .error 18 := by rw [H.out.2.1, entT, HT.out.1, HT.out.2, if_pos (by rw [H.out.1]; exact hbig)]
        have HR := Lib.hid hR
        have hbi : (N : Int) < (A3 : Int) + q := by omega
        have b0 := HE.out.r.a0; have b1 := HE.out.r.a1; have b2 := HE.out.r.a2; have f0 := HE.out.r.fr 0; have f1 := HE.out.r.fr 1; have f2 := HE.out.r.fr 2; have x0 := HE.out.x.a0; have x2 := HE.out.x.a2
        clear hR
        go_wp2_with fail
        obtain ⟨W, hW⟩ : ∃ W, W = wc := ⟨_, rfl⟩
        rw [← hW]
        have hE := HE.out
        rw [← hW] at hE
        obtain ⟨d0, d1, d2, hg⟩ := hE.done (.string nm) (.int .i64 (k : Int)) (.slice none 0 0)
        exact bodyPost_ret (v := .tuple #[.agg #[.string nm, .int .i64 (k : Int), .slice none 0 0], .int .i64 0, .int .i64 18]) (by simp [results, Tryd.results37, go_sem, d0, d1, d2]) rfl (REntRes.bad HR.out hE.below hg)
      · have hR : r = entU (bitAt xs A3) k m T (A3 + q) nm := by rw [H.out.2.1, entT, HT.out.1, HT.out.2, if_neg (by rw [H.out.1]; exact hbig)]
        have HR := Lib.hid hR
        have hbi : (A3 : Int) + q ≤ (N : Int) := by omega
        clear hR
        have hG : RGen w wc xs A3 k m 0 nm (.slice none 0 0) [] := ⟨HE.out, rfl, ⟨[], Own.nil _ _ _, OwnRows.nil _ _ _⟩, by simp⟩
        have HG0 := Lib.hid hG
        clear hG HE
        go_wp2_with fail
        clear e1 e3 e5 e6 x1
        go_loopw [14, 15] (fun u14 u15 wr => ∃ (j : Nat) (v : Value) (gs : List (List Int)), j ≤ m ∧ u15 = .int .i64 (j : Int) ∧ u14 = .int .i64 ((j * totW k : Nat) : Int) ∧ RGen w wr xs A3 k m j nm v gs) (fun _ u15 _ => m - (intOf u15).toNat)
        case atStart => exact ⟨0, _, [], Nat.zero_le _, rfl, by simp, HG0.out⟩
        case round =>
          clear HG0
          obtain ⟨j, v, gs, hj, rfl, rfl, hG⟩ := hrel
          obtain ⟨wg, rfl⟩ : ∃ wg, wg = wr := ⟨_, rfl⟩
          obtain ⟨va, vc, rfl⟩ := hG.own.form
          rw [hG.len] at hG
          have x1 := hG.re.x.a1
          have HG := Lib.hid hG
          clear hG
          obtain ⟨p0, hp0⟩ : ∃ p0, j * totW k = p0 := ⟨_, rfl⟩
          by_cases hjm : j < m
          · have hp9 : p0 + totW k ≤ T := by
              rw [← HT.out.1, ← hp0, show j * totW k + totW k = (j + 1) * totW k by rw [Nat.add_mul, Nat.one_mul]]
              exact Nat.mul_le_mul_right _ (by omega)
            have Hp0 := Lib.hid hp0
            rw [hp0]
            clear hp0
            obtain ⟨i3, hi3, hz3, hs3, hb3⟩ := info_parts Tryd.info3
            have I3 := Lib.hid (And.intro hi3 (And.intro hz3 (And.intro hs3 hb3)))
            have hgz := digsF_zero (f := bitAt xs A3) (p0 := p0) (d := k) (by omega)
            have HGZ := Lib.hid hgz
            clear hi3 hz3 hs3 hb3 hgz
            go_wp2_with (refine mk1 rfl (.tmp 124) (.tmp 124) 56 3 rfl i3 (.int .i64 0) 8 Tryd.underlying56 I3.out.1 I3.out.2.1 I3.out.2.2.1 I3.out.2.2.2 rfl (by omega) wg.heap.size k rfl rfl (by omega) (Nat.le_refl _) ?_; intro w1 h2 h3 h4; rw [← HGZ.out] at h2; have H1 := Lib.hid (And.intro h2 (And.intro h3 (Nat.le_of_eq h4.symm))); clear h2 h3 h4)
            have hxl := HG.out.re.x.lt
            have hRE1 : RE w w1 (.string nm) (.int .i64 (k : Int)) (.slice va j vc) := HG.out.re.grown H1.out.2.1 (fun g e => by cases e)
            have HRE1 := Lib.hid hRE1
            clear hRE1 x1
            go_loopw [14, 17] (fun u14 u17 wr => ∃ i : Nat, i ≤ k ∧ u17 = .int .i64 (i : Int) ∧ u14 = .int .i64 ((p0 + totP k i : Nat) : Int) ∧ Own wr wg.heap.size (.slice (some ⟨wg.heap.size, 0, none⟩) k k) 3 (nats (if i < k then digsF (bitAt xs A3) p0 k i 0 else digF (bitAt xs A3) p0 k)) ∧ w1.grownBy wr (some wg.heap.size)) (fun _ u17 _ => k - (intOf u17).toNat)
            case atStart => exact ⟨0, Nat.zero_le _, rfl, by simp [totP], by rw [if_pos (by omega)]; exact H1.out.1, World.grownBy.refl w1 _⟩
            case round =>
              obtain ⟨i, hi, rfl, rfl, hO, hg⟩ := hrel
              have hRE := HRE1.out.grown hg (fun g e => by cases e; omega)
              have x1 := hRE.x.a1
              obtain ⟨wo, rfl⟩ : ∃ wo, wo = wr := ⟨_, rfl⟩
              by_cases hik : i < k
              · rw [if_pos hik] at hO
                have hz6 := wid_le (k - i) (by omega)
                have hwc : ∀ W, Calls Tryd.prog 29 #[.int .i64 ((k : Int) - (i : Int))] W fun e w' => e = .returned (.int .i64 ((wid (k - i) : Nat) : Int)) ∧ w' = W := fun W => by
                  rw [show (k : Int) - (i : Int) = ((k - i : Nat) : Int) by omega]
                  exact rwidth_calls (k - i) W (by omega)
                have htp := totP_eq k (i + 1) (by omega)
                have hpt : totP k (i + 1) = totP k i + wid (k - i) := rfl
                have hdg := digF_get (bitAt xs A3) p0 k i hik
                obtain ⟨z, hz⟩ : ∃ z, wid (k - i) = z := ⟨_, rfl⟩
                rw [hz] at hz6 hwc hpt hdg
                obtain ⟨b0, hb0⟩ : ∃ b0, p0 + totP k i = b0 := ⟨_, rfl⟩
                rw [hb0] at hdg ⊢
                have hbz : b0 + z ≤ T := by omega
                have HI := Lib.hid (And.intro hO (And.intro hg (And.intro hRE (And.intro hpt (And.intro hdg hb0)))))
                have HW := Lib.hid hwc
                clear hO hg hRE htp hpt hdg hz hwc hb0
                go_wp2_with (go_at_call 29; refine (HW.out _).mono ?_; rintro e w' ⟨rfl, hw⟩; replace hw := hw.symm; subst hw)
                go_loopw [14, 18] (fun u14 u18 wr => ∃ t : Nat, t ≤ z ∧ u18 = .int .i64 ((z - t : Nat) : Int) ∧ u14 = .int .i64 ((b0 + t : Nat) : Int) ∧ Own wr wg.heap.size (.slice (some ⟨wg.heap.size, 0, none⟩) k k) 3 (nats (digsF (bitAt xs A3) p0 k i (readF (bitAt xs A3) b0 t))) ∧ wo.grownBy wr (some wg.heap.size)) (fun _ u18 _ => (intOf u18).toNat)
                case atStart => exact ⟨0, Nat.zero_le _, by simp, by simp, HI.out.1, World.grownBy.refl wo _⟩
                case round =>
                  obtain ⟨t, ht, rfl, rfl, hO, hg⟩ := hrel
                  by_cases htz : t < z
                  · obtain ⟨B, hB⟩ : ∃ B, b0 + t = B := ⟨_, rfl⟩
                    rw [hB]
                    have hBT : B < T := by omega
                    have hqq := HT.out.2
                    have hlen : A3 + B / 8 < xs.length := by rw [H.out.1]; omega
                    have hbw : Below w.heap.size w wr := below_grownO HI.out.2.2.1.below hg (fun g e => by cases e; omega)
                    obtain ⟨_, _, e', hbl, hc⟩ := Byts.at_ (Row.below H.out.2.2.1 hbw) hlen
                    injection e' with e'
                    injection e' with e1 e2 _
                    subst e1; subst e2
                    have hs : readF (bitAt xs A3) b0 (t + 1) = 2 * readF (bitAt xs A3) b0 t + bitAt xs A3 B := by rw [readF, hB]
                    have hbit : bitAt xs A3 B = xs[A3 + B / 8]?.getD 0 / 2 ^ (7 - B % 8) % 2 := rfl
                    obtain ⟨x, hx⟩ : ∃ x, xs[A3 + B / 8]?.getD 0 = x := ⟨_, rfl⟩
                    have hx2 : x < 256 := by rw [← hx, List.getElem?_eq_getElem hlen]; exact H.out.2.2.2 _ (List.getElem_mem _)
                    rw [hx] at hc hbit
                    have hrl := readF_lt (f := bitAt xs A3) (bitAt_lt xs A3) b0 t
                    have hpw : 2 ^ t ≤ 2 ^ 6 := Nat.pow_le_pow_right (by omega) (by omega)
                    have hcd := hO.cell i (by rw [nats_len, digsF_len hik]; exact hik)
                    rw [digsF_get hik] at hcd
                    have hfr := hO.frozen i
                    obtain ⟨s, hse⟩ : ∃ s, readF (bitAt xs A3) b0 t = s := ⟨_, rfl⟩
                    rw [hse] at hs hrl hcd hO
                    have hs9 : s < 64 := Nat.lt_of_lt_of_le hrl hpw
                    obtain ⟨Q, R, hQ, hR⟩ : ∃ Q R, B = 8 * Q + R ∧ R < 8 := ⟨B / 8, B % 8, by omega, by omega⟩
                    have hq1 : B / 8 = Q := by omega
                    have hr1 : B % 8 = R := by omega
                    rw [hq1] at hc hlen
                    rw [hr1] at hbit
                    rw [H.out.1] at hlen
                    have e1 : (B : Int).tdiv 8 = (Q : Int) := by rw [Int.tdiv_eq_ediv_of_nonneg (by omega)]; omega
                    have e2 : (B : Int).tmod 8 = (R : Int) := by rw [Int.tmod_eq_emod_of_nonneg (by omega)]; omega
                    have e3 : (B : Int) / 8 = (Q : Int) := by omega
                    have e4 : (B : Int) % 8 = (R : Int) := by omega
                    have e5 : IntKind.i64.wrap ((A3 : Int) + Q) = (A3 : Int) + Q := IntWalk.i64_in _ (by omega)
                    have e6 : ((A3 : Int) + Q).toNat = A3 + Q := by omega
                    have e7 : (0 : Int) ≤ (A3 : Int) + Q := by omega
                    have e8 : (A3 : Int) + Q < (N : Int) := by omega
                    have e9 : IntKind.i64.wrap (7 - (R : Int)) = 7 - (R : Int) := IntWalk.i64_in _ (by omega)
                    have e10 : (0 : Int) ≤ 7 - (R : Int) := by omega
                    have e11 : IntKind.i64.wrap (2 * (s : Int)) = 2 * (s : Int) := IntWalk.i64_in _ (by omega)
                    have e12 : IntKind.i64.wrap (Q : Int) = (Q : Int) := IntWalk.i64_in _ (by omega)
                    have e13 : IntKind.i64.wrap (R : Int) = (R : Int) := IntWalk.i64_in _ (by omega)
                    have hiI : (i : Int) < (k : Int) := by omega
                    have hzt : (0 : Int) < ((z - t : Nat) : Int) := by omega
                    have HS := Lib.hid (And.intro hs (And.intro hbit (And.intro hO (And.intro hg (And.intro hse (And.intro hQ hB))))))
                    clear hs hbit hO hg hse hx hq1 hr1 hB hQ hpw hbw hqq
                    go_wp2_with fail
                    go_still_tail 22, (by kernel_rfl)
                    go_wp2_with fail
                    refine ⟨⟨t + 1, by omega, congrArg _ (by omega), congrArg _ (by have := HS.out.2.2.2.2.2.2; omega), ?_, HS.out.2.2.2.1.trans ((grown_put i _).trans (grown_drewN _ 1 _))⟩, by simp [intOf]; omega⟩
                    rw [bit_val (by omega) hx2]
                    have hp := HS.out.2.2.1.put i (.int .i64 ((2 * s + x / 2 ^ (7 - R) % 2 : Nat) : Int))
                    rw [digsF_set hik] at hp
                    rw [HS.out.1, HS.out.2.1]
                    exact hp.drew
                  · obtain rfl : t = z := by omega
                    rw [← HI.out.2.2.2.2.1] at hO
                    have hz0 : ((t - t : Nat) : Int) = 0 := by omega
                    have HS := Lib.hid (And.intro hO hg)
                    rw [hz0]
                    clear hO hg hz0
                    go_wp2_with fail
                    refine ⟨⟨i + 1, by omega, by go_num, congrArg _ (by have := HI.out.2.2.2.1; have := HI.out.2.2.2.2.2; omega), ?_, HI.out.2.1.trans HS.out.2⟩, by simp [intOf]; omega⟩
                    have h9 := HS.out.1
                    by_cases h2 : i + 1 < k
                    · rw [if_pos h2, ← digsF_next (x := (digF (bitAt xs A3) p0 k)[i]?.getD 0) h2 rfl]
                      exact h9
                    · rw [if_neg h2]
                      rw [digsF_end (by omega) rfl] at h9
                      exact h9
              · obtain rfl : i = k := by omega
                rw [if_neg (by omega)] at hO
                rw [totP_all]
                have hdl : (digF (bitAt xs A3) p0 i).length = i := digF_len' _ _ _
                have hints := Own.toInts (xs := (digF (bitAt xs A3) p0 i).map Int.ofNat) hO (by rw [List.length_map, hdl]; unfold maxLen; omega)
                have hpc := rperm48_calls (c := i) (n := i) hints hdl hd64
                have hgo : wg.grownBy wo none := grown_new H1.out.2.1 hg (fun g e => by cases e; exact .inl (Nat.le_refl _))
                obtain ⟨cs, hv1, hv2⟩ := HG.out.own
                have hX := hRE.x.lt
                have HP := Lib.hid (And.intro hpc (And.intro hRE hgo))
                have HV := Lib.hid (And.intro hv1 hv2)
                clear hO hg hRE hdl hints hpc hgo hv1 hv2
                have hii : ¬ ((i : Int) < (i : Int)) := by omega
                go_wp2_with fail
                refine HP.out.1.mono ?_
                rintro e w7 ⟨hb7, hres⟩
                have hE7 := HP.out.2.1.belowN hb7
                cases hpm : permL (base i) (digF (bitAt xs A3) p0 i) with
                | none =>
                  rw [hpm] at hres
                  subst hres
                  have hR : r = .error 3 := by
                    have h1 : gensF (bitAt xs A3) i 0 m = none := by
                      rw [HG.out.eq, show m - j = (m - (j + 1)) + 1 by omega, Hp0.out, gensF_none hpm]; rfl
                    rw [HR.out, entU, h1]
                  have HR3 := Lib.hid hR
                  have hnil : ∀ W, (binOp BinOp.eql 57 (.slice none 0 0) (.slice none 0 0)).run Tryd.prog W = .ok (.bool true) W := fun W => perm_nil none 0 0 W
                  have b0 := hE7.r.a0; have b1 := hE7.r.a1; have b2 := hE7.r.a2; have f0 := hE7.r.fr 0; have f1 := hE7.r.fr 1; have f2 := hE7.r.fr 2; have x0 := hE7.x.a0; have x1 := hE7.x.a1; have x2 := hE7.x.a2
                  have HE7 := Lib.hid hE7
                  clear hE7 hb7 hpm hR
                  go_wp2_with fail
                  obtain ⟨W, hW⟩ : ∃ W, W = w7 := ⟨_, rfl⟩
                  rw [← hW]
                  have hE := HE7.out
                  rw [← hW] at hE
                  obtain ⟨d0, d1, d2, hg⟩ := hE.done (.string nm) (.int .i64 (i : Int)) (.slice va j vc)
                  change bodyPost Tryd.prog Tryd.f37 (REntRes w r) Exit.ret _ _
                  exact bodyPost_ret (v := .tuple #[.agg #[.string nm, .int .i64 (i : Int), .slice va j vc], .int .i64 0, .int .i64 3]) (by simp [results, Tryd.results37, go_sem, d0, d1, d2]) rfl (REntRes.bad HR3.out hE.below hg)
                | some q7 =>
                  rw [hpm] at hres
                  obtain ⟨v7, rfl, ho7⟩ := hres
                  have hql : q7.length = i := by
                    have h1 := (digs_perm _ (base i) q7 (base_sorted i) (by rw [digF_len', base_len]) hpm).1.length_eq
                    rw [h1, base_len]
                  obtain ⟨g7, c7, rfl, hg7, hg7b, hc7, _⟩ := ho7.form (by rw [ints_len, hql]; omega)
                  rw [ints_len, hql] at ho7 ⊢
                  have x2 := hE7.x.a2
                  have v2 := hE7.x.fr 2
                  have hg7n : wg.grownBy w7 none := HP.out.2.2.trans (grown_below hb7 none)
                  have hv1 : Own w7 (w.heap.size + 2) (.slice va j vc) 57 cs := HV.out.1.kept hg7n (by
                    rcases HV.out.1.blk with e | ⟨g', _, e, _⟩
                    · exact .inl e
                    · right; rw [e]; simp)
                  have hv2 : OwnRows w7 (w.heap.size + 2) 3 cs gs := HV.out.2.kept hg7n (fun u xs hu => by
                    rcases hu.blk with e | ⟨g', _, e, _⟩
                    · exact .inl e
                    · right; rw [e]; simp)
                  have hcl : cs.length < 1099511627776 := by rw [hv2.1, HG.out.len]; omega
                  have hsz : w.heap.size + 2 ≤ w7.heap.size := by have := hE7.x.lt; omega
                  obtain ⟨i57, hi57, hz57, hs57, hb57⟩ := info_parts Tryd.info57
                  have I57 := Lib.hid (And.intro hi57 (And.intro hz57 (And.intro hs57 hb57)))
                  have hnil : ∀ W, (binOp BinOp.eql 57 (.slice (some ⟨g7, 0, none⟩) i c7) (.slice none 0 0)).run Tryd.prog W = .ok (.bool false) W := fun W => perm_nil (some ⟨g7, 0, none⟩) i c7 W
                  have H7 := Lib.hid (And.intro hE7 (And.intro hv1 (And.intro hv2 (And.intro hcl (And.intro hpm (ho7.mono (show w.heap.size + 2 ≤ wo.heap.size by omega)))))))
                  clear hE7 hv1 hv2 hcl hpm ho7 hi57 hz57 hs57 hb57 hb7 hg7n hql
                  go_wp2_with (at_builtin; refine app1 rfl (.tmp 174) (.tmp 176) 42 57 rfl i57 (.slice none 0 0) 24 Tryd.underlying42 I57.out.1 I57.out.2.1 I57.out.2.2.1 I57.out.2.2.2 rfl (by omega) (w.heap.size + 2) (.slice (some ⟨g7, 0, none⟩) i c7) (.slice va j vc) cs rfl H7.out.2.1 rfl rfl H7.out.2.2.2.1 hsz ?_; intro v8 w8 h2 h3 h4; have hg8 := gens_app H7.out.2.1 H7.out.2.2.1 H7.out.2.2.2.2.2 h2 h3; obtain ⟨a8, c8, rfl⟩ := hg8.form; have H8 := Lib.hid (And.intro hg8 h3); have hx8 := (H7.out.1.grown h3 (fun g hg => by have := own_ge H7.out.2.1 g hg; omega)).x; have x28 := hx8.a2; have f28 := hx8.fr 2; clear h2 h3 h4 hx8 hg8)
                  have hE8 := (H7.out.1.grown H8.out.2 (fun g hg => by have := own_ge H7.out.2.1 g hg; omega)).setX2 (.slice a8 (gs ++ [q7]).length c8)
                  have hg9 := gens_own H8.out.1 (grown_put (w := w8) (g := w.heap.size + 1) 2 (.slice a8 (gs ++ [q7]).length c8)) (by omega)
                  have hll : (gs ++ [q7]).length = gs.length + 1 := by simp
                  rw [hll] at hE8 hg9
                  refine ⟨⟨j + 1, _, gs ++ [q7], by omega, by go_num, congrArg _ ?_, hE8, by rw [List.length_append, HG.out.len]; rfl, hg9, ?_⟩, by simp [intOf]; omega⟩
                  · rw [Nat.add_mul, Nat.one_mul, Hp0.out]; omega
                  · rw [HG.out.eq, show m - j = (m - (j + 1)) + 1 by omega, Hp0.out, gensF_some H7.out.2.2.2.2.1, Option.map_map]
                    rw [show (j + 1) * totW i = p0 + totW i by rw [Nat.add_mul, Nat.one_mul, Hp0.out]]
                    congr 1
                    funext x
                    simp
          · obtain rfl : j = m := by omega
            have hjT : j * totW k = T := HT.out.1
            have hpT : p0 = T := hp0.symm.trans hjT
            subst hpT
            have hgE : gensF (bitAt xs A3) k 0 j = some gs := by rw [HG.out.eq, Nat.sub_self, gensF]; simp
            obtain ⟨fl, hfl⟩ : ∃ fl, (8 - p0 % 8) % 8 = fl := ⟨_, rfl⟩
            have hR : r = if readF (bitAt xs A3) p0 fl ≠ 0 then .error 3 else .ok (⟨nm, (k : Nat), gs⟩, A3 + q) := by rw [HR.out, entU, hgE]; simp only; rw [hfl]
            have HF := Lib.hid (And.intro hfl hR)
            have hjj : ¬ ((j : Int) < (j : Int)) := by omega
            rw [hjT]
            clear hgE hfl hR hp0 hjT hjm
            go_wp2_with fail
            go_loop [14] (fun u14 => ∃ t : Nat, t ≤ fl ∧ u14 = .int .i64 ((p0 + t : Nat) : Int) ∧ ∀ s, s < t → bitAt xs A3 (p0 + s) = 0) (fun u14 => p0 + fl - (intOf u14).toNat)
            case atStart => exact ⟨0, Nat.zero_le _, by simp, fun s hs => by omega⟩
            case round =>
              obtain ⟨t, ht, rfl, hz⟩ := hrel
              obtain ⟨B, hB⟩ : ∃ B, p0 + t = B := ⟨_, rfl⟩
              rw [hB]
              obtain ⟨Q, R, hQ, hR⟩ : ∃ Q R, B = 8 * Q + R ∧ R < 8 := ⟨B / 8, B % 8, by omega, by omega⟩
              have hq1 : B / 8 = Q := by omega
              have hr1 : B % 8 = R := by omega
              have hfl := HF.out.1
              have hqq := HT.out.2
              have e1 : (B : Int).tdiv 8 = (Q : Int) := by rw [Int.tdiv_eq_ediv_of_nonneg (by omega)]; omega
              have e2 : (B : Int).tmod 8 = (R : Int) := by rw [Int.tmod_eq_emod_of_nonneg (by omega)]; omega
              have e3 : (B : Int) / 8 = (Q : Int) := by omega
              have e4 : (B : Int) % 8 = (R : Int) := by omega
              have e12 : IntKind.i64.wrap (Q : Int) = (Q : Int) := IntWalk.i64_in _ (by omega)
              have e13 : IntKind.i64.wrap (R : Int) = (R : Int) := IntWalk.i64_in _ (by omega)
              have e5 : IntKind.i64.wrap ((A3 : Int) + Q) = (A3 : Int) + Q := IntWalk.i64_in _ (by omega)
              have e6 : ((A3 : Int) + Q).toNat = A3 + Q := by omega
              have e7 : (0 : Int) ≤ (A3 : Int) + Q := by omega
              have e9 : IntKind.i64.wrap (7 - (R : Int)) = 7 - (R : Int) := IntWalk.i64_in _ (by omega)
              have e10 : (0 : Int) ≤ 7 - (R : Int) := by omega
              by_cases htf : t < fl
              · have hr0 : ((R : Int) != 0) = true := by simp; omega
                have hlen : A3 + B / 8 < xs.length := by rw [H.out.1]; omega
                obtain ⟨_, _, e', hbl, hc⟩ := Byts.at_ (Row.below H.out.2.2.1 HG.out.re.below) hlen
                injection e' with e'
                injection e' with e1' e2' _
                subst e1'; subst e2'
                have hbit : bitAt xs A3 B = xs[A3 + B / 8]?.getD 0 / 2 ^ (7 - B % 8) % 2 := rfl
                obtain ⟨x, hx⟩ : ∃ x, xs[A3 + B / 8]?.getD 0 = x := ⟨_, rfl⟩
                have hx2 : x < 256 := by rw [← hx, List.getElem?_eq_getElem hlen]; exact H.out.2.2.2 _ (List.getElem_mem _)
                rw [hx] at hc hbit
                rw [hq1] at hc hlen
                rw [hr1] at hbit
                rw [H.out.1] at hlen
                have e8 : (A3 : Int) + Q < (N : Int) := by omega
                have hand := bit_and (r := R) hx2
                rw [← hbit] at hand
                by_cases hb1 : bitAt xs A3 B = 1
                · have hRR : r = .error 3 := by
                    rw [HF.out.2, if_pos]
                    intro h0
                    have := readF_zero_inv' fl h0 t htf
                    rw [hB] at this
                    omega
                  rw [hb1] at hand
                  have hb0 : (Go.bits .and .u8 ((x : Int) / 2 ^ (7 - R)) 1 == 1) = true := by rw [hand]; rfl
                  have HR3 := Lib.hid hRR
                  have b0 := HG.out.re.r.a0; have b1 := HG.out.re.r.a1; have b2 := HG.out.re.r.a2; have f0 := HG.out.re.r.fr 0; have f1 := HG.out.re.r.fr 1; have f2 := HG.out.re.r.fr 2; have x0 := HG.out.re.x.a0; have x2 := HG.out.re.x.a2
                  clear hRR hbit hz hx hq1 hr1 hB hQ hfl hqq hb1 hand
                  go_wp2_with fail
                  obtain ⟨W, hW⟩ : ∃ W, W = wg := ⟨_, rfl⟩
                  rw [← hW]
                  have hE := HG.out.re
                  rw [← hW] at hE
                  obtain ⟨d0, d1, d2, hg⟩ := hE.done (.string nm) (.int .i64 (k : Int)) (.slice va j vc)
                  exact bodyPost_ret (v := .tuple #[.agg #[.string nm, .int .i64 (k : Int), .slice va j vc], .int .i64 0, .int .i64 3]) (by simp [results, Tryd.results37, go_sem, d0, d1, d2]) rfl (REntRes.bad HR3.out hE.below hg)
                · have hb2 : bitAt xs A3 B = 0 := by have := bitAt_lt xs A3 B; omega
                  rw [hb2] at hand
                  have hb0 : (Go.bits .and .u8 ((x : Int) / 2 ^ (7 - R)) 1 == 1) = false := by rw [hand]; rfl
                  have HZ := Lib.hid (And.intro hz (And.intro hB hb2))
                  clear hbit hz hx hq1 hr1 hB hQ hfl hqq hb1 hb2 hand
                  go_wp2_with fail
                  go_round
                  case rel =>
                    refine ⟨t + 1, by omega, congrArg _ (by have := HZ.out.2.1; omega), fun s hs => ?_⟩
                    by_cases hst : s = t
                    · subst hst; rw [HZ.out.2.1]; exact HZ.out.2.2
                    · exact HZ.out.1 s (by omega)
                  case measure => simp [intOf]; have := HZ.out.2.1; omega
              · obtain rfl : t = fl := by omega
                have hr0 : ((R : Int) != 0) = false := by simp; omega
                have hRR : r = .ok (⟨nm, (k : Nat), gs⟩, A3 + q) := by
                  rw [HF.out.2, if_neg]
                  rw [Decidable.not_not]
                  exact readF_zero t hz
                have hQq : Q = q := by omega
                subst hQq
                have HR3 := Lib.hid hRR
                have b0 := HG.out.re.r.a0; have b1 := HG.out.re.r.a1; have b2 := HG.out.re.r.a2; have f0 := HG.out.re.r.fr 0; have f1 := HG.out.re.r.fr 1; have f2 := HG.out.re.r.fr 2; have x0 := HG.out.re.x.a0; have x2 := HG.out.re.x.a2
                clear hRR hz hq1 hr1 hB hQ hfl hqq
                go_wp2_with fail
                obtain ⟨W, hW⟩ : ∃ W, W = wg := ⟨_, rfl⟩
                rw [← hW]
                have hE := HG.out.re
                have hO := HG.out.own
                rw [← hW] at hE hO
                obtain ⟨d0, d1, d2, hg⟩ := hE.done (.string nm) (.int .i64 (k : Int)) (.slice va j vc)
                exact bodyPost_ret (v := .tuple #[.agg #[.string nm, .int .i64 (k : Int), .slice va j vc], .int .i64 ((A3 + Q : Nat) : Int), .int .i64 0]) (by simp [results, Tryd.results37, go_sem, d0, d1, d2]) rfl (REntRes.good HR3.out hE.below hO (by omega) hg)
end Go.Proofs.YtjjjnpolhbbepaaDoor
