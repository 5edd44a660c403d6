/- The kit's Square. -/
import Derived.Test.YtlnikgcanimggaaMat
set_option linter.unusedSimpArgs false
set_option linter.unusedVariables false
set_option linter.unusedSimpArgs false
set_option linter.unusedVariables false
namespace Go.Proofs.Ytlnikgcanimggaa
open Go.RowKit Plain

set_option maxRecDepth 100000 in
set_option maxHeartbeats 1000000 in
theorem square_calls (n : Nat) (a : Option Addr) (c : Nat) (l : List Int) (w : World) (ha : Ints w a l) (hn : n ≤ 100) :
    Calls Try.prog 17 #[.int .i64 n, .slice a l.length c] w fun e w' => ∃ a' c' f, e = .returned (.slice a' n c') ∧ Rows w' a' (matF n f) ∧ (∀ i k, 0 ≤ f i k ∧ f i k ≤ 2) ∧ Below w.heap.size w w' := by
  obtain ⟨i3, hi3, hz3, hs3, hb3⟩ := info_parts Try.info3
  obtain ⟨i29, hi29, hz29, hs29, hb29⟩ := info_parts Try.info29
  have I3 := Lib.hid (And.intro hi3 (And.intro hz3 (And.intro hs3 hb3)))
  have I29 := Lib.hid (And.intro hi29 (And.intro hz29 (And.intro hs29 hb29)))
  clear hi3 hz3 hs3 hb3 hi29 hz29 hs29 hb29
  have Hnum := Lib.hid (fun (i : Nat) (w1 : World) (h : Below w.heap.size w w1) (hi : i ≤ 1000000) => number_calls a c l i w1 (ha.below h) hi)
  obtain ⟨L, hL⟩ : ∃ L, L = l.length := ⟨_, rfl⟩
  rw [← hL] at Hnum ⊢
  obtain ⟨D, hD⟩ : ∃ D, D = w.heap.size := ⟨_, rfl⟩
  rw [← hD] at Hnum ⊢
  have HD := Lib.hid hD
  clear hL ha
  go_enter Try.func17, Try.ntmps17
  go_wp2_with (at_make; refine mk1 rfl _ _ 22 29 rfl i29 (.slice none 0 0) 24 Try.underlying22 I29.out.1 I29.out.2.1 I29.out.2.2.1 I29.out.2.2.2 rfl (by omega) D n rfl rfl (by omega) (by omega) ?_; intro w1 hd hg hz1; have H1 := Lib.hid (And.intro hd hg); clear hd hg hz1)
  rw [← hD] at H1 ⊢
  have hbl : Below D w w1 := (Below.refl _ _).grown H1.out.2 (by omega) (fun k hk => by cases hk)
  have hm0 : OwnMat w1 D D n (List.replicate n (.slice none 0 0)) (begun n 0) := by rw [← begun_zero]; exact OwnMat.new H1.out.1
  have H2 := Lib.hid (And.intro hm0 hbl)
  clear hm0 hbl hD H1
  go_loopw [6] (fun i wr => ∃ (k : Nat) (cs : List Value), k ≤ n ∧ i = .int .i64 k ∧ OwnMat wr D D n cs (begun n k) ∧ Below D w wr) (fun i _ => n - (intOf i).toNat)
  case atStart => exact ⟨0, _, by omega, rfl, H2.out.1, H2.out.2⟩
  case round =>
    clear H2
    obtain ⟨k, cs, hk, rfl, hm, hbl⟩ := hrel
    have hDr : D ≤ wr.heap.size := by have := hbl.size; have := HD.out; omega
    have H := Lib.hid (And.intro hm (And.intro hbl hDr))
    clear hm hbl
    by_cases hlt : k < n
    · obtain ⟨u0, hu0⟩ : ∃ u, cs[k]? = some u := ⟨_, List.getElem?_eq_getElem (by rw [H.out.1.len]; exact hlt)⟩
      have Hu := Lib.hid hu0
      clear hu0
      go_wp2_with (at_make; refine mk1 rfl _ _ 29 3 rfl i3 (.int .i64 0) 8 Try.underlying29 I3.out.1 I3.out.2.1 I3.out.2.2.1 I3.out.2.2.2 rfl (by omega) D n rfl rfl (by omega) H.out.2.2 ?_; intro w2 hd hg hz1; have hm2 := H.out.1.kept hg; have hcl := (hm2.top.cell k (by rw [hm2.len]; exact hlt)).trans Hu.out; have hfz := hm2.top.frozen k; rw [ints_zero] at hd; have H2 := Lib.hid (And.intro hd hg); clear hd hg hm2 hz1)
      refine ⟨⟨k + 1, cs.set k (.slice (some ⟨wr.heap.size, 0, none⟩) n n), by omega, by go_num, ?_, ?_⟩, by simp [intOf]; omega⟩
      · rw [← begun_set hlt]
        exact H.out.1.row H2.out.2 (Nat.le_refl _) H2.out.1 k
      · exact (H.out.2.1.grown H2.out.2 H.out.2.2 (fun k hk => by cases hk)).setCell (Nat.le_refl _) _
    · obtain rfl : k = n := by omega
      have hm : OwnMat wr D D k cs (matF k fun _ _ => 0) := by rw [← begun_all]; exact H.out.1
      have H0 := Lib.hid (And.intro hm (And.intro H.out.2.1 H.out.2.2))
      clear hm H hDr
      go_wp2
      go_loopw [7] (fun i wr => ∃ (x : Nat) (f : Nat → Nat → Int), x ≤ k ∧ i = .int .i64 x ∧ OwnMat wr D D k cs (matF k f) ∧ (∀ i k, 0 ≤ f i k ∧ f i k ≤ 2) ∧ Below D w wr ∧ D ≤ wr.heap.size) (fun i _ => k - (intOf i).toNat)
      case atStart => exact ⟨0, _, by omega, rfl, H0.out.1, fun _ _ => by omega, H0.out.2.1, H0.out.2.2⟩
      case round =>
        clear H0
        obtain ⟨x, f, hx, rfl, hm, hf, hb, hDr⟩ := hrel
        have H := Lib.hid (And.intro hm (And.intro hf (And.intro hb hDr)))
        clear hm hf hb hDr
        by_cases hxn : x < k
        · go_wp2
          go_loopw [8] (fun i wr => ∃ (y : Nat) (f : Nat → Nat → Int), y ≤ k ∧ i = .int .i64 y ∧ OwnMat wr D D k cs (matF k f) ∧ (∀ i k, 0 ≤ f i k ∧ f i k ≤ 2) ∧ Below D w wr ∧ D ≤ wr.heap.size) (fun i _ => k - (intOf i).toNat)
          case atStart => exact ⟨0, f, by omega, rfl, H.out⟩
          case round =>
            clear H
            obtain ⟨y, f, hy, rfl, hm, hf, hb, hDr⟩ := hrel
            by_cases hyn : y < k
            · obtain ⟨q, cq, hu, h1, h2, h3, h4⟩ := hm.entry hxn hyn
              have hnb := Hnum.out (1 + x * k + y) wr.drew hb.drew (by have : x * k ≤ 100 * 100 := Nat.mul_le_mul (by omega) (by omega); omega)
              have hbb := below_calls (num l (1 + x * k + y)) 3 wr.drew (by omega)
              obtain ⟨z, hz⟩ : ∃ z, num l (1 + x * k + y) = z := ⟨_, rfl⟩
              have hzr := bel_range (n := z) (k := 3) (by omega)
              rw [hz] at hnb hbb
              obtain ⟨z2, hz2⟩ : ∃ y, bel z 3 = y := ⟨_, rfl⟩
              rw [hz2] at hbb hzr
              have hxk : x * k ≤ 10000 := Nat.mul_le_mul (by omega : x ≤ 100) (by omega : k ≤ 100)
              have hmul : ((x * k : Nat) : Int) = (x : Int) * k := by simp
              have hw1 : IntKind.i64.wrap ((x : Int) * k) = (x : Int) * k := IntWalk.i64_in _ (by omega)
              have hw2 : IntKind.i64.wrap (1 + (x : Int) * k) = 1 + (x : Int) * k := IntWalk.i64_in _ (by omega)
              have hw3 : IntKind.i64.wrap (1 + (x : Int) * k + y) = 1 + (x : Int) * k + y := IntWalk.i64_in _ (by omega)
              have hcast : (((1 + x * k + y : Nat)) : Int) = 1 + (x : Int) * k + y := by simp
              rw [hcast] at hnb
              have H := Lib.hid (And.intro hm (And.intro hf (And.intro hb (And.intro hDr (And.intro hu hzr)))))
              have Hc := Lib.hid (And.intro hnb hbb)
              clear hm hf hb hDr hu hnb hbb hz hz2 hmul hcast hzr
              go_wp2
              go_still_tail 15, (by kernel_rfl)
              still_call Hc.out.1
              still_call Hc.out.2
              repeat still_step
              refine wpStill_nil ?_
              go_wp2_with fail
              obtain ⟨w2, hw2e⟩ : ∃ x, x = (wr.setCell ⟨q, y, none⟩ (.int .i64 z2)).drew := ⟨_, rfl⟩
              rw [← hw2e]
              obtain ⟨g, hg⟩ : ∃ g : Nat → Nat → Int, g = fun a b => if a = x ∧ b = y then z2 else f a b := ⟨_, rfl⟩
              have hm2 : OwnMat w2 D D k cs (matF k g) := by rw [hw2e, hg]; exact (H.out.1.setF hxn H.out.2.2.2.2.1 y z2).drew
              have hg2 : ∀ i k, 0 ≤ g i k ∧ g i k ≤ 2 := fun a b => by
                rw [hg]; dsimp only; split
                · have := H.out.2.2.2.2.2; omega
                · exact H.out.2.1 a b
              have hb2 : Below D w w2 := by rw [hw2e]; exact (H.out.2.2.1.setCell (by simpa using h4) _).drew
              have hD2 : D ≤ w2.heap.size := by rw [hw2e]; have := H.out.2.2.2.1; simpa [World.setCell] using this
              have hn0 := Hnum.out 0 w2 hb2 (by omega)
              obtain ⟨s0, hs0⟩ : ∃ s, num l 0 = s := ⟨_, rfl⟩
              have hb0 := below_calls s0 2 w2 (by omega)
              rw [hs0] at hn0
              obtain ⟨b0, hb0e⟩ : ∃ s, bel s0 2 = s := ⟨_, rfl⟩
              rw [hb0e] at hb0
              obtain ⟨q1, c1, hu1, h11, h12, h13, h14⟩ := hm2.entry hxn hyn
              obtain ⟨q2, c2, hu2, h21, h22, h23, h24⟩ := hm2.entry hyn hxn
              obtain ⟨gx, hgx⟩ : ∃ z, g y x = z := ⟨_, rfl⟩
              rw [hgx] at h22
              have H2 := Lib.hid (And.intro hm2 (And.intro hg2 (And.intro hb2 (And.intro hD2 (And.intro hu1 hgx)))))
              have Hc2 := Lib.hid (And.intro hn0 hb0)
              clear hm2 hg2 hb2 hD2 hn0 hb0 hs0 hb0e hw2e hg H Hc h1 h2 h3 hu1 hu2 hgx hw1 hw2 hw3
              refine Hc2.out.1.mono ?_
              rintro e w3 ⟨rfl, hw3⟩
              replace hw3 := hw3.symm
              subst hw3
              go_wp2_with fail
              refine Hc2.out.2.mono ?_
              rintro e w3 ⟨rfl, hw3⟩
              replace hw3 := hw3.symm
              subst hw3
              by_cases hb0 : b0 = 0
              · subst hb0
                by_cases hyx : y < x
                · go_wp2
                  go_still_tail 13, (by kernel_rfl)
                  go_wp2
                  refine ⟨⟨y + 1, _, by omega, by go_num, (H2.out.1.setF hxn H2.out.2.2.2.2.1 y gx).drew, ?_, (H2.out.2.2.1.setCell (by simpa using h14) _).drew, ?_⟩, by simp [intOf]; omega⟩
                  · intro a b; (try dsimp only); split
                    · rw [← H2.out.2.2.2.2.2]; exact H2.out.2.1 _ _
                    · exact H2.out.2.1 a b
                  · have := H2.out.2.2.2.1; simpa [World.setCell] using this
                · have hyx' : decide ((y : Int) < x) = false := by simp; omega
                  go_wp2
                  exact ⟨⟨y + 1, g, by omega, by go_num, H2.out.1, H2.out.2.1, H2.out.2.2.1, H2.out.2.2.2.1⟩, by simp [intOf]; omega⟩
              · have hb0' : (b0 == 0) = false := by simpa using hb0
                go_wp2
                exact ⟨⟨y + 1, g, by omega, by go_num, H2.out.1, H2.out.2.1, H2.out.2.2.1, H2.out.2.2.2.1⟩, by simp [intOf]; omega⟩
            · have H := Lib.hid (And.intro hm (And.intro hf (And.intro hb hDr)))
              clear hm hf hb hDr
              go_wp2
              exact ⟨⟨x + 1, f, by omega, by go_num, H.out⟩, by simp [intOf]; omega⟩
        · obtain rfl : x = k := by omega
          have hr := H.out.1.rows_ (by unfold maxLen; omega) (fun xs hx => by rw [(matF_isMat x f).2 xs hx]; unfold maxLen; omega)
          have Hr := Lib.hid hr
          clear hr
          go_wp2
          go_ret
          exact ⟨_, _, f, rfl, Hr.out, H.out.2.1, H.out.2.2.1⟩
end Go.Proofs.Ytlnikgcanimggaa
