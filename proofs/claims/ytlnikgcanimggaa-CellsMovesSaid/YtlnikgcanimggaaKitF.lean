/- The law's moved: the matrix with new names. -/
import Derived.Test.YtlnikgcanimggaaKitD
import Derived.Test.YtlnikgcanimggaaKey
set_option linter.unusedSimpArgs false
set_option linter.unusedVariables false
namespace Go.Proofs.Ytlnikgcanimggaa
open Go.RowKit Plain

set_option maxRecDepth 100000 in
set_option maxHeartbeats 1000000 in
theorem moved_calls (n : Nat) (am ap : Option Addr) (cm cp : Nat) (m : List (List Int)) (s t : Nat → Nat) (hpm : PermOf n s t) (w : World) (hm : Rows w am m) (hmm : IsMat n m) (hp : Ints w ap (permL n s)) (hn : n ≤ 100) :
    Calls Try.prog 20 #[.slice am n cm, .slice ap n cp] w fun e w' => ∃ a c f, e = .returned (.slice a n c) ∧ Rows w' a (matF n f) ∧ (∀ i k, i < n → k < n → f (s i) (s k) = mat m i k) ∧ Below w.heap.size w w' := by
  obtain ⟨i3, hi3, hz3, hs3, hb3⟩ := info_parts Try.info3
  obtain ⟨i29, hi29, hz29, hs29, hb29⟩ := info_parts Try.info29
  have I3 := Lib.hid (And.intro hi3 (And.intro hz3 (And.intro hs3 hb3)))
  have I29 := Lib.hid (And.intro hi29 (And.intro hz29 (And.intro hs29 hb29)))
  clear hi3 hz3 hs3 hb3 hi29 hz29 hs29 hb29
  obtain ⟨D, hD⟩ : ∃ D, D = w.heap.size := ⟨_, rfl⟩
  rw [← hD] at ⊢
  have hrm : ∀ wr, Below D w wr → Rows wr am m := fun wr hb => hm.below (by rw [← hD]; exact hb)
  have hrp : ∀ wr, Below D w wr → Ints wr ap (permL n s) := fun wr hb => hp.below (by rw [← hD]; exact hb)
  have H0 := Lib.hid (And.intro hrm (And.intro hrp (And.intro hmm hpm)))
  have HD := Lib.hid hD
  clear hm hp hrm hrp hmm hpm
  go_enter Try.func20, Try.ntmps20
  go_wp2_with (at_make; refine mk1 rfl _ _ 22 29 rfl i29 (.slice none 0 0) 24 Try.underlying22 I29.out.1 I29.out.2.1 I29.out.2.2.1 I29.out.2.2.2 rfl (by omega) D n rfl rfl (by omega) (by omega) ?_; intro w1 hd hg hz1; have H1 := Lib.hid (And.intro hd hg); clear hd hg hz1)
  rw [← hD] at H1 ⊢
  have hbl : Below D w w1 := (Below.refl _ _).grown H1.out.2 (by omega) (fun k hk => by cases hk)
  have hm0 : OwnMat w1 D D n (List.replicate n (.slice none 0 0)) (begun n 0) := by rw [← begun_zero]; exact OwnMat.new H1.out.1
  have H2 := Lib.hid (And.intro hm0 hbl)
  clear hm0 hbl hD H1
  go_loopw [6] (fun i wr => ∃ (k : Nat) (cs : List Value), k ≤ n ∧ i = .int .i64 k ∧ OwnMat wr D D n cs (begun n k) ∧ Below D w wr) (fun i _ => n - (intOf i).toNat)
  case atStart => exact ⟨0, _, by omega, rfl, H2.out.1, H2.out.2⟩
  case round =>
    clear H2
    obtain ⟨k, cs, hk, rfl, hm, hbl⟩ := hrel
    have hDr : D ≤ wr.heap.size := by have := hbl.size; have := HD.out; omega
    have H := Lib.hid (And.intro hm (And.intro hbl hDr))
    clear hm hbl
    by_cases hlt : k < n
    · obtain ⟨u0, hu0⟩ : ∃ u, cs[k]? = some u := ⟨_, List.getElem?_eq_getElem (by rw [H.out.1.len]; exact hlt)⟩
      have Hu := Lib.hid hu0
      clear hu0
      go_wp2_with (at_make; refine mk1 rfl _ _ 29 3 rfl i3 (.int .i64 0) 8 Try.underlying29 I3.out.1 I3.out.2.1 I3.out.2.2.1 I3.out.2.2.2 rfl (by omega) D n rfl rfl (by omega) H.out.2.2 ?_; intro w2 hd hg hz1; have hm2 := H.out.1.kept hg; have hcl := (hm2.top.cell k (by rw [hm2.len]; exact hlt)).trans Hu.out; have hfz := hm2.top.frozen k; rw [ints_zero] at hd; have H2 := Lib.hid (And.intro hd hg); clear hd hg hm2 hz1)
      refine ⟨⟨k + 1, cs.set k (.slice (some ⟨wr.heap.size, 0, none⟩) n n), by omega, by go_num, ?_, ?_⟩, by simp [intOf]; omega⟩
      · rw [← begun_set hlt]
        exact H.out.1.row H2.out.2 (Nat.le_refl _) H2.out.1 k
      · exact (H.out.2.1.grown H2.out.2 H.out.2.2 (fun k hk => by cases hk)).setCell (Nat.le_refl _) _
    · obtain rfl : k = n := by omega
      have hm : OwnMat wr D D k cs (matF k fun _ _ => 0) := by rw [← begun_all]; exact H.out.1
      have H0' := Lib.hid (And.intro hm (And.intro H.out.2.1 H.out.2.2))
      clear hm H hDr
      go_wp2
      go_loopw [7] (fun i wr => ∃ (x : Nat) (f : Nat → Nat → Int), x ≤ k ∧ i = .int .i64 x ∧ OwnMat wr D D k cs (matF k f) ∧ (∀ a b, a < k → b < k → a < x → f (s a) (s b) = mat m a b) ∧ Below D w wr ∧ D ≤ wr.heap.size) (fun i _ => k - (intOf i).toNat)
      case atStart => exact ⟨0, _, by omega, rfl, H0'.out.1, fun _ _ _ _ h => by omega, H0'.out.2.1, H0'.out.2.2⟩
      case round =>
        clear H0'
        obtain ⟨x, f, hx, rfl, hm, hf, hb, hDr⟩ := hrel
        have H := Lib.hid (And.intro hm (And.intro hf (And.intro hb hDr)))
        clear hm hf hb hDr
        by_cases hxn : x < k
        · go_wp2
          go_loopw [8] (fun i wr => ∃ (y : Nat) (f : Nat → Nat → Int), y ≤ k ∧ i = .int .i64 y ∧ OwnMat wr D D k cs (matF k f) ∧ (∀ a b, a < k → b < k → (a < x ∨ a = x ∧ b < y) → f (s a) (s b) = mat m a b) ∧ Below D w wr ∧ D ≤ wr.heap.size) (fun i _ => k - (intOf i).toNat)
          case atStart => exact ⟨0, f, by omega, rfl, H.out.1, fun a b h1 h2 h3 => H.out.2.1 a b h1 h2 (by omega), H.out.2.2⟩
          case round =>
            clear H
            obtain ⟨y, f, hy, rfl, hm, hf, hb, hDr⟩ := hrel
            by_cases hyn : y < k
            · have hsx := H0.out.2.2.2.lt x hxn
              have hsy := H0.out.2.2.2.lt y hyn
              obtain ⟨q, cq, hu, h1, h2, h3, h4⟩ := hm.entry hsx hsy
              obtain ⟨gp, op, rfl, _, hpx⟩ := (H0.out.2.1 wr hb).at_ (k := x) (by rw [permL_len]; exact hxn)
              obtain ⟨gp', op', e, _, hpy⟩ := (H0.out.2.1 wr hb).at_ (k := y) (by rw [permL_len]; exact hyn)
              cases e
              rw [permL_at hxn] at hpx
              rw [permL_at hyn] at hpy
              obtain ⟨gm, om, gm2, om2, cm2, rfl, hm1, hm2⟩ := (H0.out.1 wr hb).entry H0.out.2.2.1 hxn hyn
              obtain ⟨z, hz⟩ : ∃ z, mat m x y = z := ⟨_, rfl⟩
              rw [hz] at hm2
              obtain ⟨sx, hsxe⟩ : ∃ z, s x = z := ⟨_, rfl⟩
              obtain ⟨sy, hsye⟩ : ∃ z, s y = z := ⟨_, rfl⟩
              rw [hsxe] at hsx hpx h1 hu
              rw [hsye] at hsy hpy h2 h3
              have H := Lib.hid (And.intro hm (And.intro hf (And.intro hb (And.intro hDr (And.intro hu (And.intro hz (And.intro hsxe hsye)))))))
              clear hm hf hb hDr hu hz hsxe hsye
              go_wp2
              go_still_tail 19, (by kernel_rfl)
              go_wp2
              refine ⟨⟨y + 1, _, by omega, by go_num, (H.out.1.setF hsx H.out.2.2.2.2.1 sy z).drew, ?_, (H.out.2.2.1.setCell (by simpa using h4) _).drew, ?_⟩, by simp [intOf]; omega⟩
              · intro a b ha hb hab
                (try dsimp only)
                by_cases e : s a = sx ∧ s b = sy
                · have e1 : a = x := by rw [← H0.out.2.2.2.left a ha, e.1, ← H.out.2.2.2.2.2.2.1, H0.out.2.2.2.left x hxn]
                  have e2 : b = y := by rw [← H0.out.2.2.2.left b hb, e.2, ← H.out.2.2.2.2.2.2.2, H0.out.2.2.2.left y hyn]
                  rw [if_pos e, e1, e2, H.out.2.2.2.2.2.1]
                · rw [if_neg e]
                  refine H.out.2.1 a b ha hb ?_
                  rcases hab with h | ⟨h, h'⟩
                  · exact .inl h
                  · by_cases e3 : b = y
                    · exact absurd ⟨by rw [h]; exact H.out.2.2.2.2.2.2.1, by rw [e3]; exact H.out.2.2.2.2.2.2.2⟩ e
                    · exact .inr ⟨h, by omega⟩
              · have := H.out.2.2.2.1; simpa [World.setCell] using this
            · have H := Lib.hid (And.intro hm (And.intro hf (And.intro hb hDr)))
              clear hm hf hb hDr
              go_wp2
              exact ⟨⟨x + 1, f, by omega, by go_num, H.out.1, fun a b h1 h2 h3 => H.out.2.1 a b h1 h2 (by omega), H.out.2.2⟩, by simp [intOf]; omega⟩
        · obtain rfl : x = k := by omega
          have hr := H.out.1.rows_ (by unfold maxLen; omega) (fun xs hx => by rw [(matF_isMat x f).2 xs hx]; unfold maxLen; omega)
          have Hr := Lib.hid hr
          clear hr
          go_wp2
          go_ret
          exact ⟨_, _, f, rfl, Hr.out, fun i k hi hk => H.out.2.1 i k hi hk hi, H.out.2.2.1⟩
end Go.Proofs.Ytlnikgcanimggaa
