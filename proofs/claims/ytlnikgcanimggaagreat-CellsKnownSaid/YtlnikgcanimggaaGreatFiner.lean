/- Finer: each cell of the one partition lies in a cell of the other. -/
import Derived.Test.YtlnikgcanimggaaGreatMeet
set_option linter.unusedSimpArgs false
set_option linter.unusedVariables false
namespace Go.Proofs.YtlnikgcanimggaaGreat
open Go.RowKit Plain

/-- All points of a cell have its first point's label. -/
def OneLabel (y : List Int) (l : List (List Int)) : Prop :=
  ∀ i, i < l.length → ∀ k, k < (l[i]?.getD []).length → y[((l[i]?.getD [])[k]?.getD 0).toNat]?.getD 0 = y[((l[i]?.getD [])[0]?.getD 0).toNat]?.getD 0
theorem orL_pair (x y : Int) : orL [x, y] = if x ≠ 0 then x else y := by
  simp only [orL]
  split
  · rfl
  · split <;> omega
theorem orL_pair0 {x y : Int} (h : orL [x, y] = 0) : x = 0 ∧ y = 0 := by
  rw [orL_pair] at h
  split at h <;> omega

set_option maxRecDepth 100000 in
set_option maxHeartbeats 1000000 in
theorem finer_calls (n : Int) (a b : Option Addr) (c d : Nat) (xs ys : List (List Int)) (w : World) (ha : Rows w a xs) (hb : Rows w b ys) :
    Calls Tryz.prog 16 #[.int .i64 n, .slice a xs.length c, .slice b ys.length d] w fun e w' => ∃ r : Bool, e = .returned (.tuple #[.bool r, .int .i64 (orL [chk n xs, chk n ys])]) ∧ (orL [chk n xs, chk n ys] ≠ 0 → r = false) ∧ (orL [chk n xs, chk n ys] = 0 → (r = true ↔ OneLabel (labelsL n.toNat ys) xs)) ∧ Below w.heap.size w w' := by
  have hbo := Lib.hid (both_calls n a b c d xs ys w ha hb)
  by_cases h0 : orL [chk n xs, chk n ys] = 0
  · obtain ⟨h1, h2⟩ := orL_pair0 h0
    obtain ⟨hn0, hn64, _⟩ := chk_zero h1
    obtain ⟨N, rfl⟩ := Int.eq_ofNat_of_zero_le hn0
    have hgx := chk_good h1
    have hgy := chk_good h2
    simp only [h0] at hbo ⊢
    have Hy := Lib.hid (fun (w1 : World) (h : Below w.heap.size w w1) => labels_calls N b d ys w1 (hb.below h) (by omega) hgy.inr)
    have hml := ha.len
    have H0 := Lib.hid (And.intro ha (And.intro hgx.inr (labelsL_len N ys)))
    rw [show ((N : Int)).toNat = N by omega]
    obtain ⟨lb, hlb⟩ : ∃ x, labelsL N ys = x := ⟨_, rfl⟩
    rw [hlb] at Hy H0 ⊢
    have hOne : OneLabel lb xs ↔ ∀ i, i < xs.length → ∀ k, k < (xs[i]?.getD []).length → lb[((xs[i]?.getD [])[k]?.getD 0).toNat]?.getD 0 = lb[((xs[i]?.getD [])[0]?.getD 0).toNat]?.getD 0 := Iff.rfl
    obtain ⟨L, hL⟩ : ∃ L, L = xs.length := ⟨_, rfl⟩
    obtain ⟨M, hM⟩ : ∃ M, M = ys.length := ⟨_, rfl⟩
    rw [← hL] at hbo hml hOne ⊢
    rw [← hM] at hbo Hy ⊢
    have HL := Lib.hid hL
    have HO := Lib.hid hOne
    clear hL hM ha hb h1 h2 hgx hgy h0 hlb hn0 hOne
    go_enter Tryz.func16, Tryz.ntmps16
    go_wp2_with fail
    refine hbo.out.mono ?_
    rintro e w1 ⟨rfl, hb1⟩
    have H1 := Lib.hid hb1
    clear hb1
    go_wp2_with fail
    refine (Hy.out w1 H1.out).mono ?_
    rintro e w2 ⟨u, rfl, hu, hb2⟩
    obtain ⟨ua, uc, rfl, -⟩ := hu.row (by rw [ints_len, H0.out.2.2]; unfold maxLen; omega)
    rw [ints_len, H0.out.2.2] at hu ⊢
    have hbb := H1.out.trans (hb2.mono H1.out.size)
    have H2 := Lib.hid (And.intro (hu.toInts (by rw [H0.out.2.2]; unfold maxLen; omega)) (And.intro hbb (H0.out.1.below hbb)))
    clear hu hb2 hbb
    go_wp2
    go_loopw [26] (fun i wr => ∃ i' q : Nat, i' ≤ L ∧ i = .int .i64 i' ∧ wr = w2.drewN q ∧ (∀ i, i < i' → ∀ k, k < (xs[i]?.getD []).length → lb[((xs[i]?.getD [])[k]?.getD 0).toNat]?.getD 0 = lb[((xs[i]?.getD [])[0]?.getD 0).toNat]?.getD 0)) (fun i _ => L - (intOf i).toNat)
    case atStart => exact ⟨0, 0, by omega, rfl, rfl, fun i hi => by omega⟩
    case round =>
      obtain ⟨i, q, hi, rfl, rfl, hP⟩ := hrel
      have HP := Lib.hid hP
      clear hP
      by_cases hiL : i < L
      · obtain ⟨g, o, b', cc, rfl, _, hcell, hints⟩ := H2.out.2.2.at_ (k := i) (by rw [← HL.out]; exact hiL)
        obtain ⟨C, hC⟩ : ∃ x, xs[i]?.getD [] = x := ⟨_, rfl⟩
        rw [hC] at hcell hints
        have hCl := hints.len
        have hCr : ∀ k, k < C.length → ∃ q : Nat, C[k]?.getD 0 = (q : Int) ∧ q < N := fun k hk => by
          obtain ⟨q, hq, hqn⟩ := H0.out.2.1.at_ (k := i) (j := k) (by rw [← HL.out]; exact hiL) (by rw [hC]; exact hk)
          rw [hC] at hq; exact ⟨q, hq, hqn⟩
        obtain ⟨K, hK⟩ : ∃ x, x = C.length := ⟨_, rfl⟩
        rw [← hK] at hcell hCl hCr
        have H3 := Lib.hid (And.intro hints (And.intro hC (And.intro hK hCr)))
        clear hints hC hK hCr
        go_wp2
        go_loopw [32] (fun k wr => ∃ k' q : Nat, k' ≤ K ∧ k = .int .i64 k' ∧ wr = w2.drewN q ∧ (∀ k, k < k' → lb[(C[k]?.getD 0).toNat]?.getD 0 = lb[(C[0]?.getD 0).toNat]?.getD 0)) (fun k _ => K - (intOf k).toNat)
        case atStart => exact ⟨0, q, by omega, rfl, rfl, fun k h1 => by omega⟩
        case round =>
          obtain ⟨k, q, hkK, rfl, rfl, hQ⟩ := hrel
          have HQ := Lib.hid hQ
          clear hQ
          by_cases hkl : k < K
          · obtain ⟨gb, ob, rfl, _, hc0⟩ := H3.out.1.at_ (k := 0) (by rw [← H3.out.2.2.1]; omega)
            obtain ⟨gb', ob', e, _, hck⟩ := H3.out.1.at_ (k := k) (by rw [← H3.out.2.2.1]; exact hkl)
            cases e
            obtain ⟨p0, hp0, hp0n⟩ := H3.out.2.2.2 0 (by omega)
            obtain ⟨pk, hpk, hpkn⟩ := H3.out.2.2.2 k hkl
            rw [hp0] at hc0
            rw [hpk] at hck
            simp only [Nat.add_zero] at hc0
            have hK0 : (0 : Int) < (K : Int) := by omega
            obtain ⟨gl, ol, rfl, _, hl0⟩ := H2.out.1.at_ (k := p0) (by rw [H0.out.2.2]; exact hp0n)
            obtain ⟨gl', ol', e, _, hlk⟩ := H2.out.1.at_ (k := pk) (by rw [H0.out.2.2]; exact hpkn)
            cases e
            obtain ⟨y0, hy0⟩ : ∃ y, lb[p0]?.getD 0 = y := ⟨_, rfl⟩
            obtain ⟨yk, hyk⟩ : ∃ y, lb[pk]?.getD 0 = y := ⟨_, rfl⟩
            rw [hy0] at hl0
            rw [hyk] at hlk
            have heq : lb[(C[k]?.getD 0).toNat]?.getD 0 = lb[(C[0]?.getD 0).toNat]?.getD 0 ↔ yk = y0 := by
              rw [hpk, hp0, Int.toNat_natCast, Int.toNat_natCast, hyk, hy0]
            have Heq := Lib.hid heq
            clear hp0 hpk hy0 hyk heq
            by_cases hyy : yk = y0
            · subst hyy
              go_wp2
              go_quiet (fail)
              go_wp2
              refine ⟨⟨k + 1, _, by omega, by go_num, rfl, fun k' hk' => ?_⟩, by simp [intOf]; omega⟩
              by_cases e : k' = k
              · rw [e]; exact Heq.out.2 (by first | rfl | trivial)
              · exact HQ.out k' (by omega)
            · have hne : (yk != y0) = true := by simpa using hyy
              go_wp2
              go_quiet (fail)
              go_wp2
              go_ret2
              refine ⟨false, rfl, fun _ => rfl, fun _ => ⟨fun h => (by cases h), fun h => absurd (Heq.out.1 ?_) hyy⟩, below_drewN (below_drewN H2.out.2.1 _) _⟩
              have := HO.out.1 h i hiL k (by rw [H3.out.2.1, ← H3.out.2.2.1]; exact hkl)
              rwa [H3.out.2.1] at this
          · obtain rfl : k = K := by omega
            go_wp2
            refine ⟨⟨i + 1, q, by omega, by go_num, rfl, fun i' hi' => ?_⟩, by simp [intOf]; omega⟩
            by_cases e : i' = i
            · rw [e, H3.out.2.1, ← H3.out.2.2.1]; exact HQ.out
            · exact HP.out i' (by omega)
      · obtain rfl : i = L := by omega
        go_wp2
        go_ret2
        exact ⟨true, rfl, fun h => absurd rfl h, fun _ => ⟨fun _ => HO.out.2 HP.out, fun _ => rfl⟩, below_drewN H2.out.2.1 _⟩
  · obtain ⟨E, hE⟩ : ∃ E, orL [chk n xs, chk n ys] = E := ⟨_, rfl⟩
    simp only [hE] at hbo h0 ⊢
    have hE1 : (E != 0) = true := by simpa using h0
    clear hE
    go_enter Tryz.func16, Tryz.ntmps16
    go_wp2_with fail
    refine hbo.out.mono ?_
    rintro e w1 ⟨rfl, hb1⟩
    have H1 := Lib.hid hb1
    clear hb1
    go_wp2
    go_ret2
    exact ⟨false, rfl, fun _ => rfl, fun h => absurd h h0, H1.out⟩
end Go.Proofs.YtlnikgcanimggaaGreat
