/- The law's count and equitable. -/
import Derived.Test.YtlnikgcanimggaaMat
import Derived.Test.YtlnikgcanimggaaKey
set_option linter.unusedSimpArgs false
set_option linter.unusedVariables false
namespace Go.Proofs.Ytlnikgcanimggaa
open Go.RowKit Plain

/-- How many of a cell's first points have the numbers x and y with v. -/
def cntTo (m : List (List Int)) (c : List Int) (v : Nat) (x y : Int) : Nat → Nat
  | 0 => 0
  | j + 1 => if mat m v (c[j]?.getD 0).toNat = x ∧ mat m (c[j]?.getD 0).toNat v = y then cntTo m c v x y j + 1 else cntTo m c v x y j
theorem cntTo_le (m : List (List Int)) (c : List Int) (v : Nat) (x y : Int) : ∀ j, cntTo m c v x y j ≤ j
  | 0 => Nat.le_refl _
  | j + 1 => by
    have := cntTo_le m c v x y j
    rw [cntTo]; split <;> omega

set_option maxRecDepth 100000 in
set_option maxHeartbeats 1000000 in
theorem count_calls (n : Nat) (am ac : Option Addr) (cm cc : Nat) (m : List (List Int)) (c : List Int) (v : Nat) (x y : Int) (w : World) (hm : Rows w am m) (hmm : IsMat n m) (hc : Ints w ac c) (hcn : ∀ p ∈ c, 0 ≤ p ∧ p < n) (hv : v < n) :
    Calls Try.prog 60 #[.slice am n cm, .slice ac c.length cc, .int .i64 v, .int .i64 x, .int .i64 y] w fun e w' => e = .returned (.int .i64 (cntTo m c v x y c.length : Nat)) ∧ ∃ q, w' = w.drewN q := by
  have hml := hm.len
  rw [hmm.1] at hml
  have hcl := hc.len
  have H0 := Lib.hid (And.intro hm (And.intro hmm (And.intro hc hcn)))
  clear hm hmm hc hcn
  obtain ⟨L, hL⟩ : ∃ L, L = c.length := ⟨_, rfl⟩
  rw [← hL] at hcl ⊢
  have HL := Lib.hid hL
  clear hL
  go_enter Try.func60, Try.ntmps60
  go_wp2
  go_loopw [11, 12] (fun s i wr => ∃ j q : Nat, j ≤ L ∧ i = .int .i64 j ∧ s = .int .i64 (cntTo m c v x y j : Nat) ∧ wr = w.drewN q) (fun _ i _ => L - (intOf i).toNat)
  case atStart => exact ⟨0, 0, by omega, rfl, rfl, rfl⟩
  case round =>
    obtain ⟨j, q, hj, rfl, rfl, rfl⟩ := hrel
    have hle := cntTo_le m c v x y j
    by_cases hlt : j < L
    · obtain ⟨gc, oc, rfl, _, hcj⟩ := H0.out.2.2.1.at_ (k := j) (by rw [← HL.out]; exact hlt)
      have hr := H0.out.2.2.2 (c[j]?.getD 0) (by rw [List.getElem?_eq_getElem (by rw [← HL.out]; exact hlt)]; exact List.getElem_mem _)
      obtain ⟨p, hp⟩ : ∃ p : Nat, c[j]?.getD 0 = p := ⟨(c[j]?.getD 0).toNat, by omega⟩
      rw [hp] at hcj hr
      have hpn : p < n := by omega
      obtain ⟨gm, om, g1, o1, c1, rfl, h11, h12⟩ := H0.out.1.entry H0.out.2.1 hv hpn
      obtain ⟨gm', om', g2, o2, c2, e, h21, h22⟩ := H0.out.1.entry H0.out.2.1 hpn hv
      cases e
      have hs : cntTo m c v x y (j + 1) = if mat m v p = x ∧ mat m p v = y then cntTo m c v x y j + 1 else cntTo m c v x y j := by
        rw [cntTo, hp]; rfl
      obtain ⟨C, hC⟩ : ∃ C, cntTo m c v x y j = C := ⟨_, rfl⟩
      rw [hC] at hs hle ⊢
      obtain ⟨a, ha⟩ : ∃ a, mat m v p = a := ⟨_, rfl⟩
      obtain ⟨b, hb⟩ : ∃ a, mat m p v = a := ⟨_, rfl⟩
      rw [ha, hb] at hs
      rw [ha] at h12
      rw [hb] at h22
      have Hs := Lib.hid hs
      clear hp hs hC ha hb hr
      by_cases e1 : a = x
      · have e1' : (a == x) = true := by simpa using e1
        by_cases e2 : b = y
        · have e2' : (b == y) = true := by simpa using e2
          have Hs2 := Lib.hid (Hs.out.trans (if_pos ⟨e1, e2⟩))
          clear e1 e2
          go_wp2
          go_quiet (fail)
          go_wp2
          exact ⟨⟨j + 1, _, by omega, by go_num, by rw [Hs2.out]; rfl, rfl⟩, by simp [intOf]; omega⟩
        · have e2' : (b == y) = false := by simpa using e2
          have Hs2 := Lib.hid (Hs.out.trans (if_neg (fun h => e2 h.2)))
          clear e1 e2
          go_wp2
          go_quiet (fail)
          go_wp2
          exact ⟨⟨j + 1, _, by omega, by go_num, by rw [Hs2.out], rfl⟩, by simp [intOf]; omega⟩
      · have e1' : (a == x) = false := by simpa using e1
        have Hs2 := Lib.hid (Hs.out.trans (if_neg (fun h => e1 h.1)))
        clear e1
        go_wp2
        go_quiet (fail)
        go_wp2
        exact ⟨⟨j + 1, _, by omega, by go_num, by rw [Hs2.out], rfl⟩, by simp [intOf]; omega⟩
    · obtain rfl : j = L := by omega
      go_wp2
      go_ret
      exact ⟨rfl, q, rfl⟩

/-- The two points of a cell have as many of a cell with the numbers x / 3 and x % 3. -/
def Eq4 (l m : List (List Int)) (i k c x : Nat) : Prop :=
  cntTo m (l[c]?.getD []) ((l[i]?.getD [])[0]?.getD 0).toNat ((x / 3 : Nat) : Int) ((x % 3 : Nat) : Int) (l[c]?.getD []).length =
  cntTo m (l[c]?.getD []) ((l[i]?.getD [])[k]?.getD 0).toNat ((x / 3 : Nat) : Int) ((x % 3 : Nat) : Int) (l[c]?.getD []).length
def Equit (l m : List (List Int)) : Prop := ∀ i, i < l.length → ∀ k, 1 ≤ k → k < (l[i]?.getD []).length → ∀ c, c < l.length → ∀ x, x < 9 → Eq4 l m i k c x

set_option maxRecDepth 100000 in
set_option maxHeartbeats 2000000 in
theorem equitable_calls (n : Nat) (al am : Option Addr) (cl cm : Nat) (l m : List (List Int)) (w : World) (hl : Rows w al l) (hm : Rows w am m) (hmm : IsMat n m) (hin : InRange n l) :
    Calls Try.prog 23 #[.slice al l.length cl, .slice am n cm] w fun e w' => ∃ b : Bool, e = .returned (.bool b) ∧ (b = true ↔ Equit l m) ∧ ∃ q, w' = w.drewN q := by
  have hll := hl.len
  have Hcnt := Lib.hid (fun (ac : Option Addr) (cc : Nat) (c : List Int) (v : Nat) (x y : Int) (q : Nat) (hc : Ints w ac c) (hcn : ∀ p ∈ c, 0 ≤ p ∧ p < n) (hv : v < n) => count_calls n am ac cm cc m c v x y (w.drewN q) (hm.drewN q) hmm (hc.drewN q) hcn hv)
  have H0 := Lib.hid (And.intro hl (And.intro hmm hin))
  clear hl hm hmm hin
  obtain ⟨L, hL⟩ : ∃ L, L = l.length := ⟨_, rfl⟩
  rw [← hL] at hll ⊢
  have HL := Lib.hid hL
  have hEq : Equit l m ↔ ∀ i, i < L → ∀ k, 1 ≤ k → k < (l[i]?.getD []).length → ∀ c, c < L → ∀ x, x < 9 → Eq4 l m i k c x := by rw [hL]; exact Iff.rfl
  have HE := Lib.hid hEq
  clear hL hEq
  go_enter Try.func23, Try.ntmps23
  go_wp2
  go_loopw [5] (fun i wr => ∃ i' q : Nat, i' ≤ L ∧ i = .int .i64 i' ∧ wr = w.drewN q ∧ (∀ i, i < i' → ∀ k, 1 ≤ k → k < (l[i]?.getD []).length → ∀ c, c < L → ∀ x, x < 9 → Eq4 l m i k c x)) (fun i _ => L - (intOf i).toNat)
  case atStart => exact ⟨0, 0, by omega, rfl, rfl, fun i hi => by omega⟩
  case round =>
    obtain ⟨i, q, hi, rfl, rfl, hP⟩ := hrel
    have HP := Lib.hid hP
    clear hP
    by_cases hiL : i < L
    · obtain ⟨g, o, b, cc, rfl, _, hcell, hints⟩ := H0.out.1.at_ (k := i) (by rw [← HL.out]; exact hiL)
      obtain ⟨C, hC⟩ : ∃ x, l[i]?.getD [] = x := ⟨_, rfl⟩
      rw [hC] at hcell hints
      have hCl := hints.len
      have hCr : ∀ k, k < C.length → ∃ q : Nat, C[k]?.getD 0 = (q : Int) ∧ q < n := fun k hk => by
        obtain ⟨q, hq, hqn⟩ := H0.out.2.2.at_ (k := i) (j := k) (by rw [← HL.out]; exact hiL) (by rw [hC]; exact hk)
        rw [hC] at hq; exact ⟨q, hq, hqn⟩
      obtain ⟨N, hN⟩ : ∃ x, x = C.length := ⟨_, rfl⟩
      rw [← hN] at hcell hCl hCr
      have H1 := Lib.hid (And.intro hints (And.intro hC (And.intro hN hCr)))
      clear hints hC hN hCr
      go_wp2
      go_loopw [6] (fun k wr => ∃ k' q : Nat, 1 ≤ k' ∧ (k' ≤ N ∨ N = 0 ∧ k' = 1) ∧ k = .int .i64 k' ∧ wr = w.drewN q ∧ (∀ k, 1 ≤ k → k < k' → ∀ c, c < L → ∀ x, x < 9 → Eq4 l m i k c x)) (fun k _ => N - (intOf k).toNat)
      case atStart => exact ⟨1, q, by omega, by omega, rfl, rfl, fun k h1 h2 => by omega⟩
      case round =>
        obtain ⟨k, q, hk1, hkN, rfl, rfl, hQ⟩ := hrel
        have HQ := Lib.hid hQ
        clear hQ
        by_cases hkl : k < N
        · obtain ⟨gb, ob, rfl, _, hc0⟩ := H1.out.1.at_ (k := 0) (by rw [← H1.out.2.2.1]; omega)
          obtain ⟨gb', ob', e, _, hck⟩ := H1.out.1.at_ (k := k) (by rw [← H1.out.2.2.1]; exact hkl)
          cases e
          obtain ⟨p0, hp0, hp0n⟩ := H1.out.2.2.2 0 (by omega)
          obtain ⟨pk, hpk, hpkn⟩ := H1.out.2.2.2 k hkl
          rw [hp0] at hc0
          rw [hpk] at hck
          have hN0 : (0 : Int) < (N : Int) := by omega
          simp only [Nat.add_zero] at hc0
          have H2 := Lib.hid (And.intro hp0 hpk)
          clear hp0 hpk
          go_wp2
          go_loopw [7] (fun c wr => ∃ c' q : Nat, c' ≤ L ∧ c = .int .i64 c' ∧ wr = w.drewN q ∧ (∀ c, c < c' → ∀ x, x < 9 → Eq4 l m i k c x)) (fun c _ => L - (intOf c).toNat)
          case atStart => exact ⟨0, q, by omega, rfl, rfl, fun c h => by omega⟩
          case round =>
            obtain ⟨c, q, hcL, rfl, rfl, hR⟩ := hrel
            have HR := Lib.hid hR
            clear hR
            by_cases hcl : c < L
            · obtain ⟨g', o', bc, c2, e, _, hcellc, hintsc⟩ := H0.out.1.at_ (k := c) (by rw [← HL.out]; exact hcl)
              cases e
              obtain ⟨Z, hZ⟩ : ∃ x, l[c]?.getD [] = x := ⟨_, rfl⟩
              rw [hZ] at hcellc hintsc
              have hZn : ∀ p ∈ Z, 0 ≤ p ∧ p < n := by
                have := List.getElem?_eq_getElem (show c < l.length by rw [← HL.out]; exact hcl)
                rw [this] at hZ
                exact H0.out.2.2 Z (by rw [← hZ]; exact List.getElem_mem _)
              have hct := fun (v : Nat) (x y : Int) (q : Nat) (hv : v < n) => Hcnt.out bc c2 Z v x y q hintsc hZn hv
              obtain ⟨ZL, hZL⟩ : ∃ x, x = Z.length := ⟨_, rfl⟩
              rw [← hZL] at hct hcellc
              have H3 := Lib.hid (And.intro hct (And.intro hZ hZL))
              clear hct hZ hZL hZn hintsc
              go_wp2
              go_loopw [8] (fun x wr => ∃ x' q : Nat, x' ≤ 9 ∧ x = .int .i64 x' ∧ wr = w.drewN q ∧ (∀ x, x < x' → Eq4 l m i k c x)) (fun x _ => 9 - (intOf x).toNat)
              case atStart => exact ⟨0, q, by omega, rfl, rfl, fun x h => by omega⟩
              case round =>
                obtain ⟨x, q, hx9, rfl, rfl, hS⟩ := hrel
                have HS := Lib.hid hS
                clear hS
                by_cases hx : x < 9
                · have hd : ((x / 3 : Nat) : Int) = (x : Int) / 3 := by omega
                  have hr : ((x % 3 : Nat) : Int) = (x : Int) % 3 := by omega
                  have h1 := fun q => H3.out.1 p0 ((x / 3 : Nat) : Int) ((x % 3 : Nat) : Int) q hp0n
                  have h2 := fun q => H3.out.1 pk ((x / 3 : Nat) : Int) ((x % 3 : Nat) : Int) q hpkn
                  have heq : Eq4 l m i k c x ↔ cntTo m Z p0 ((x / 3 : Nat) : Int) ((x % 3 : Nat) : Int) ZL = cntTo m Z pk ((x / 3 : Nat) : Int) ((x % 3 : Nat) : Int) ZL := by
                    rw [H3.out.2.2, ← H3.out.2.1]
                    unfold Eq4
                    rw [H1.out.2.1, H2.out.1, H2.out.2]
                    simp only [Int.toNat_natCast]
                  obtain ⟨A, hA⟩ : ∃ A, cntTo m Z p0 ((x / 3 : Nat) : Int) ((x % 3 : Nat) : Int) ZL = A := ⟨_, rfl⟩
                  obtain ⟨B, hB⟩ : ∃ A, cntTo m Z pk ((x / 3 : Nat) : Int) ((x % 3 : Nat) : Int) ZL = A := ⟨_, rfl⟩
                  simp only [← H3.out.2.2, hA] at h1
                  simp only [← H3.out.2.2, hB] at h2
                  rw [hA, hB] at heq
                  rw [hd, hr] at h1 h2
                  clear hd hr
                  have Hh := Lib.hid (And.intro h1 h2)
                  have Heq := Lib.hid heq
                  clear h1 h2 hA hB heq
                  by_cases hAB : A = B
                  · subst hAB
                    go_wp2
                    go_quiet (first | (go_at_call 60; with_reducible exact quiet_add (Hh.out.1 _)) | (go_at_call 60; exact quiet_add (Hh.out.2 _)))
                    go_wp2
                    refine ⟨⟨x + 1, _, by omega, by go_num, rfl, fun x' hx' => ?_⟩, by simp [intOf]; omega⟩
                    by_cases e : x' = x
                    · rw [e]; exact Heq.out.2 (by first | rfl | trivial)
                    · exact HS.out x' (by omega)
                  · have hne : ((A : Int) != (B : Int)) = true := by simp; omega
                    go_wp2
                    go_quiet (first | (go_at_call 60; with_reducible exact quiet_add (Hh.out.1 _)) | (go_at_call 60; exact quiet_add (Hh.out.2 _)))
                    go_wp2
                    go_ret
                    refine ⟨false, rfl, ⟨fun h => (by cases h), fun h => absurd (Heq.out.1 (HE.out.1 h i hiL k hk1 (by rw [H1.out.2.1, ← H1.out.2.2.1]; exact hkl) c hcl x hx)) hAB⟩, q + nq, by rw [World.drewN_drewN]⟩
                · obtain rfl : x = 9 := by omega
                  go_wp2
                  refine ⟨⟨c + 1, q, by omega, by go_num, rfl, fun c' hc' => ?_⟩, by simp [intOf]; omega⟩
                  by_cases e : c' = c
                  · rw [e]; exact HS.out
                  · exact HR.out c' (by omega)
            · obtain rfl : c = L := by omega
              go_wp2
              refine ⟨⟨k + 1, q, by omega, by omega, by go_num, rfl, fun k' h1 h2 => ?_⟩, by simp [intOf]; omega⟩
              by_cases e : k' = k
              · rw [e]; exact HR.out
              · exact HQ.out k' h1 (by omega)
        · go_wp2
          refine ⟨⟨i + 1, q, by omega, by go_num, rfl, fun i' hi' => ?_⟩, by simp [intOf]; omega⟩
          by_cases e : i' = i
          · rw [e, H1.out.2.1, ← H1.out.2.2.1]
            intro k' h1 h2
            exact HQ.out k' h1 (by omega)
          · exact HP.out i' (by omega)
    · obtain rfl : i = L := by omega
      go_wp2
      go_ret
      exact ⟨true, rfl, ⟨fun _ => HE.out.2 HP.out, fun _ => rfl⟩, q, rfl⟩
end Go.Proofs.Ytlnikgcanimggaa
