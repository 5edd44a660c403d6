/- One and next: the first permutation and the next one. -/
import Derived.Test.YtjjjohmppehejaaGreatGroupP
import Derived.Test.YtjjjohmppehejaaGreatPlainAp
import Derived.Deep.DeepCutAuto
set_option linter.unusedSimpArgs false
set_option linter.unusedVariables false
namespace Go.Proofs.YtjjjohmppehejaaGreat
open Go.RowKit Plain PlainG PlainX PlainT
set_option maxHeartbeats 400000 in
theorem one_calls (n : Nat) (hn : n ≤ 1000) (w : World) : Calls Tryz.prog 20 #[.int .i64 (n : Int)] w fun e w' => ∃ v, e = .returned v ∧ Own w' w.heap.size v 3 (ints (nts (List.range n))) ∧ Below w.heap.size w w' := by
  obtain ⟨i3, hi3, hz3, hs3, hb3⟩ := info_parts Tryz.info3
  have I3 := Lib.hid (And.intro hi3 (And.intro hz3 (And.intro hs3 hb3)))
  clear hi3 hz3 hs3 hb3
  go_enter Tryz.func20, Tryz.ntmps20
  go_wp2
  go_loopw [3, 4] (fun v i wr => ∃ k : Nat, k ≤ n ∧ i = .int .i64 (k : Int) ∧ Own wr w.heap.size v 3 (ints (nts (List.range k))) ∧ Below w.heap.size w wr) (fun _ i _ => n - (intOf i).toNat)
  case atStart => exact ⟨0, by omega, rfl, Own.nil _ _ _, Below.refl _ _⟩
  case round =>
    obtain ⟨k, hk, rfl, ho, hb⟩ := hrel
    have H := Lib.hid (And.intro ho hb)
    have hsz : w.heap.size ≤ wr.heap.size := hb.size
    have hl : (ints (nts (List.range k))).length < 1099511627776 := by rw [ints_len, nts_len]; simp; omega
    clear ho hb
    by_cases hkn : k < n
    · go_wp2_with (at_builtin; refine app1 rfl (.tmp 10) (.tmp 12) 40 3 rfl i3 (.int .i64 0) 8 Tryz.underlying40 I3.out.1 I3.out.2.1 I3.out.2.2.1 I3.out.2.2.2 rfl (by omega) w.heap.size (.int .i64 (k : Int)) u3 (ints (nts (List.range k))) rfl H.out.1 rfl rfl hl hsz ?_; intro v8 w8 k1 k2 k3; have H8 := Lib.hid (And.intro k1 (H.out.2.grown k2 hsz (fun g hg => (own_above H.out.1 g hg).1))); clear k1 k2 k3)
      refine ⟨⟨k + 1, by omega, by go_num, ?_, H8.out.2⟩, by simp [intOf]; omega⟩
      have := H8.out.1
      rw [List.range_succ]
      simpa [ints, nts] using this
    · obtain rfl : k = n := by omega
      go_wp2
      go_ret
      exact ⟨_, rfl, H.out.1, H.out.2⟩
/-- What next answers. -/
def NextRes (B : Nat) (w : World) (v : Value) (o : Option (List Nat)) (e : Ending) (w' : World) : Prop :=
  match o with
  | none => e = .returned (.bool false) ∧ ∃ q, w' = w.drewN q
  | some q => e = .returned (.bool true) ∧ Own w' B v 3 (ints (nts q)) ∧ w.grownBy w' v.ownBlock
theorem own_at {w : World} {B g n c : Nat} {p : List Nat} (h : Own w B (.slice (some ⟨g, 0, none⟩) n c) 3 (ints (nts p))) {i : Nat} (hi : i < p.length) : w.cell? ⟨g, i, none⟩ = some (.int .i64 (at_ p i : Int)) := by
  rw [h.cell i (by rw [ints_len, nts_len]; exact hi), ints_get (by rw [nts_len]; exact hi), nts_get hi]; rfl
theorem descF_step {p : List Nat} {k : Nat} : descF p (k + 1) = if at_ p k > at_ p (k + 1) then descF p k else some k := rfl
theorem lastF_step {p : List Nat} {x k : Nat} : lastF p x (k + 1) = if at_ p (k + 1) < x then lastF p x k else k + 1 := rfl
theorem nextF_none {p : List Nat} (h : descF p (p.length - 1) = none) : nextF p = none := by unfold nextF; rw [h]
theorem nextF_some {p : List Nat} {i : Nat} (h : descF p (p.length - 1) = some i) : nextF p = some (revF p.length (swapF p i (lastF p (at_ p i) (p.length - 1))) (i + 1) (p.length - 1)) := by unfold nextF; rw [h]
theorem put_nat {p : List Nat} {k x : Nat} : (ints (nts p)).set k (.int .i64 (x : Int)) = ints (nts (p.set k x)) := by unfold ints nts; simp [List.map_set]
set_option maxRecDepth 100000 in
set_option maxHeartbeats 4000000 in
theorem next_calls {B g c n : Nat} {p : List Nat} {w : World} (hp : isPermB n p = true) (hn : n ≤ 1000) (ho : Own w B (.slice (some ⟨g, 0, none⟩) n c) 3 (ints (nts p))) :
    Calls Tryz.prog 24 #[.slice (some ⟨g, 0, none⟩) n c] w fun e w' => NextRes B w (.slice (some ⟨g, 0, none⟩) n c) (nextF p) e w' := by
  obtain ⟨hl, hr, hd⟩ := isPermB_iff.1 hp
  have H := Lib.hid (And.intro ho hl)
  clear ho hp hr hd hl
  go_enter Tryz.func24, Tryz.ntmps24
  go_wp2
  go_loopw [3] (fun i wr => ∃ (z : Int) (q : Nat), -2 ≤ z ∧ z ≤ (n : Int) - 2 ∧ i = .int .i64 z ∧ wr = w.drewN q ∧ descF p (p.length - 1) = descF p (z + 1).toNat) (fun i _ => (intOf i + 2).toNat)
  case atStart => exact ⟨(n : Int) - 2, 0, by omega, by omega, by go_num, rfl, by rw [H.out.2]; congr 1; omega⟩
  case round =>
    obtain ⟨z, q, h1, h2, rfl, rfl, he⟩ := hrel
    by_cases hz : 0 ≤ z
    · obtain ⟨k, rfl⟩ : ∃ k : Nat, z = k := ⟨z.toNat, by omega⟩
      rw [show ((k : Int) + 1).toNat = k + 1 by omega, descF_step] at he
      have c1 : w.cell? ⟨g, k, none⟩ = some (.int .i64 (at_ p k : Int)) := own_at H.out.1 (by rw [H.out.2]; omega)
      have c2 : w.cell? ⟨g, k + 1, none⟩ = some (.int .i64 (at_ p (k + 1) : Int)) := own_at H.out.1 (by rw [H.out.2]; omega)
      obtain ⟨x, hx⟩ : ∃ x, at_ p k = x := ⟨_, rfl⟩
      obtain ⟨y, hy⟩ : ∃ y, at_ p (k + 1) = y := ⟨_, rfl⟩
      rw [hx] at c1 he
      rw [hy] at c2 he
      have hk1 : (k : Int) < n := by omega
      have hk2 : (k : Int) + 1 < n := by omega
      have hk3 : ((k : Int) + 1).toNat = k + 1 := by omega
      have hk4 : (0 : Int) ≤ (k : Int) + 1 := by omega
      have hk5 : IntKind.i64.wrap ((k : Int) + 1) = (k : Int) + 1 := IntWalk.i64_in _ (by omega)
      have hzd : decide (0 ≤ (k : Int)) = true := by simp
      have hzd2 : decide ((k : Int) < 0) = false := by simp
      by_cases hgt : x > y
      · rw [if_pos hgt] at he
        have hgd : decide (y < x) = true := by simp; omega
        have He := Lib.hid he
        clear he hx hy hgt
        go_wp2
        go_quiet (fail)
        go_wp2
        exact ⟨⟨(k : Int) - 1, q + nq, by omega, by omega, by go_num, rfl, by rw [He.out]; congr 1; omega⟩, by simp [intOf]; omega⟩
      · rw [if_neg hgt] at he
        have hgd : decide (y < x) = false := by simp; omega
        have He := Lib.hid (And.intro he (And.intro hx (And.intro hy hgt)))
        clear he hx hy hgt
        go_wp2
        go_quiet (fail)
        go_wp2
        clear hgd hzd hzd2
        have hw0 : Own (w.drewN (q + nq)) B (.slice (some ⟨g, 0, none⟩) n c) 3 (ints (nts p)) := H.out.1
        have hg0 : w.grownBy (w.drewN (q + nq)) (some g) := grown_drewN w _ _
        obtain ⟨v, hv⟩ : ∃ v, w.drewN (q + nq) = v := ⟨_, rfl⟩
        rw [hv] at hw0 hg0 ⊢
        have c1v : v.cell? ⟨g, k, none⟩ = some (.int .i64 (x : Int)) := by rw [← hv]; exact c1
        have HV := Lib.hid (And.intro hw0 hg0)
        clear hw0 hg0 hv c1 c2
        go_loopw [4] (fun i wr => ∃ (m q : Nat), k + 1 ≤ m ∧ m + 1 ≤ n ∧ i = .int .i64 (m : Int) ∧ wr = v.drewN q ∧ lastF p x (n - 1) = lastF p x m) (fun i _ => (intOf i).toNat)
        case atStart => exact ⟨n - 1, 0, by omega, by omega, by go_num, rfl, rfl⟩
        case round =>
          obtain ⟨m, q, m1, m2, rfl, rfl, hla⟩ := hrel
          obtain ⟨m, rfl⟩ : ∃ m', m = m' + 1 := ⟨m - 1, by omega⟩
          rw [lastF_step] at hla
          have d1 : v.cell? ⟨g, m + 1, none⟩ = some (.int .i64 (at_ p (m + 1) : Int)) := own_at HV.out.1 (by rw [H.out.2]; omega)
          obtain ⟨y2, hy2⟩ : ∃ y2, at_ p (m + 1) = y2 := ⟨_, rfl⟩
          rw [hy2] at d1 hla
          have hm1 : ((m + 1 : Nat) : Int) < n := by omega
          have hm2 : ((m + 1 : Nat) : Int) = (m : Int) + 1 := by omega
          by_cases hlt : y2 < x
          · rw [if_pos hlt] at hla
            have hne : m ≠ k := fun h => by subst h; have := He.out.2.2.1; have := He.out.2.2.2; omega
            have hgd : decide (y2 < x) = true := by simp; omega
            have Hl := Lib.hid hla
            clear hla hy2 hlt
            go_wp2
            go_quiet (fail)
            go_wp2
            exact ⟨⟨m, q + nq, by omega, by omega, by go_num, rfl, by rw [Hl.out]⟩, by simp [intOf]⟩
          · rw [if_neg hlt] at hla
            have hgd : decide (y2 < x) = false := by simp; omega
            have Hl := Lib.hid (And.intro hla hy2)
            clear hla hy2 hlt
            go_wp2
            go_quiet (fail)
            have f1 := HV.out.1.frozen k
            have f2 := HV.out.1.frozen (m + 1)
            go_wp2
            go_region
            obtain ⟨v1, hv1⟩ : ∃ v1, ((v.drewN (q + nq + 1)).setCell ⟨g, k, none⟩ (.int .i64 (y2 : Int))).setCell ⟨g, m + 1, none⟩ (.int .i64 (x : Int)) = v1 := ⟨_, rfl⟩
            rw [hv1]
            have hlf : lastF p x (n - 1) = m + 1 := Hl.out.1
            have hnx : nextF p = some (revF n (swapF p k (m + 1)) (k + 1) (n - 1)) := by
              rw [nextF_some He.out.1, H.out.2, He.out.2.1, hlf]
            have ho1 : Own v1 B (.slice (some ⟨g, 0, none⟩) n c) 3 (ints (nts (swapF p k (m + 1)))) := by
              have := ((HV.out.1.drewN (q + nq + 1)).put k (.int .i64 (y2 : Int))).put (m + 1) (.int .i64 (x : Int))
              rw [hv1, put_nat, put_nat] at this
              unfold swapF
              rw [He.out.2.1, Hl.out.2]
              exact this
            have hg1 : w.grownBy v1 (some g) := by
              rw [← hv1]
              exact ((HV.out.2.trans (grown_drewN v _ _)).trans (grown_put k _)).trans (grown_put (m + 1) _)
            have hsl : (swapF p k (m + 1)).length = n := by unfold swapF; simp [H.out.2]
            obtain ⟨T, hT⟩ : ∃ T, swapF p k (m + 1) = T := ⟨_, rfl⟩
            rw [hT] at hnx ho1 hsl
            have HN := Lib.hid hnx
            have HO := Lib.hid (And.intro ho1 (And.intro hg1 hsl))
            clear hv1 hnx ho1 hg1 hlf f1 f2 hgd hT hsl
            go_wp2
            go_loopw [5, 6] (fun i5 i6 wr => ∃ (f a b : Nat) (P : List Nat), i5 = .int .i64 (a : Int) ∧ i6 = .int .i64 (b : Int) ∧ P.length = n ∧ b < n ∧ a ≤ n ∧ b ≤ f + a ∧ Own wr B (.slice (some ⟨g, 0, none⟩) n c) 3 (ints (nts P)) ∧ w.grownBy wr (some g) ∧ revF n T (k + 1) (n - 1) = revF f P a b) (fun i5 i6 _ => (intOf i6 - intOf i5).toNat)
            case atStart => exact ⟨n, k + 1, n - 1, T, by go_num, by go_num, HO.out.2.2, by omega, by omega, by omega, HO.out.1, HO.out.2.1, rfl⟩
            case round =>
              obtain ⟨f, a, b, P, rfl, rfl, p1, p2, p3, p4, p5, p6, p7⟩ := hrel
              by_cases hab : a < b
              · obtain ⟨f, rfl⟩ : ∃ f', f = f' + 1 := ⟨f - 1, by omega⟩
                rw [revF, if_pos hab] at p7
                have e1 : wr.cell? ⟨g, a, none⟩ = some (.int .i64 (at_ P a : Int)) := own_at p5 (by omega)
                have e2 : wr.cell? ⟨g, b, none⟩ = some (.int .i64 (at_ P b : Int)) := own_at p5 (by omega)
                have f1 := p5.frozen a
                have f2 := p5.frozen b
                obtain ⟨s, hs⟩ : ∃ s, at_ P a = s := ⟨_, rfl⟩
                obtain ⟨t, ht⟩ : ∃ t, at_ P b = t := ⟨_, rfl⟩
                rw [hs] at e1
                rw [ht] at e2
                have h51 : (a : Int) < n := by omega
                have h52 : (b : Int) < n := by omega
                have hne : a ≠ b := by omega
                have HP := Lib.hid (And.intro p5 (And.intro p6 (And.intro p7 (And.intro hs ht))))
                clear p5 p6 p7 hs ht
                go_wp2
                go_region
                go_wp2
                have ho2 := (HP.out.1.put a (.int .i64 (t : Int))).put b (.int .i64 (s : Int))
                rw [put_nat, put_nat] at ho2
                refine ⟨⟨f, a + 1, b - 1, swapF P a b, by go_num, by go_num, by unfold swapF; simpa using p1, by omega, by omega, by omega, ?_, ?_, HP.out.2.2.1⟩, by simp [intOf]; omega⟩
                · unfold swapF
                  rw [HP.out.2.2.2.1, HP.out.2.2.2.2]
                  exact ho2.drew
                · exact ((HP.out.2.1.trans (grown_put a _)).trans (grown_put b _)).trans ⟨rfl, rfl, rfl, Nat.le_refl _, fun _ _ _ => rfl⟩
              · go_wp2
                go_ret
                rw [HN.out]
                have hrf : revF f P a b = P := by cases f with
                  | zero => rfl
                  | succ f => rw [revF, if_neg hab]
                rw [hrf] at p7
                refine ⟨rfl, ?_, p6⟩
                rw [p7]
                exact p5
    · have hze : (z + 1).toNat = 0 := by omega
      rw [hze] at he
      have He := Lib.hid (nextF_none he)
      have hz2 : z < 0 := by omega
      have hzd : decide (0 ≤ z) = false := by simp; omega
      have hzd2 : decide (z < 0) = true := by simp; omega
      clear he
      go_wp2
      go_quiet (fail)
      go_wp2
      go_ret
      rw [He.out]
      exact ⟨rfl, _, rfl⟩
end Go.Proofs.YtjjjohmppehejaaGreat
