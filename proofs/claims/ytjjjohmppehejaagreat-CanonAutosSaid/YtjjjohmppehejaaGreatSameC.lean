/- Chains compared. -/
import Derived.Test.YtjjjohmppehejaaGreatSame
import Derived.Test.YtjjjohmppehejaaGreatGroupP
set_option linter.unusedSimpArgs false
set_option linter.unusedVariables false
namespace Go.Proofs.YtjjjohmppehejaaGreat
open Go.RowKit Plain PlainG PlainX
set_option maxHeartbeats 400000 in
theorem same51_calls (a b : Option Addr) (c d : Nat) (xs ys : List Int) (w : World) (ha : Ints w a xs) (hb : Ints w b ys) :
    Calls Tryz.prog 51 #[.slice a xs.length c, .slice b ys.length d] w fun e w' => e = .returned (.bool (decide (xs = ys))) ∧ ∃ q, w' = w.drewN q := by
  have hA := Lib.hid ha
  have hB := Lib.hid hb
  have hmx := ha.len
  clear ha hb
  obtain ⟨n, hn⟩ : ∃ n, n = xs.length := ⟨_, rfl⟩
  obtain ⟨m, hm⟩ : ∃ m, m = ys.length := ⟨_, rfl⟩
  rw [← hn, ← hm]
  rw [← hn] at hmx
  by_cases h : n = m
  · subst h
    have Hn := Lib.hid hn
    have Hm := Lib.hid hm
    clear hn hm
    go_enter Tryz.func51, Tryz.ntmps51
    go_wp2
    go_loopw [5] (fun i wr => ∃ k q : Nat, k ≤ n ∧ i = .int .i64 k ∧ wr = w.drewN q ∧ agreeTo xs ys k) (fun i _ => n - (intOf i).toNat)
    case atStart => exact ⟨0, 0, Nat.zero_le _, rfl, rfl, fun i hi => by omega⟩
    case round =>
      obtain ⟨k, q, hk, rfl, rfl, he⟩ := hrel
      have He := Lib.hid he
      clear he
      by_cases hlt : k < n
      · obtain ⟨a', oa, rfl, _, hca⟩ := hA.out.at_ (k := k) (by have := Hn.out; omega)
        obtain ⟨b', ob, rfl, _, hcb⟩ := hB.out.at_ (k := k) (by have := Hm.out; omega)
        go_wp2
        go_quiet (fail)
        go_wp2
        · rename_i hne
          go_ret
          refine ⟨ret_bool ?_, _, World.drewN_drewN _ _ _⟩
          symm; rw [decide_eq_false_iff_not]
          rintro rfl
          simp at hne
        · rename_i heq
          refine ⟨⟨k + 1, q + nq, by omega, by go_num, rfl, agreeTo_succ He.out ?_⟩, by simp [intOf]; omega⟩
          have h1 : xs[k]?.getD 0 = ys[k]?.getD 0 := by simpa using heq
          exact (getD_eq_iff (by have := Hn.out; omega) (by have := Hm.out; omega)).1 h1
      · go_wp2
        go_ret
        refine ⟨ret_bool ?_, _, rfl⟩
        symm; rw [decide_eq_true_iff]
        exact agreeTo_all (by rw [← Hn.out, ← Hm.out]) k (by have := Hn.out; omega) He.out
  · have hne' : ((n : Int) != m) = true := by simp; omega
    have H := Lib.hid hn
    have H' := Lib.hid hm
    clear hn hm
    go_enter Tryz.func51, Tryz.ntmps51
    go_wp2
    go_ret
    refine ⟨ret_bool ?_, 0, rfl⟩
    symm; rw [decide_eq_false_iff_not]
    rintro rfl
    exact h (by rw [H.out, H'.out])
set_option maxHeartbeats 400000 in
theorem samePerms_calls (a b : Option Addr) (c d : Nat) (xs ys : List (List Int)) (w : World) (ha : Rows w a xs) (hb : Rows w b ys) :
    Calls Tryz.prog 37 #[.slice a xs.length c, .slice b ys.length d] w fun e w' => e = .returned (.bool (decide (xs = ys))) ∧ ∃ q, w' = w.drewN q := by
  have hA := Lib.hid ha
  have hB := Lib.hid hb
  have hmx := ha.len
  clear ha hb
  obtain ⟨n, hn⟩ : ∃ n, n = xs.length := ⟨_, rfl⟩
  obtain ⟨m, hm⟩ : ∃ m, m = ys.length := ⟨_, rfl⟩
  rw [← hn, ← hm]
  rw [← hn] at hmx
  by_cases h : n = m
  · subst h
    have Hn := Lib.hid hn
    have Hm := Lib.hid hm
    clear hn hm
    go_enter Tryz.func37, Tryz.ntmps37
    go_wp2
    go_loopw [5] (fun i wr => ∃ k q : Nat, k ≤ n ∧ i = .int .i64 k ∧ wr = w.drewN q ∧ agreeTo xs ys k) (fun i _ => n - (intOf i).toNat)
    case atStart => exact ⟨0, 0, Nat.zero_le _, rfl, rfl, fun i hi => by omega⟩
    case round =>
      obtain ⟨k, q, hk, rfl, rfl, he⟩ := hrel
      have He := Lib.hid he
      clear he
      by_cases hlt : k < n
      · obtain ⟨a', oa, a2, ac, rfl, _, hca, hia⟩ := hA.out.at_ (k := k) (by have := Hn.out; omega)
        obtain ⟨b', ob, b2, bc, rfl, _, hcb, hib⟩ := hB.out.at_ (k := k) (by have := Hm.out; omega)
        have hxl : k < xs.length := by have := Hn.out; omega
        have hyl : k < ys.length := by have := Hm.out; omega
        obtain ⟨x, hx⟩ : ∃ x, xs[k]?.getD [] = x := ⟨_, rfl⟩
        obtain ⟨y, hy⟩ : ∃ y, ys[k]?.getD [] = y := ⟨_, rfl⟩
        rw [hx] at hca hia
        rw [hy] at hcb hib
        have Hc := Lib.hid (fun n => same51_calls a2 b2 ac bc x y (w.drewN n) hia hib)
        have Hx := Lib.hid hx
        have Hy := Lib.hid hy
        obtain ⟨r, hr⟩ : ∃ r, decide (x = y) = r := ⟨_, rfl⟩
        rw [hr] at Hc
        have Hr := Lib.hid hr
        clear hia hib hx hy hr hxl hyl
        go_wp2
        go_quiet ((go_at_call 51; exact quiet_add (Hc.out _)))
        go_wp2
        · rename_i hr0
          go_ret
          refine ⟨ret_bool ?_, _, World.drewN_drewN _ _ _⟩
          symm; rw [decide_eq_false_iff_not]
          rintro rfl
          have := Hr.out
          rw [← Hx.out, ← Hy.out] at this
          simp at this hr0
          simp_all
        · rename_i hr0
          refine ⟨⟨k + 1, q + nq, by omega, by go_num, rfl, agreeTo_succ He.out ?_⟩, by simp [intOf]; omega⟩
          have h1 : x = y := by have := Hr.out; simp at hr0; simp_all
          rw [← Hx.out, ← Hy.out] at h1
          exact (getD_eq_iff (by have := Hn.out; omega) (by have := Hm.out; omega)).1 h1
      · go_wp2
        go_ret
        refine ⟨ret_bool ?_, _, rfl⟩
        symm; rw [decide_eq_true_iff]
        exact agreeTo_all (by rw [← Hn.out, ← Hm.out]) k (by have := Hn.out; omega) He.out
  · have hne' : ((n : Int) != m) = true := by simp; omega
    have H := Lib.hid hn
    have H' := Lib.hid hm
    clear hn hm
    go_enter Tryz.func37, Tryz.ntmps37
    go_wp2
    go_ret
    refine ⟨ret_bool ?_, 0, rfl⟩
    symm; rw [decide_eq_false_iff_not]
    rintro rfl
    exact h (by rw [H.out, H'.out])
theorem Rows2.at_ {w : World} {a : Option Addr} {xsss : List (List (List Int))} (h : Rows2 w a xsss) {k : Nat} (hk : k < xsss.length) :
    ∃ g o b c, a = some ⟨g, o, none⟩ ∧ g < w.heap.size ∧ w.cell? ⟨g, o + k, none⟩ = some (.slice b (xsss[k]?.getD []).length c) ∧ Rows w b (xsss[k]?.getD []) := by
  obtain ⟨vs, h1, h2, h3⟩ := h
  have hv : vs[k]? = some vs[k] := List.getElem?_eq_getElem (by omega)
  have hx : xsss[k]? = some xsss[k] := List.getElem?_eq_getElem hk
  obtain ⟨b, c, e, hr⟩ := h3 k _ _ hv hx
  obtain ⟨g, o, e2, hg, hc⟩ := h1.2 k _ hv
  rw [hx]
  exact ⟨g, o, b, c, e2, hg, by rw [hc, e]; rfl, hr⟩
theorem Rows2.drewN {w : World} {a : Option Addr} {xsss : List (List (List Int))} (h : Rows2 w a xsss) (n : Nat) : Rows2 (w.drewN n) a xsss := h
set_option maxRecDepth 100000 in
set_option maxHeartbeats 2000000 in
theorem sameChain_calls {w : World} {c : Chn} {oa ra ob rb : Option Addr} {oc rc od rd : Nat} (h1 : Rows w oa c.orbs) (h2 : Rows2 w ra c.reps) (h3 : Rows w ob c.orbs) (h4 : Rows2 w rb c.reps) (hl : c.reps.length ≤ 1000) :
    Calls Tryz.prog 14 #[.agg #[.int .i64 c.d, .slice oa c.orbs.length oc, .slice ra c.reps.length rc], .agg #[.int .i64 c.d, .slice ob c.orbs.length od, .slice rb c.reps.length rd]] w fun e w' => e = .returned (.bool true) ∧ Below w.heap.size w w' := by
  obtain ⟨d, orbs, reps⟩ := c
  simp only at h1 h2 h3 h4 hl ⊢
  obtain ⟨X, hX⟩ : ∃ X, w.heap.size = X := ⟨_, rfl⟩
  obtain ⟨N, hN⟩ : ∃ N, orbs.length = N := ⟨_, rfl⟩
  obtain ⟨R, hR⟩ : ∃ N, reps.length = N := ⟨_, rfl⟩
  rw [hN, hR]
  rw [hR] at hl
  obtain ⟨W1, hW1⟩ : ∃ W1, (w.alloc (.cells #[.int .i64 d, .slice oa N oc, .slice ra R rc] 31)).alloc (.cells #[.int .i64 d, .slice ob N od, .slice rb R rd] 31) = W1 := ⟨_, rfl⟩
  have hb1 : Below w.heap.size w W1 := by rw [← hW1]; exact alloc_b (alloc_b (Below.refl _ _) _) _
  have x0 : W1.cell? ⟨X, 0, none⟩ = some (.int .i64 d) := by rw [← hW1, ← hX]; simp
  have x1 : W1.cell? ⟨X, 1, none⟩ = some (.slice oa N oc) := by rw [← hW1, ← hX]; simp
  have x2 : W1.cell? ⟨X, 2, none⟩ = some (.slice ra R rc) := by rw [← hW1, ← hX]; simp
  have y0 : W1.cell? ⟨X + 1, 0, none⟩ = some (.int .i64 d) := by rw [← hW1, ← hX]; simp
  have y1 : W1.cell? ⟨X + 1, 1, none⟩ = some (.slice ob N od) := by rw [← hW1, ← hX]; simp
  have y2 : W1.cell? ⟨X + 1, 2, none⟩ = some (.slice rb R rd) := by rw [← hW1, ← hX]; simp
  have K36 := sameCells_calls oa ob oc od orbs orbs W1 (h1.below hb1) (h3.below hb1)
  rw [hN] at K36
  simp only [decide_true] at K36
  have H := Lib.hid (And.intro hb1 (And.intro (h2.below hb1) (And.intro (h4.below hb1) hR)))
  have HK := Lib.hid K36
  clear K36 h1 h2 h3 h4 hb1 hN hR
  go_enter Tryz.func14, Tryz.ntmps14
  go_wp2_with (go_at_call 36; refine HK.out.mono ?_; rintro e w2 ⟨rfl, q, hq⟩; subst hq; clear hW1)
  go_loopw [5] (fun i wr => ∃ k p : Nat, k ≤ R ∧ i = .int .i64 (k : Int) ∧ wr = W1.drewN p) (fun i _ => R - (intOf i).toNat)
  case atStart => exact ⟨0, _, Nat.zero_le _, rfl, rfl⟩
  case round =>
    obtain ⟨k, p, hk, rfl, rfl⟩ := hrel
    by_cases hlt : k < R
    · obtain ⟨g1, o1, b1, c1, rfl, _, ca, ha⟩ := H.out.2.1.at_ (k := k) (by rw [H.out.2.2.2]; exact hlt)
      obtain ⟨g2, o2, b2, c2, rfl, _, cb, hb⟩ := H.out.2.2.1.at_ (k := k) (by rw [H.out.2.2.2]; exact hlt)
      obtain ⟨z, hz⟩ : ∃ z, reps[k]?.getD [] = z := ⟨_, rfl⟩
      rw [hz] at ca ha cb hb
      have K37 := fun n => samePerms_calls b1 b2 c1 c2 z z (W1.drewN n) ha hb
      simp only [decide_true] at K37
      have HZ := Lib.hid K37
      clear K37 ha hb hz
      go_wp2
      go_quiet ((go_at_call 37; exact quiet_add (HZ.out _)))
      go_wp2
      exact ⟨⟨k + 1, p + nq, by omega, by go_num, by first | rfl | exact World.drewN_drewN _ _ _⟩, by simp [intOf]; omega⟩
    · go_wp2
      go_ret
      exact ⟨rfl, H.out.1.trans (below_self_drewN _ _)⟩
end Go.Proofs.YtjjjohmppehejaaGreat
