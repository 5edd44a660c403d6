/- The law's vast: chains that are too large. -/
import Derived.Test.YtbejhkojdiadaaaGreatRankG
set_option linter.unusedSimpArgs false
set_option linter.unusedVariables false
namespace Go.Proofs.YtbejhkojdiadaaaGreat
open Go.RowKit PlainPm
set_option maxRecDepth 100000 in
set_option maxHeartbeats 2000000 in
theorem vast10 {w : World} {v : Value} {d : Int} {os : List (List Int)} {rs : List (List (List Int))} (h : ChV w v d os rs) :
    Calls Tryz.prog 10 #[v] w fun e w' => (∃ B, e = .returned (.bool B) ∧ (B = false → ¬ (8 < d ∧ d ≤ 64))) ∧ Below w.heap.size w w' := by
  obtain ⟨a, c, b, e, rfl, h1, h2⟩ := h
  obtain ⟨X, hX⟩ : ∃ X, w.heap.size = X := ⟨_, rfl⟩
  obtain ⟨lo, hlo⟩ : ∃ l, os.length = l := ⟨_, rfl⟩
  obtain ⟨lr, hlr⟩ : ∃ l, rs.length = l := ⟨_, rfl⟩
  rw [hlo, hlr]
  obtain ⟨W1, hW1⟩ : ∃ W1, W1 = w.alloc (.cells #[.int .i64 d, .slice a lo c, .slice b lr e] 25) := ⟨_, rfl⟩
  have hbw : Below w.heap.size w W1 := by rw [hW1]; exact alloc_b (Below.refl _ _) _
  obtain ⟨x0, x1, x2⟩ : W1.cell? ⟨X, 0, none⟩ = some (.int .i64 d) ∧ W1.cell? ⟨X, 1, none⟩ = some (.slice a lo c) ∧ W1.cell? ⟨X, 2, none⟩ = some (.slice b lr e) := by rw [hW1]; exact box3a w _ _ _ X hX
  have hm1 := h1.len
  have hm2 := h2.len
  rw [hlo] at hm1
  rw [hlr] at hm2
  have H := Lib.hid (And.intro h1 (And.intro h2 (And.intro hlo (And.intro hlr (And.intro hbw hX)))))
  clear h1 h2 hlo hlr hbw
  by_cases hA : 8 < d ∧ d ≤ 64
  · have g1 : decide (8 < d) = true := by simp [hA.1]
    have g2 : decide (d ≤ 64) = true := by simp [hA.2]
    clear hA x0 x1 x2
    go_enter Tryz.func10, Tryz.ntmps10
    try rw [hX]
    go_wp2_with fail
    go_ret
    refine ⟨⟨true, rfl, fun h => by cases h⟩, ?_⟩
    rw [← hW1]; have := H.out.2.2.2.2.1; rwa [H.out.2.2.2.2.2] at this
  · have HA := Lib.hid hA
    have hg : decide (8 < d) = false ∨ (decide (8 < d) = true ∧ decide (d ≤ 64) = false) := by
      by_cases h8 : 8 < d
      · exact .inr ⟨by simp [h8], by simp; omega⟩
      · exact .inl (by simp [h8])
    clear hA
    by_cases hlo12 : 12 < lo
    · have g3 : decide ((12 : Int) < (lo : Int)) = true := by simp; omega
      have g4 : decide (12 < lo) = true := by simp [hlo12]
      clear x0 x1 x2
      rcases hg with g1 | ⟨g1, g2⟩
      all_goals
        go_enter Tryz.func10, Tryz.ntmps10
        try rw [hX]
        go_wp2_with fail
        go_ret
        refine ⟨⟨true, rfl, fun h => by cases h⟩, ?_⟩
        rw [← hW1]; have := H.out.2.2.2.2.1; rwa [H.out.2.2.2.2.2] at this
    by_cases hlr12 : 12 < lr
    · have g3 : decide ((12 : Int) < (lo : Int)) = false := by simp; omega
      have g4 : decide (12 < lo) = false := by simp [hlo12]
      have g5 : decide ((12 : Int) < (lr : Int)) = true := by simp; omega
      have g6 : decide (12 < lr) = true := by simp [hlr12]
      clear x0 x1 x2
      rcases hg with g1 | ⟨g1, g2⟩
      all_goals
        go_enter Tryz.func10, Tryz.ntmps10
        try rw [hX]
        go_wp2_with fail
        go_ret
        refine ⟨⟨true, rfl, fun h => by cases h⟩, ?_⟩
        rw [← hW1]; have := H.out.2.2.2.2.1; rwa [H.out.2.2.2.2.2] at this
    have g3 : decide ((12 : Int) < (lo : Int)) = false := by simp; omega
    have g4 : decide (12 < lo) = false := by simp [hlo12]
    have g5 : decide ((12 : Int) < (lr : Int)) = false := by simp; omega
    have g6 : decide (12 < lr) = false := by simp [hlr12]
    have hlo13 : lo ≤ 12 := by omega
    have hlr13 : lr ≤ 12 := by omega
    clear hlo12 hlr12
    rcases hg with g1 | ⟨g1, g2⟩
    all_goals
      go_enter Tryz.func10, Tryz.ntmps10
      try rw [hX]
      go_wp2_with fail
      try rw [← hW1]
      clear hW1
      go_loopw [3] (fun i wr => ∃ (k : Nat), k ≤ lo ∧ i = .int .i64 (k : Int) ∧ wr = W1) (fun i _ => lo - (intOf i).toNat)
      case atStart => exact ⟨0, by omega, rfl, rfl⟩
      case round =>
        obtain ⟨k, hk, rfl, rfl⟩ := hrel
        by_cases hkl : k < lo
        · obtain ⟨ag, ao, ab, ac, hae, _, hac, _⟩ := (H.out.1.below H.out.2.2.2.2.1).at_ (k := k) (by rw [H.out.2.2.1]; exact hkl)
          subst hae
          obtain ⟨L, hL⟩ : ∃ L, (os[k]?.getD []).length = L := ⟨_, rfl⟩
          rw [hL] at hac
          clear hL
          have hk1 : (k : Int) < lo := by omega
          by_cases hL12 : 12 < L
          · have e1 : decide ((12 : Int) < (L : Int)) = true := by simp; omega
            go_wp2_with fail
            go_ret
            refine ⟨⟨true, rfl, fun h => by cases h⟩, ?_⟩
            have := H.out.2.2.2.2.1; rwa [H.out.2.2.2.2.2] at this
          · have e1 : decide ((12 : Int) < (L : Int)) = false := by simp; omega
            go_wp2_with fail
            exact ⟨⟨k + 1, by omega, by go_num, trivial⟩, by simp [intOf]; omega⟩
        · obtain rfl : k = lo := by omega
          have hk1 : ¬ (k : Int) < k := by omega
          go_wp2_with fail
          go_loopw [4, 5] (fun i _ wq => ∃ (m : Nat), m ≤ lr ∧ i = .int .i64 (m : Int) ∧ wq = wr) (fun i _ _ => lr - (intOf i).toNat)
          case atStart => exact ⟨0, by omega, rfl, rfl⟩
          case round =>
            obtain ⟨m, hm, rfl, rfl⟩ := hrel
            by_cases hml : m < lr
            · obtain ⟨bg, bo, bb, bc, hbe, _, hbc, hri⟩ := (H.out.2.1.below H.out.2.2.2.2.1).at_ (k := m) (by rw [H.out.2.2.2.1]; exact hml)
              subst hbe
              have hRm := hri.len
              obtain ⟨R, hR⟩ : ∃ R, (rs[m]?.getD []).length = R := ⟨_, rfl⟩
              rw [hR] at hbc hRm
              have HR := Lib.hid (And.intro hR hri)
              clear hR hri
              have hm1' : (m : Int) < lr := by omega
              by_cases hR12 : 12 < R
              · have e1 : decide ((12 : Int) < (R : Int)) = true := by simp; omega
                go_wp2_with fail
                go_ret
                refine ⟨⟨true, rfl, fun h => by cases h⟩, ?_⟩
                have := H.out.2.2.2.2.1; rwa [H.out.2.2.2.2.2] at this
              · have e1 : decide ((12 : Int) < (R : Int)) = false := by simp; omega
                go_wp2_with fail
                obtain ⟨wo, rfl⟩ : ∃ wo : World, wo = wr := ⟨_, rfl⟩
                go_loopw [5] (fun i wq => ∃ (q : Nat), q ≤ R ∧ i = .int .i64 (q : Int) ∧ wq = wo) (fun i _ => R - (intOf i).toNat)
                case atStart => exact ⟨0, by omega, rfl, rfl⟩
                case round =>
                  obtain ⟨q, hq, rfl, rfl⟩ := hrel
                  by_cases hqR : q < R
                  · obtain ⟨cg, co, cb, cc, hce, _, hcc, _⟩ := HR.out.2.at_ (k := q) (by rw [HR.out.1]; exact hqR)
                    subst hce
                    obtain ⟨Q, hQ⟩ : ∃ Q, (((rs[m]?.getD [])[q]?).getD []).length = Q := ⟨_, rfl⟩
                    rw [hQ] at hcc
                    clear hQ
                    have hq1 : (q : Int) < R := by omega
                    by_cases hQ12 : 12 < Q
                    · have e2 : decide ((12 : Int) < (Q : Int)) = true := by simp; omega
                      go_wp2_with fail
                      go_ret
                      refine ⟨⟨true, rfl, fun h => by cases h⟩, ?_⟩
                      have := H.out.2.2.2.2.1; rwa [H.out.2.2.2.2.2] at this
                    · have e2 : decide ((12 : Int) < (Q : Int)) = false := by simp; omega
                      go_wp2_with fail
                      exact ⟨⟨q + 1, by omega, by go_num, trivial⟩, by simp [intOf]; omega⟩
                  · obtain rfl : q = R := by omega
                    have hq1 : ¬ (q : Int) < q := by omega
                    go_wp2_with fail
                    exact ⟨⟨m + 1, by omega, by go_num, trivial⟩, by simp [intOf]; omega⟩
            · obtain rfl : m = lr := by omega
              have hm1' : ¬ (m : Int) < m := by omega
              go_wp2_with fail
              refine bodyPost_ret (v := .bool false) (by simp [results, Tryz.results10, go_sem]) rfl ?_
              refine ⟨by first | exact ⟨false, rfl, fun _ => HA.out⟩ | exact .inl ⟨rfl, fun h8 => by have h9 := HA.out; omega⟩, ?_⟩
              have := H.out.2.2.2.2.1; rwa [H.out.2.2.2.2.2] at this
end Go.Proofs.YtbejhkojdiadaaaGreat
