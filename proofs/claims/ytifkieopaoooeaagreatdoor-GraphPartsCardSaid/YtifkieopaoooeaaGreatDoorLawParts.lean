/- The law: parts and distances agree. -/
import Derived.Test.YtifkieopaoooeaaGreatDoorArr
set_option linter.unusedSimpArgs false
set_option linter.unusedVariables false
namespace Go.Proofs.YtifkieopaoooeaaGreatDoor
open Go.RowKit Plain PlainG
theorem wrap_small {x : Int} (h1 : -100 ≤ x) (h2 : x ≤ 100) : IntKind.i64.wrap x = x := by
  simp [IntKind.wrap, IntKind.bits, IntKind.signed]
  omega
set_option maxRecDepth 100000 in
set_option maxHeartbeats 16000000 in
theorem lawparts_calls {w : World} {a : Option Addr} {nums : List Int} (c : Nat) (n : Int) (ha : Ints w a nums) :
    Calls Tryz.prog 5 #[.int .i64 n, .slice a nums.length c] w fun e w' => e = .returned (.bool true) ∧ Below w.heap.size w w' := by
  have hbr := bel_range (n := n) (k := 10) (by omega)
  have K19 := below_calls n 10 w (by omega)
  obtain ⟨N, hN⟩ : ∃ N : Nat, bel n 10 = N := ⟨(bel n 10).toNat, by omega⟩
  rw [hN] at K19 hbr
  have hN9 : N ≤ 9 := by omega
  have K20 := drawn_calls c ha (n := N) (by omega)
  have hA := Lib.hid awake_calls
  have HS := Lib.hid (And.intro K19 K20)
  obtain ⟨Q, hQ⟩ : ∃ Q, nums.length = Q := ⟨_, rfl⟩
  rw [hQ] at HS ⊢
  clear K19 K20 ha hbr hN hQ
  go_enter Tryz.func5, Tryz.ntmps5
  go_upto_region 2 with (go_at_call 19; refine HS.out.1.mono ?_; rintro e w2 ⟨rfl, hw⟩; replace hw := hw.symm; subst hw)
  go_upto_region 3 with (go_at_call 20; refine HS.out.2.mono ?_; rintro e w2 ⟨a1, c1, b1, d1, g, rfl, hgn, hg0, hge, hgc, hw2⟩; have HA := Lib.hid (And.intro hgn (And.intro hg0 (And.intro hge (And.intro hgc hw2)))); clear hgn hg0 hge hgc hw2)
  obtain ⟨W1, hW1⟩ : ∃ W1, W1 = w2.alloc (.cells #[.int .i64 (N : Int), .slice a1 g.es.length c1, .slice b1 g.cs.length d1] 25) := ⟨_, rfl⟩
  have hbW1 : Below w2.heap.size w2 W1 := by rw [hW1]; exact (Below.refl _ _).alloc (Nat.le_refl _) _
  have hx1 : Bx W1 w2.heap.size (.int .i64 (N : Int)) (.slice a1 g.es.length c1) (.slice b1 g.cs.length d1) := by rw [hW1]; exact Bx.new _ _ _ _
  rw [← hW1]
  have he1 := HA.out.2.2.1.below hbW1
  have hc1 := HA.out.2.2.2.1.below hbW1
  have hw1 := below_two HA.out.2.2.2.2 hbW1
  have hg0 := HA.out.2.1
  have hgn := HA.out.1
  clear HA hW1 hbW1
  obtain ⟨_, hn2, _, _, hev, _⟩ := chk_edges hg0
  have hpa : partsA g = ofA (partsL N g.es) := by unfold partsA; rw [if_neg (by simpa using hg0), hgn]; rfl
  obtain ⟨l, hl, hgood, hcell⟩ := parts_facts (N := N) (es := g.es) (by omega)
  have K21 := parts_calls (w := W1) (c := c1) (d := d1) he1 hc1
  rw [hpa, hl, hgn] at K21
  obtain ⟨X, hX⟩ : ∃ X, w2.heap.size = X := ⟨_, rfl⟩
  rw [hX] at hx1 ⊢
  obtain ⟨L, hL⟩ : ∃ L, g.es.length = L := ⟨_, rfl⟩
  obtain ⟨M, hM⟩ : ∃ M, g.cs.length = M := ⟨_, rfl⟩
  obtain ⟨Z, hZ⟩ : ∃ Z, l.length = Z := ⟨_, rfl⟩
  have KD := fun (wr : World) (h : Below W1.heap.size W1 wr) (i k : Nat) (hi : i < N) (hk : k < N) => dist_calls (w := wr) (c := c1) (d := d1) i k (he1.below h) (hc1.below h)
  have KH := fun (wr : World) (h : Below W1.heap.size W1 wr) (i k : Nat) (hi : i < N) (hk : k < N) => has_calls (w := wr) (c := c1) (d := d1) i k (he1.below h) (hc1.below h)
  have KD2 : ∀ (wr : World) (h : Below W1.heap.size W1 wr) (i k : Nat) (hi : i < N) (hk : k < N), Calls Tryz.prog 23 #[.agg #[.int .i64 (N : Int), .slice a1 L c1, .slice b1 M d1], .int .i64 i, .int .i64 k] wr fun e w' => e = .returned (.tuple #[.int .i64 (lev N (adj g.es) i N k), .int .i64 0]) ∧ Below wr.heap.size wr w' := fun wr h i k hi hk => by
    have := KD wr h i k hi hk
    rwa [distA_ok hg0 hgn hi hk, hgn, hL, hM] at this
  have KH2 : ∀ (wr : World) (h : Below W1.heap.size W1 wr) (i k : Nat) (hi : i < N) (hk : k < N), Calls Tryz.prog 24 #[.agg #[.int .i64 (N : Int), .slice a1 L c1, .slice b1 M d1], .int .i64 i, .int .i64 k] wr fun e w' => e = .returned (.tuple #[.bool (adj g.es i k), .int .i64 0]) ∧ Below wr.heap.size wr w' := fun wr h i k hi hk => by
    have := KH wr h i k hi hk
    rwa [hasA_ok hg0 hgn hi hk, hgn, hL, hM] at this
  unfold PartsRes at K21
  simp only at K21
  have K22 := fun (wr : World) (a c) (h : Rows wr a l) => inside_calls N a c l wr h hgood.inr
  rw [hL, hM, hZ] at K21
  rw [hZ] at K22
  rw [hL, hM] at hx1 ⊢
  have hsy := adj_symm g.es
  have hir := adj_irr hev
  have hZl := hZ
  obtain ⟨es, hes⟩ : ∃ es, g.es = es := ⟨_, rfl⟩
  rw [hes] at KD2 KH2 hsy hir hcell
  have HG := Lib.hid (And.intro hgood (And.intro hcell (And.intro hsy (And.intro hir hZl))))
  have HK := Lib.hid (And.intro KD2 KH2)
  have HP := Lib.hid (And.intro K21 K22)
  have HB := Lib.hid (And.intro hw1 hx1)
  have hx0 := hx1
  obtain ⟨x0, x1, x2⟩ := hx0
  clear KD KH KD2 KH2 K21 K22 hsy hir hZl hes hx1 hw1 hgood hcell hL hM hZ hl hpa hev hn2 hgn hg0 he1 hc1 hX
  clear HS
  go_upto_region 6 with (first
    | (go_at_call 21; refine HP.out.1.mono ?_; rintro e w3 ⟨a2, c2, rfl, q1, q2⟩; have HR := Lib.hid (And.intro q1 q2); clear q1 q2 x0 x1 x2)
    | (go_at_call 22; refine (HP.out.2 _ a2 c2 HR.out.1).mono ?_; rintro e w4 ⟨rfl, hw⟩; replace hw := hw.symm; subst hw))
  go_upto_region 7 with (fail)
  have hz47 : Tryz.zeroCells47 = madeCells #[.int .i64 0] 100 := by kernel_rfl
  rw [hz47]
  obtain ⟨W4, hW4⟩ : ∃ W4, W4 = w3.alloc (.cells (madeCells #[.int .i64 0] 100) 47) := ⟨_, rfl⟩
  have ha4 : ArrP W4 w3.heap.size N es 0 0 := by rw [hW4]; exact ArrP.new _ _ _
  have hb4 : Below w3.heap.size w3 W4 := by rw [hW4]; exact (Below.refl _ _).alloc (Nat.le_refl _) _
  rw [← hW4]
  obtain ⟨D, hD⟩ : ∃ D, w3.heap.size = D := ⟨_, rfl⟩
  rw [hD] at ha4 hb4 ⊢
  have hfar : ∀ wr, Below D w3 wr → Below W1.heap.size W1 wr ∧ Bx wr X (.int .i64 (N : Int)) (.slice a1 L c1) (.slice b1 M d1) ∧ Rows wr a2 l := fun wr h => by
    have h3 : Below w3.heap.size w3 wr := by rw [hD]; exact h
    have h1 := below_two HR.out.2 h3
    exact ⟨h1, HB.out.2.below h1, HR.out.1.below h3⟩
  have HF := Lib.hid (And.intro hfar hD)
  have HW := Lib.hid (And.intro ha4 hb4)
  clear hz47 hW4 ha4 hb4 hfar hD
  go_wp2
  go_loopw [9] (fun i wr => ∃ a : Nat, a ≤ N ∧ i = .int .i64 a ∧ ArrP wr D N es a 0 ∧ Below D w3 wr) (fun i _ => N - (intOf i).toNat)
  case atStart => exact ⟨0, by omega, rfl, HW.out.1, HW.out.2⟩
  case round =>
    obtain ⟨i, hi, rfl, hA1, hB1⟩ := hrel
    by_cases hlt : i < N
    · have HI := Lib.hid (And.intro hA1 hB1)
      clear hA1 hB1
      go_wp2
      go_loopw [10] (fun k wr => ∃ b : Nat, b ≤ N ∧ k = .int .i64 b ∧ ArrP wr D N es i b ∧ Below D w3 wr) (fun k _ => N - (intOf k).toNat)
      case atStart => exact ⟨0, by omega, rfl, HI.out.1, HI.out.2⟩
      case round =>
        obtain ⟨k, hk, rfl, hA1, hB1⟩ := hrel
        have hfr := HF.out.1 _ hB1
        have HX := Lib.hid (And.intro hfr.1 (And.intro hfr.2.1 (And.intro hA1 hB1)))
        clear hA1 hB1 hfr
        by_cases hkl : k < N
        · obtain ⟨V, hV⟩ : ∃ V, lev N (adj es) i N k = V := ⟨_, rfl⟩
          obtain ⟨J, hJ⟩ : ∃ J, adj es i k = J := ⟨_, rfl⟩
          have hlow := lev_low (A := adj es) hlt hkl
          have hz := lev_zero_iff (A := adj es) hlt hkl
          have ho := lev_one_iff HG.out.2.2.2.1 hlt hkl
          rw [hV] at hlow hz ho
          rw [hJ] at ho
          have hlw : decide (V < -1) = false := by simp; omega
          by_cases hik : i = k
          · obtain rfl : V = 0 := hz.2 hik
            obtain rfl : J = false := by cases J <;> simp_all
            subst hik
            clear hz ho hlow
            have KV := HK.out.1 wr HX.out.1 i i hlt hkl
            rw [hV] at KV
            have KJ := fun (w5 : World) (h : Below D w3 w5) => HK.out.2 w5 (HF.out.1 w5 h).1 i i hlt hkl
            rw [hJ] at KJ
            have HV := Lib.hid (And.intro hV (And.intro KV KJ))
            clear hV hJ KV KJ
            obtain ⟨x0, x1, x2⟩ := HX.out.2.1
            go_wp2_with (first
              | (go_at_call 23; refine HV.out.2.1.mono ?_; rintro e w5 ⟨rfl, hw5⟩; have h5 := bchain HX.out.2.2.2 HF.out.2 hw5; clear x0 x1 x2; obtain ⟨x0, x1, x2⟩ := (HF.out.1 _ h5).2.1; have H5 := Lib.hid (And.intro h5 (HX.out.2.2.1.below hw5)); clear h5 hw5)
              | (go_at_call 24; refine (HV.out.2.2 _ H5.out.1).mono ?_; rintro e w6 ⟨rfl, hw6⟩; clear x0 x1 x2; have h6 := H5.out.2.below hw6; obtain ⟨y, y1, y2, _⟩ := h6 i i (by omega) (by omega); have H6 := Lib.hid (And.intro (bchain H5.out.1 HF.out.2 hw6) h6); clear hw6 h6))
            have hp := H6.out.2.put (by omega : i < 10) (by omega : i < 10)
            rw [HV.out.1] at hp
            exact ⟨⟨i + 1, by omega, by go_num, hp, H6.out.1.setCell (p := ⟨D, i * 10 + i, none⟩) (Nat.le_refl _) _⟩, by simp [intOf]; omega⟩
          · have hik2 : decide ((i : Int) = (k : Int)) = false := by simp; omega
            have hV0 : decide (V = 0) = false := by have : ¬ V = 0 := fun h => hik (hz.1 h); simpa using this
            cases J with
            | true =>
              obtain rfl : V = 1 := ho.2 rfl
              clear hz ho hlow
              have KV := HK.out.1 wr HX.out.1 i k hlt hkl
              rw [hV] at KV
              have KJ := fun (w5 : World) (h : Below D w3 w5) => HK.out.2 w5 (HF.out.1 w5 h).1 i k hlt hkl
              rw [hJ] at KJ
              have HV := Lib.hid (And.intro hV (And.intro KV KJ))
              clear hV hJ KV KJ
              obtain ⟨x0, x1, x2⟩ := HX.out.2.1
              go_wp2_with (first
                | (go_at_call 23; refine HV.out.2.1.mono ?_; rintro e w5 ⟨rfl, hw5⟩; have h5 := bchain HX.out.2.2.2 HF.out.2 hw5; clear x0 x1 x2; obtain ⟨x0, x1, x2⟩ := (HF.out.1 _ h5).2.1; have H5 := Lib.hid (And.intro h5 (HX.out.2.2.1.below hw5)); clear h5 hw5)
                | (go_at_call 24; refine (HV.out.2.2 _ H5.out.1).mono ?_; rintro e w6 ⟨rfl, hw6⟩; clear x0 x1 x2; have h6 := H5.out.2.below hw6; obtain ⟨y, y1, y2, _⟩ := h6 i k (by omega) (by omega); have H6 := Lib.hid (And.intro (bchain H5.out.1 HF.out.2 hw6) h6); clear hw6 h6))
              have hp := H6.out.2.put (by omega : i < 10) (by omega : k < 10)
              rw [HV.out.1] at hp
              exact ⟨⟨k + 1, by omega, by go_num, hp, H6.out.1.setCell (p := ⟨D, i * 10 + k, none⟩) (Nat.le_refl _) _⟩, by simp [intOf]; omega⟩
            | false =>
              have hn1 : ¬ V = 1 := fun h => by have := ho.1 h; cases this
              have hn0 : ¬ V = 0 := fun h => hik (hz.1 h)
              have hV1 : decide (V = 1) = false := by simpa using hn1
              have hb0 : (V == 0) = false := by simpa using hn0
              have hb1 : (V == 1) = false := by simpa using hn1
              have hbi : ((i : Int) == (k : Int)) = false := by simp; omega
              have hbe : ((V == 0) = ((i : Int) == (k : Int))) = True := by rw [hb0, hbi]; simp
              clear hz ho hlow
              have KV := HK.out.1 wr HX.out.1 i k hlt hkl
              rw [hV] at KV
              have KJ := fun (w5 : World) (h : Below D w3 w5) => HK.out.2 w5 (HF.out.1 w5 h).1 i k hlt hkl
              rw [hJ] at KJ
              have HV := Lib.hid (And.intro hV (And.intro KV KJ))
              clear hV hJ KV KJ
              obtain ⟨x0, x1, x2⟩ := HX.out.2.1
              go_wp2_with (first
                | (go_at_call 23; refine HV.out.2.1.mono ?_; rintro e w5 ⟨rfl, hw5⟩; have h5 := bchain HX.out.2.2.2 HF.out.2 hw5; clear x0 x1 x2; obtain ⟨x0, x1, x2⟩ := (HF.out.1 _ h5).2.1; have H5 := Lib.hid (And.intro h5 (HX.out.2.2.1.below hw5)); clear h5 hw5)
                | (go_at_call 24; refine (HV.out.2.2 _ H5.out.1).mono ?_; rintro e w6 ⟨rfl, hw6⟩; clear x0 x1 x2; have h6 := H5.out.2.below hw6; obtain ⟨y, y1, y2, _⟩ := h6 i k (by omega) (by omega); have H6 := Lib.hid (And.intro (bchain H5.out.1 HF.out.2 hw6) h6); clear hw6 h6))
              have hp := H6.out.2.put (by omega : i < 10) (by omega : k < 10)
              rw [HV.out.1] at hp
              exact ⟨⟨k + 1, by omega, by go_num, hp, H6.out.1.setCell (p := ⟨D, i * 10 + k, none⟩) (Nat.le_refl _) _⟩, by simp [intOf]; omega⟩
        · have hnk : k = N := by omega
          subst hnk
          clear hkl
          go_wp2
          exact ⟨⟨i + 1, by omega, by go_num, HX.out.2.2.1.row, HX.out.2.2.2⟩, by simp [intOf]; omega⟩
    · have hni : N = i := by omega
      subst hni
      clear hlt hi
      have HI := Lib.hid (And.intro hA1 hB1)
      clear hA1 hB1
      go_wp2
      go_loopw [15] (fun i wr => ∃ a : Nat, a ≤ N ∧ i = .int .i64 a ∧ ArrP wr D N es N 0 ∧ Below D w3 wr) (fun i _ => N - (intOf i).toNat)
      case atStart => exact ⟨0, by omega, rfl, HI.out.1, HI.out.2⟩
      case round =>
        clear HI
        obtain ⟨i, hi, rfl, hA1, hB1⟩ := hrel
        have HI := Lib.hid (And.intro hA1 hB1)
        clear hA1 hB1
        by_cases hlt : i < N
        · go_wp2
          go_loopw [16] (fun k wr => ∃ a : Nat, a ≤ N ∧ k = .int .i64 a ∧ ArrP wr D N es N 0 ∧ Below D w3 wr) (fun k _ => N - (intOf k).toNat)
          case atStart => exact ⟨0, by omega, rfl, HI.out.1, HI.out.2⟩
          case round =>
            clear HI
            obtain ⟨k, hk, rfl, hA1, hB1⟩ := hrel
            have HI := Lib.hid (And.intro hA1 hB1)
            clear hA1 hB1
            by_cases hkl : k < N
            · go_wp2
              go_loopw [17] (fun m wr => ∃ a : Nat, a ≤ N ∧ m = .int .i64 a ∧ ArrP wr D N es N 0 ∧ Below D w3 wr) (fun m _ => N - (intOf m).toNat)
              case atStart => exact ⟨0, by omega, rfl, HI.out.1, HI.out.2⟩
              case round =>
                clear HI
                obtain ⟨m, hm, rfl, hA1, hB1⟩ := hrel
                have HT := Lib.hid (And.intro hA1 hB1)
                by_cases hml : m < N
                · have c1' := hA1.at_ hlt hkl (by omega)
                  have c2' := hA1.at_ hkl hlt (by omega)
                  have c3' := hA1.at_ hlt hml (by omega)
                  have c4' := hA1.at_ hml hkl (by omega)
                  rw [← lev_sym HG.out.2.2.1 hlt hkl] at c2'
                  have htr := lev_tri (A := adj es) hlt hml hkl
                  have u2 := lev_low (A := adj es) hlt hml
                  have u3 := lev_low (A := adj es) hml hkl
                  have u4 := lev_high (A := adj es) hlt hml
                  have u5 := lev_high (A := adj es) hml hkl
                  obtain ⟨V1, hV1⟩ : ∃ V, lev N (adj es) i N k = V := ⟨_, rfl⟩
                  obtain ⟨V2, hV2⟩ : ∃ V, lev N (adj es) i N m = V := ⟨_, rfl⟩
                  obtain ⟨V3, hV3⟩ : ∃ V, lev N (adj es) m N k = V := ⟨_, rfl⟩
                  rw [hV1] at c1' c2' htr
                  rw [hV2] at c3' htr u2 u4
                  rw [hV3] at c4' htr u3 u5
                  have hwr : IntKind.i64.wrap (V2 + V3) = V2 + V3 := wrap_small (by omega) (by omega)
                  clear hV1 hV2 hV3 hA1 hB1
                  by_cases g2 : 0 ≤ V2
                  · by_cases g3 : 0 ≤ V3
                    · obtain ⟨g1, g4⟩ := htr g2 g3
                      have e1 : decide (0 ≤ V2) = true := by simpa using g2
                      have e2 : decide (0 ≤ V3) = true := by simpa using g3
                      have e3 : decide (V1 < 0) = false := by simpa using g1
                      have e4 : decide (V2 + V3 < V1) = false := by simpa using g4
                      clear htr u2 u3 u4 u5 g1 g2 g3 g4
                      go_upto_region 27 with (fail)
                      go_quiet (fail)
                      go_wp2
                      exact ⟨⟨m + 1, by omega, by go_num, HT.out.1.below (below_self_drewN _ _), below_drewN HT.out.2 _⟩, by simp [intOf]; omega⟩
                    · have e1 : decide (0 ≤ V2) = true := by simpa using g2
                      have e2 : decide (0 ≤ V3) = false := by simpa using g3
                      clear htr u2 u3 u4 u5 g2 g3
                      go_upto_region 27 with (fail)
                      go_quiet (fail)
                      go_wp2
                      exact ⟨⟨m + 1, by omega, by go_num, HT.out.1.below (below_self_drewN _ _), below_drewN HT.out.2 _⟩, by simp [intOf]; omega⟩
                  · have e1 : decide (0 ≤ V2) = false := by simpa using g2
                    clear htr u2 u3 u4 u5 g2
                    go_upto_region 27 with (fail)
                    go_quiet (fail)
                    go_wp2
                    exact ⟨⟨m + 1, by omega, by go_num, HT.out.1.below (below_self_drewN _ _), below_drewN HT.out.2 _⟩, by simp [intOf]; omega⟩
                · go_wp2
                  exact ⟨⟨k + 1, by omega, by go_num, HT.out.1, HT.out.2⟩, by simp [intOf]; omega⟩
            · go_wp2
              exact ⟨⟨i + 1, by omega, by go_num, HI.out.1, HI.out.2⟩, by simp [intOf]; omega⟩
        · go_wp2
          clear hlt
          have htot := good_total HG.out.1
          have HTo := Lib.hid htot
          clear htot
          go_loopw [18, 19] (fun mm i wr => ∃ a : Nat, a ≤ Z ∧ i = .int .i64 a ∧ mm = .int .i64 (cntL l a) ∧ ArrP wr D N es N 0 ∧ Below D w3 wr) (fun _ i _ => Z - (intOf i).toNat)
          case atStart => exact ⟨0, by omega, rfl, rfl, HI.out.1, HI.out.2⟩
          case round =>
            clear HI
            obtain ⟨i, hi, rfl, rfl, hA1, hB1⟩ := hrel
            have HI := Lib.hid (And.intro hA1 hB1)
            have hZ9 : Z ≤ 9223372036854775807 := by have := (HF.out.1 _ hB1).2.2.len; rw [HG.out.2.2.2.2] at this; exact this
            by_cases hlt : i < Z
            · have hiL : i < l.length := by rw [HG.out.2.2.2.2]; exact hlt
              have hs := cntL_succ hiL
              have hle := cntL_le (l := l) (i := i + 1)
              rw [HTo.out] at hle
              obtain ⟨x, hx⟩ : ∃ x, l[i]?.getD [] = x := ⟨_, rfl⟩
              have hxl : x ∈ l := by rw [← hx, List.getElem?_eq_getElem hiL]; exact List.getElem_mem _
              rw [hx] at hs
              obtain ⟨C0, hC0⟩ : ∃ C0, cntL l i = C0 := ⟨_, rfl⟩
              obtain ⟨Y, hY⟩ : ∃ Y, x.length = Y := ⟨_, rfl⟩
              rw [hC0, hY] at hs
              rw [hC0]
              have hrow : ∀ wr, Below D w3 wr → ∃ g o b cc, a2 = some ⟨g, o, none⟩ ∧ wr.cell? ⟨g, o + i, none⟩ = some (.slice b Y cc) ∧ Ints wr b x := fun wr h => by
                obtain ⟨g, o, b, cc, e, _, hc, hi⟩ := (HF.out.1 _ h).2.2.at_ hiL
                rw [hx, hY] at hc
                rw [hx] at hi
                exact ⟨g, o, b, cc, e, hc, hi⟩
              have HX := Lib.hid (And.intro hrow (And.intro hxl (And.intro hY (And.intro hx (And.intro hs hiL)))))
              obtain ⟨g0, o0, b0, cc0, e0, hc0, _⟩ := hrow _ hB1
              subst e0
              have hCN : C0 + Y ≤ N := by omega
              clear hrow hxl hY hx hC0 hs hle hiL hA1 hB1
              go_wp2
              go_loopw [18, 20] (fun mm k wr => ∃ a : Nat, a ≤ Y ∧ k = .int .i64 a ∧ mm = .int .i64 ((C0 + a : Nat) : Int) ∧ ArrP wr D N es N 0 ∧ Below D w3 wr) (fun _ k _ => Y - (intOf k).toNat)
              case atStart => exact ⟨0, by omega, rfl, rfl, HI.out.1, HI.out.2⟩
              case round =>
                clear HI hc0
                obtain ⟨k, hk, rfl, rfl, hA1, hB1⟩ := hrel
                have HI := Lib.hid (And.intro hA1 hB1)
                obtain ⟨g1, o1, b1, cc1, e1, hc1, _⟩ := HX.out.1 _ hB1
                injection e1 with e1
                injection e1 with e1 e2 _
                subst e1 e2
                clear hA1 hB1
                by_cases hkl : k < Y
                · go_wp2
                  go_loopw [21] (fun m wr => ∃ a : Nat, a ≤ N ∧ m = .int .i64 a ∧ ArrP wr D N es N 0 ∧ Below D w3 wr) (fun m _ => N - (intOf m).toNat)
                  case atStart => exact ⟨0, by omega, rfl, HI.out.1, HI.out.2⟩
                  case round =>
                    clear HI hc1
                    obtain ⟨m, hm, rfl, hA1, hB1⟩ := hrel
                    have HT := Lib.hid (And.intro hA1 hB1)
                    obtain ⟨g1, o1, b1, cc1, e1, hc1, hint⟩ := HX.out.1 _ hB1
                    injection e1 with e1
                    injection e1 with e1 e2 _
                    subst e1 e2
                    by_cases hml : m < N
                    · obtain ⟨q, hq, hqN⟩ := HG.out.1.inr.at_ (k := i) (j := k) HX.out.2.2.2.2.2 (by rw [HX.out.2.2.2.1, HX.out.2.2.1]; exact hkl)
                      rw [HX.out.2.2.2.1] at hq
                      have hqx : (q : Int) ∈ x := by
                        have hk' : k < x.length := by rw [HX.out.2.2.1]; exact hkl
                        rw [← hq, List.getElem?_eq_getElem hk']
                        exact List.getElem_mem _
                      obtain ⟨gb, ob, rfl, _, hce⟩ := hint.at_ (k := k) (by rw [HX.out.2.2.1]; exact hkl)
                      rw [hq] at hce
                      have hcd := hA1.at_ hqN hml (by omega)
                      have hiff := HG.out.2.1 x HX.out.2.1 q hqx m hml
                      have KC := fun (j : Nat) => kitHas_calls (some ⟨gb, ob, none⟩) cc1 x (m : Int) (wr.drewN j) (hint.below (below_self_drewN _ _))
                      rw [HX.out.2.2.1] at KC
                      obtain ⟨B, hB⟩ : ∃ B, x.contains (m : Int) = B := ⟨_, rfl⟩
                      obtain ⟨V, hV⟩ : ∃ V, lev N (adj es) q N m = V := ⟨_, rfl⟩
                      rw [hV] at hiff hcd
                      rw [hB] at KC
                      have hdV : decide (0 ≤ V) = B := by
                        rw [← hB, Bool.eq_iff_iff, decide_eq_true_iff, List.contains_iff_mem]; exact hiff
                      have HM := Lib.hid (And.intro KC hq)
                      clear KC hiff hB hV hq hqx hint hA1 hB1
                      cases B with
                      | true =>
                        go_upto_region 40 with (fail)
                        go_quiet ((go_at_call 25; exact Calls.quiet_of_same (HM.out.1 _)))
                        go_wp2
                        exact ⟨⟨m + 1, by omega, by go_num, HT.out.1.below (below_self_drewN _ _), below_drewN HT.out.2 _⟩, by simp [intOf]; omega⟩
                      | false =>
                        go_upto_region 40 with (fail)
                        go_quiet ((go_at_call 25; exact Calls.quiet_of_same (HM.out.1 _)))
                        go_wp2
                        exact ⟨⟨m + 1, by omega, by go_num, HT.out.1.below (below_self_drewN _ _), below_drewN HT.out.2 _⟩, by simp [intOf]; omega⟩
                    · clear hint hA1 hB1
                      go_wp2
                      exact ⟨⟨k + 1, by omega, by go_num, by go_num, HT.out.1, HT.out.2⟩, by simp [intOf]; omega⟩
                · have hkY : k = Y := by omega
                  have hcn : cntL l (i + 1) = C0 + k := by rw [HX.out.2.2.2.2.1, hkY]
                  have HCN := Lib.hid hcn
                  clear hkY hcn
                  go_wp2
                  exact ⟨⟨i + 1, by omega, by go_num, by rw [HCN.out], HI.out.1, HI.out.2⟩, by simp [intOf]; omega⟩
            · have hcN : cntL l i = N := by rw [cntL_all (by rw [HG.out.2.2.2.2]; omega), HTo.out]
              rw [hcN]
              have hbb := HI.out.2
              have hw : Below w.heap.size w w3 := below_two HB.out.1 HR.out.2
              have hww : Below w.heap.size w wr := hw.trans (hbb.mono (by have := hw.size; have := HF.out.2; omega))
              have HH := Lib.hid hww
              clear hcN hA1 hB1 hbb hw hww
              go_wp2_with (go_at_call 11; refine (hA.out _).mono ?_; rintro e w9 ⟨rfl, hw9⟩; have H9 := Lib.hid (below_two HH.out hw9); clear hw9)
              go_ret
              exact ⟨rfl, H9.out⟩
theorem partsW {w : World} {p : Option Addr} {c0 : Nat} {l : List Int} (n : Int) (hp : Ints w p l) :
    Calls Tryz.prog 5 #[.int .i64 n, .slice p l.length c0] w fun e w' => e = .returned (.bool true) ∧ Below w.heap.size w w' := lawparts_calls c0 n hp
end Go.Proofs.YtifkieopaoooeaaGreatDoor
