/- The reference's check of a graph. -/
import Derived.Test.YtjjjohmppehejaaGreatChkP
set_option linter.unusedSimpArgs false
set_option linter.unusedVariables false
namespace Go.Proofs.YtjjjohmppehejaaGreat
open Go.RowKit Plain PlainG
set_option maxRecDepth 100000 in
set_option maxHeartbeats 4000000 in
theorem gcheckR_calls {w : World} {a b : Option Addr} {c d : Nat} {g : Gr} (he : Edg w a g.es) (hc : Ints w b g.cs) :
    Calls Tryz.prog 40 #[.agg #[.int .i64 g.n, .slice a g.es.length c, .slice b g.cs.length d]] w fun e w' => e = .returned (.int .i64 (chkGr g)) ∧ Below w.heap.size w w' := by
  by_cases h0 : g.n < 0
  · rw [chkGr_big (.inl h0)]
    obtain ⟨n, hn⟩ : ∃ n, g.n = n := ⟨_, rfl⟩
    rw [hn] at h0 ⊢
    go_enter Tryz.func40, Tryz.ntmps40
    go_wp2
    go_ret
    exact ⟨rfl, (Below.refl _ w).alloc (Nat.le_refl _) _⟩
  by_cases h24 : 24 < g.n
  · rw [chkGr_big (.inr h24)]
    obtain ⟨n, hn⟩ : ∃ n, g.n = n := ⟨_, rfl⟩
    rw [hn] at h0 h24 ⊢
    go_enter Tryz.func40, Tryz.ntmps40
    go_wp2
    go_ret
    exact ⟨rfl, (Below.refl _ w).alloc (Nat.le_refl _) _⟩
  have hedge := chkGr_edge h0 h24
  have hcols := chkGr_cols h0 h24
  have hcc := fun (w1 : World) (hb : Below w.heap.size w w1) => coloursR_calls g.n b d g.cs w1 (hc.below hb)
  have hm := he.len
  obtain ⟨n, hn⟩ : ∃ n, g.n = n := ⟨_, rfl⟩
  rw [hn] at h0 h24 hedge hcols hcc ⊢
  obtain ⟨L, hL⟩ : ∃ L, g.es.length = L := ⟨_, rfl⟩
  rw [hL] at hm ⊢
  obtain ⟨M, hM⟩ : ∃ M, g.cs.length = M := ⟨_, rfl⟩
  rw [hM] at hcc ⊢
  obtain ⟨z, hz⟩ : ∃ z, chkGr g = z := ⟨_, rfl⟩
  rw [hz] at hedge hcols ⊢
  have H := Lib.hid (And.intro he (And.intro hL (And.intro hedge (And.intro hcols hcc))))
  clear he hc hn hL hM hz hedge hcols hcc
  go_enter Tryz.func40, Tryz.ntmps40
  go_wp2
  obtain ⟨W0, hW0⟩ : ∃ W0, W0 = w.alloc (.cells #[.int .i64 n, .slice a L c, .slice b M d] 25) := ⟨_, rfl⟩
  rw [← hW0]
  have hB0 : Below w.heap.size w W0 := by rw [hW0]; exact (Below.refl _ w).alloc (Nat.le_refl _) _
  have hbox := fun w2 (h : Below W0.heap.size W0 w2) => by rw [hW0] at h; exact box3 h
  have HW := Lib.hid (And.intro hB0 hbox)
  clear hW0 hB0 hbox
  go_loopw [3] (fun i wr => ∃ k : Nat, k ≤ L ∧ i = .int .i64 (k : Int) ∧ Below W0.heap.size W0 wr ∧ Below w.heap.size w wr ∧ eAt n g.es 0 = eAt n g.es k) (fun i _ => L - (intOf i).toNat)
  case atStart => exact ⟨0, Nat.zero_le _, rfl, Below.refl _ _, HW.out.1, rfl⟩
  case round =>
    obtain ⟨k, hk, rfl, hb0, hbw, hf⟩ := hrel
    obtain ⟨q0, q1, q2, q3⟩ := HW.out.2 _ hb0
    by_cases hlt : k < L
    · have hkn : k < g.es.length := by rw [H.out.2.1]; exact hlt
      obtain ⟨x, hx⟩ : ∃ x, g.es[k]? = some x := ⟨_, List.getElem?_eq_getElem hkn⟩
      obtain ⟨x1, x2⟩ := x
      obtain ⟨B, o, rfl, hBl, c1, c2⟩ := H.out.1.at_ k _ hx
      simp only at c1 c2
      replace c1 := (hbw.cell (p := ⟨B, o + k * 2, none⟩) hBl).trans c1
      replace c2 := (hbw.cell (p := ⟨B, o + k * 2 + 1, none⟩) hBl).trans c2
      have hBr := Nat.lt_of_lt_of_le hBl hbw.size
      have hx1 : eAt n g.es k = 2 → z = 2 := fun h => by have h1 := H.out.2.2.1 (by rw [hf, h]; decide); rw [h1, hf, h]
      have hx3 : eAt n g.es k = 3 → z = 3 := fun h => by have h1 := H.out.2.2.1 (by rw [hf, h]; decide); rw [h1, hf, h]
      have hx9 : eAt n g.es k = 9 → z = 9 := fun h => by have h1 := H.out.2.2.1 (by rw [hf, h]; decide); rw [h1, hf, h]
      have v1 := fun w => vertexR_calls n x1 w
      have v2 := fun w => vertexR_calls n x2 w
      cases h1 : vert n x1
      · have hz := hx1 (eAt_vert hx (by rw [h1]; rfl))
        rw [h1] at v1
        have HV := Lib.hid v1
        have H2 := Lib.hid (And.intro hb0 (And.intro hbw hz))
        clear v1 v2 hx1 hx3 hx9 hf hx h1 hz hb0 hbw
        go_wp2_with (go_at_call 57; refine (HV.out _).mono ?_; rintro e w2 ⟨rfl, rfl⟩)
        go_ret
        exact ⟨ret_int H2.out.2.2.symm, H2.out.2.1.alloc H2.out.2.1.size _⟩
      cases h2 : vert n x2
      · have hz := hx1 (eAt_vert hx (by rw [h1, h2]; rfl))
        rw [h1] at v1
        rw [h2] at v2
        have HV := Lib.hid (And.intro v1 v2)
        have H2 := Lib.hid (And.intro hb0 (And.intro hbw hz))
        clear v1 v2 hx1 hx3 hx9 hf hx hz hb0 hbw
        go_wp2_with (go_at_call 57; refine (vertexR_calls _ _ _).mono ?_; rintro e w2 ⟨rfl, rfl⟩; simp only [h1, h2])
        go_ret
        exact ⟨ret_int H2.out.2.2.symm, H2.out.2.1.alloc H2.out.2.1.size _⟩
      have hv : (vert n x1 && vert n x2) = true := by rw [h1, h2]; rfl
      rw [h1] at v1
      rw [h2] at v2
      have HV := Lib.hid (And.intro v1 v2)
      by_cases h3 : x2 ≤ x1
      · have hz := hx3 (eAt_form hx hv h3)
        have H2 := Lib.hid (And.intro hb0 (And.intro hbw hz))
        clear v1 v2 hx1 hx3 hx9 hf hx hz hb0 hbw hv
        go_wp2_with (go_at_call 57; refine (vertexR_calls _ _ _).mono ?_; rintro e w2 ⟨rfl, rfl⟩; simp only [h1, h2])
        go_ret
        exact ⟨ret_int H2.out.2.2.symm, H2.out.2.1.alloc H2.out.2.1.size _⟩
      rcases Nat.eq_zero_or_pos k with hk0 | hk0
      · have hz := hf.trans (eAt_next hx hv h3 (by subst hk0; trivial))
        have H2 := Lib.hid (And.intro hb0 (And.intro hbw hz))
        clear v1 v2 hx1 hx3 hx9 hf hx hz hb0 hbw hv
        have hd : decide (0 < k) = false := by simp; omega
        clear hk0
        go_wp2_with (go_at_call 57; refine (vertexR_calls _ _ _).mono ?_; rintro e w2 ⟨rfl, rfl⟩; simp only [h1, h2])
        go_quiet (fail)
        go_wp2
        exact ⟨⟨k + 1, by omega, by go_num, below_drewN (H2.out.1.alloc H2.out.1.size _) _, below_drewN (H2.out.2.1.alloc H2.out.2.1.size _) _, H2.out.2.2⟩, by simp [intOf]; omega⟩
      · obtain ⟨j, rfl⟩ : ∃ j, k = j + 1 := ⟨k - 1, by omega⟩
        obtain ⟨⟨y1, y2⟩, hy⟩ : ∃ y, g.es[j]? = some y := ⟨_, List.getElem?_eq_getElem (by omega)⟩
        obtain ⟨B', o', ha, hBl', d1, d2⟩ := H.out.1.at_ j _ hy
        injection ha with ha
        injection ha with ha1 ha2
        subst ha1 ha2
        simp only at d1 d2
        replace d1 := (hbw.cell (p := ⟨B, o + j * 2, none⟩) hBl).trans d1
        replace d2 := (hbw.cell (p := ⟨B, o + j * 2 + 1, none⟩) hBl).trans d2
        have hcall := fun w => before_calls (y1, y2) (x1, x2) w
        have hd : decide ((0 : Int) < (j : Int) + 1) = true := decide_eq_true (by omega)
        simp only at hcall
        have hjl : (j : Int) < L := by omega
        have hj0 : (0 : Int) ≤ j := by omega
        have hjs : IntKind.i64.wrap (j : Int) = (j : Int) := IntWalk.i64_in _ (by omega)
        cases hbf : bef (y1, y2) (x1, x2)
        · have hz := hx9 (eAt_order hx hy hv h3 hbf)
          simp only [hbf] at hcall
          have HC := Lib.hid hcall
          have H2 := Lib.hid (And.intro hb0 (And.intro hbw hz))
          clear v1 v2 hx1 hx3 hx9 hf hx hy hz hb0 hbw hv hcall hbf hk0
          go_wp2_with (go_at_call 57; refine (vertexR_calls _ _ _).mono ?_; rintro e w2 ⟨rfl, rfl⟩; simp only [h1, h2])
          go_region_with (go_at_call 58; refine (HC.out _).mono ?_; rintro e w2 ⟨rfl, hw2⟩; have HB2 := Lib.hid hw2; clear hw2)
          all_goals
            go_wp2
            go_ret
            exact ⟨ret_int H2.out.2.2.symm, by have h9 := HB2.out; exact (show Below w.heap.size w _ from below_drewN (H2.out.2.1.alloc H2.out.2.1.size _) _).trans (h9.mono (Nat.le_trans H2.out.2.1.size (by simp)))⟩
        · have hz := hf.trans (eAt_next hx hv h3 ⟨(y1, y2), hy, hbf⟩)
          simp only [hbf] at hcall
          have HC := Lib.hid hcall
          have H2 := Lib.hid (And.intro hb0 (And.intro hbw hz))
          clear v1 v2 hx1 hx3 hx9 hf hx hy hz hb0 hbw hv hcall hbf hk0
          go_wp2_with (go_at_call 57; refine (vertexR_calls _ _ _).mono ?_; rintro e w2 ⟨rfl, rfl⟩; simp only [h1, h2])
          go_region_with (go_at_call 58; refine (HC.out _).mono ?_; rintro e w2 ⟨rfl, hw2⟩; have HB2 := Lib.hid hw2; clear hw2)
          all_goals
            go_wp2
            have h9 := HB2.out
            exact ⟨⟨j + 1 + 1, by omega, by go_num, (below_drewN (H2.out.1.alloc H2.out.1.size _) _).trans (h9.mono (Nat.le_trans H2.out.1.size (by simp))), (below_drewN (H2.out.2.1.alloc H2.out.2.1.size _) _).trans (h9.mono (Nat.le_trans H2.out.2.1.size (by simp))), H2.out.2.2⟩, by simp [intOf]; omega⟩
    · have hz : z = chkC n g.cs := H.out.2.2.2.1 (by rw [hf]; exact eAt_end (by rw [H.out.2.1]; omega))
      have H2 := Lib.hid (And.intro hb0 (And.intro hbw hz))
      clear hb0 hbw hf hz
      go_wp2_with (go_at_call 59; refine (H.out.2.2.2.2 _ H2.out.2.1).mono ?_; rintro e w2 ⟨rfl, rfl⟩)
      go_ret
      exact ⟨ret_int H2.out.2.2.symm, H2.out.2.1⟩
end Go.Proofs.YtjjjohmppehejaaGreat
