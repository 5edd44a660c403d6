/- The reference's check of a chain. -/
import Derived.Test.YtbejhkojdiadaaaGreatMakeR
import Derived.Test.YtbejhkojdiadaaaGreatSameK
import Derived.Test.YtbejhkojdiadaaaGreatStrongW
import Derived.Test.YtbejhkojdiadaaaGreatMembW
import Derived.Test.YtbejhkojdiadaaaGreatRankC
set_option linter.unusedSimpArgs false
set_option linter.unusedVariables false
namespace Go.Proofs.YtbejhkojdiadaaaGreat
open Go.RowKit PlainPm
/-- A level that may pass the reference. -/
def OkE (n i : Nat) (os : List (List Int)) (rs : List (List (List Int))) : Prop :=
  ∃ o r, os[i]? = some o ∧ rs[i]? = some r ∧ r.length = o.length ∧ r.length ≤ n ∧ ∀ x ∈ r, x.length = n ∧ chkPerm x = 0
theorem Valid.okE {n i : Nat} {os : List (List Int)} {rs : List (List (List Int))} (h : Valid n os rs) (h0 : 1 ≤ n) (h64 : n ≤ 64) (hi : i < n) : OkE n i os rs := by
  obtain ⟨o, r, h1, h2, h3, h4, h5⟩ := h.lv h0 h64 hi
  exact ⟨o, r, h1, h2, h3, by omega, h5⟩
theorem pms_rv {n : Nat} (hn : 0 < n) {w : World} {D : Nat} {v : Value} {us : List Value} {L : List (Pm n)} {xss : List (List Int)} (ho : Own w D v 27 us) (hr : RV w us xss) (hL : L.map (·.l) = xss) (hl : us.length ≤ 1000000) : PmsV w [] v L := by
  obtain ⟨la, lc, hle, hlr⟩ := ho.row (by unfold maxLen; omega)
  have hLl : L.length = us.length := by rw [hr.1, ← hL, List.length_map]
  refine ⟨la, lc, us, by rw [hle, hLl], hlr, hLl.symm, fun k s hs => ?_⟩
  have hk : k < us.length := by rw [← hLl]; exact (List.getElem?_eq_some_iff.1 hs).1
  refine ⟨us[k], List.getElem?_eq_getElem hk, ?_⟩
  have hf : xss[k]? = some s.l := by rw [← hL, List.getElem?_map, hs]; rfl
  obtain ⟨xa, xc, hxe, hxi⟩ := hr.2 k us[k] s.l (List.getElem?_eq_getElem hk) hf
  have hxl := s.ok.1
  obtain ⟨gb, go, hae, hgl, _⟩ := hxi.at_ (k := 0) (by omega)
  subst hae
  refine ⟨gb, go, xc, by rw [hxe, hxl], by simp, hgl, fun i hi => ?_⟩
  obtain ⟨gb2, go2, hae2, hgl2, hce2⟩ := hxi.at_ (k := i) (by omega)
  cases hae2
  rw [hce2, s.get hi]; rfl
theorem RV.snoc {w : World} {us : List Value} {xss : List (List Int)} {a : Option Addr} {c : Nat} {x : List Int} (h : RV w us xss) (hx : Ints w a x) : RV w (us ++ [.slice a x.length c]) (xss ++ [x]) :=
  h.app ⟨rfl, fun i u xs hu hx' => by
    match i, hu, hx' with
    | 0, hu, hx' => simp at hu hx'; subst hu; subst hx'; exact ⟨a, c, rfl, hx⟩
    | i + 1, hu, hx' => simp at hu⟩
set_option maxRecDepth 100000 in
set_option maxHeartbeats 4000000 in
theorem loop56 {w : World} {a b : Option Addr} {c e n : Nat} {os : List (List Int)} {rs : List (List (List Int))} (h1 : Rows w a os) (h2 : Rows2 w b rs) (hn : os.length = n) (hm : rs.length = n) (hn0 : 1 ≤ n) (hn64 : n ≤ 64) :
    Calls Tryz.prog 56 #[.agg #[.int .i64 (n : Int), .slice a n c, .slice b n e]] w fun e w' => (∃ E : Int, e = .returned (.int .i64 E) ∧ ((E = 3 ∧ ¬ Valid n os rs) ∨ (E = 0 ∧ Valid n os rs))) ∧ Below w.heap.size w w' := by
  obtain ⟨i27, hi27, hz27, hs27, hb27⟩ := info_parts Tryz.info27
  have I27 := Lib.hid (And.intro hi27 (And.intro hz27 (And.intro hs27 hb27)))
  clear hi27 hz27 hs27 hb27
  obtain ⟨X, hX⟩ : ∃ X, w.heap.size = X := ⟨_, rfl⟩
  obtain ⟨W1, hW1⟩ : ∃ W1, W1 = w.alloc (.cells #[.int .i64 (n : Int), .slice a n c, .slice b n e] 25) := ⟨_, rfl⟩
  have hbw : Below w.heap.size w W1 := by rw [hW1]; exact alloc_b (Below.refl _ _) _
  have hc1 : W1.heap[X]? = some (.cells #[.int .i64 (n : Int), .slice a n c, .slice b n e] 25) := by rw [hW1, ← hX]; exact World.alloc_heap_new w _
  have hs1 : W1.heap.size = X + 1 := by rw [hW1, ← hX]; simp
  have hbad : ∀ i, i < n → ¬ OkE n i os rs → ¬ Valid n os rs := fun i hi hb hv => hb (hv.okE hn0 hn64 hi)
  have H := Lib.hid (And.intro h1 (And.intro h2 (And.intro hn (And.intro hm (And.intro hbw (And.intro hc1 (And.intro hs1 (And.intro hX hbad))))))))
  have hd1 : decide ((n : Int) < 1) = false := by simp; omega
  have hd2 : decide ((64 : Int) < n) = false := by simp; omega
  have hd3 : ((n : Int) != (n : Int)) = false := by simp
  obtain ⟨z0, z1, z2, _, _, _⟩ := box_cells hc1
  clear h1 h2 hn hm hbw hc1 hs1 hbad
  go_enter Tryz.func56, Tryz.ntmps56
  try rw [hX]
  go_wp2_with fail
  try rw [← hW1]
  clear hW1 z0 z1 z2 hX
  go_loopw [4, 5, 6] (fun v i _ wr => ∃ (m : Nat) (us : List Value), m ≤ n ∧ i = .int .i64 (m : Int) ∧ Own wr W1.heap.size v 27 us ∧ RV w us (rs.take m).flatten ∧ us.length ≤ m * 64 ∧ Below W1.heap.size W1 wr ∧ ∀ j, j < m → OkE n j os rs) (fun _ i _ _ => n - (intOf i).toNat)
  case atStart => exact ⟨0, [], by omega, rfl, Own.nil _ _ _, ⟨rfl, fun i u xs h => by simp at h⟩, by simp, Below.refl _ _, fun j hj => by omega⟩
  case round =>
    obtain ⟨m, us, hmn, rfl, ho, hp, hul, hb, hok⟩ := hrel
    have hXW : X < W1.heap.size := by have := H.out.2.2.2.2.2.2.1; omega
    obtain ⟨x0, x1, x2, _, _, _⟩ := box_cells ((hb.block _ hXW).trans H.out.2.2.2.2.2.1)
    have hsz := hb.size
    have hbw := below_trans H.out.2.2.2.2.1 hb
    by_cases hmk : m < n
    · obtain ⟨oo, ho1⟩ : ∃ x, os[m]? = some x := ⟨_, List.getElem?_eq_getElem (by rw [H.out.2.2.1]; exact hmk)⟩
      obtain ⟨rr, hr1⟩ : ∃ x, rs[m]? = some x := ⟨_, List.getElem?_eq_getElem (by rw [H.out.2.2.2.1]; exact hmk)⟩
      obtain ⟨ag, ao, ab, ac, hae, hagl, hac0, hoi⟩ := H.out.1.at_ (k := m) (by rw [H.out.2.2.1]; exact hmk)
      obtain ⟨bg, bo, bb, bc, hbe, hbgl, hbc0, hri⟩ := H.out.2.1.at_ (k := m) (by rw [H.out.2.2.2.1]; exact hmk)
      subst hae
      subst hbe
      have hac := (hbw.cell (p := ⟨ag, ao + m, none⟩) hagl).trans hac0
      have hbc := (hbw.cell (p := ⟨bg, bo + m, none⟩) hbgl).trans hbc0
      have hbcw : ∀ V, Below w.heap.size w V → V.cell? ⟨bg, bo + m, none⟩ = some (.slice bb rr.length bc) := fun V hV => by
        have := (hV.cell (p := ⟨bg, bo + m, none⟩) hbgl).trans hbc0
        rwa [hr1, Option.getD_some] at this
      clear hac0 hbc0
      rw [ho1, Option.getD_some] at hac hoi
      rw [hr1, Option.getD_some] at hbc hri
      obtain ⟨O, hO⟩ : ∃ l, oo.length = l := ⟨_, rfl⟩
      obtain ⟨R, hR⟩ : ∃ l, rr.length = l := ⟨_, rfl⟩
      rw [hO] at hac
      rw [hR] at hbc
      have hno : ¬ (R = O ∧ R ≤ n ∧ ∀ x ∈ rr, x.length = n ∧ chkPerm x = 0) → ¬ Valid n os rs := fun hq => H.out.2.2.2.2.2.2.2.2 m hmk (fun hk => by
        obtain ⟨o', r', k1, k2, k3, k4, k5⟩ := hk
        rw [ho1] at k1; cases k1
        rw [hr1] at k2; cases k2
        exact hq ⟨by omega, by omega, k5⟩)
      have HP := Lib.hid (And.intro ho (And.intro hp (And.intro hul (And.intro hb (And.intro hok (And.intro hbw (And.intro hno (And.intro ho1 (And.intro hr1 (And.intro hri (And.intro hO (And.intro hR hbcw))))))))))))
      clear ho hp hul hb hok hbw hno ho1 hr1 hri hO hR hoi hbcw
      have hk1 : (m : Int) < n := by omega
      by_cases hOn : n < O
      · have g1 : decide ((n : Int) < (O : Int)) = true := by simp; omega
        have g2 : decide (n < O) = true := by simp; omega
        have HB := Lib.hid (HP.out.2.2.2.2.2.2.1 (fun h => by omega))
        clear hOn
        go_wp2_with fail
        go_quiet (fail)
        go_wp2_with fail
        go_ret
        exact ⟨⟨3, rfl, .inl ⟨rfl, HB.out⟩⟩, by have := below_drewN HP.out.2.2.2.2.2.1 nq; rwa [H.out.2.2.2.2.2.2.2.1] at this⟩
      · by_cases hOR : O = R
        · subst hOR
          have g1 : decide ((n : Int) < (O : Int)) = false := by simp; omega
          have g2 : decide (n < O) = false := by simp; omega
          have g3 : ((O : Int) != (O : Int)) = false := by simp
          have HOn := Lib.hid hOn
          have hO64 : O ≤ 64 := by omega
          clear hOn
          go_wp2_with fail
          go_quiet (fail)
          go_wp2_with fail
          obtain ⟨vs2, q1, q2, q3⟩ := HP.out.2.2.2.2.2.2.2.2.2.1
          have HQ := Lib.hid (And.intro q1 (And.intro q2 q3))
          clear q1 q2 q3
          obtain ⟨W5, hW5⟩ : ∃ W5, W5 = wr.drewN nq := ⟨_, rfl⟩
          have hb5 : Below wr.heap.size wr W5 := by rw [hW5]; exact below_self_drewN _ _
          have ho5 : Own W5 W1.heap.size u4 27 us := by rw [hW5]; exact HP.out.1.drewN _
          have HV := Lib.hid (And.intro hb5 ho5)
          try rw [← hW5]
          clear hb5 ho5 hW5
          obtain ⟨wo, rfl⟩ : ∃ wo : World, wo = wr := ⟨_, rfl⟩
          go_loopw [4, 6] (fun v k wi => ∃ (q : Nat) (us2 : List Value), q ≤ O ∧ k = .int .i64 (q : Int) ∧ Own wi W1.heap.size v 27 us2 ∧ RV w us2 ((rs.take m).flatten ++ rr.take q) ∧ us2.length ≤ m * 64 + q ∧ Below W1.heap.size W1 wi ∧ ∀ x ∈ rr.take q, x.length = n ∧ chkPerm x = 0) (fun _ k _ => O - (intOf k).toNat)
          case atStart => exact ⟨0, us, by omega, rfl, HV.out.2, by simpa using HP.out.2.1, by have := HP.out.2.2.1; omega, below_trans HP.out.2.2.2.1 HV.out.1, fun x hx => by simp at hx⟩
          case round =>
            obtain ⟨q, us2, hq, rfl, ho2, hp2, hul2, hb2, hch⟩ := hrel
            have hbwi := below_trans H.out.2.2.2.2.1 hb2
            obtain ⟨x0, x1, x2, _, _, _⟩ := box_cells ((hb2.block _ hXW).trans H.out.2.2.2.2.2.1)
            have y2 := HP.out.2.2.2.2.2.2.2.2.2.2.2.2 wr hbwi
            rw [HP.out.2.2.2.2.2.2.2.2.2.2.2.1] at y2
            have hszi := hb2.size
            by_cases hqO : q < O
            · obtain ⟨x, hx⟩ : ∃ x, rr[q]? = some x := ⟨_, List.getElem?_eq_getElem (by rw [HP.out.2.2.2.2.2.2.2.2.2.2.2.1]; exact hqO)⟩
              obtain ⟨u, hu⟩ : ∃ x, vs2[q]? = some x := ⟨_, List.getElem?_eq_getElem (by rw [HQ.out.2.1, HP.out.2.2.2.2.2.2.2.2.2.2.2.1]; exact hqO)⟩
              obtain ⟨xa, xc, rfl, hxi⟩ := HQ.out.2.2 q u x hu hx
              obtain ⟨pb, po, hpe, _, hpc⟩ := (HQ.out.1.below hbwi).2 q _ hu
              subst hpe
              obtain ⟨XL, hXL⟩ : ∃ l, x.length = l := ⟨_, rfl⟩
              have hck := rperm_calls (c := xc) (hxi.below hbwi)
              have hRVx := fun (h : RV w us2 ((rs.take m).flatten ++ rr.take q)) => h.snoc (c := xc) hxi
              rw [hXL] at hpc hck hRVx
              obtain ⟨E, hE⟩ : ∃ E, chkPerm x = E := ⟨_, rfl⟩
              rw [hE] at hck
              have hbadx : ¬ (XL = n ∧ E = 0) → ¬ Valid n os rs := fun hk => HP.out.2.2.2.2.2.2.1 (fun h => hk (by
                have := h.2.2 x (List.mem_of_getElem? hx)
                exact ⟨by omega, by rw [← hE]; exact this.2⟩))
              have HI := Lib.hid (And.intro ho2 (And.intro hp2 (And.intro hul2 (And.intro hb2 (And.intro hch (And.intro hbwi (And.intro hx (And.intro hck (And.intro hRVx (And.intro hE (And.intro hXL hbadx)))))))))))
              clear ho2 hp2 hul2 hb2 hch hbwi hx hu hck hRVx hE hXL hbadx hxi
              have hq1 : (q : Int) < O := by omega
              by_cases hXn : XL = n
              · subst hXn
                have g5 : ((XL : Int) != (XL : Int)) = false := by simp
                by_cases hE0 : E = 0
                · subst hE0
                  go_wp2_with (first
                    | (go_at_call 91; (with_reducible refine HI.out.2.2.2.2.2.2.2.1.mono ?_); rintro e1 w6 ⟨rfl, k1⟩; have x2' := (k1.cell (block_lt_of_cell x2)).trans x2; have y2' := (k1.cell (block_lt_of_cell y2)).trans y2; have p2' := (k1.cell (block_lt_of_cell hpc)).trans hpc; have ho6 := HI.out.1.below k1; have hs6 := Nat.le_trans hszi k1.size; have H6 := Lib.hid (And.intro k1 ho6); clear k1 ho6)
                    | (at_builtin; refine app1 rfl (.tmp 90) (.tmp 99) 44 27 rfl i27 (.slice none 0 0) 24 Tryz.underlying44 I27.out.1 I27.out.2.1 I27.out.2.2.1 I27.out.2.2.2 rfl (by omega) W1.heap.size (.slice xa XL xc) _ us2 rfl H6.out.2 rfl rfl (by have := HI.out.2.2.1; have := HOn.out; have : m * 64 ≤ 64 * 64 := Nat.mul_le_mul (by omega) (Nat.le_refl _); omega) hs6 ?_; intro v8 w8 k1 k2 k3; have H8 := Lib.hid (And.intro k1 (And.intro k2 k3)); clear k1 k2 k3))
                  have htk : rr.take (q + 1) = rr.take q ++ [x] := by rw [List.take_add_one, HI.out.2.2.2.2.2.2.1]; rfl
                  refine ⟨⟨q + 1, _, by omega, by go_num, H8.out.1, ?_, ?_, ?_, ?_⟩, by simp [intOf]; omega⟩
                  · rw [htk, ← List.append_assoc]; exact HI.out.2.2.2.2.2.2.2.2.1 HI.out.2.1
                  · rw [List.length_append]; have := HI.out.2.2.1; simp; omega
                  · exact (below_trans HI.out.2.2.2.1 H6.out.1).grown H8.out.2.1 hs6 (fun g hg => (H6.out.2.block_lt hg).2)
                  · intro x' hx'
                    rw [htk] at hx'
                    rcases List.mem_append.1 hx' with h | h
                    · exact HI.out.2.2.2.2.1 x' h
                    · rw [List.mem_singleton] at h; subst h
                      exact ⟨HI.out.2.2.2.2.2.2.2.2.2.2.1, HI.out.2.2.2.2.2.2.2.2.2.1⟩
                · have g6 : (E != 0) = true := by simp [hE0]
                  have HB := Lib.hid (HI.out.2.2.2.2.2.2.2.2.2.2.2 (fun h => hE0 h.2))
                  clear hE0
                  go_wp2_with (go_at_call 91; (with_reducible refine HI.out.2.2.2.2.2.2.2.1.mono ?_); rintro e1 w6 ⟨rfl, k1⟩; have H6 := Lib.hid k1; clear k1)
                  go_ret
                  exact ⟨⟨3, rfl, .inl ⟨rfl, HB.out⟩⟩, by have := below_trans HI.out.2.2.2.2.2.1 H6.out; rwa [H.out.2.2.2.2.2.2.2.1] at this⟩
              · have g5 : ((XL : Int) != (n : Int)) = true := by simp; omega
                have HB := Lib.hid (HI.out.2.2.2.2.2.2.2.2.2.2.2 (fun h => hXn h.1))
                clear hXn
                go_wp2_with fail
                go_ret
                exact ⟨⟨3, rfl, .inl ⟨rfl, HB.out⟩⟩, by have := HI.out.2.2.2.2.2.1; rwa [H.out.2.2.2.2.2.2.2.1] at this⟩
            · obtain rfl : q = O := by omega
              have hq1 : ¬ (q : Int) < q := by omega
              have HI := Lib.hid (And.intro ho2 (And.intro hp2 (And.intro hul2 (And.intro hb2 hch))))
              clear ho2 hp2 hul2 hb2 hch
              go_wp2_with fail
              have htk : rr.take q = rr := List.take_of_length_le (by rw [HP.out.2.2.2.2.2.2.2.2.2.2.2.1]; exact Nat.le_refl _)
              have hp3 := HI.out.2.1
              have hc3 := HI.out.2.2.2.2
              rw [htk] at hp3 hc3
              refine ⟨⟨m + 1, us2, by omega, by go_num, HI.out.1, ?_, by have := HI.out.2.2.1; have := HOn.out; omega, HI.out.2.2.2.1, fun j hj => ?_⟩, by simp [intOf]; omega⟩
              · rw [List.take_add_one, HP.out.2.2.2.2.2.2.2.2.1, Option.toList_some, List.flatten_append]
                simpa using hp3
              · by_cases ej : j = m
                · subst ej
                  exact ⟨oo, rr, HP.out.2.2.2.2.2.2.2.1, HP.out.2.2.2.2.2.2.2.2.1, by rw [HP.out.2.2.2.2.2.2.2.2.2.2.1, HP.out.2.2.2.2.2.2.2.2.2.2.2.1], by rw [HP.out.2.2.2.2.2.2.2.2.2.2.2.1]; have := HOn.out; omega, hc3⟩
                · exact HP.out.2.2.2.2.1 j (by omega)
        · have g1 : decide ((n : Int) < (O : Int)) = false := by simp; omega
          have g2 : decide (n < O) = false := by simp; omega
          have g3 : ((O : Int) != (R : Int)) = true := by simp; omega
          have HB := Lib.hid (HP.out.2.2.2.2.2.2.1 (fun h => by omega))
          clear hOn hOR
          go_wp2_with fail
          go_quiet (fail)
          go_wp2_with fail
          go_ret
          exact ⟨⟨3, rfl, .inl ⟨rfl, HB.out⟩⟩, by have := below_drewN HP.out.2.2.2.2.2.1 nq; rwa [H.out.2.2.2.2.2.2.2.1] at this⟩
    · obtain rfl : m = n := by omega
      have hk1 : ¬ (m : Int) < m := by omega
      rw [List.take_of_length_le (by rw [H.out.2.2.2.1]; exact Nat.le_refl _)] at hp
      obtain ⟨L, hL⟩ := perms_of (n := m) hn0 hn64 (l := rs.flatten) (fun x hx => by
        obtain ⟨r, hr, hxr⟩ := List.mem_flatten.1 hx
        obtain ⟨i, hi⟩ := List.mem_iff_getElem?.1 hr
        have hil := (List.getElem?_eq_some_iff.1 hi).1
        obtain ⟨_, r', _, e2, _, _, e5⟩ := hok i (by rw [H.out.2.2.2.1] at hil; exact hil)
        rw [hi] at e2; cases e2
        exact e5 x hxr)
      have hul64 : us.length ≤ 4096 := Nat.le_trans hul (Nat.le_trans (Nat.mul_le_mul_right 64 hn64) (by omega))
      have hpms := pms_rv (by omega) ho (hp.below hbw) hL (by omega)
      have hLl : L.length = us.length := by rw [hp.1, ← hL, List.length_map]
      have hmk := make96 (n := m) ⟨hn0, hn64⟩ (by omega) hpms
      obtain ⟨la, lc, hle, _⟩ := ho.row (by unfold maxLen; omega)
      obtain ⟨lu, hlu⟩ : ∃ l, us.length = l := ⟨_, rfl⟩
      rw [hlu] at hle
      subst hle
      have hlu1 : decide ((4096 : Int) < (lu : Int)) = false := by simp; omega
      have hlu2 : decide (4096 < lu) = false := by simp; omega
      have HP := Lib.hid (And.intro hmk (And.intro hL (And.intro hb hbw)))
      clear hmk hL hb hbw ho hp hul hok hul64 hpms hLl hlu
      go_wp2_with (first
        | (go_at_call 96; (with_reducible refine HP.out.1.mono ?_); rintro e1 w6 ⟨T, a6, c6, b6, d6, hT, rfl, k1, k2, k3⟩; have x0' := cell_al_old w6 (.cells #[.int .i64 (m : Int), .slice a6 m c6, .slice b6 m d6] 25) ((k3.cell (block_lt_of_cell x0)).trans x0); have x1' := cell_al_old w6 (.cells #[.int .i64 (m : Int), .slice a6 m c6, .slice b6 m d6] 25) ((k3.cell (block_lt_of_cell x1)).trans x1); have x2' := cell_al_old w6 (.cells #[.int .i64 (m : Int), .slice a6 m c6, .slice b6 m d6] 25) ((k3.cell (block_lt_of_cell x2)).trans x2); have hBg : Below w.heap.size w (w6.alloc (.cells #[.int .i64 (m : Int), .slice a6 m c6, .slice b6 m d6] 25)) := alloc_b (below_trans HP.out.2.2.2 k3) _ (by have := (below_trans HP.out.2.2.2 k3).size; omega); have hS := same31 (w := w6.alloc (.cells #[.int .i64 (m : Int), .slice a6 m c6, .slice b6 m d6] 25)) (v := .agg #[.int .i64 (m : Int), .slice a m c, .slice b m e]) (v' := .agg #[.int .i64 (m : Int), .slice a6 m c6, .slice b6 m d6]) (d := m) (d' := m) (os := os) (os' := orbI T m) (rs := rs) (rs' := repI T m) ⟨a, c, b, e, by rw [H.out.2.2.1, H.out.2.2.2.1], H.out.1.below hBg, H.out.2.1.below hBg⟩ ⟨a6, c6, b6, d6, by simp [orbI, repI], k1.below (alloc_b (Below.refl _ _) _), k2.below (alloc_b (Below.refl _ _) _)⟩; obtain ⟨B, hB⟩ : ∃ B, decide ((m : Int) = m ∧ os = orbI T m ∧ rs = repI T m) = B := ⟨_, rfl⟩; rw [hB] at hS; have H6 := Lib.hid (And.intro hT (And.intro hS (And.intro hBg hB))); clear hT k1 k2 k3 hS hBg hB)
        | (go_at_call 31; refine H6.out.2.1.mono ?_; rintro e1 w8 ⟨rfl, k8⟩; have H8 := Lib.hid k8; clear k8))
      all_goals
        have hv := valid_iff (os := os) (rs := rs) H6.out.1 HP.out.2.1
        have hbb := below_trans H6.out.2.2.1 H8.out
        rw [H.out.2.2.2.2.2.2.2.1] at hbb
        have hdB := H6.out.2.2.2
        rename_i hB1
        first
          | (have hBt : B = false := by simpa using hB1
             rw [hBt] at hdB
             refine bodyPost_ret (v := .int .i64 3) (by simp [results, Tryz.results56, go_sem]) rfl ⟨⟨3, rfl, .inl ⟨rfl, fun hV => ?_⟩⟩, hbb⟩
             exact of_decide_eq_false hdB ⟨by trivial, hv.1 hV⟩)
          | (have hBt : B = true := by simpa using hB1
             rw [hBt] at hdB
             refine bodyPost_ret (v := .int .i64 0) (by simp [results, Tryz.results56, go_sem]) rfl ⟨⟨0, rfl, .inr ⟨rfl, hv.2 (of_decide_eq_true hdB).2⟩⟩, hbb⟩)
set_option maxRecDepth 100000 in
set_option maxHeartbeats 1000000 in
theorem check56 {w : World} {v : Value} {d : Int} {os : List (List Int)} {rs : List (List (List Int))} (h : ChV w v d os rs) :
    Calls Tryz.prog 56 #[v] w fun e w' => (∃ E : Int, e = .returned (.int .i64 E) ∧ ChkR d os rs E) ∧ Below w.heap.size w w' := by
  obtain ⟨a, c, b, e, rfl, h1, h2⟩ := h
  obtain ⟨lo, hlo⟩ : ∃ l, os.length = l := ⟨_, rfl⟩
  obtain ⟨lr, hlr⟩ : ∃ l, rs.length = l := ⟨_, rfl⟩
  by_cases hd1 : d < 1
  · rw [hlo, hlr]
    clear h1 h2 hlo hlr
    have hdd : decide (d < 1) = true := by simp [hd1]
    go_enter Tryz.func56, Tryz.ntmps56
    go_wp2_with fail
    refine bodyPost_ret (v := .int .i64 2) (by simp [results, Tryz.results56, go_sem]) rfl ?_
    exact ⟨⟨2, rfl, .inl ⟨.inl hd1, rfl⟩⟩, alloc_b (Below.refl _ _) _⟩
  by_cases hd2 : 64 < d
  · rw [hlo, hlr]
    clear h1 h2 hlo hlr
    have hd3 := Lib.hid hd2
    have hdd : decide (d < 1) = false := by simp; omega
    have hd4 : decide (64 < d) = true := by simp [hd2]
    clear hd1 hd2
    go_enter Tryz.func56, Tryz.ntmps56
    go_wp2_with fail
    refine bodyPost_ret (v := .int .i64 2) (by simp [results, Tryz.results56, go_sem]) rfl ?_
    exact ⟨⟨2, rfl, .inl ⟨.inr hd3.out, rfl⟩⟩, alloc_b (Below.refl _ _) _⟩
  obtain ⟨n, rfl⟩ : ∃ n : Nat, d = n := ⟨d.toNat, by omega⟩
  by_cases hn : lo = n ∧ lr = n
  · obtain ⟨rfl, rfl⟩ := hn
    have := loop56 (c := c) (e := e) h1 h2 hlo hlr (by omega) (by omega)
    rw [hlo, hlr]
    refine this.mono ?_
    rintro e1 w1 ⟨⟨E, rfl, hE⟩, hb⟩
    exact ⟨⟨E, rfl, .inr ⟨by omega, by omega, by simpa using hE⟩⟩, hb⟩
  · have hres : ChkR (n : Int) os rs 3 := .inr ⟨by omega, by omega, .inl ⟨rfl, fun hv => by
      obtain ⟨e1, e2⟩ := hv.len
      simp at e1 e2
      exact hn ⟨by omega, by omega⟩⟩⟩
    have HR := Lib.hid hres
    rw [hlo, hlr]
    have hd3 : decide ((n : Int) < 1) = false := by simp; omega
    have hd4 : decide ((64 : Int) < n) = false := by simp; omega
    clear hres h1 h2 hlo hlr hd1 hd2
    by_cases h1 : lo = n
    · have g1 : ((lo : Int) != (n : Int)) = false := by simp [h1]
      have g2 : ((lr : Int) != (n : Int)) = true := by simp; omega
      clear hn h1
      go_enter Tryz.func56, Tryz.ntmps56
      go_wp2_with fail
      refine bodyPost_ret (v := .int .i64 3) (by simp [results, Tryz.results56, go_sem]) rfl ?_
      exact ⟨⟨3, rfl, HR.out⟩, alloc_b (Below.refl _ _) _⟩
    · have g1 : ((lo : Int) != (n : Int)) = true := by simp; omega
      clear hn h1
      go_enter Tryz.func56, Tryz.ntmps56
      go_wp2_with fail
      refine bodyPost_ret (v := .int .i64 3) (by simp [results, Tryz.results56, go_sem]) rfl ?_
      exact ⟨⟨3, rfl, HR.out⟩, alloc_b (Below.refl _ _) _⟩
end Go.Proofs.YtbejhkojdiadaaaGreat
