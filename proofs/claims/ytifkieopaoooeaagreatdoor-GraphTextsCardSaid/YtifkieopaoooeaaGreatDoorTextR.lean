/- Text, the reference's. -/
import Derived.Test.YtifkieopaoooeaaGreatDoorDigR
import Derived.Test.YtifkieopaoooeaaGreatDoorChkR
import Derived.Deep.RegionHeld3
set_option linter.unusedSimpArgs false
set_option linter.unusedVariables false
namespace Go.Proofs.YtifkieopaoooeaaGreatDoor
open Go.RowKit Plain PlainG
theorem sb_addL (a b : List Nat) (ha : a.length ≤ 100000) (hb : b.length ≤ 100000) (w : World) : (Op.stringOp .add (sb a) (sb b)).run Tryz.prog w = .ok (.string (sb (a ++ b))) w := by
  rw [run_string_add w (sb a) (sb b) (by rw [sb_size]; omega) (by rw [sb_size]; omega), sb_app]
/-- The box of the graph, and worlds behind it. -/
theorem keepT {W W1 W3 : World} {R B x y D : Nat} {v1 v2 v3 : Value} (hD : W1.heap.size = D) (hR : R < D) (hB : B < D) (h : W.cell? ⟨R, 1, none⟩ = some v1 ∧ W.cell? ⟨B, x, none⟩ = some v2 ∧ W.cell? ⟨B, y, none⟩ = some v3 ∧ Below D W1 W) (k : Below W.heap.size W W3) :
    W3.cell? ⟨R, 1, none⟩ = some v1 ∧ W3.cell? ⟨B, x, none⟩ = some v2 ∧ W3.cell? ⟨B, y, none⟩ = some v3 ∧ Below D W1 W3 := by
  have hs := h.2.2.2.size
  exact ⟨(k.cell (p := ⟨R, 1, none⟩) (by simp only; omega)).trans h.1, (k.cell (p := ⟨B, x, none⟩) (by simp only; omega)).trans h.2.1, (k.cell (p := ⟨B, y, none⟩) (by simp only; omega)).trans h.2.2.1, h.2.2.2.trans (k.mono (by omega))⟩
set_option maxRecDepth 100000 in
set_option maxHeartbeats 8000000 in
theorem gtextR_calls {w : World} {a b : Option Addr} {c d : Nat} {g : Gr} (he : Edg w a g.es) (hc : Ints w b g.cs) :
    Calls Tryz.prog 13 #[.agg #[.int .i64 g.n, .slice a g.es.length c, .slice b g.cs.length d]] w fun e w' => e = .returned (.tuple #[.string (sb (textR g)), .int .i64 (chkGr g)]) ∧ Below w.heap.size w w' := by
  obtain ⟨W1, hW1⟩ : ∃ W1, W1 = w.alloc (.cells #[.int .i64 g.n, .slice a g.es.length c, .slice b g.cs.length d] 25) := ⟨_, rfl⟩
  have hb : Below w.heap.size w W1 := by rw [hW1]; exact (Below.refl _ w).alloc (Nat.le_refl _) _
  have hck := gcheckR_calls (c := c) (d := d) (he.below hb) (hc.below hb)
  have hx1 : ∀ w', Below W1.heap.size W1 w' → w'.cell? ⟨w.heap.size, 0, none⟩ = some (.int .i64 g.n) ∧ w'.cell? ⟨w.heap.size, 1, none⟩ = some (.slice a g.es.length c) ∧ w'.cell? ⟨w.heap.size, 2, none⟩ = some (.slice b g.cs.length d) ∧ w.heap.size < w'.heap.size := fun w' h => by
    rw [hW1] at h; exact box3 h
  by_cases h0 : chkGr g = 0
  · have hT : textR g = textG g := by unfold textR; rw [if_pos h0]
    rw [hT]
    obtain ⟨n0, n1, hE0, hcl, hok⟩ := chkGr_ok.1 h0
    rw [h0] at hck ⊢
    have hed := (chkE_len0 n1 hE0)
    have hev : ∀ (k : Nat) (x : Int × Int), g.es[k]? = some x → 0 ≤ x.1 ∧ x.1 < 24 ∧ 0 ≤ x.2 ∧ x.2 < 24 := by
      intro k x hx
      have := (chkE_srt hE0).2.1 x (List.mem_of_getElem? hx)
      omega
    obtain ⟨N, hn⟩ : ∃ N : Nat, g.n = N := ⟨g.n.toNat, by omega⟩
    obtain ⟨L, hL⟩ : ∃ L, g.es.length = L := ⟨_, rfl⟩
    obtain ⟨M, hM⟩ : ∃ M, g.cs.length = M := ⟨_, rfl⟩
    obtain ⟨T, hTg⟩ : ∃ T, textG g = T := ⟨_, rfl⟩
    rw [hTg]
    have hTx : T = dec N ++ (g.es.flatMap edgeT ++ colsT g.cs) := by rw [← hTg]; unfold textG; rw [hn]; rfl
    have hcv : ∀ (k : Nat) (x : Int), g.cs[k]? = some x → 0 ≤ x ∧ x ≤ 99 := by
      intro k x hx
      have := List.all_eq_true.1 hok x (List.mem_of_getElem? hx)
      simp [okC] at this; omega
    have hN24 : N ≤ 24 := by omega
    have hMN : M = N := by omega
    rw [hn, hL, hM] at hck hW1 hx1
    rw [hn, hL, hM]
    rw [hL] at hed
    have H := Lib.hid (And.intro hck (And.intro hb (And.intro he (And.intro hc (And.intro hev (And.intro hcv (And.intro hTx (And.intro hL (And.intro hM (And.intro hx1 hMN))))))))))
    have HW := Lib.hid hW1
    clear hck hb he hc hn hL hM hTg hT h0 hev hcv hTx n0 n1 hE0 hcl hok hx1 hW1 hMN
    go_enter Tryz.func13, Tryz.ntmps13
    go_wp2_with (go_at_call 28; rw [← HW.out]; refine H.out.1.mono ?_; rintro e w2 ⟨rfl, hw2⟩; have HA := Lib.hid hw2; obtain ⟨g0, g1, g2, g3⟩ := H.out.2.2.2.2.2.2.2.2.2.1 _ hw2; clear hw2)
    go_wp2_with (go_at_call 55; refine (digits_calls N (by omega) _).mono ?_; rintro e w3 ⟨rfl, hw3⟩; have HB := Lib.hid (HA.out.trans (hw3.mono HA.out.size)); clear hw3)
    clear g0 g1 g2 g3
    have hR : w.heap.size < W1.heap.size := by rw [HW.out]; simp
    go_loopw [5, 6] (fun s i wr => ∃ k : Nat, k ≤ L ∧ s = .string (sb (dec N ++ (g.es.take k).flatMap edgeT)) ∧ i = .int .i64 (k : Int) ∧ Below W1.heap.size W1 wr) (fun _ i _ => L - (intOf i).toNat)
    case atStart => exact ⟨0, Nat.zero_le _, by simp, rfl, HB.out⟩
    case round =>
      clear HA HB
      obtain ⟨k, hk, rfl, rfl, hbw⟩ := hrel
      obtain ⟨q0, q1, q2, q3⟩ := H.out.2.2.2.2.2.2.2.2.2.1 _ hbw
      by_cases hlt : k < L
      · have hkn : k < g.es.length := by rw [H.out.2.2.2.2.2.2.2.1]; exact hlt
        obtain ⟨x, hx⟩ : ∃ x, g.es[k]? = some x := ⟨_, List.getElem?_eq_getElem hkn⟩
        have hxv := H.out.2.2.2.2.1 k x hx
        obtain ⟨x1, x2⟩ := x
        obtain ⟨i, rfl⟩ : ∃ i : Nat, x1 = i := ⟨x1.toNat, by simp only at hxv; omega⟩
        obtain ⟨j, rfl⟩ : ∃ j : Nat, x2 = j := ⟨x2.toNat, by simp only at hxv; omega⟩
        have hww : Below w.heap.size w wr := H.out.2.1.trans (hbw.mono (by omega))
        obtain ⟨B, o, rfl, hBl, _, _⟩ := H.out.2.2.1.at_ k _ hx
        obtain ⟨B', o', eb, _, c1, c2⟩ := (H.out.2.2.1.below hww).at_ k _ hx
        cases eb
        simp only at c1 c2 hxv
        have hBD : B < W1.heap.size := by omega
        have hi : i < 100 := by omega
        have hj : j < 100 := by omega
        have hedge : (g.es.take (k + 1)).flatMap edgeT = (g.es.take k).flatMap edgeT ++ (32 :: (dec i ++ 45 :: dec j)) := by
          rw [List.take_add_one, hx]; simp [edgeT]
        have hln : (dec N ++ (g.es.take k).flatMap edgeT).length ≤ 4000 := by
          have h1 := dec_le2 N
          have h2 := edges_len (g.es.take k)
          have h3 : (g.es.take k).length ≤ k := List.length_take_le _ _
          rw [List.length_append]; omega
        obtain ⟨m0, hm0⟩ : ∃ m, dec N ++ (g.es.take k).flatMap edgeT = m := ⟨_, rfl⟩
        have hli := dec_le2 i
        have hlj := dec_le2 j
        rw [hm0] at hln ⊢
        obtain ⟨m1, hm1⟩ : ∃ m, m0 ++ [32] = m := ⟨_, rfl⟩
        obtain ⟨m2, hm2⟩ : ∃ m, m1 ++ dec i = m := ⟨_, rfl⟩
        obtain ⟨m3, hm3⟩ : ∃ m, m2 ++ [45] = m := ⟨_, rfl⟩
        obtain ⟨m4, hm4⟩ : ∃ m, m3 ++ dec j = m := ⟨_, rfl⟩
        have l1 : m1.length ≤ 4001 := by rw [← hm1]; simp; omega
        have l2 : m2.length ≤ 4003 := by rw [← hm2, List.length_append]; omega
        have l3 : m3.length ≤ 4004 := by rw [← hm3]; simp; omega
        have a1 : ∀ w, (Op.stringOp .add (sb m0) (⟨#[32]⟩ : ByteArray)).run Tryz.prog w = .ok (.string (sb m1)) w := fun w => by rw [← hm1]; exact sb_addL m0 [32] (by omega) (by simp) w
        have a2 : ∀ w, (Op.stringOp .add (sb m1) (sb (dec i))).run Tryz.prog w = .ok (.string (sb m2)) w := fun w => by rw [← hm2]; exact sb_addL m1 (dec i) (by omega) (by omega) w
        have a3 : ∀ w, (Op.stringOp .add (sb m2) (⟨#[45]⟩ : ByteArray)).run Tryz.prog w = .ok (.string (sb m3)) w := fun w => by rw [← hm3]; exact sb_addL m2 [45] (by omega) (by simp) w
        have a4 : ∀ w, (Op.stringOp .add (sb m3) (sb (dec j))).run Tryz.prog w = .ok (.string (sb m4)) w := fun w => by rw [← hm4]; exact sb_addL m3 (dec j) (by omega) (by omega) w
        have hm5 : dec N ++ (g.es.take (k + 1)).flatMap edgeT = m4 := by rw [hedge, ← List.append_assoc, hm0, ← hm4, ← hm3, ← hm2, ← hm1]; simp
        have HS := Lib.hid hm5
        have hRw : w.heap.size < wr.heap.size := q3
        have hbs := hbw.size
        obtain ⟨R, hRe⟩ : ∃ R, w.heap.size = R := ⟨_, rfl⟩
        obtain ⟨D, hDe⟩ : ∃ D, W1.heap.size = D := ⟨_, rfl⟩
        rw [hRe] at q0 q1 q2 hRw hR ⊢
        rw [hDe] at hbw hbs hR hBD ⊢
        have hbd := hbw.drew
        have HR := Lib.hid (And.intro hRe hDe)
        clear hm0 hm1 hm2 hm3 hm4 hm5 hx hxv hww hln l1 l2 l3 hli hlj hedge hRe hDe q3
        go_wp2
        go_region_held3 (fun w' => w'.cell? ⟨R, 1, none⟩ = some (.slice (some ⟨B, o, none⟩) L c) ∧ w'.cell? ⟨B, o + k * 2, none⟩ = some (.int .i64 (i : Int)) ∧ w'.cell? ⟨B, o + k * 2 + 1, none⟩ = some (.int .i64 (j : Int)) ∧ Below D W1 w')
          (first
            | assumption
            | go_keep
            | (refine ⟨?_, ?_, ?_, ?_⟩ <;> first | go_keep | exact hbd)
            | exact keepT HR.out.2 hR hBD (by assumption) hB3
            | exact keepT HR.out.2 hR hBD ⟨by assumption, by assumption, by assumption, by assumption⟩ hB3)
          (first
            | (go_at_call 55; refine (digits_calls _ (by assumption) _).mono ?_; rintro e w3 ⟨rfl, hB3⟩))
        have hS : w3.cell? ⟨R, 1, none⟩ = some (.slice (some ⟨B, o, none⟩) L c) ∧ w3.cell? ⟨B, o + k * 2, none⟩ = some (.int .i64 (i : Int)) ∧ w3.cell? ⟨B, o + k * 2 + 1, none⟩ = some (.int .i64 (j : Int)) ∧ Below D W1 w3 := by assumption
        have hS4 := hS.2.2.2
        go_wp2
        exact ⟨⟨k + 1, by omega, by rw [HS.out], by go_num, by first | exact hS4 | (rw [HR.out.2]; exact hS4)⟩, by simp [intOf]; omega⟩
      · have hkL : k = L := by omega
        subst hkL
        have htk : g.es.take k = g.es := List.take_of_length_le (by rw [H.out.2.2.2.2.2.2.2.1]; omega)
        rw [htk]
        have hln : (dec N ++ g.es.flatMap edgeT).length ≤ 4000 := by
          have h1 := dec_le2 N
          have h2 := edges_len g.es
          have h3 := H.out.2.2.2.2.2.2.2.1
          rw [List.length_append]; omega
        obtain ⟨l1, hl1⟩ : ∃ l1, dec N ++ g.es.flatMap edgeT = l1 := ⟨_, rfl⟩
        rw [hl1] at hln ⊢
        have hT1 : T = l1 ++ colsT g.cs := by rw [H.out.2.2.2.2.2.2.1, ← List.append_assoc, hl1]
        have hww : Below w.heap.size w wr := H.out.2.1.trans (hbw.mono (by omega))
        have K56 := bright_calls b d g.cs wr (H.out.2.2.2.1.below hww)
        rw [H.out.2.2.2.2.2.2.2.2.1] at K56
        by_cases hall : g.cs.all (· == 0) = true
        · have hTl : T = l1 := by rw [hT1]; unfold colsT; rw [if_pos hall, List.append_nil]
          rw [hall] at K56
          have HL := Lib.hid hTl
          clear hT1 hTl hl1 htk hall
          go_wp2_with (go_at_call 56; refine K56.mono ?_; rintro e w4 ⟨rfl, hw4⟩; replace hw4 := hw4.symm; subst hw4)
          go_ret2
          exact ⟨by rw [HL.out]; rfl, hww⟩
        · have hall' : g.cs.all (· == 0) = false := by simpa using hall
          rw [hall'] at K56
          have hT2 : T = (l1 ++ [32, 58]) ++ (g.cs.flatMap colT) := by rw [hT1]; unfold colsT; rw [if_neg hall]; simp; rfl
          obtain ⟨l2, hl2⟩ : ∃ l2, l1 ++ [32, 58] = l2 := ⟨_, rfl⟩
          have a1 : ∀ w, (Op.stringOp .add (sb l1) (⟨#[32, 58]⟩ : ByteArray)).run Tryz.prog w = .ok (.string (sb l2)) w := fun w => by rw [← hl2]; exact sb_addL l1 [32, 58] (by omega) (by simp) w
          have hln2 : l2.length ≤ 4002 := by rw [← hl2]; simp; omega
          rw [hl2] at hT2
          have HT := Lib.hid (And.intro hT2 hbw)
          clear hT1 hT2 hl2 hl1 hall hall' htk hww hbw
          go_wp2_with (go_at_call 56; refine K56.mono ?_; rintro e w4 ⟨rfl, hw4⟩; replace hw4 := hw4.symm; subst hw4)
          go_loopw [5, 7] (fun s i wr => ∃ k : Nat, k ≤ N ∧ s = .string (sb (l2 ++ (g.cs.take k).flatMap colT)) ∧ i = .int .i64 (k : Int) ∧ Below W1.heap.size W1 wr) (fun _ i _ => N - (intOf i).toNat)
          case atStart => exact ⟨0, Nat.zero_le _, by simp, rfl, HT.out.2⟩
          case round =>
            clear q0 q1 q2 q3 K56
            obtain ⟨k, hk, rfl, rfl, hbw⟩ := hrel
            obtain ⟨q0, q1, q2, q3⟩ := H.out.2.2.2.2.2.2.2.2.2.1 _ hbw
            have hww : Below w.heap.size w wr := H.out.2.1.trans (hbw.mono (by omega))
            by_cases hlt : k < N
            · have hkn : k < g.cs.length := by rw [H.out.2.2.2.2.2.2.2.2.1, H.out.2.2.2.2.2.2.2.2.2.2]; exact hlt
              obtain ⟨B, o, rfl, hBl, hcell⟩ := (H.out.2.2.2.1.below hww).at_ hkn
              obtain ⟨x, hx⟩ : ∃ x, g.cs[k]? = some x := ⟨_, List.getElem?_eq_getElem hkn⟩
              have hxv := H.out.2.2.2.2.2.1 k x hx
              rw [hx] at hcell
              obtain ⟨i, rfl⟩ : ∃ i : Nat, x = i := ⟨x.toNat, by omega⟩
              have hi : i < 100 := by omega
              have hkM : k < M := by rw [H.out.2.2.2.2.2.2.2.2.2.2]; exact hlt
              have hcol : (g.cs.take (k + 1)).flatMap colT = (g.cs.take k).flatMap colT ++ (32 :: dec i) := by
                rw [List.take_add_one, hx]; simp [colT]
              have hln : (l2 ++ (g.cs.take k).flatMap colT).length ≤ 4100 := by
                have h3 : (g.cs.take k).length ≤ k := List.length_take_le _ _
                have h4 : ((g.cs.take k).flatMap colT).length ≤ (g.cs.take k).length * 3 := flat_len colT 3 _ (fun y _ => by unfold colT; have := dec_le2 y.toNat; simp; omega)
                rw [List.length_append]; omega
              obtain ⟨m0, hm0⟩ : ∃ m, l2 ++ (g.cs.take k).flatMap colT = m := ⟨_, rfl⟩
              rw [hm0] at hln ⊢
              obtain ⟨m1, hm1⟩ : ∃ m, m0 ++ [32] = m := ⟨_, rfl⟩
              obtain ⟨m2, hm2⟩ : ∃ m, m1 ++ dec i = m := ⟨_, rfl⟩
              have hli := dec_le2 i
              have t1 : m1.length ≤ 4101 := by rw [← hm1]; simp; omega
              have a1 : ∀ w, (Op.stringOp .add (sb m0) (⟨#[32]⟩ : ByteArray)).run Tryz.prog w = .ok (.string (sb m1)) w := fun w => by rw [← hm1]; exact sb_addL m0 [32] (by omega) (by simp) w
              have a2 : ∀ w, (Op.stringOp .add (sb m1) (sb (dec i))).run Tryz.prog w = .ok (.string (sb m2)) w := fun w => by rw [← hm2]; exact sb_addL m1 (dec i) (by omega) (by omega) w
              have hm5 : l2 ++ (g.cs.take (k + 1)).flatMap colT = m2 := by rw [hcol, ← List.append_assoc, hm0, ← hm2, ← hm1]; simp
              have HS := Lib.hid (And.intro hm5 hbw)
              simp only [Option.getD_some] at hcell
              clear hm0 hm1 hm2 hm5 hx hxv hww hln t1 hli hcol hbw
              go_wp2_with (go_at_call 55; refine (digits_calls i hi _).mono ?_; rintro e w3 ⟨rfl, hB3⟩; have HB := Lib.hid hB3; clear hB3)
              exact ⟨⟨k + 1, by omega, by rw [HS.out.1], by go_num, HS.out.2.trans (HB.out.mono HS.out.2.size)⟩, by simp [intOf]; omega⟩
            · have hkN : k = N := by omega
              have htk : g.cs.take k = g.cs := List.take_of_length_le (by rw [H.out.2.2.2.2.2.2.2.2.1, H.out.2.2.2.2.2.2.2.2.2.2]; omega)
              rw [htk, ← HT.out.1]
              clear hbw
              go_wp2
              go_ret2
              exact ⟨rfl, hww⟩
  · obtain ⟨e0, he0⟩ : ∃ e0, chkGr g = e0 := ⟨_, rfl⟩
    have hT : textR g = [] := by unfold textR; rw [if_neg h0]
    rw [hT]
    rw [he0] at h0 hck ⊢
    have h0b : (e0 != 0) = true := by simp [h0]
    obtain ⟨n, hn⟩ : ∃ n, g.n = n := ⟨_, rfl⟩
    obtain ⟨L, hL⟩ : ∃ L, g.es.length = L := ⟨_, rfl⟩
    obtain ⟨M, hM⟩ : ∃ M, g.cs.length = M := ⟨_, rfl⟩
    rw [hn, hL, hM] at hck hW1
    rw [hn, hL, hM]
    have H := Lib.hid (And.intro hck hb)
    have HW := Lib.hid hW1
    clear hck hb hW1 hx1 hn hL hM he hc
    go_enter Tryz.func13, Tryz.ntmps13
    go_wp2_with (go_at_call 28; rw [← HW.out]; refine H.out.1.mono ?_; rintro e w2 ⟨rfl, hw2⟩; have HA := Lib.hid hw2; clear hw2)
    go_ret2
    exact ⟨rfl, H.out.2.trans (HA.out.mono H.out.2.size)⟩
end Go.Proofs.YtifkieopaoooeaaGreatDoor
