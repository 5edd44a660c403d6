/- Text, the program's. -/
import Derived.Test.YtifkieopaoooeaaGreatDoorShelf
import Derived.Test.YtifkieopaoooeaaGreatDoorChkP
import Derived.Test.YtifkieopaoooeaaGreatDoorVerts
import Derived.Test.YtifkieopaoooeaaGreatDoorPlainG
import Derived.StillTailTactics
set_option linter.unusedSimpArgs false
set_option linter.unusedVariables false
namespace Go.Proofs.YtifkieopaoooeaaGreatDoor
open Go.RowKit Plain PlainG
def textR (g : Gr) : List Nat := if chkGr g = 0 then textG g else []
theorem dec_le2 (n : Nat) : (dec n).length ≤ 2 := dec_le n
theorem sb32 : (⟨#[32]⟩ : ByteArray) = sb [32] := rfl
theorem sb45 : (⟨#[45]⟩ : ByteArray) = sb [45] := rfl
theorem sb3258 : (⟨#[32, 58]⟩ : ByteArray) = sb [32, 58] := rfl
theorem sb_add (a b : List Nat) (ha : a.length ≤ 100) (hb : b.length ≤ 100) (w : World) : (Op.stringOp .add (sb a) (sb b)).run Tryz.prog w = .ok (.string (sb (a ++ b))) w := by
  rw [run_string_add w (sb a) (sb b) (by rw [sb_size]; omega) (by rw [sb_size]; omega), sb_app]
theorem Bld.below {w w' : World} {B b : Nat} {l : List Nat} (h : Bld w B b l) (hb : Below w.heap.size w w') : Bld w' B b l := by
  have key : ∀ p bs, Lib.BuilderAt 75 5 B b p bs w → Lib.BuilderAt 75 5 B b p bs w' := by
    rintro p bs ⟨h1, v, h2, h3, h4⟩
    have hlt : b < w.heap.size := by
      rcases Nat.lt_or_ge b w.heap.size with hl | hl
      · exact hl
      · rw [Array.getElem?_eq_none hl] at h2; cases h2
    refine ⟨h1, v, (hb.block b hlt).trans h2, ownsRow_block h3 (fun g hg => hb.block g ?_), h4⟩
    rcases h3.2 with ⟨rfl, _⟩ | ⟨g', cap, cur, rfl, _, hh, _⟩
    · cases hg
    · cases hg
      rcases Nat.lt_or_ge g' w.heap.size with hl | hl
      · exact hl
      · rw [Array.getElem?_eq_none hl] at hh; cases hh
  rcases h with h | h
  · exact .inl (key _ _ h)
  · exact .inr (key _ _ h)
set_option maxRecDepth 100000 in
set_option maxHeartbeats 4000000 in
theorem gtext_calls {w : World} {a b : Option Addr} {c d : Nat} {g : Gr} (he : Edg w a g.es) (hc : Ints w b g.cs) :
    Calls Tryz.prog 12 #[.agg #[.int .i64 g.n, .slice a g.es.length c, .slice b g.cs.length d]] w fun e w' => e = .returned (.tuple #[.string (sb (textR g)), .int .i64 (chkGr g)]) ∧ Below w.heap.size w w' := by
  have hb : Below w.heap.size w (w.alloc (.cells #[.int .i64 g.n, .slice a g.es.length c, .slice b g.cs.length d] 25)) := (Below.refl _ w).alloc (Nat.le_refl _) _
  have hck := gcheck_calls (c := c) (d := d) (he.below hb) (hc.below hb)
  by_cases h0 : chkGr g = 0
  · have hT : textR g = textG g := by unfold textR; rw [if_pos h0]
    rw [hT]
    obtain ⟨n0, n1, hE0, hcl, hok⟩ := chkGr_ok.1 h0
    rw [h0] at hck ⊢
    have hed := (chkE_len0 n1 hE0)
    have hev : ∀ (k : Nat) (x : Int × Int), g.es[k]? = some x → 0 ≤ x.1 ∧ x.1 < 24 ∧ 0 ≤ x.2 ∧ x.2 < 24 := by
      intro k x hx
      have := (chkE_srt hE0).2.1 x (List.mem_of_getElem? hx)
      omega
    obtain ⟨N, hn⟩ : ∃ N : Nat, g.n = N := ⟨g.n.toNat, by omega⟩
    obtain ⟨L, hL⟩ : ∃ L, g.es.length = L := ⟨_, rfl⟩
    obtain ⟨M, hM⟩ : ∃ M, g.cs.length = M := ⟨_, rfl⟩
    obtain ⟨T, hTg⟩ : ∃ T, textG g = T := ⟨_, rfl⟩
    rw [hTg]
    have hTx : T = dec N ++ (g.es.flatMap edgeT ++ colsT g.cs) := by rw [← hTg]; unfold textG; rw [hn]; rfl
    have hcv : ∀ (k : Nat) (x : Int), g.cs[k]? = some x → 0 ≤ x ∧ x ≤ 99 := by
      intro k x hx
      have := List.all_eq_true.1 hok x (List.mem_of_getElem? hx)
      simp [okC] at this; omega
    have hN24 : N ≤ 24 := by omega
    rw [hn, hL, hM] at hck hb ⊢
    rw [hL] at hed
    have hML : M ≤ 24 := by omega
    have H := Lib.hid (And.intro hck (And.intro hb (And.intro he (And.intro hc (And.intro hev (And.intro hcv (And.intro hTx (And.intro hL hM))))))))
    clear hck hb he hc hn hL hM hTg hT h0 hev hcv hTx n0 n1 hE0 hcl hok
    go_enter Tryz.func12, Tryz.ntmps12
    go_wp2_with (go_at_call 27; refine H.out.1.mono ?_; rintro e w2 ⟨rfl, hw2⟩; have HA := Lib.hid hw2; have g0 := (hw2.cell (p := ⟨w.heap.size, 0, none⟩) (by simp)).trans (show _ = some (.int .i64 (N : Int)) by simp); have g1 := (hw2.cell (p := ⟨w.heap.size, 1, none⟩) (by simp)).trans (show _ = some (.slice a L c) by simp); have g2 := (hw2.cell (p := ⟨w.heap.size, 2, none⟩) (by simp)).trans (show _ = some (.slice b M d) by simp); have glt : w.heap.size < w2.heap.size := Nat.lt_of_lt_of_le (by simp) hw2.size; have gne : w.heap.size ≠ w2.heap.size := Nat.ne_of_lt glt; clear hw2)
    have HG : ∀ w', Below w2.heap.size w2 w' → w'.cell? ⟨w.heap.size, 0, none⟩ = some (.int .i64 (N : Int)) ∧ w'.cell? ⟨w.heap.size, 1, none⟩ = some (.slice a L c) ∧ w'.cell? ⟨w.heap.size, 2, none⟩ = some (.slice b M d) := fun w' h => ⟨(h.cell (p := ⟨w.heap.size, 0, none⟩) glt).trans g0, (h.cell (p := ⟨w.heap.size, 1, none⟩) glt).trans g1, (h.cell (p := ⟨w.heap.size, 2, none⟩) glt).trans g2⟩
    have HW : ∀ w', Below w2.heap.size w2 w' → Below w.heap.size w w' := fun w' h => (H.out.2.1.trans (HA.out.mono (by simp))).trans (h.mono (Nat.le_of_lt glt))
    have HGW := Lib.hid (And.intro HG HW)
    clear HG HW g0 g1 g2
    obtain ⟨b0, hb0⟩ : ∃ b0, w2.heap.size = b0 := ⟨_, rfl⟩
    have HB0 : Bld (w2.alloc (.cells #[.pointer none, .slice none 0 0] 75)) w2.heap.size w2.heap.size [] := Bld.fresh w2
    have hbl0 : Below w2.heap.size w2 (w2.alloc (.cells #[.pointer none, .slice none 0 0] 75)) := (Below.refl _ _).alloc (Nat.le_refl _) _
    have hsz0 : w2.heap.size ≤ (w2.alloc (.cells #[.pointer none, .slice none 0 0] 75)).heap.size := by simp
    rw [hb0] at HB0 hbl0 hsz0 HGW glt gne ⊢
    have HC := Lib.hid (And.intro HB0 (And.intro hbl0 hsz0))
    clear HB0 hbl0 hsz0
    go_wp2_with (first
      | (go_at_call 51; refine (itoa_calls N (by omega) _).mono ?_; rintro e w3 ⟨rfl, rfl⟩)
      | (go_at_call 50; refine (write_calls (m := dec N) HC.out.1 (by have := dec_le2 N; simp; omega) HC.out.2.2).mono ?_; rintro e w4 ⟨rfl, hw4, hw5⟩; rw [List.nil_append] at hw4; have HD := Lib.hid (And.intro hw4 (HC.out.2.1.trans hw5)); obtain ⟨g0, g1, g2⟩ := HGW.out.1 _ HD.out.2; clear hw4 hw5))
    have hs4 : b0 ≤ w4.heap.size := by rw [← hb0]; rw [← hb0] at HD; exact HD.out.2.size
    go_loopw [22] (fun i wr => ∃ k : Nat, k ≤ L ∧ i = .int .i64 (k : Int) ∧ Bld wr b0 b0 (dec N ++ (g.es.take k).flatMap edgeT) ∧ Below b0 w2 wr ∧ b0 ≤ wr.heap.size) (fun i _ => L - (intOf i).toNat)
    case atStart => exact ⟨0, Nat.zero_le _, rfl, by simpa using HD.out.1, HD.out.2, hs4⟩
    case round =>
      obtain ⟨k, hk, rfl, hB, hbw, hbs⟩ := hrel
      obtain ⟨q0, q1, q2⟩ := HGW.out.1 _ hbw
      by_cases hlt : k < L
      · have hkn : k < g.es.length := by rw [H.out.2.2.2.2.2.2.2.1]; exact hlt
        obtain ⟨x, hx⟩ : ∃ x, g.es[k]? = some x := ⟨_, List.getElem?_eq_getElem hkn⟩
        have hxv := H.out.2.2.2.2.1 k x hx
        obtain ⟨x1, x2⟩ := x
        obtain ⟨i, rfl⟩ : ∃ i : Nat, x1 = i := ⟨x1.toNat, by simp only at hxv; omega⟩
        obtain ⟨j, rfl⟩ : ∃ j : Nat, x2 = j := ⟨x2.toNat, by simp only at hxv; omega⟩
        obtain ⟨B, o, rfl, hBl, c1, c2⟩ := (H.out.2.2.1.below (HGW.out.2 _ hbw)).at_ k _ hx
        simp only at c1 c2 hxv
        have hi : i < 100 := by omega
        have hj : j < 100 := by omega
        have hBx := hB.below (w' := wr.alloc (.cells #[.int .i64 (i : Int), .int .i64 (j : Int)] 69)) ((Below.refl _ _).alloc (Nat.le_refl _) _)
        have hbx : Below b0 w2 (wr.alloc (.cells #[.int .i64 (i : Int), .int .i64 (j : Int)] 69)) := hbw.alloc hbs _
        have hedge : (g.es.take (k + 1)).flatMap edgeT = (g.es.take k).flatMap edgeT ++ (32 :: (dec i ++ 45 :: dec j)) := by
          rw [List.take_add_one, hx]; simp [edgeT]
        have hln : (dec N ++ (g.es.take k).flatMap edgeT).length ≤ 4000 := by
          have h1 := dec_le2 N
          have h2 := edges_len (g.es.take k)
          have h3 : (g.es.take k).length ≤ k := List.length_take_le _ _
          rw [List.length_append]; omega
        have a1 : ∀ w, (Op.stringOp .add (⟨#[32]⟩ : ByteArray) (sb (dec i))).run Tryz.prog w = .ok (.string (sb ([32] ++ dec i))) w := sb_add [32] (dec i) (by simp) (by have := dec_le2 i; omega)
        have a2 : ∀ w, (Op.stringOp .add (sb (32 :: dec i)) (⟨#[45]⟩ : ByteArray)).run Tryz.prog w = .ok (.string (sb (32 :: (dec i ++ [45])))) w := sb_add (32 :: dec i) [45] (by have := dec_le2 i; simp; omega) (by simp)
        have a3 : ∀ w, (Op.stringOp .add (sb (32 :: (dec i ++ [45]))) (sb (dec j))).run Tryz.prog w = .ok (.string (sb (32 :: (dec i ++ 45 :: dec j)))) w := fun w => by
          have := sb_add (32 :: (dec i ++ [45])) (dec j) (by have := dec_le2 i; simp; omega) (by have := dec_le2 j; omega) w
          rw [this]; simp
        have HS := Lib.hid (And.intro hBx (And.intro hbx (And.intro hedge (And.intro hln hbs))))
        clear hB hbw hBx hbx hedge hln hx hxv
        go_wp2
        obtain ⟨wx, hwx⟩ : ∃ wx, wx = wr.alloc (.cells #[.int .i64 (i : Int), .int .i64 (j : Int)] 69) := ⟨_, rfl⟩
        have x1 : wx.cell? ⟨wr.heap.size, 0, none⟩ = some (.int .i64 (i : Int)) := by rw [hwx]; simp
        have x2 : wx.cell? ⟨wr.heap.size, 1, none⟩ = some (.int .i64 (j : Int)) := by rw [hwx]; simp
        have hsx : b0 ≤ wx.heap.size := by rw [hwx]; simp; omega
        rw [← hwx] at HS ⊢
        clear hwx
        go_still_tail 9, (by kernel_rfl)
        still_call (itoa_calls i hi _)
        repeat still_step
        still_call (itoa_calls j hj _)
        repeat still_step
        refine wpStill_nil ?_
        change wpList _ _ _ _ _ (wx.drewN 1)
        go_wp2_with (go_at_call 50; refine (write_calls (B := b0) (b := b0) (l := dec N ++ (g.es.take k).flatMap edgeT) (m := 32 :: (dec i ++ 45 :: dec j)) (w := wx.drewN 1) (HS.out.1.below (below_drewN (Below.refl _ _) 1)) (by have h1 := HS.out.2.2.2.1; have h2 := dec_le2 i; have h3 := dec_le2 j; simp only [List.length_cons, List.length_append] at h1 ⊢; omega) hsx).mono ?_; rintro e w6 ⟨rfl, hw6, hw7⟩; have HE := Lib.hid (And.intro hw6 hw7); clear hw6 hw7)
        refine ⟨⟨k + 1, by omega, by go_num, ?_, ?_, ?_⟩, by simp [intOf]; omega⟩
        · rw [HS.out.2.2.1, ← List.append_assoc]; exact HE.out.1
        · exact (below_drewN HS.out.2.1 1).trans HE.out.2
        · exact Nat.le_trans hsx HE.out.2.size
      · have hkL : k = L := by omega
        subst hkL
        obtain ⟨l1, hl1⟩ : ∃ l1, dec N ++ g.es.flatMap edgeT = l1 := ⟨_, rfl⟩
        have htk : g.es.take k = g.es := List.take_of_length_le (by rw [H.out.2.2.2.2.2.2.2.1]; omega)
        rw [htk, hl1] at hB
        have hln : l1.length ≤ 4000 := by
          have h1 := dec_le2 N
          have h2 := edges_len g.es
          have h3 := H.out.2.2.2.2.2.2.2.1
          rw [← hl1, List.length_append]; omega
        have hTl : T = l1 ++ colsT g.cs := by rw [H.out.2.2.2.2.2.2.1, ← hl1, List.append_assoc]
        have hML2 := H.out.2.2.2.2.2.2.2.2
        have hIn := H.out.2.2.2.1.below (HGW.out.2 _ hbw)
        have K53 := clone_calls b d g.cs wr hIn (by omega)
        rw [hML2] at K53
        have hnn : ∀ x ∈ g.cs, 0 ≤ x := fun x hx => by
          obtain ⟨j, hj⟩ := List.getElem?_of_mem hx
          exact (H.out.2.2.2.2.2.1 j x hj).1
        have hmp := maxL_pos hnn
        have K52 : ∀ (G cap : Nat) (w' : World), Own w' wr.heap.size (.slice (some ⟨G, 0, none⟩) (M + 1) cap) 3 (ints g.cs ++ [.int .i64 0]) → Calls Tryz.prog 52 #[.slice (some ⟨G, 0, none⟩) (M + 1) cap] w' fun e w2 => e = .returned (.int .i64 (maxL (g.cs ++ [0]))) ∧ w2 = w' := by
          intro G cap w' h
          have h' : Own w' wr.heap.size (.slice (some ⟨G, 0, none⟩) (M + 1) cap) 3 (ints (g.cs ++ [0])) := by
            have e : ints (g.cs ++ [0]) = ints g.cs ++ [.int .i64 0] := by simp [ints]
            rw [e]; exact h
          have := max_calls (w := w') (zs := g.cs ++ [0]) cap (h'.toInts (by unfold maxLen; simp; omega)) (by simp)
          have e2 : (g.cs ++ [(0 : Int)]).length = M + 1 := by rw [List.length_append, hML2]; rfl
          rw [e2] at this
          exact this
        obtain ⟨mx, hmx⟩ : ∃ mx, maxL (g.cs ++ [0]) = mx := ⟨_, rfl⟩
        rw [hmx] at K52 hmp
        obtain ⟨i3, hi3, hz3, hs3, hb3⟩ := info_parts Tryz.info3
        have I3 := Lib.hid (And.intro hi3 (And.intro hz3 (And.intro hs3 hb3)))
        cases hall : g.cs.all (· == 0)
        · have hmx0 : 0 < mx := hmp.2 (by rw [hall]; simp)
          have hTe : T = l1 ++ [32, 58] ++ g.cs.flatMap colT := by rw [hTl]; unfold colsT; rw [if_neg (by rw [hall]; simp)]; simp; rfl
          have HS := Lib.hid (And.intro hB (And.intro hbw (And.intro K53 (And.intro K52 (And.intro hTe (And.intro hML2 (And.intro hbs (And.intro hln (And.intro hIn HGW.out.2)))))))))
          clear hB hbw K53 K52 hTe hTl hML2 hIn hln htk hl1 hnn hmp hmx hall hi3 hz3 hs3 hb3
          go_wp2_with (first
            | (go_at_call 53; refine HS.out.2.2.1.mono ?_; rintro e w5 ⟨v5, rfl, hv1, hv2⟩; have HE := Lib.hid (And.intro hv1 hv2); clear hv1 hv2)
            | (at_builtin; refine app1f rfl (.tmp 39) (.tmp 40) 23 3 rfl i3 (.int .i64 0) 8 Tryz.underlying23 I3.out.1 I3.out.2.1 I3.out.2.2.1 I3.out.2.2.2 rfl (by omega) wr.heap.size (.int .i64 0) v5 (ints g.cs) M rfl HE.out.1 rfl rfl (by rw [ints_len]; exact HS.out.2.2.2.2.2.1) (by omega) HE.out.2.size ?_; intro G cap w6 h2 h3 h4 h5 h6; have HF := Lib.hid (And.intro h2 h3); clear h2 h3 h4 h5 h6)
            | (go_at_call 52; refine (HS.out.2.2.2.1 _ _ _ HF.out.1).mono ?_; rintro e w7 ⟨rfl, rfl⟩; have hb7 := Lib.hid (HE.out.2.grown HF.out.2 HE.out.2.size (fun g hg => (HE.out.1.block_lt hg).2)))
            | (go_at_call 50; refine (write_calls (m := [32, 58]) (HS.out.1.below hb7.out) (by have := HS.out.2.2.2.2.2.2.2.1; simp; omega) (Nat.le_trans HS.out.2.2.2.2.2.2.1 hb7.out.size)).mono ?_; rintro e w8 ⟨rfl, hw8, hw9⟩; have HX := Lib.hid (And.intro hw8 ((HS.out.2.1.trans (hb7.out.mono HS.out.2.2.2.2.2.2.1)).trans hw9)); obtain ⟨q0, q1, q2⟩ := HGW.out.1 _ HX.out.2; have hs8 := HX.out.2.size; clear hw8 hw9))
          rw [hb0] at hs8
          go_loopw [48] (fun i wr => ∃ k : Nat, k ≤ M ∧ i = .int .i64 (k : Int) ∧ Bld wr b0 b0 (l1 ++ [32, 58] ++ (g.cs.take k).flatMap colT) ∧ Below b0 w2 wr ∧ b0 ≤ wr.heap.size) (fun i _ => M - (intOf i).toNat)
          case atStart => exact ⟨0, Nat.zero_le _, rfl, by simpa using HX.out.1, HX.out.2, hs8⟩
          case round =>
            obtain ⟨k2, hk2, rfl, hB2, hbw2, hbs2⟩ := hrel
            have hln2 := HS.out.2.2.2.2.2.2.2.1
            have hcsl := HS.out.2.2.2.2.2.1
            by_cases hlt2 : k2 < M
            · have hkn : k2 < g.cs.length := by rw [hcsl]; exact hlt2
              obtain ⟨x, hx⟩ : ∃ x, g.cs[k2]? = some x := ⟨_, List.getElem?_eq_getElem hkn⟩
              have hxv := H.out.2.2.2.2.2.1 k2 x hx
              obtain ⟨i, rfl⟩ : ∃ i : Nat, x = i := ⟨x.toNat, by omega⟩
              obtain ⟨B, o, rfl, hBl, c1⟩ := (H.out.2.2.2.1.below (HGW.out.2 _ hbw2)).at_ (k := k2) hkn
              rw [hx, Option.getD_some] at c1
              have hi : i < 100 := by omega
              have hcol : (g.cs.take (k2 + 1)).flatMap colT = (g.cs.take k2).flatMap colT ++ (32 :: dec i) := by
                rw [List.take_add_one, hx]; simp [colT]
              have hl3 : (l1 ++ [32, 58] ++ (g.cs.take k2).flatMap colT).length ≤ 5000 := by
                have h2 := cols_len (g.cs.take k2)
                have h3 : (g.cs.take k2).length ≤ k2 := List.length_take_le _ _
                simp only [List.length_append, List.length_cons, List.length_nil]; omega
              have a1 : ∀ w, (Op.stringOp .add (⟨#[32]⟩ : ByteArray) (sb (dec i))).run Tryz.prog w = .ok (.string (sb (32 :: dec i))) w := sb_add [32] (dec i) (by simp) (by have := dec_le2 i; omega)
              have HS2 := Lib.hid (And.intro hB2 (And.intro hbw2 (And.intro hcol (And.intro hl3 hbs2))))
              clear hB2 hbw2 hcol hl3 hx hxv
              go_wp2_with (first
                | (go_at_call 51; refine (itoa_calls i hi _).mono ?_; rintro e w3 ⟨rfl, rfl⟩)
                | (go_at_call 50; refine (write_calls (l := l1 ++ [32, 58] ++ (g.cs.take k2).flatMap colT) (m := 32 :: dec i) HS2.out.1 (by have h1 := HS2.out.2.2.2.1; have h2 := dec_le2 i; simp only [List.length_cons]; omega) HS2.out.2.2.2.2).mono ?_; rintro e w6 ⟨rfl, hw6, hw7⟩; have HE2 := Lib.hid (And.intro hw6 hw7); clear hw6 hw7))
              refine ⟨⟨k2 + 1, by omega, by go_num, ?_, HS2.out.2.1.trans HE2.out.2, Nat.le_trans HS2.out.2.2.2.2 HE2.out.2.size⟩, by simp [intOf]; omega⟩
              rw [HS2.out.2.2.1, ← List.append_assoc]; exact HE2.out.1
            · have htk2 : g.cs.take k2 = g.cs := List.take_of_length_le (by rw [hcsl]; omega)
              have hTe2 := HS.out.2.2.2.2.1
              obtain ⟨l2, hl2⟩ : ∃ l2, l1 ++ [32, 58] ++ g.cs.flatMap colT = l2 := ⟨_, rfl⟩
              rw [htk2, hl2] at hB2
              rw [hl2] at hTe2
              have HS2 := Lib.hid (And.intro hB2 (And.intro hbw2 (And.intro hbs2 hTe2)))
              clear hB2 hbw2 hl2 hTe2
              go_wp2_with (go_at_call 54; refine (string_calls HS2.out.1 HS2.out.2.2.1).mono ?_; rintro e w8 ⟨rfl, hw8⟩; have hb8 := Lib.hid hw8; clear hw8)
              go_ret2
              rw [HS2.out.2.2.2]
              exact ⟨rfl, HGW.out.2 _ (HS2.out.2.1.trans hb8.out)⟩
        · have hmx0 : ¬ 0 < mx := fun h => hmp.1 h hall
          have hTe : T = l1 := by rw [hTl]; unfold colsT; rw [if_pos hall]; simp
          have HS := Lib.hid (And.intro hB (And.intro hbw (And.intro K53 (And.intro K52 (And.intro hTe (And.intro hML2 hbs))))))
          clear hB hbw K53 K52 hTe hTl hML2 hIn hln htk hl1 hnn hmp hmx hall hi3 hz3 hs3 hb3
          go_wp2_with (first
            | (go_at_call 53; refine HS.out.2.2.1.mono ?_; rintro e w5 ⟨v5, rfl, hv1, hv2⟩; have HE := Lib.hid (And.intro hv1 hv2); clear hv1 hv2)
            | (at_builtin; refine app1f rfl (.tmp 39) (.tmp 40) 23 3 rfl i3 (.int .i64 0) 8 Tryz.underlying23 I3.out.1 I3.out.2.1 I3.out.2.2.1 I3.out.2.2.2 rfl (by omega) wr.heap.size (.int .i64 0) v5 (ints g.cs) M rfl HE.out.1 rfl rfl (by rw [ints_len]; exact HS.out.2.2.2.2.2.1) (by omega) HE.out.2.size ?_; intro G cap w6 h2 h3 h4 h5 h6; have HF := Lib.hid (And.intro h2 h3); clear h2 h3 h4 h5 h6)
            | (go_at_call 52; refine (HS.out.2.2.2.1 _ _ _ HF.out.1).mono ?_; rintro e w7 ⟨rfl, rfl⟩; have hb7 := Lib.hid (HE.out.2.grown HF.out.2 HE.out.2.size (fun g hg => (HE.out.1.block_lt hg).2)))
            | (go_at_call 54; refine (string_calls (HS.out.1.below hb7.out) (Nat.le_trans HS.out.2.2.2.2.2.2 hb7.out.size)).mono ?_; rintro e w8 ⟨rfl, hw8⟩; have hb8 := Lib.hid hw8; clear hw8))
          go_ret2
          rw [HS.out.2.2.2.2.1]
          exact ⟨rfl, HGW.out.2 _ ((HS.out.2.1.trans (hb7.out.mono HS.out.2.2.2.2.2.2)).trans hb8.out)⟩
  · have hT : textR g = [] := by unfold textR; rw [if_neg h0]
    rw [hT]
    obtain ⟨n, hn⟩ : ∃ n, g.n = n := ⟨_, rfl⟩
    obtain ⟨L, hL⟩ : ∃ L, g.es.length = L := ⟨_, rfl⟩
    obtain ⟨M, hM⟩ : ∃ M, g.cs.length = M := ⟨_, rfl⟩
    obtain ⟨z, hz⟩ : ∃ z, chkGr g = z := ⟨_, rfl⟩
    rw [hn, hL, hM] at hck hb ⊢
    rw [hz] at hck h0 ⊢
    have hzn : (z != 0) = true := by simp [h0]
    have H := Lib.hid (And.intro hck hb)
    clear hck hb he hc hn hL hM hz
    go_enter Tryz.func12, Tryz.ntmps12
    go_wp2_with (go_at_call 27; refine H.out.1.mono ?_; rintro e w2 ⟨rfl, hw2⟩; have HA := Lib.hid hw2; clear hw2)
    go_ret2
    exact ⟨rfl, H.out.2.trans (HA.out.mono (by simp))⟩
end Go.Proofs.YtifkieopaoooeaaGreatDoor
