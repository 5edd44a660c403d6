/- Unpack. -/
import Derived.Test.YtjjjnpolhbbepaaDoorUnpackA
import Derived.Test.YtjjjnpolhbbepaaDoorSame
import Derived.Test.YtjjjnpolhbbepaaDoorPack
import Derived.Laws.BitsAllLaws
set_option linter.unusedSimpArgs false
set_option linter.unusedVariables false
namespace Go.Proofs.YtjjjnpolhbbepaaDoor
open Go.RowKit
open Plain
theorem i64_or8 (a b : Nat) (ha : a < 256) (hb : b < 256) : bits .or .i64 ((a : Int) * 256) (b : Int) = ((a * 256 + b : Nat) : Int) := by
  have hx : a * 256 ||| b = a * 256 + b := nat_join 8 _ _ (by omega) (by omega)
  have h1 : (BitVec.ofInt 64 ((a * 256 : Nat) : Int)).toNat = a * 256 := by rw [BitVec.ofInt_natCast, BitVec.toNat_ofNat]; exact Nat.mod_eq_of_lt (by omega)
  have h2 : (BitVec.ofInt 64 (b : Int)).toNat = b := by rw [BitVec.ofInt_natCast, BitVec.toNat_ofNat]; exact Nat.mod_eq_of_lt (by omega)
  have e : (a : Int) * 256 = ((a * 256 : Nat) : Int) := by omega
  rw [e]
  show IntKind.i64.wrap ((BitVec.ofInt 64 ((a * 256 : Nat) : Int) ||| BitVec.ofInt 64 (b : Int)).toNat : Int) = _
  rw [BitVec.toNat_or, h1, h2, hx]
  exact IntWalk.i64_in _ (by omega)
set_option maxRecDepth 10000 in
theorem slice_from (T : TypeId) (hT : Tryd.prog.underlying T = some (.slice 5)) (bb oo N c l : Nat) (h1 : l ≤ N) (h2 : l < c) (hN : N ≤ c) (x : Int) (hx : x = l) (W : World) :
    (Instr.slice T (.slice (some ⟨bb, oo, none⟩) N c) (some (.int .i64 x)) none none).run Tryd.prog W = .ok (.slice (some ⟨bb, oo + l, none⟩) (N - l) (c - l)) W := by
  subst hx
  obtain ⟨i5, hi5, hz5, hs5, hb5⟩ := info_parts Tryd.info5
  have hcc : ¬ c = l := by omega
  simp [Instr.slice, run_underlying hT, Instr.sliceBounds, run_sliceBound, sizeOf, typeInfo, hi5, hs5, h1, h2, hcc, add_zero_addr, show (0:Int) ≤ l by omega, show (l:Int) ≤ N by omega, show (N:Int) ≤ c by omega, hN]
theorem Byts.drop {w : World} {b o : Nat} {xs : List Nat} (h : Byts w (some ⟨b, o, none⟩) xs) (n : Nat) : Byts w (some ⟨b, o + n, none⟩) (xs.drop n) := by
  refine ⟨by have := h.1; rw [byts_len] at this ⊢; rw [List.length_drop]; omega, fun i u hu => ?_⟩
  unfold byts at hu
  rw [List.getElem?_map, List.getElem?_drop, ← List.getElem?_map] at hu
  obtain ⟨b', o', e, hb, hc⟩ := h.2 (n + i) u hu
  injection e with e
  injection e with e1 e2
  subst e1; subst e2
  exact ⟨_, _, rfl, hb, by rw [Nat.add_assoc]; exact hc⟩
set_option maxRecDepth 100000 in
set_option maxHeartbeats 8000000 in
theorem unpack_calls {w : World} {a : Option Addr} {c : Nat} {b : List Nat} (h : Byts w a b) (hlt : ∀ x ∈ b, x < 256) (hlen : b.length ≤ 500000) (hcap : b.length ≤ c) :
    Calls Tryd.prog 16 #[.slice a b.length c] w (UnpRes w (unpack b)) := by
  obtain ⟨n, hn⟩ : ∃ n, b.length = n := ⟨_, rfl⟩
  rw [hn] at hlen hcap ⊢
  by_cases h1 : n < 10
  · have hr : unpack b = ([], 18, n) := by unfold unpack; rw [hn, if_pos h1]
    have HR := Lib.hid hr
    clear h hlt hr hn
    go_enter Tryd.func16, Tryd.ntmps16
    go_wp2_with fail
    exact bodyPost_ret (v := .tuple #[.slice none 0 0, .agg #[.int .i64 18, .int .i64 (n : Int)]]) (by simp [results, Tryd.results16, go_sem]) rfl (UnpRes.bad HR.out ((Below.refl _ _).alloc (Nat.le_refl _) _))
  · obtain ⟨bb, oo, rfl, hbb, _⟩ := h.at_ (k := 0) (by omega)
    obtain ⟨m4, hm4⟩ : ∃ m4, nameOf ((b.drop 0).take 4) = m4 := ⟨_, rfl⟩
    have hk0 : Below w.heap.size w (w.alloc (.cells #[.int .i64 0, .int .i64 0] 35)) := (Below.refl _ _).alloc (Nat.le_refl _) _
    have hcv : (convert 23 9 (.slice (some ⟨bb, oo, none⟩) 4 c)).run Tryd.prog (w.alloc (.cells #[.int .i64 0, .int .i64 0] 35)) = .ok (.string m4) (w.alloc (.cells #[.int .i64 0, .int .i64 0] 35)) := by
      have := conv_str 23 Tryd.underlying23 (Row.below h hk0) 0 4 c (by omega)
      rw [hm4] at this
      simpa using this
    have hx : m4.toList = (b.take 4).map UInt8.ofNat := by
      rw [← hm4, ByteArray.toList_eq]; simp [nameOf]
    have hb4 : (b.take 4 = [67, 71, 76, 49]) ↔ m4.toList = [67, 71, 76, 49] := by
      rw [hx]
      constructor
      · intro e; rw [e]; rfl
      · intro e
        have h2 := congrArg (List.map UInt8.toNat) e
        rw [List.map_map] at h2
        have h3 : (b.take 4).map (UInt8.toNat ∘ UInt8.ofNat) = b.take 4 := by
          conv => rhs; rw [← List.map_id (b.take 4)]
          exact List.map_congr_left fun x hx => by simpa using hlt x (List.mem_of_mem_take hx)
        rw [h3] at h2
        exact h2
    have h10 : 10 ≤ n := by omega
    have hc10 : 10 ≤ c := by omega
    have H := Lib.hid (And.intro h (And.intro hlt hn))
    clear h hlt hx hm4 h1 hk0
    by_cases hmag : b.take 4 = [67, 71, 76, 49]
    · have hne : (m4.toList == [67, 71, 76, 49]) = true := by simpa using hb4.1 hmag
      have hte : (b.take (n - 4)).length = n - 4 := by rw [List.length_take, H.out.2.2]; omega
      have htlt : ∀ x ∈ b.take (n - 4), x < 256 := fun x hx => H.out.2.1 x (List.mem_of_mem_take hx)
      have htake : ∀ W : World, Byts W (some ⟨bb, oo, none⟩) b → Byts W (some ⟨bb, oo, none⟩) (b.take (n - 4)) := fun W hW =>
        ⟨by have := hW.1; rw [byts_len] at this ⊢; rw [List.length_take]; omega, fun i u hu => hW.2 i u (by
          unfold byts at hu ⊢
          rw [List.getElem?_map, List.getElem?_take] at hu
          split at hu
          · rw [List.getElem?_map]; exact hu
          · cases hu)⟩
      have hbS : Below w.heap.size w ((w.alloc (.cells #[.int .i64 0, .int .i64 0] 35)).alloc (.cells #[.slice none 0 0] 52)) := ((Below.refl _ _).alloc (Nat.le_refl _) _).alloc (by simp) _
      have s0 : ((w.alloc (.cells #[.int .i64 0, .int .i64 0] 35)).alloc (.cells #[.slice none 0 0] 52)).cell? ⟨w.heap.size + 1, 0, none⟩ = some (.slice none 0 0) := by simp
      have s1 : ((w.alloc (.cells #[.int .i64 0, .int .i64 0] 35)).alloc (.cells #[.slice none 0 0] 52)).frozen? ⟨w.heap.size + 1, 0, none⟩ = false := by simp
      have s2 : ((w.alloc (.cells #[.int .i64 0, .int .i64 0] 35)).alloc (.cells #[.slice none 0 0] 52)).cell? ⟨w.heap.size, 0, none⟩ = some (.int .i64 0) := by simp
      have s3 : ((w.alloc (.cells #[.int .i64 0, .int .i64 0] 35)).alloc (.cells #[.slice none 0 0] 52)).cell? ⟨w.heap.size, 1, none⟩ = some (.int .i64 0) := by simp
      have s4 : ∀ o, ((w.alloc (.cells #[.int .i64 0, .int .i64 0] 35)).alloc (.cells #[.slice none 0 0] 52)).frozen? ⟨w.heap.size, o, none⟩ = false := fun o => by simp
      have s5 : w.heap.size + 1 < ((w.alloc (.cells #[.int .i64 0, .int .i64 0] 35)).alloc (.cells #[.slice none 0 0] 52)).heap.size := by simp
      have HS0 := Lib.hid (And.intro hbS (And.intro s0 (And.intro s1 (And.intro s2 (And.intro s3 s4)))))
      have HM := Lib.hid (And.intro hmag (And.intro hte (And.intro htlt htake)))
      clear hbS s0 s1 s2 s3 s4 hmag hte htlt htake hb4
      go_enter Tryd.func16, Tryd.ntmps16
      go_wp2_with fail
      generalize (w.alloc (.cells #[.int .i64 0, .int .i64 0] 35)).alloc (.cells #[.slice none 0 0] 52) = wS at *
      obtain ⟨S, hS⟩ : ∃ S, sumB (b.take (n - 4)) = S := ⟨_, rfl⟩
      have hS2 : S < 4294967296 := by rw [← hS]; exact sumTo_lt (by omega) _
      have hsum := sum_calls (c := c) (HM.out.2.2.2 wS (Row.below H.out.1 HS0.out.1)) HM.out.2.2.1
      rw [HM.out.2.1, hS] at hsum
      refine hsum.mono ?_
      rintro e w' ⟨rfl, rfl⟩
      have HSum := Lib.hid hS
      clear hsum hS
      have hWr : Wr wS (w.heap.size + 1) (w.heap.size + 1) (.slice none 0 0) [] := ⟨HS0.out.2.1, HS0.out.2.2.1, Own.nil _ _ _, by simp [Value.ownBlock], Nat.le_refl _, s5⟩
      go_wp2_with (go_at_call 24; refine (big_calls (B := w.heap.size + 1) S 4 (.inl hWr) (by omega) hS2 (by omega) (by simp)).mono ?_; rintro e w5 ⟨rfl, hto⟩; have HTo := Lib.hid hto; clear hto)
      have hto := HTo.out
      obtain ⟨v, hW, hchg, hnew, _, _⟩ := hto
      rw [List.nil_append, bigL_four] at hW
      obtain ⟨g4, c4, rfl, hg4, hc4⟩ := hW.form (by simp [four])
      have q0 := hW.cell
      rw [show (four S).length = 4 from rfl] at q0 hc4
      have hb5 : Below w.heap.size w w5 := by
        have h1 := hchg.below (B := w.heap.size) (by have := HS0.out.1.size; omega) (fun b hb => by
          rcases hb with rfl | hb
          · omega
          · cases hb)
        exact ⟨h1.os.trans HS0.out.1.os, h1.tape.trans HS0.out.1.tape, h1.output.trans HS0.out.1.output, Nat.le_trans HS0.out.1.size h1.size, fun k hk => (h1.block k hk).trans (HS0.out.1.block k hk)⟩
      have hnC : ¬ Cs (w.heap.size + 1) (.slice none 0 0) w.heap.size := by
        intro hb
        rcases hb with hb | hb
        · omega
        · cases hb
      have r0 := hchg.cell HS0.out.2.2.2.1 hnC
      have r1 := hchg.cell HS0.out.2.2.2.2.1 hnC
      have hRlt : w.heap.size < w5.heap.size := by have := hW.lt; omega
      have rf : ∀ o, w5.frozen? ⟨w.heap.size, o, none⟩ = false := fun o => (hchg.frozen (p := ⟨w.heap.size, o, none⟩) (by show w.heap.size < wS.heap.size; omega) hnC).trans (HS0.out.2.2.2.2.2 o)
      have hB5 : Byts w5 (some ⟨bb, oo, none⟩) b := Row.below H.out.1 hb5
      have hfour : Byts w5 (some ⟨g4, 0, none⟩) (four S) := Row.of_own (n := (four S).length) (by have := hW.own; unfold Own at this; rw [byts_len] at this; exact this) (by simp [four]; unfold maxLen; omega)
      have hsl := fun W => slice_from 23 Tryd.underlying23 bb oo n c (n - 4) (by omega) (by omega) hcap ((n : Int) - 4) (by omega) W
      rw [show n - (n - 4) = 4 by omega] at hsl
      have hdl : (b.drop (n - 4)).length = 4 := by rw [List.length_drop, H.out.2.2]; omega
      have heq := fun k => equal_calls (some ⟨g4, 0, none⟩) (some ⟨bb, oo + (n - 4), none⟩) c4 (c - (n - 4)) (four S) (b.drop (n - 4)) (w5.drewN k) (Row.drewN hfour k) (Row.drewN (Byts.drop hB5 (n - 4)) k)
      rw [show (four S).length = 4 from rfl, hdl] at heq
      obtain ⟨sm, hsm⟩ : ∃ sm, decide (four S = b.drop (n - 4)) = sm := ⟨_, rfl⟩
      rw [hsm] at heq
      have HEQ := Lib.hid heq
      have H5 := Lib.hid (And.intro hB5 (And.intro hb5 (And.intro r0 (And.intro r1 (And.intro rf hsm)))))
      clear heq hfour hB5 hb5 hsm rf hchg hnew hW HTo hWr hdl
      cases sm with
      | false =>
        have r2 := H5.out.2.2.2.2.1 0
        have r3 := H5.out.2.2.2.2.1 1
        have hne : ¬ four S = b.drop (n - 4) := of_decide_eq_false H5.out.2.2.2.2.2
        have hr : unpack b = ([], 14, n - 4) := by unfold unpack; rw [H.out.2.2, if_neg (by omega), if_neg (by simpa using HM.out.1), HSum.out, if_pos hne]
        have HR := Lib.hid hr
        clear hr hne
        go_quiet ((go_at_call 35; exact Calls.quiet_of (HEQ.out _)))
        go_wp2_with fail
        obtain ⟨d0, d1, hg⟩ := res2 (w := w5.drewN nq) (R := w.heap.size) r0 r1 (.int .i64 14) (.int .i64 ((n : Int) - 4))
        have hbw := below_grown (w := w) (below_drewN H5.out.2.1 nq) hg (Nat.le_refl _)
        generalize ((w5.drewN nq).setCell ⟨w.heap.size, 0, none⟩ (.int .i64 14)).setCell ⟨w.heap.size, 1, none⟩ (.int .i64 ((n : Int) - 4)) = W at *
        rw [show (n : Int) - 4 = ((n - 4 : Nat) : Int) by omega] at d1
        exact bodyPost_ret (v := .tuple #[.slice none 0 0, .agg #[.int .i64 14, .int .i64 ((n - 4 : Nat) : Int)]]) (by simp [results, Tryd.results16, go_sem, d0, d1]) rfl (UnpRes.bad HR.out hbw)
      | true =>
        have r2 := H5.out.2.2.2.2.1 0
        have r3 := H5.out.2.2.2.2.1 1
        have heq4 : four S = b.drop (n - 4) := of_decide_eq_true H5.out.2.2.2.2.2
        obtain ⟨x4, hx4⟩ : ∃ x4, b[4]?.getD 0 = x4 := ⟨_, rfl⟩
        obtain ⟨x5, hx5⟩ : ∃ x5, b[5]?.getD 0 = x5 := ⟨_, rfl⟩
        have hx4l : x4 < 256 := by rw [← hx4, List.getElem?_eq_getElem (by rw [H.out.2.2]; omega)]; exact H.out.2.1 _ (List.getElem_mem _)
        have hx5l : x5 < 256 := by rw [← hx5, List.getElem?_eq_getElem (by rw [H.out.2.2]; omega)]; exact H.out.2.1 _ (List.getElem_mem _)
        obtain ⟨_, _, e4, _, k4⟩ := H5.out.1.at_ (k := 4) (by rw [H.out.2.2]; omega)
        obtain ⟨_, _, e5, _, k5⟩ := H5.out.1.at_ (k := 5) (by rw [H.out.2.2]; omega)
        injection e4 with e4; injection e4 with e41 e42; subst e41; subst e42
        injection e5 with e5; injection e5 with e51 e52; subst e51; subst e52
        rw [hx4] at k4
        rw [hx5] at k5
        have hr : unpack b = if 200 < x4 * 256 + x5 then ([], 4, 4) else entsA (b.take (n - 4)) 6 none [] (x4 * 256 + x5) := by unfold unpack; rw [H.out.2.2, if_neg (by omega), if_neg (by simpa using HM.out.1), HSum.out, if_neg (by simpa using heq4), hx4, hx5]
        have hor := i64_or8 x4 x5 hx4l hx5l
        have hsh : IntKind.i64.wrap ((x4 : Int) * 256) = (x4 : Int) * 256 := IntWalk.i64_in _ (by omega)
        obtain ⟨m, hm⟩ : ∃ m, x4 * 256 + x5 = m := ⟨_, rfl⟩
        rw [hm] at hor hr
        have HR := Lib.hid hr
        clear hr hm heq4 hx4 hx5
        go_quiet ((go_at_call 35; exact Calls.quiet_of (HEQ.out _)))
        obtain ⟨q1, rfl⟩ : ∃ q1, q1 = nq := ⟨_, rfl⟩
        go_wp2_with fail
        go_quiet (fail)
        obtain ⟨W, hW⟩ : ∃ W, W = (w5.drewN q1).drewN nq := ⟨_, rfl⟩
        rw [← hW]
        have hWb : Below w.heap.size w W := by rw [hW]; exact below_drewN (below_drewN H5.out.2.1 _) _
        have r0 : W.cell? ⟨w.heap.size, 0, none⟩ = some (.int .i64 0) := by rw [hW]; exact r0
        have r1 : W.cell? ⟨w.heap.size, 1, none⟩ = some (.int .i64 0) := by rw [hW]; exact r1
        have r2 : W.frozen? ⟨w.heap.size, 0, none⟩ = false := by rw [hW]; exact r2
        have r3 : W.frozen? ⟨w.heap.size, 1, none⟩ = false := by rw [hW]; exact r3
        have rf : ∀ o, W.frozen? ⟨w.heap.size, o, none⟩ = false := by rw [hW]; exact H5.out.2.2.2.2.1
        have hRlt : w.heap.size < W.heap.size := by rw [hW]; exact hRlt
        have hrow : Byts W (some ⟨bb, oo, none⟩) b := by rw [hW]; exact Row.drewN (Row.drewN H5.out.1 _) _
        have hr := HR.out
        clear hW q0 k4 k5 hsl HEQ H5 HR
        by_cases hm200 : 200 < m
        · rw [if_pos hm200] at hr
          have HR := Lib.hid (And.intro hr hWb)
          clear hr hWb hrow rf
          have hmi : (200 : Int) < m := by omega
          go_wp2_with fail
          obtain ⟨d0, d1, hg⟩ := res2 r0 r1 (.int .i64 4) (.int .i64 4)
          have hbw := below_grown HR.out.2 hg (Nat.le_refl _)
          generalize (W.setCell ⟨w.heap.size, 0, none⟩ (.int .i64 4)).setCell ⟨w.heap.size, 1, none⟩ (.int .i64 4) = W2 at *
          exact bodyPost_ret (v := .tuple #[.slice none 0 0, .agg #[.int .i64 4, .int .i64 4]]) (by simp [results, Tryd.results16, go_sem, d0, d1]) rfl (UnpRes.bad (a := 4) HR.out.1 hbw)
        · rw [if_neg hm200] at hr
          have hL := LoopSt.new (w := w) (a := some ⟨bb, oo, none⟩) (c := c) (m := m) (r := unpack b) HM.out.2.1 (HM.out.2.2.2 W hrow) (fun b o e => by injection e with e; have := congrArg Addr.block e; simp only at this; omega) HM.out.2.2.1 (by rw [HM.out.2.1]; omega) (by rw [HM.out.2.1]; omega) hWb r0 r1 rf hRlt hr
          have HL := Lib.hid hL
          clear hL hr hWb hrow rf r0 r1 r2 r3
          have hmi : (m : Int) ≤ 200 := by omega
          go_upto_region 14 with (fail)
          go_cut [8] (fun t8 wB => t8 = .pointer (some ⟨W.heap.size, 0, none⟩) ∧ wB = W.alloc (.cells #[.slice (some ⟨bb, oo, none⟩) (n - 4) c, .int .i64 6, .int .i64 0] 69))
          case first =>
            go_wp2
            go_meet
            exact ⟨rfl, rfl⟩
          case rest =>
            obtain ⟨rfl, rfl⟩ := hcut
            refine (by assumption : ∀ (a : Act) (w' : World), Code.wp Tryd.prog codeU15 (bodyPost Tryd.prog Tryd.f16 (UnpRes w (unpack b))) a w' → _) _ _ ?_
            exact unp_rest HL.out hbb HM.out.2.1 (by omega) (by omega) (by omega) (by omega) (by omega) _ _ _ _ _ _ _ _ _ _ _ _ _ _ _ _ _ _ _ _ _ _ _ _ _ _ _ _ _ _ _ _ _ _ _ _ _ _ _ _ _ _ _ _ _ _ _ _ _ _ _ _ _ _ _ _ _ _ _ _ _ _ _ _ _ _ _ _ _ _ _ _ _ _ _ _ _ _ _ _ _ _ _ _ _ _ _ _ _ _ _ _ _ _ _ _ _ _
    · have hr : unpack b = ([], 3, 0) := by unfold unpack; rw [H.out.2.2, if_neg (by omega), if_pos hmag]
      have hne : (m4.toList == [67, 71, 76, 49]) = false := by
        have : ¬ m4.toList = [67, 71, 76, 49] := fun e => hmag (hb4.2 e)
        simpa using this
      have HR := Lib.hid hr
      clear hr hmag hb4
      go_enter Tryd.func16, Tryd.ntmps16
      go_wp2_with fail
      exact bodyPost_ret (v := .tuple #[.slice none 0 0, .agg #[.int .i64 3, .int .i64 0]]) (by simp [results, Tryd.results16, go_sem]) rfl (UnpRes.bad (a := 0) HR.out ((Below.refl _ _).alloc (Nat.le_refl _) _))
end Go.Proofs.YtjjjnpolhbbepaaDoor
