/- Parse, the reference's. -/
import Derived.Test.YtifkieopaoooeaaGreatDoorEdgeR
import Derived.Deep.DeepCutAuto
set_option linter.unusedSimpArgs false
set_option linter.unusedVariables false
namespace Go.Proofs.YtifkieopaoooeaaGreatDoor
open Go.RowKit Plain PlainG
theorem ParseRes.bad {w w' : World} {P : Except Flt Gr} {f : Flt} (h : P = .error f) (hb : Below w.heap.size w w') : ParseRes w P (.returned (.tuple #[zeroGr, .agg #[.int .i64 f.1, .int .i64 (f.2 : Int)]])) w' := by
  subst h; exact ⟨rfl, hb⟩
set_option maxRecDepth 100000 in
set_option maxHeartbeats 8000000 in
theorem gparseR_calls (b : ByteArray) (w : World) (hbig : b.size ≤ 1000000) :
    Calls Tryz.prog 15 #[.string b] w fun e w' => ParseRes w (parse (bytesOf b)) e w' := by
  have hbl := bytesOf_len b
  obtain ⟨P, hP⟩ : ∃ P, parse (bytesOf b) = P := ⟨_, rfl⟩
  rw [hP]
  by_cases hlong : 20000 < b.size
  · have hE : P = .error (4, 20000) := by rw [← hP]; unfold parse; rw [hbl, if_pos hlong]
    have hl2 : (20000 : Int) < (b.size : Int) := by omega
    have H := Lib.hid (And.intro hE hE)
    clear hE hP hbl hlong
    go_enter Tryz.func15, Tryz.ntmps15
    go_wp2
    have h9 := H.out.1
    subst h9
    exact bodyPost_ret (v := .tuple #[zeroGr, .agg #[.int .i64 4, .int .i64 20000]]) (by simp [results, Tryz.results15, go_sem, zeroGr]) rfl ⟨rfl, ((Below.refl _ _).alloc (Nat.le_refl _) _).alloc (by simp) _⟩
  have hnb : ¬ 20000 < (bytesOf b).length := by rw [hbl]; exact hlong
  have hpn := parse_num hnb
  rw [hP] at hpn
  have hl2 : ¬ (20000 : Int) < (b.size : Int) := by omega
  obtain ⟨t1, t2, t3, t4, t5⟩ := w3of_facts w b (by omega)
  obtain ⟨S, hS⟩ : ∃ S, b.size = S := ⟨_, rfl⟩
  have hlS : ¬ 20000 < S := by omega
  have hbS : S ≤ 1000000 := by omega
  have hb5 : b.size ≤ 50000 := by omega
  have K62 := numberR_S (w := w3of w b) (p := w.heap.size + 1 + 1) (b := b) (s := .ok 0) ⟨Nat.zero_le _, t2⟩ hb5 24
  cases hn : num (bytesOf b) 0 24 with
  | error f =>
    rw [hn] at hpn
    simp only at hpn
    have hf1 := num_code hn
    have hst : nxt (.ok 0) (numS (bytesOf b) 24) = .error f := by rw [nxt_ok]; unfold numS; rw [hn]
    rw [hst] at K62
    have H := Lib.hid (And.intro K62 (And.intro hpn (And.intro hS (And.intro t1 (And.intro t3 (And.intro t4 (And.intro t5 hb5)))))))
    clear K62 hpn hn hst hnb hlong hP hbl hbig hS t1 t2 t3 t4 t5 hb5
    go_enter Tryz.func15, Tryz.ntmps15
    obtain ⟨f1, f2⟩ := f
    simp only at hf1
    have hfe : (f1 == 0) = false := by simp [hf1]
    have hfn : (f1 != 0) = true := by simp [hf1]
    go_wp2_with (go_at_call 62; refine H.out.1.mono ?_; rintro e w2 ⟨v, rfl, _, hr, hk⟩; obtain ⟨_, a, ha, hR⟩ := hr; have c2 := hR.c2; have c3 := hR.c3; have lt := hR.lt; have ne := Nat.ne_of_lt hR.lt; have HA := Lib.hid (And.intro hR (And.intro hk ha)); clear hR hk ha)
    obtain ⟨R, hRe⟩ : ∃ R, w.heap.size = R := ⟨_, rfl⟩
    rw [hRe] at HA H c2 c3 lt ne ⊢
    obtain ⟨wq, hwq⟩ : ∃ wq, wq = w2.alloc (.cells #[.int .i64 (v : Int), .slice none 0 0, .slice none 0 0] 25) := ⟨_, rfl⟩
    have hRq : Rg wq (R + 1 + 1) b a (f1, f2) := by rw [hwq]; exact HA.out.1.grown (grown_alloc _ _ none) (by simp)
    have hBq : Below R w wq := by
      rw [hwq]
      have h1 := H.out.2.2.2.1
      have h2 := HA.out.2.1.size
      exact (H.out.2.2.2.2.1.grown HA.out.2.1 (by omega) (by intro g e; cases e; omega)).alloc (by omega) _
    have hz1 : wq.heap[R]? = some zres := by
      have h1 := H.out.2.2.2.1
      have h2 := HA.out.2.1.size
      rw [hwq, Below.heap_alloc _ _ _ (by omega), HA.out.2.1.block _ (by omega) (by intro e; cases e)]
      exact H.out.2.2.2.2.2.1
    have hz2 : wq.heap[R + 1]? = some zflt := by
      have h1 := H.out.2.2.2.1
      have h2 := HA.out.2.1.size
      rw [hwq, Below.heap_alloc _ _ _ (by omega), HA.out.2.1.block _ (by omega) (by intro e; cases e)]
      exact H.out.2.2.2.2.2.2.1
    have HQ := Lib.hid (And.intro hRq (And.intro hBq (And.intro hz1 (And.intro hz2 HA.out.2.2))))
    rw [← hwq]
    have hRe' := hRe
    clear c2 c3 lt ne hwq hRq hBq hz1 hz2 HA hRe
    go_loopw [6] (fun _ wr => ∃ n, wr = wq.drewN n) (fun _ _ => 0)
    case atStart => exact ⟨0, rfl⟩
    case round =>
      obtain ⟨n, hw⟩ := hrel
      replace hw := hw.symm
      subst hw
      have K63 := moreR_S (w := wq.drewN n) (p := R + 1 + 1) (b := b) (s := .error (f1, f2)) ⟨hf1, a, HQ.out.2.2.2.2, HQ.out.1.drewN n⟩ H.out.2.2.2.2.2.2.2
      rw [show goesOn b (.error (f1, f2)) = false from rfl] at K63
      have c2 := HQ.out.1.c2
      have c3 := HQ.out.1.c3
      obtain ⟨x0, x1, x2, x3⟩ := zres_cells HQ.out.2.2.1
      obtain ⟨y0, y1, y2⟩ := zflt_cells HQ.out.2.2.2.1
      have x30 := x3 0
      have x31 := x3 1
      have x32 := x3 2
      have y20 := y2 0
      have y21 := y2 1
      clear x3 y2
      go_wp2_with (go_at_call 63; refine K63.mono ?_; rintro e w4 ⟨rfl, n2, rfl⟩)
      go_region
      go_wp2
      obtain ⟨W, hW, z0, z1, z2, z3, z4, hbW, _⟩ := parse_out (w := wq.drewN (n + n2 + 1)) (.int .i64 0) (.slice none 0 0) (.slice none 0 0) (.int .i64 f1) (.int .i64 (f2 : Int)) HQ.out.2.2.1 HQ.out.2.2.2.1
      rw [← hW]
      exact bodyPost_ret (v := .tuple #[zeroGr, .agg #[.int .i64 f1, .int .i64 (f2 : Int)]]) (by simp [results, Tryz.results15, go_sem, z0, z1, z2, z3, z4, zeroGr]) rfl (ParseRes.bad (f := (f1, f2)) H.out.2.1 (by rw [hRe']; exact (below_drewN HQ.out.2.1 _).trans hbW))
  | ok x =>
    obtain ⟨N, a⟩ := x
    rw [hn] at hpn
    obtain ⟨n1, n2, n3, n4⟩ := num_inv hn (by omega)
    rw [hbl] at n2
    simp only at hpn
    have hP0 : P = preP N [] (restP (bytesOf b) N S a none) := by
      rw [hpn, hbl, hS]
      simp only [preP]
      cases restP (bytesOf b) N S a none <;> simp
    have hst : nxt (.ok 0) (numS (bytesOf b) 24) = .ok a := by rw [nxt_ok]; unfold numS; rw [hn]
    rw [hst] at K62
    have hvN : ∀ v, IsNum (bytesOf b) 24 (.ok 0) v → v = N := fun v h => h 0 _ rfl hn
    have hN24 : N ≤ 24 := by omega
    obtain ⟨i0, hi, hz0, hz1, hz2⟩ := info_parts Tryz.info69
    have I := Lib.hid (And.intro hi (And.intro hz0 (And.intro hz1 hz2)))
    clear hi hz0 hz1 hz2
    obtain ⟨i3, hi3, hz3, hs3, hb3⟩ := info_parts Tryz.info3
    have I3 := Lib.hid (And.intro hi3 (And.intro hz3 (And.intro hs3 hb3)))
    have H := Lib.hid (And.intro K62 (And.intro hP0 (And.intro hS (And.intro t1 (And.intro t3 (And.intro t4 (And.intro t5 (And.intro hb5 (And.intro hvN n2)))))))))
    clear K62 hpn hn hst hnb hlong hP hbl hbig hS t1 t2 t3 t4 t5 hb5 hvN hi3 hz3 hs3 hb3 hP0 n1 n2 n3 n4
    go_enter Tryz.func15, Tryz.ntmps15
    go_wp2_with (first
      | (go_at_call 62; refine H.out.1.mono ?_; rintro e w2 ⟨v, rfl, hv, hr, hk⟩; have hvv := H.out.2.2.2.2.2.2.2.2.1 v hv; subst hvv; have c2 : w2.cell? ⟨w.heap.size + 1 + 1, 2, none⟩ = some (.int .i64 0) := hr.2.c2; have lt := hr.2.lt; have ne := Nat.ne_of_lt hr.2.lt; have HA := Lib.hid (And.intro hr.2 hk); clear hr hk hv)
      | (at_make; refine mk1 rfl _ _ 23 3 rfl i3 (.int .i64 0) 8 Tryz.underlying23 I3.out.1 I3.out.2.1 I3.out.2.2.1 I3.out.2.2.2 rfl (by omega) 0 v rfl rfl (by omega) (Nat.zero_le _) ?_; intro w4 hd hg hz1; have HB := Lib.hid (And.intro hd (And.intro hg hz1)); have g2 := (hg.block w2.heap.size (by simp) (by simp)).trans (heap_new _ _); have g3 : w4.frozen? ⟨w2.heap.size, 2, none⟩ = false := by { simp [World.frozen?, g2] }; have g4 : w4.cell? ⟨w2.heap.size, 2, none⟩ = some (.slice none 0 0) := by { simp [World.cell?, g2] }; clear hd hg hz1 g2))
    obtain ⟨R, hRe⟩ : ∃ R, w.heap.size = R := ⟨_, rfl⟩
    have hRe' := hRe
    rw [hRe] at HA H c2 lt ne ⊢
    obtain ⟨q, hq⟩ : ∃ q, w2.heap.size = q := ⟨_, rfl⟩
    have hsz : (w2.alloc (.cells #[.int .i64 (v : Int), .slice none 0 0, .slice none 0 0] 25)).heap.size = q + 1 := by rw [← hq]; simp
    rw [hsz] at HB
    rw [hq] at lt ne g3 g4
    have hB2 : Below R w w2 := H.out.2.2.2.2.1.grown HA.out.2 (by have := H.out.2.2.2.1; omega) (by intro g e; cases e; omega)
    obtain ⟨W0, hW0⟩ : ∃ W0, W0 = w4.setCell ⟨q, 2, none⟩ (.slice (some ⟨q + 1, 0, none⟩) v v) := ⟨_, rfl⟩
    obtain ⟨s1, s2, s3, s4, s5, s6⟩ := parseR_start (w := w) HA.out.1 hB2 hq (by omega) HB.out.1 HB.out.2.1 (by rw [HB.out.2.2]) hW0
    have hz1 : W0.heap[R]? = some zres := by
      rw [s6 _ (by omega), HA.out.2.block _ (by have := H.out.2.2.2.1; omega) (by intro e; cases e)]
      exact H.out.2.2.2.2.2.1
    have hz2 : W0.heap[R + 1]? = some zflt := by
      rw [s6 _ (by omega), HA.out.2.block _ (by have := H.out.2.2.2.1; omega) (by intro e; cases e)]
      exact H.out.2.2.2.2.2.2.1
    rw [hq, ← hW0]
    have hE0 : ES W0 W0 (R + 1 + 1) q v (q + 1) b [] (.slice none 0 0) (.ok a) := ⟨⟨H.out.2.2.2.2.2.2.2.2.2, s1⟩, s2, OwnE.nil _ _ _, s3, Kept.refl _ _, by omega, by omega, by omega, by omega, by omega, by omega⟩
    have hQ0 : Qs b v P (.ok a) [] := ⟨Nat.zero_le _, S, by have := H.out.2.2.1; omega, H.out.2.1⟩
    have far : ∀ wr, Kept W0 wr [R + 1 + 1, q, q + 1] → wr.heap[R]? = some zres ∧ wr.heap[R + 1]? = some zflt ∧ Below R w wr := fun wr k =>
      ⟨(k.block R (by omega) (by simp; omega)).trans hz1, (k.block (R + 1) (by omega) (by simp; omega)).trans hz2, s4.trans (k.below (by omega) (by simp; omega))⟩
    have HF := Lib.hid (And.intro hE0 (And.intro hQ0 (And.intro far (And.intro hRe' (And.intro H.out.2.2.2.2.2.2.2.1 (And.intro H.out.2.2.1 s5))))))
    clear hE0 hQ0 far s1 s2 s3 s4 s5 s6 hz1 hz2 hW0 hB2 hsz HA HB H c2 g3 g4 hRe hRe' hq
    obtain ⟨p, hp⟩ : ∃ p, R + 1 + 1 = p := ⟨_, rfl⟩
    have Hp := Lib.hid hp
    rw [hp] at HF lt ne ⊢
    clear hp
    go_loopw [6] (fun _ wr => ∃ es u s, ES W0 wr p q v (q + 1) b es u s ∧ Qs b v P s es) (fun _ wr => meas wr p)
    case atStart => exact ⟨[], _, _, HF.out.1, HF.out.2.1⟩
    case round =>
      obtain ⟨es, u, s, hs, hQ⟩ := hrel
      have hK := HF.out.2.2.1 _ hs.kept
      obtain ⟨x0, x1, x2, x3⟩ := zres_cells hK.1
      obtain ⟨y0, y1, y2⟩ := zflt_cells hK.2.1
      have x30 := x3 0
      have x31 := x3 1
      have x32 := x3 2
      have y20 := y2 0
      have y21 := y2 1
      have hR1 : R ≠ p := by have := Hp.out; omega
      have hR2 : R + 1 ≠ p := by have := Hp.out; omega
      have hR3 : R ≠ q := by have := Hp.out; omega
      have hR4 : R + 1 ≠ q := by have := Hp.out; omega
      have K63 := moreR_S hs.rg HF.out.2.2.2.2.1
      cases s with
      | error f =>
        obtain ⟨hf1, a1, ha1, hRg⟩ := hs.rg
        obtain ⟨f1, f2⟩ := f
        simp only at hf1
        have hfe : (f1 == 0) = false := by simp [hf1]
        have hfn : (f1 != 0) = true := by simp [hf1]
        have c2 : wr.cell? ⟨p, 2, none⟩ = some (.int .i64 f1) := hRg.c2
        have c3 : wr.cell? ⟨p, 3, none⟩ = some (.int .i64 (f2 : Int)) := hRg.c3
        rw [show goesOn b (.error (f1, f2)) = false from rfl] at K63
        have HX := Lib.hid (And.intro hQ.2 hK)
        clear hQ hK hs hRg ha1 x3 y2 hf1
        go_wp2_with (go_at_call 63; refine K63.mono ?_; rintro e w5 ⟨rfl, n2, rfl⟩)
        go_region
        go_wp2
        obtain ⟨W, hW, z0, z1, z2, z3, z4, hbW, _⟩ := parse_out (w := wr.drewN (n2 + 1)) (.int .i64 0) (.slice none 0 0) (.slice none 0 0) (.int .i64 f1) (.int .i64 (f2 : Int)) HX.out.2.1 HX.out.2.2.1
        rw [← hW]
        exact bodyPost_ret (v := .tuple #[zeroGr, .agg #[.int .i64 f1, .int .i64 (f2 : Int)]]) (by simp [results, Tryz.results15, go_sem, z0, z1, z2, z3, z4, zeroGr]) rfl (ParseRes.bad (f := (f1, f2)) HX.out.1 (by rw [HF.out.2.2.2.1]; exact (below_drewN HX.out.2.2.2 _).trans hbW))
      | ok a1 =>
        have hRg := hs.rg.at_ok
        have c2 : wr.cell? ⟨p, 2, none⟩ = some (.int .i64 0) := hRg.2.c2
        by_cases hlt : a1 < b.size
        · rw [show goesOn b (.ok a1) = true by unfold goesOn; simpa using hlt] at K63
          -- BODY
          have hK64 := fun n => signR_S (hs.drewN n).rg HF.out.2.2.2.2.1 32
          obtain ⟨hQ1, fu, hfu, hPf⟩ := hQ
          have HX := Lib.hid (And.intro hs (And.intro hK (And.intro hQ1 (And.intro hfu (And.intro hPf hlt)))))
          obtain ⟨s2, h1⟩ : ∃ s2, sgn (bytesOf b) a1 32 = s2 := ⟨_, rfl⟩
          have K64 : ∀ n, Calls Tryz.prog 64 #[.pointer (some ⟨p, 0, none⟩), .int .u8 ((32 : Nat) : Int)] (wr.drewN n) fun r w' => r = .returned (.tuple #[]) ∧ RgN (wr.drewN n) w' p b s2 := fun n => by
            have := hK64 n
            rw [nxt_ok, h1] at this
            exact this
          have H1 := Lib.hid h1
          clear hK hs hQ1 hfu hPf hK64 h1 hRg x3 y2 c2 x0 x1 x2 y0 y1 x30 x31 x32 y20 y21 hlt
          go_upto_region 9 with (first
            | (go_at_call 63; refine K63.mono ?_; rintro e w5 ⟨rfl, n2, rfl⟩)
            | (go_at_call 64; refine (K64 n2).mono ?_; rintro e w6 ⟨rfl, hr6⟩; have HA := Lib.hid ((HX.out.1.drewN n2).rd hr6); clear hr6))
          go_cut [63] (fun u63 wx => u63 = .bool (isColon b v s2) ∧ w6 = wx)
          case first =>
            have n0 := HA.out.gb.c0
            have hrg := HA.out.rg
            cases s2 with
            | error f =>
              obtain ⟨hf1, a9, _, hR9⟩ := hrg
              have c2 := hR9.c2
              have hfe : (f.1 == 0) = false := by simp [hf1]
              clear hf1 hR9 K63 K64
              go_wp2
              go_meet
              exact ⟨rfl, rfl⟩
            | ok a2 =>
              have c2 : w6.cell? ⟨p, 2, none⟩ = some (.int .i64 0) := hrg.2.c2
              have c1 := hrg.2.c1
              clear hrg K63 K64
              by_cases hv0 : 0 < v
              · have hN0 : decide ((0 : Int) < (v : Int)) = true := by simp; omega
                have hN0' : (0 : Int) < (v : Int) := by omega
                by_cases ha2 : a2 < b.size
                · have hix := fun W => str_byte ha2 W
                  obtain ⟨ch, hch⟩ : ∃ ch, (bytesOf b)[a2]?.getD 0 = ch := ⟨_, rfl⟩
                  rw [hch] at hix
                  have haI : (a2 : Int) < (b.size : Int) := by omega
                  by_cases h58 : ch = 58
                  · have hnb : ((ch : Int) == 58) = true := by simp; omega
                    have HZ := Lib.hid (And.intro hch (And.intro ha2 (And.intro hv0 h58)))
                    clear hch ha2 hv0 h58
                    go_wp2
                    go_meet
                    exact ⟨by unfold isColon; simp [HZ.out.1, HZ.out.2.1, HZ.out.2.2.1, HZ.out.2.2.2], rfl⟩
                  · have hnb : ((ch : Int) == 58) = false := by simp; omega
                    have HZ := Lib.hid (And.intro hch (And.intro ha2 (And.intro hv0 h58)))
                    clear hch ha2 hv0 h58
                    go_wp2
                    go_meet
                    exact ⟨by unfold isColon; simp [HZ.out.1, HZ.out.2.2.2], rfl⟩
                · have hnb : decide ((a2 : Int) < (b.size : Int)) = false := by simp; omega
                  have hnb2 : ¬ (a2 : Int) < (b.size : Int) := by omega
                  have HZ := Lib.hid ha2
                  clear hv0
                  go_wp2
                  go_meet
                  exact ⟨by unfold isColon; simp [HZ.out], rfl⟩
              · have hN0 : decide ((0 : Int) < (v : Int)) = false := by simp; omega
                have hN0' : ¬ (0 : Int) < (v : Int) := by omega
                have HZ := Lib.hid hv0
                clear hv0
                go_wp2
                go_meet
                exact ⟨by unfold isColon; simp [HZ.out], rfl⟩
          case rest =>
            obtain ⟨rfl, hw6⟩ := hcut
            subst hw6
            clear K64 K63
            cases hC : isColon b v s2
            · have HCl := Lib.hid hC
              clear hC
              obtain ⟨A, hA0, c1, hA3⟩ := HA.out.rg.posE HF.out.2.2.2.2.1
              have HA3 := Lib.hid hA3
              clear hA3
              have n0 := HA.out.gb.c0
              go_wp2_with (go_at_call 62; refine (numberR_S HA.out.rg HF.out.2.2.2.2.1 _).mono ?_; rintro e w7 ⟨v1, rfl, hv1, hr7⟩; have HB := Lib.hid (And.intro ((HA.out.rd hr7).box (v1 : Int) 0) hv1); clear hr7 hv1)
              obtain ⟨X, hX⟩ : ∃ X, w7.heap.size = X := ⟨_, rfl⟩
              obtain ⟨wx, hwx⟩ : ∃ wx, wx = w7.alloc (.cells #[.int .i64 (v1 : Int), .int .i64 0] 69) := ⟨_, rfl⟩
              rw [← hwx, hX] at HB
              rw [← hwx, hX]
              clear hwx hX n0 c1
              go_wp2_with (go_at_call 64; refine (signR_S HB.out.1.e.rg HF.out.2.2.2.2.1 45).mono ?_; rintro e w8 ⟨rfl, hr8⟩; have HC := Lib.hid (HB.out.1.rd hr8); have n0 := HC.out.e.gb.c0; clear hr8)
              go_upto_if 126 with (go_at_call 62; refine (numberR_S HC.out.e.rg HF.out.2.2.2.2.1 _).mono ?_; rintro e w9 ⟨v2, rfl, hv2, hr9⟩; have HD := Lib.hid (And.intro (HC.out.rd hr9) hv2); have k0 := HD.out.1.c0; have k1 := HD.out.1.c1; have kf := HD.out.1.fr 1; clear hr9 hv2)
              have HE := Lib.hid (HD.out.1.set1 (v2 : Int))
              obtain ⟨w10, hw10⟩ : ∃ w10, w10 = w9.setCell ⟨X, 1, none⟩ (.int .i64 (v2 : Int)) := ⟨_, rfl⟩
              rw [← hw10] at HE ⊢
              clear hw10 k0 k1 kf n0
              go_cut [126] (fun _ wx => EX W0 wx p q v (q + 1) b es u (failS (decide (v2 ≤ v1)) (3, A) (nxt (nxt (nxt s2 (numS (bytesOf b) ((v : Int) - 1))) (fun a => sgn (bytesOf b) a 45)) (numS (bytesOf b) ((v : Int) - 1)))) X (v1 : Int) (v2 : Int))
              case first =>
                by_cases hc : v2 ≤ v1
                · go_wp2_with (go_at_call 65; refine (failR_S HE.out.e.rg HF.out.2.2.2.2.1 3 A (by decide)).mono ?_; rintro e w11 ⟨rfl, hr11⟩; have HG := Lib.hid (HE.out.rd hr11); clear hr11)
                  go_meet
                  have hh := HG.out
                  have he : failS (decide (v2 ≤ v1)) (3, A) (nxt (nxt (nxt s2 (numS (bytesOf b) ((v : Int) - 1))) (fun a => sgn (bytesOf b) a 45)) (numS (bytesOf b) ((v : Int) - 1))) = nxt (nxt (nxt (nxt s2 (numS (bytesOf b) ((v : Int) - 1))) (fun a => sgn (bytesOf b) a 45)) (numS (bytesOf b) ((v : Int) - 1))) (fun _ => .error (3, A)) := by unfold failS; simp [hc]
                  rw [he]; exact hh
                · go_wp2
                  go_meet
                  have hh := HE.out
                  have he : failS (decide (v2 ≤ v1)) (3, A) (nxt (nxt (nxt s2 (numS (bytesOf b) ((v : Int) - 1))) (fun a => sgn (bytesOf b) a 45)) (numS (bytesOf b) ((v : Int) - 1))) = (nxt (nxt (nxt s2 (numS (bytesOf b) ((v : Int) - 1))) (fun a => sgn (bytesOf b) a 45)) (numS (bytesOf b) ((v : Int) - 1))) := by unfold failS; simp [hc]
                  rw [he]; exact hh
              case rest =>
                obtain ⟨s5, hs5⟩ : ∃ s5, failS (decide (v2 ≤ v1)) (3, A) (nxt (nxt (nxt s2 (numS (bytesOf b) ((v : Int) - 1))) (fun a => sgn (bytesOf b) a 45)) (numS (bytesOf b) ((v : Int) - 1))) = s5 := ⟨_, rfl⟩
                rw [hs5] at hcut
                have HS5 := Lib.hid hs5
                have HG := Lib.hid hcut
                clear hcut hs5
                go_upto_region 27 with (fail)
                have hel : es.length ≤ 20000 := by have h1 := HX.out.2.2.1; have h3 := HX.out.1.rg.at_ok.1; have h2 := HF.out.2.2.2.2.2.1; omega
                obtain ⟨av, cv, hv⟩ := HG.out.e.es'.any_form
                obtain ⟨L, hL⟩ : ∃ L, es.length = L := ⟨_, rfl⟩
                rw [hL] at hv
                subst hv
                have HL := Lib.hid (And.intro hL hel)
                clear hL hel
                obtain ⟨c9, hc9⟩ : ∃ c9, (es.getLast?.any fun l => !bef l ((v1 : Int), (v2 : Int))) = c9 := ⟨_, rfl⟩
                have HC9 := Lib.hid hc9
                clear hc9
                go_cut [146] (fun u146 wx => u146 = .bool c9 ∧ EX W0 wx p q v (q + 1) b es (.slice av L cv) s5 X (v1 : Int) (v2 : Int))
                case first =>
                  have m1 := HG.out.e.gb.c1
                  have m0 := HG.out.c0
                  have m2 := HG.out.c1
                  have mf := HG.out.e.gb.fr 1
                  rcases Nat.eq_zero_or_pos L with hz | hz
                  · have hes : es = [] := List.eq_nil_of_length_eq_zero (by have := HL.out.1; omega)
                    subst hz
                    have HZ := Lib.hid hes
                    clear hes
                    go_quiet (fail)
                    go_wp2
                    go_meet
                    exact ⟨by rw [← HC9.out, HZ.out]; rfl, HG.out.drewN _⟩
                  · obtain ⟨j, hj⟩ : ∃ j, L = j + 1 := ⟨L - 1, by omega⟩
                    subst hj
                    obtain ⟨y, hy⟩ : ∃ y, es[j]? = some y := ⟨_, List.getElem?_eq_getElem (by have := HL.out.1; omega)⟩
                    obtain ⟨g, hg, _, _, q1, q2⟩ := HG.out.e.es'.at_cells hy
                    subst hg
                    obtain ⟨y1, y2⟩ := y
                    simp only at q1 q2
                    have hlast : es.getLast? = some (y1, y2) := by rw [List.getLast?_eq_getElem?, HL.out.1]; exact hy
                    have hjl : (j : Int) < (j : Int) + 1 := by omega
                    have hj0 : (0 : Int) ≤ j := by omega
                    have hel := HL.out.2
                    have hjE := HL.out.1
                    have hjs : IntKind.i64.wrap (j : Int) = (j : Int) := IntWalk.i64_in _ (by omega)
                    have hd : decide ((0 : Int) < (j : Int) + 1) = true := decide_eq_true (by omega)
                    have hcall := fun w => before_calls (y1, y2) ((v1 : Int), (v2 : Int)) w
                    simp only at hcall
                    obtain ⟨T, hbf⟩ : ∃ T, bef (y1, y2) ((v1 : Int), (v2 : Int)) = T := ⟨_, rfl⟩
                    rw [hbf] at hcall
                    have HK := Lib.hid hcall
                    have HZ := Lib.hid (And.intro hlast hbf)
                    clear hcall hbf hlast hz hy hel hjE
                    go_region_held3 (fun W => W.cell? ⟨q, 1, none⟩ = some (.slice (some ⟨g, 0, none⟩) (j + 1) cv) ∧ W.cell? ⟨g, j * 2, none⟩ = some (.int .i64 y1) ∧ W.cell? ⟨g, j * 2 + 1, none⟩ = some (.int .i64 y2) ∧ W.cell? ⟨X, 0, none⟩ = some (.int .i64 (v1 : Int)) ∧ W.cell? ⟨X, 1, none⟩ = some (.int .i64 (v2 : Int)) ∧ EX W0 W p q v (q + 1) b es (.slice (some ⟨g, 0, none⟩) (j + 1) cv) s5 X (v1 : Int) (v2 : Int))
                      (first
                        | assumption
                        | (refine ⟨?_, ?_, ?_, ?_, ?_, ?_⟩ <;> first | go_keep | exact HG.out.drewN 1)
                        | exact keepE (by assumption) (by assumption))
                      (first
                        | (go_at_call 66; refine (HK.out _).mono ?_; rintro e w11 ⟨rfl, hw11⟩))
                    have hS : w11.cell? ⟨q, 1, none⟩ = some (.slice (some ⟨g, 0, none⟩) (j + 1) cv) ∧ w11.cell? ⟨g, j * 2, none⟩ = some (.int .i64 y1) ∧ w11.cell? ⟨g, j * 2 + 1, none⟩ = some (.int .i64 y2) ∧ w11.cell? ⟨X, 0, none⟩ = some (.int .i64 (v1 : Int)) ∧ w11.cell? ⟨X, 1, none⟩ = some (.int .i64 (v2 : Int)) ∧ EX W0 w11 p q v (q + 1) b es (.slice (some ⟨g, 0, none⟩) (j + 1) cv) s5 X (v1 : Int) (v2 : Int) := by assumption
                    have HM := Lib.hid hS.2.2.2.2.2
                    clear hS
                    go_wp2
                    go_meet
                    exact ⟨by rw [← HC9.out, HZ.out.1]; simp [HZ.out.2], HM.out⟩
                case rest =>
                  obtain ⟨rfl, hM⟩ := hcut
                  have HM := Lib.hid hM
                  clear hM HG
                  go_upto_if 146 with (fail)
                  go_cut [146] (fun _ wx => EX W0 wx p q v (q + 1) b es (.slice av L cv) (failS c9 (9, A) s5) X (v1 : Int) (v2 : Int))
                  case first =>
                    cases c9 with
                    | true =>
                      go_wp2_with (go_at_call 65; refine (failR_S HM.out.e.rg HF.out.2.2.2.2.1 9 A (by decide)).mono ?_; rintro e w12 ⟨rfl, hr12⟩; have HN := Lib.hid (HM.out.rd hr12); clear hr12)
                      go_meet
                      exact HN.out
                    | false =>
                      go_wp2
                      go_meet
                      exact HM.out
                  case rest =>
                    obtain ⟨s6, hs6⟩ : ∃ s6, failS c9 (9, A) s5 = s6 := ⟨_, rfl⟩
                    rw [hs6] at hcut
                    have HS6 := Lib.hid hs6
                    have HN := Lib.hid hcut
                    clear hcut hs6 HM
                    have m1 := HN.out.e.gb.c1
                    have m0 := HN.out.c0
                    have m2 := HN.out.c1
                    have mf := HN.out.e.gb.fr 1
                    go_wp2_with ((at_builtin; refine appE rfl (.tmp 151) (.tmp 153) 22 69 rfl i0 _ 16 Tryz.underlying22 I.out.1 I.out.2.1 I.out.2.2.1 I.out.2.2.2 rfl (by omega) W0.heap.size (.slice av L cv) es L rfl ((HN.out.e.es').alloc _) HL.out.1 _ 1 ((v1 : Int), (v2 : Int)) rfl (pair_new _ _ _ _).1 (pair_new _ _ _ _).2 (by have := HL.out.1; have := HL.out.2; omega) (by have h1 := HN.out.e.kept.size; simp; omega) ?_; intro G cap w12 k2 k3 k4 k5 k6 k7; have HO := Lib.hid (And.intro k2 (And.intro k3 k6)); have hgb := (HN.out.app k3 k2 k6).1; have d6 := hgb.c1; have f6 := hgb.fr 1; clear k2 k3 k4 k5 k6 k7 hgb))
                    obtain ⟨_, hz2⟩ := HN.out.app HO.out.2.1 HO.out.1 HO.out.2.2
                    obtain ⟨hd1, hd2⟩ := edge_any (b := b) (N := v) (c2 := c9) hN24 HX.out.2.2.1 HL.out.2 HX.out.2.2.2.1 HX.out.2.2.2.2.1 HX.out.2.2.2.2.2 H1.out HCl.out HA3.out HB.out.2 HD.out.2 HC9.out
                    rw [HS5.out, HS6.out] at hd1 hd2
                    refine ⟨⟨_, _, _, hz2, hd1⟩, ?_⟩
                    have h9 := HX.out.1.rg.at_ok
                    have h2 := HF.out.2.2.2.2.2.1
                    have h3 := HX.out.2.2.2.2.2
                    rw [meas_ok h9.2]
                    exact meas_st hz2.rg (by omega) hd2
            · obtain ⟨a2, hs2⟩ : ∃ a2, s2 = .ok a2 := by
                cases s2 with
                | ok a => exact ⟨a, rfl⟩
                | error f => simp [isColon] at hC
              subst hs2
              have hC2 := hC
              unfold isColon at hC2
              simp only [decide_eq_true_eq] at hC2
              have HCl := Lib.hid hC
              have hrg := HA.out.rg.at_ok
              have c1 := hrg.2.c1
              have f1 := hrg.2.fr 1
              have n0 := HA.out.gb.c0
              have HE := Lib.hid (HA.out.toEC.at1 (a := a2) (by omega))
              rw [show ((a2 + 1 : Nat) : Int) = (a2 : Int) + 1 by omega] at HE
              have ha2b : a2 ≤ 20000 := by have h2 := HF.out.2.2.2.2.2.1; have := HF.out.2.2.2.2.1; have := hrg.2.len; omega
              obtain ⟨wo, hwo⟩ : ∃ wo, wo = wr := ⟨_, rfl⟩
              subst hwo
              have HC2 := Lib.hid hC2
              clear hC hC2 hrg
              go_wp2
              go_loopw [7] (fun i wi => ∃ (k : Nat) (cs : List Int), k ≤ v ∧ i = .int .i64 (k : Int) ∧ cs.length = k ∧ IsCols (bytesOf b) (.ok (a2 + 1)) cs ∧ EC W0 wi p q v (q + 1) b es u (colS (bytesOf b) k (.ok (a2 + 1))) (cs ++ List.replicate (v - k) 0)) (fun i _ => v - (intOf i).toNat)
              case atStart => exact ⟨0, [], Nat.zero_le _, rfl, rfl, fun k hk => by simp at hk, by have hh := HE.out; rw [Nat.sub_zero, List.nil_append]; exact hh⟩
              case round =>
                obtain ⟨k, cs, hk, rfl, hcl, hic, hEC⟩ := hrel
                by_cases hkv : k < v
                · have n0 := hEC.gb.c0
                  have hkI : (k : Int) < v := by omega
                  obtain ⟨m, hm⟩ : ∃ m, v - k = m + 1 := ⟨v - k - 1, by omega⟩
                  have hm2 : v - (k + 1) = m := by omega
                  rw [hm] at hEC
                  have HG := Lib.hid (And.intro hEC (And.intro hic (And.intro hcl (And.intro hm hm2))))
                  clear hEC hic hcl hm hm2 c1 f1
                  go_wp2_with (go_at_call 64; refine (signR_S HG.out.1.rg HF.out.2.2.2.2.1 32).mono ?_; rintro e w7 ⟨rfl, hr7⟩; have HH := Lib.hid (HG.out.1.rd hr7); have d2 := HH.out.gb.c2; clear hr7)
                  go_region_with (go_at_call 62; refine (numberR_S (HH.out.drewN 1).rg HF.out.2.2.2.2.1 _).mono ?_; rintro e w8 ⟨c, rfl, hc, hr8⟩; have HI := Lib.hid (And.intro ((HH.out.drewN 1).rd hr8) hc); have e2 := HI.out.1.gb.c2; have e3 := HI.out.1.cs'.cellI (k := k) (by have := HG.out.2.2.1; simp; omega); have e4 := HI.out.1.cs'.frozen k; clear hr8 hc)
                  all_goals
                    go_wp2
                    refine ⟨⟨k + 1, cs ++ [(c : Int)], by omega, by go_num, by simp [HG.out.2.2.1], ?_, ?_⟩, by simp [intOf]; omega⟩
                    · intro k' hk'
                      have hcl := HG.out.2.2.1
                      by_cases h : k' < k
                      · obtain ⟨v', e1, e2⟩ := HG.out.2.1 k' (by omega)
                        exact ⟨v', by rw [List.getElem?_append_left (by omega)]; exact e1, e2⟩
                      · have hkk : k' = k := by simp at hk'; omega
                        subst hkk
                        exact ⟨c, by rw [List.getElem?_append_right (by omega)]; simp [hcl], HI.out.2⟩
                    · have hh := HI.out.1.put k (c : Int)
                      have hcl := HG.out.2.2.1
                      rw [HG.out.2.2.2.2, colS_succ]
                      have hs : (cs ++ List.replicate (m + 1) 0).set k (c : Int) = cs ++ [(c : Int)] ++ List.replicate m 0 := by rw [← hcl]; exact setC _ _ _
                      rw [← hs]
                      first | exact hh | exact hh.drewN _
                · obtain rfl : k = v := by omega
                  rw [Nat.sub_self, List.replicate_zero, List.append_nil] at hEC
                  obtain ⟨sF, hsF⟩ : ∃ sF, colS (bytesOf b) k (.ok (a2 + 1)) = sF := ⟨_, rfl⟩
                  rw [hsF] at hEC
                  have HG := Lib.hid (And.intro hEC (And.intro hic (And.intro hcl hsF)))
                  have n0 := hEC.gb.c0
                  clear hEC hic hcl hsF c1 f1
                  have K63 := moreR_S HG.out.1.rg HF.out.2.2.2.2.1
                  obtain ⟨G, hG⟩ : ∃ G, goesOn b sF = G := ⟨_, rfl⟩
                  rw [hG] at K63
                  have hs9 : (nxt sF fun a3 => if a3 < b.size then .error (11, a3) else .ok a3) = if G = true then nxt sF (fun a3 => .error (11, a3)) else sF := by
                    rw [← hG]
                    cases sF with
                    | error f => rw [nxt_err, nxt_err]; simp
                    | ok a3 =>
                      rw [nxt_ok, nxt_ok]
                      unfold goesOn
                      by_cases h3 : a3 < b.size
                      · simp [h3]
                      · simp [h3]
                  have hG2 : G = true → ∃ a3, sF = .ok a3 := fun e => by
                    rw [← hG] at e
                    cases sF with
                    | error f => cases e
                    | ok a3 => exact ⟨a3, rfl⟩
                  have HGG := Lib.hid (And.intro K63 (And.intro hs9 hG2))
                  clear K63 hs9 hG2 hG
                  go_upto_if 90 with (go_at_call 63; refine HGG.out.1.mono ?_; rintro e w7 ⟨rfl, n7, rfl⟩)
                  go_cut [90] (fun _ wx => EC W0 wx p q k (q + 1) b es u (nxt sF fun a3 => if a3 < b.size then .error (11, a3) else .ok a3) cs)
                  case first =>
                    cases G with
                    | false =>
                      go_wp2
                      go_meet
                      rw [HGG.out.2.1]
                      exact HG.out.1.drewN _
                    | true =>
                      obtain ⟨a3, ha3⟩ := HGG.out.2.2 rfl
                      subst ha3
                      have c1 := HG.out.1.rg.at_ok.2.c1
                      go_wp2_with (go_at_call 65; refine (failR_S (HG.out.1.drewN n7).rg HF.out.2.2.2.2.1 11 a3 (by decide)).mono ?_; rintro e w8 ⟨rfl, hr8⟩; have HI := Lib.hid ((HG.out.1.drewN n7).rd hr8); clear hr8)
                      go_meet
                      have hh := HI.out
                      rw [nxt_ok] at hh
                      rw [HGG.out.2.1, nxt_ok]
                      exact hh
                  case rest =>
                    have HH := Lib.hid hcut
                    have d2 := hcut.gb.c2
                    clear hcut n0
                    have K56 := bright_calls (some ⟨q + 1, 0, none⟩) k cs wc (HH.out.cs'.toInts (by have := HG.out.2.2.1; unfold maxLen; omega))
                    obtain ⟨Z, hZ⟩ : ∃ Z, cs.all (· == 0) = Z := ⟨_, rfl⟩
                    rw [HG.out.2.2.1, hZ] at K56
                    have K56 := Lib.hid (And.intro K56 hZ)
                    clear hZ
                    go_upto_if 100 with (go_at_call 56; refine K56.out.1.mono ?_; rintro e w8 ⟨rfl, hw8⟩; subst hw8)
                    go_cut [100] (fun _ wx => EC W0 wx p q k (q + 1) b es u (colE b sF Z a2) cs)
                    case first =>
                      cases Z with
                      | false =>
                        go_wp2
                        go_meet
                        exact HH.out
                      | true =>
                        go_wp2_with (go_at_call 65; refine (failR_S HH.out.rg HF.out.2.2.2.2.1 3 a2 (by decide)).mono ?_; rintro e w9 ⟨rfl, hr9⟩; have HI := Lib.hid (HH.out.rd hr9); clear hr9)
                        go_meet
                        exact HI.out
                    case rest =>
                      have hce := cols_end HX.out.2.2.2.1 HX.out.2.2.2.2.1 HX.out.2.2.2.2.2 H1.out HCl.out HG.out.2.2.1 HG.out.2.1
                      rw [HG.out.2.2.2, K56.out.2] at hce
                      obtain ⟨sE, hsE⟩ : ∃ sE, colE b sF Z a2 = sE := ⟨_, rfl⟩
                      rw [hsE] at hcut hce
                      have hK := HF.out.2.2.1 _ hcut.kept
                      clear HH K56 d2 hsE HGG HA HE HC2 HCl
                      obtain ⟨x0, x1, x2, x3⟩ := zres_cells hK.1
                      obtain ⟨y0, y1, y2⟩ := zflt_cells hK.2.1
                      have x30 := x3 0
                      have x31 := x3 1
                      have x32 := x3 2
                      have y20 := y2 0
                      have y21 := y2 1
                      clear x3 y2
                      cases sE with
                      | error f =>
                        obtain ⟨f1, f2⟩ := f
                        simp only at hce
                        obtain ⟨hf1, a9, _, hR9⟩ := hcut.rg
                        simp only at hf1
                        have hfe : (f1 == 0) = false := by simp [hf1]
                        have hfn : (f1 != 0) = true := by simp [hf1]
                        have c2 : wc.cell? ⟨p, 2, none⟩ = some (.int .i64 f1) := hR9.c2
                        have c3 : wc.cell? ⟨p, 3, none⟩ = some (.int .i64 (f2 : Int)) := hR9.c3
                        have HZ := Lib.hid (And.intro hce hK)
                        clear hce hK hcut hR9 hf1
                        go_wp2
                        go_region
                        go_wp2
                        obtain ⟨W, hW, z0, z1, z2, z3, z4, hbW, _⟩ := parse_out (w := wc) (.int .i64 0) (.slice none 0 0) (.slice none 0 0) (.int .i64 f1) (.int .i64 (f2 : Int)) HZ.out.2.1 HZ.out.2.2.1
                        rw [← hW]
                        exact bodyPost_ret (v := .tuple #[zeroGr, .agg #[.int .i64 f1, .int .i64 (f2 : Int)]]) (by simp [results, Tryz.results15, go_sem, z0, z1, z2, z3, z4, zeroGr]) rfl (ParseRes.bad (f := (f1, f2)) HZ.out.1 (by rw [HF.out.2.2.2.1]; exact below_drewN (HZ.out.2.2.2.trans hbW) 1))
                      | ok a4 =>
                        simp only at hce
                        have hRg := hcut.rg.at_ok
                        have c2 : wc.cell? ⟨p, 2, none⟩ = some (.int .i64 0) := hRg.2.c2
                        have hel : es.length ≤ 20000 := by have h1 := HX.out.2.2.1; have h3 := HX.out.1.rg.at_ok.1; have h2 := HF.out.2.2.2.2.2.1; omega
                        obtain ⟨av, cv, hv⟩ := hcut.es'.any_form
                        obtain ⟨L, hL⟩ : ∃ L, es.length = L := ⟨_, rfl⟩
                        rw [hL] at hv
                        subst hv
                        have g0 := hcut.gb.c0
                        have g1 := hcut.gb.c1
                        have g2 := hcut.gb.c2
                        have HZ := Lib.hid (And.intro hce (And.intro hel (And.intro hL (And.intro hcut hK))))
                        clear hce hK hcut hRg hel hL
                        go_wp2
                        obtain ⟨W, hW, z0, z1, z2, z3, z4, hbW, hkW⟩ := parse_out (w := wc) (.int .i64 (k : Int)) (.slice av L cv) (.slice (some ⟨q + 1, 0, none⟩) k k) (.int .i64 0) (.int .i64 0) HZ.out.2.2.2.2.1 HZ.out.2.2.2.2.2.1
                        rw [← hW]
                        refine bodyPost_ret (v := .tuple #[.agg #[.int .i64 (k : Int), .slice av L cv, .slice (some ⟨q + 1, 0, none⟩) k k], .agg #[.int .i64 0, .int .i64 0]]) (by simp [results, Tryz.results15, go_sem, z0, z1, z2, z3, z4]) rfl ?_
                        have hes := HZ.out.2.2.2.1
                        have hvb := hes.vb
                        have hq0 : W0.heap.size = q + 1 + 1 := HF.out.2.2.2.2.2.2
                        have hp2 := Hp.out
                        have hEW : OwnE W W0.heap.size 69 (.slice av L cv) es := ownsRow_block (hes.es') fun g hg => hkW g (by have := (hvb g hg).1; omega) (by have := (hvb g hg).1; omega)
                        have hUW : Own W 0 (.slice (some ⟨q + 1, 0, none⟩) k k) 3 (ints cs) := ownsRow_block (hes.cs') fun g hg => by have e : q + 1 = g := Option.some.inj hg; exact hkW g (by omega) (by omega)
                        have hcl := HG.out.2.2.1
                        rw [HZ.out.1]
                        refine ⟨av, cv, some ⟨q + 1, 0, none⟩, k, by simp [HZ.out.2.2.1, hcl], ?_, ?_, HZ.out.2.1, by simp [hcl]; omega, ?_⟩
                        · rw [HZ.out.2.2.1, HF.out.2.2.2.1]; exact hEW.mono (by omega)
                        · simp only [hcl]; rw [HF.out.2.2.2.1]; exact hUW.raise rfl (by omega)
                        · rw [HF.out.2.2.2.1]; exact HZ.out.2.2.2.2.2.2.trans hbW
        · rw [show goesOn b (.ok a1) = false by unfold goesOn; simpa using hlt] at K63
          obtain ⟨av, cv, hv⟩ := hs.es'.any_form
          have hPo : P = .ok ⟨v, es, List.replicate v 0⟩ := by
            obtain ⟨_, f, _, h2⟩ := hQ
            rw [h2, restP_past (by rw [bytesOf_len]; omega)]
            simp [preP]
          have hel : es.length ≤ 20000 := by have h1 := hQ.1; have h2 := hRg.1; have h3 := HF.out.2.2.2.2.2.1; omega
          obtain ⟨L, hL⟩ : ∃ L, es.length = L := ⟨_, rfl⟩
          rw [hL] at hv
          subst hv
          have g0 := hs.gb.c0
          have g1 := hs.gb.c1
          have g2 := hs.gb.c2
          have HX := Lib.hid (And.intro hPo (And.intro hel (And.intro hL (And.intro hs hK))))
          clear hQ hK hs hRg x3 y2 hPo hel hL hlt
          go_wp2_with (go_at_call 63; refine K63.mono ?_; rintro e w5 ⟨rfl, n2, rfl⟩)
          obtain ⟨W, hW, z0, z1, z2, z3, z4, hbW, hkW⟩ := parse_out (w := wr.drewN n2) (.int .i64 (v : Int)) (.slice av L cv) (.slice (some ⟨q + 1, 0, none⟩) v v) (.int .i64 0) (.int .i64 0) HX.out.2.2.2.2.1 HX.out.2.2.2.2.2.1
          rw [← hW]
          refine bodyPost_ret (v := .tuple #[.agg #[.int .i64 (v : Int), .slice av L cv, .slice (some ⟨q + 1, 0, none⟩) v v], .agg #[.int .i64 0, .int .i64 0]]) (by simp [results, Tryz.results15, go_sem, z0, z1, z2, z3, z4]) rfl ?_
          have hes := HX.out.2.2.2.1
          have hvb := hes.vb
          have hq0 : W0.heap.size = q + 1 + 1 := HF.out.2.2.2.2.2.2
          have hp2 := Hp.out
          have hEW : OwnE W W0.heap.size 69 (.slice av L cv) es := ownsRow_block (hes.es'.drewN n2) fun g hg => hkW g (by have := (hvb g hg).1; omega) (by have := (hvb g hg).1; omega)
          have hUW : Own W 0 (.slice (some ⟨q + 1, 0, none⟩) v v) 3 (ints (List.replicate v 0)) := ownsRow_block (hes.cs'.drewN n2) fun g hg => by have e : q + 1 = g := Option.some.inj hg; exact hkW g (by omega) (by omega)
          rw [HX.out.1]
          refine ⟨av, cv, some ⟨q + 1, 0, none⟩, v, by simp [HX.out.2.2.1], ?_, ?_, HX.out.2.1, by simp; omega, ?_⟩
          · rw [HX.out.2.2.1, HF.out.2.2.2.1]; exact hEW.mono (by omega)
          · have hl : (List.replicate v (0 : Int)).length = v := by simp
            rw [hl, HF.out.2.2.2.1]; exact hUW.raise rfl (by omega)
          · rw [HF.out.2.2.2.1]; exact (below_drewN HX.out.2.2.2.2.2.2 _).trans hbW
end Go.Proofs.YtifkieopaoooeaaGreatDoor
