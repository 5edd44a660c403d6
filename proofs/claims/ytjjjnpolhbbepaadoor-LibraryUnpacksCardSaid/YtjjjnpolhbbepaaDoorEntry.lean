/- Reading an entry. -/
import Derived.Test.YtjjjnpolhbbepaaDoorEntryRest
set_option linter.unusedSimpArgs false
set_option linter.unusedVariables false
namespace Go.Proofs.YtjjjnpolhbbepaaDoor
open Go.RowKit
open Plain
set_option maxRecDepth 100000 in
set_option maxHeartbeats 8000000 in
theorem entry_calls {w : World} {p : Nat} {a : Option Addr} {c : Nat} {xs : List Nat} {at_ bit : Nat} {last : Option ByteArray} {lastS : ByteArray} (h : Rd w p a c xs at_ bit) (hx : 0 < xs.length) (hcap : xs.length ≤ c) (hlast : ∀ x, last = some x → lastS = x) (hat : at_ ≤ 500000) :
    Calls Tryd.prog 36 #[.pointer (some ⟨p, 0, none⟩), .string lastS, .bool last.isNone] w (EntRes w p a c xs (entP xs at_ last)) := by
  have hl := h.len
  have hS := S1.new h hx
  obtain ⟨N, hN⟩ : ∃ N, xs.length = N := ⟨_, rfl⟩
  obtain ⟨fl, hfl⟩ : ∃ fl, last.isNone = fl := ⟨_, rfl⟩
  rw [hfl]
  by_cases h1 : xs.length ≤ at_
  · have hb := byte_no hS.rd h1 (by omega)
    have he : entP xs at_ last = .error 18 := by rw [entP_eq, if_pos h1]
    have Hb := Lib.hid hb
    have H := Lib.hid (And.intro hS he)
    clear hb hS he h hx hlast hfl h1 hl hcap hN
    go_enter Tryd.func36, Tryd.ntmps36
    go_wp2_with fail
    go_step3
    go_wp2_with (go_at_call 45; refine Hb.out.mono ?_; rintro e w2 ⟨rfl, hto⟩; have hS2 := H.out.1.to hto; have b0 := hS2.bx.a0; have b1 := hS2.bx.a1; have b2 := hS2.bx.a2; have f0 := hS2.bx.fr 0; have f1 := hS2.bx.fr 1; have f2 := hS2.bx.fr 2; have H2 := Lib.hid hS2; clear hS2 hto)
    go_quiet (fail)
    go_wp2
    obtain ⟨W, hW⟩ : ∃ W, W = w2.drewN nq := ⟨_, rfl⟩
    rw [← hW]
    rw [Exit.noGoto_ret]
    have hS := H2.out.drewN nq
    rw [← hW] at hS
    obtain ⟨d0, d1, d2, hg⟩ := hS.failed
    exact bodyPost_ret (v := .tuple #[.agg #[.string ⟨#[]⟩, .int .i64 0, .slice none 0 0], .int .i64 18]) (by simp [results, Tryd.results36, go_sem, d0, d1, d2]) rfl (EntRes.bad H.out.2 hg)
  · have h1' : at_ < xs.length := by omega
    have hb := byte_yes hS.rd h1'
    obtain ⟨n, hn⟩ : ∃ n, xs[at_]?.getD 0 = n := ⟨_, rfl⟩
    have hn2 : n < 256 := by rw [← hn, List.getElem?_eq_getElem h1']; exact h.byte _ (List.getElem_mem _)
    have he : entP xs at_ last = if xs.length < at_ + 1 + n then .error 18 else entR xs (at_ + 1) n last := by rw [entP_eq, if_neg h1, hn]
    rw [hn] at hb
    rw [hN] at hl hcap he
    have hrow := h.row
    have Hb := Lib.hid hb
    have H := Lib.hid (And.intro hS (And.intro hN (And.intro hlast (And.intro hfl hrow))))
    by_cases h2 : N < at_ + 1 + n
    · rw [if_pos h2] at he
      have He := Lib.hid he
      clear hb hS he h hx hlast hfl h1 hcap hN hn h1' hrow
      have hw1 : IntKind.i64.wrap (((at_ + 1 : Nat) : Int) + n) = ((at_ + 1 : Nat) : Int) + n := IntWalk.i64_in _ (by omega)
      have h2' : (N : Int) < ((at_ + 1 : Nat) : Int) + n := by omega
      go_enter Tryd.func36, Tryd.ntmps36
      go_wp2_with fail
      go_step3
      go_wp2_with (go_at_call 45; refine Hb.out.mono ?_; rintro e w2 ⟨rfl, hto⟩; have hS2 := H.out.1.to hto; have b0 := hS2.bx.a0; have b1 := hS2.bx.a1; have b2 := hS2.bx.a2; have f0 := hS2.bx.fr 0; have f1 := hS2.bx.fr 1; have f2 := hS2.bx.fr 2; have r0 := hS2.rd.c0; have r1 := hS2.rd.c1; have q1 := hS2.rd.fr 1; rw [H.out.2.1] at r0; have H2 := Lib.hid hS2; clear hS2 hto)
      go_quiet (fail)
      go_wp2
      obtain ⟨W, hW⟩ : ∃ W, W = w2.drewN nq := ⟨_, rfl⟩
      rw [← hW]
      rw [Exit.noGoto_ret]
      have hS := H2.out.drewN nq
      rw [← hW] at hS
      obtain ⟨d0, d1, d2, hg⟩ := hS.failed
      exact bodyPost_ret (v := .tuple #[.agg #[.string ⟨#[]⟩, .int .i64 0, .slice none 0 0], .int .i64 18]) (by simp [results, Tryd.results36, go_sem, d0, d1, d2]) rfl (EntRes.bad He.out hg)
    · rw [if_neg h2] at he
      have h2' : at_ + 1 + n ≤ N := by omega
      have He := Lib.hid he
      have hx0 : 0 < xs.length := hx
      obtain ⟨bb, oo, rfl, hbb, _⟩ := h.row.at_ hx0
      clear hb hS he h hx h1 hN hn h1' hrow h2 hx0
      have hw1 : IntKind.i64.wrap (((at_ + 1 : Nat) : Int) + n) = ((at_ + 1 : Nat) : Int) + n := IntWalk.i64_in _ (by omega)
      have h2i : ((at_ + 1 : Nat) : Int) + n ≤ (N : Int) := by omega
      go_enter Tryd.func36, Tryd.ntmps36
      go_wp2_with fail
      go_step3
      go_wp2_with (go_at_call 45; refine Hb.out.mono ?_; rintro e w2 ⟨rfl, hto⟩; have hS2 := H.out.1.to hto; have b0 := hS2.bx.a0; have b1 := hS2.bx.a1; have b2 := hS2.bx.a2; have f0 := hS2.bx.fr 0; have f1 := hS2.bx.fr 1; have f2 := hS2.bx.fr 2; have r0 := hS2.rd.c0; have r1 := hS2.rd.c1; have q1 := hS2.rd.fr 1; rw [H.out.2.1] at r0; have H2 := Lib.hid hS2; clear hS2 hto)
      go_quiet (fail)
      go_wp2
      have hS := H2.out.drewN nq
      have hs2 : w.heap.size < (w2.drewN nq).heap.size := hS.le
      clear b0 b1 b2 f0 f1 f2 r0 r1 q1 H2
      generalize w2.drewN nq = wA at *
      have b0 := hS.bx.a0; have b1 := hS.bx.a1; have b2 := hS.bx.a2; have f0 := hS.bx.fr 0; have f1 := hS.bx.fr 1; have f2 := hS.bx.fr 2; have r0 := hS.rd.c0; have r1 := hS.rd.c1; have q1 := hS.rd.fr 1; 
      rw [H.out.2.1] at r0
      have hnN : n ≤ N - (at_ + 1) := by omega
      obtain ⟨nm, hnm⟩ : ∃ nm, nameOf ((xs.drop (at_ + 1)).take n) = nm := ⟨_, rfl⟩
      obtain ⟨o1, ho1⟩ : ∃ o1, (if c = at_ + 1 then oo else oo + (at_ + 1)) = o1 := ⟨_, rfl⟩
      have hcv : ∀ W : World, Below wA.heap.size wA W → (convert 52 9 (.slice (some ⟨bb, o1, none⟩) n (c - (at_ + 1)))).run Tryd.prog W = .ok (.string nm) W := fun W e => by
        rw [← hnm, ← ho1]
        exact cut_str 52 Tryd.underlying52 (Row.below hS.rd.row e) (by rw [H.out.2.1]; omega) (by rw [H.out.2.1]; omega) _
      have HS := Lib.hid (And.intro hS hnm)
      have HCV := Lib.hid hcv
      have hcv0 := hcv wA (Below.refl _ _)
      have hpl := hS.rd.lt
      clear hS hnm hcv
      obtain ⟨x1, hx1⟩ : ∃ x1 : Int, x1 = ((at_ + 1 : Nat) : Int) := ⟨_, rfl⟩
      obtain ⟨x2, hx2⟩ : ∃ x2 : Int, x2 = ((at_ + 1 : Nat) : Int) + n := ⟨_, rfl⟩
      have hw1 : IntKind.i64.wrap (x1 + n) = x2 := by rw [hx1, hx2]; exact IntWalk.i64_in _ (by omega)
      have hsl : ∀ W : World, (Instr.slice 52 (.slice (some ⟨bb, oo, none⟩) N c) (some (.int .i64 x1)) (some (.int .i64 x2)) none).run Tryd.prog W = .ok (.slice (some ⟨bb, o1, none⟩) n (c - (at_ + 1))) W := fun W => by
        have := slice_run 52 Tryd.underlying52 bb oo N c (at_ + 1) (at_ + 1 + n) (by omega) (by omega) x1 x2 hx1 (by omega) W
        rw [ho1, show at_ + 1 + n - (at_ + 1) = n by omega] at this
        exact this
      rw [← hx1] at r1
      clear ho1
      go_upto_region 4 with (fail)
      go_cut [10] (fun u wB => u = .pointer (some ⟨wA.heap.size, 0, none⟩) ∧ S2 w wB p wA.heap.size (some ⟨bb, oo, none⟩) c xs (at_ + 1) bit (.string nm) (.int .i64 0) (.slice none 0 0))
      case first =>
        have HX := Lib.hid (And.intro hx1 hx2)
        have hpn : ¬ p = wA.heap.size := by omega
        have hpn2 : ¬ wA.heap.size = p := by omega
        clear hx1 hx2
        go_region_held3 (fun W => W.cell? ⟨p, 0, none⟩ = some (.slice (some ⟨bb, oo, none⟩) N c) ∧ W.cell? ⟨p, 1, none⟩ = some (.int .i64 x1) ∧ (convert 52 9 (.slice (some ⟨bb, o1, none⟩) n (c - (at_ + 1)))).run Tryd.prog W = .ok (.string nm) W)
          (first
            | assumption
            | exact ⟨r0, r1, HCV.out _ (below_self_drewN wA 1)⟩
            | exact ⟨kept_alloc hpl r0, kept_alloc hpl r1, HCV.out _ (below_drewN (Below.alloc (Below.refl _ _) (Nat.le_refl _) _) 1)⟩
            | exact ⟨kept_alloc3 hpl r0, kept_alloc3 hpl r1, HCV.out _ (below_drewN (Below.setCell (Below.setCell (Below.setCell (Below.alloc (Below.refl _ _) (Nat.le_refl _) _) (Nat.le_refl _) _) (Nat.le_refl _) _) (Nat.le_refl _) _) 1)⟩
            | go_keep)
          (fail)
        go_wp2
        go_meet
        exact ⟨rfl, (HS.out.1.box _ _ _ _).drewN 1⟩
      case rest =>
        obtain ⟨rfl, hS⟩ := hcut
        have hXd : w.heap.size < wA.heap.size := hS.le
        have hnm := HS.out.2
        clear b0 b1 b2 f0 f1 f2 r0 r1 q1 HS HCV hcv0 hpl hsl hw1 hx1 hx2
        generalize wA.heap.size = X at *
        obtain ⟨ys, hys⟩ : ∃ ys, (xs.drop (at_ + 1)).take n = ys := ⟨_, rfl⟩
        have hbs : bytesOf nm = ys := by
          rw [← hnm, hys]
          exact bytesOf_nameOf (fun x hx => by rw [← hys] at hx; exact hS.s1.rd.byte x (List.mem_of_mem_drop (List.mem_of_mem_take hx)))
        have hnz : nm.size ≤ 9223372036854775807 := by
          have h1 : (bytesOf nm).length = nm.size := by unfold bytesOf; simp
          rw [hbs, ← hys, List.length_take] at h1
          omega
        have hname := fun w => name_calls nm w hnz
        rw [hbs] at hname
        have b0 := hS.s1.bx.a0; have b1 := hS.s1.bx.a1; have b2 := hS.s1.bx.a2; have f0 := hS.s1.bx.fr 0; have f1 := hS.s1.bx.fr 1; have f2 := hS.s1.bx.fr 2; have r0 := hS.s1.rd.c0; have r1 := hS.s1.rd.c1; have q1 := hS.s1.rd.fr 1; have x0 := hS.bx.a0; have y1 := hS.bx.a1; have y2 := hS.bx.a2; have v0 := hS.bx.fr 0; have v1 := hS.bx.fr 1; have v2 := hS.bx.fr 2; have lX := hS.le; have pX := hS.s1.pl; have kX := hS.bx.lt; have kR := hS.s1.le; rw [H.out.2.1] at r0
        have hw1 : IntKind.i64.wrap ((at_ : Int) + 1 + n) = (at_ : Int) + 1 + n := IntWalk.i64_in _ (by omega)
        have hS5 := hS.set1 (at_ + 1 + n)
        rw [show ((at_ + 1 + n : Nat) : Int) = (at_ : Int) + 1 + n by omega] at hS5
        rw [show ((at_ + 1 : Nat) : Int) = (at_ : Int) + 1 by omega] at r1
        have hR : entP xs at_ last = if okName ys = false then .error 17 else if (last.any fun l => leS nm l) then .error 9 else entS xs (at_ + 1 + n) nm := by rw [He.out, entR, hys, ← hys, hnm]
        clear hS hys hbs hnm hnz He
        cases hok : okName ys
        · rw [hok] at hname
          rw [if_pos hok] at hR
          have HN := Lib.hid hname
          have HS := Lib.hid (And.intro hS5 hR)
          clear hS5 hR hname hok
          go_wp2_with (go_at_call 31; refine (HN.out _).mono ?_; rintro e w5 ⟨rfl, hb5⟩; have hS6 := HS.out.1.below hb5; clear b0 b1 b2 r0 r1 x0 y1 y2 f0 f1 f2 v0 v1 v2 q1 kX kR; have b0 := hS6.s1.bx.a0; have b1 := hS6.s1.bx.a1; have b2 := hS6.s1.bx.a2; have f0 := hS6.s1.bx.fr 0; have f1 := hS6.s1.bx.fr 1; have f2 := hS6.s1.bx.fr 2; have r0 := hS6.s1.rd.c0; have r1 := hS6.s1.rd.c1; have q1 := hS6.s1.rd.fr 1; have x0 := hS6.bx.a0; have y1 := hS6.bx.a1; have y2 := hS6.bx.a2; have v0 := hS6.bx.fr 0; have v1 := hS6.bx.fr 1; have v2 := hS6.bx.fr 2; have lX := hS6.le; have pX := hS6.s1.pl; have kX := hS6.bx.lt; have kR := hS6.s1.le; rw [H.out.2.1] at r0; have H6 := Lib.hid hS6; clear hS6 hb5)
          obtain ⟨W, hW⟩ : ∃ W, W = w5 := ⟨_, rfl⟩
          rw [← hW]
          rw [Exit.noGoto_ret]
          have hS := H6.out.s1
          rw [← hW] at hS
          obtain ⟨d0, d1, d2, hg⟩ := hS.failed
          exact bodyPost_ret (v := .tuple #[.agg #[.string ⟨#[]⟩, .int .i64 0, .slice none 0 0], .int .i64 17]) (by simp [results, Tryd.results36, go_sem, d0, d1, d2]) rfl (EntRes.bad HS.out.2 hg)
        · rw [hok] at hname
          rw [if_neg (by rw [hok]; simp)] at hR
          have HN := Lib.hid hname
          have HS := Lib.hid (And.intro hS5 hR)
          clear hS5 hR hname hok
          go_upto_region 8 with (go_at_call 31; refine (HN.out _).mono ?_; rintro e w5 ⟨rfl, hb5⟩; have hS6 := HS.out.1.below hb5; clear b0 b1 b2 r0 r1 x0 y1 y2 f0 f1 f2 v0 v1 v2 q1 kX kR; have b0 := hS6.s1.bx.a0; have b1 := hS6.s1.bx.a1; have b2 := hS6.s1.bx.a2; have f0 := hS6.s1.bx.fr 0; have f1 := hS6.s1.bx.fr 1; have f2 := hS6.s1.bx.fr 2; have r0 := hS6.s1.rd.c0; have r1 := hS6.s1.rd.c1; have q1 := hS6.s1.rd.fr 1; have x0 := hS6.bx.a0; have y1 := hS6.bx.a1; have y2 := hS6.bx.a2; have v0 := hS6.bx.fr 0; have v1 := hS6.bx.fr 1; have v2 := hS6.bx.fr 2; have lX := hS6.le; have pX := hS6.s1.pl; have kX := hS6.bx.lt; have kR := hS6.s1.le; rw [H.out.2.1] at r0; have H6 := Lib.hid hS6; clear hS6 hb5)
          go_cut [81] (fun u wB => u = .bool (last.any fun l => leS nm l) ∧ wB = w5)
          case first =>
            cases hla : last with
            | none =>
              rw [hla] at hfl
              obtain rfl : true = fl := hfl
              go_wp2
              go_meet
              exact ⟨by rw [hla]; rfl, rfl⟩
            | some x =>
              rw [hla] at hfl
              obtain rfl : false = fl := hfl
              obtain rfl : lastS = x := H.out.2.2.1 x hla
              have hrl := run_leq' nm lastS
              go_wp2
              go_meet
              exact ⟨by rw [hla]; rfl, rfl⟩
          case rest =>
            obtain ⟨rfl, rfl⟩ := hcut
            obtain ⟨lb, hlb⟩ : ∃ lb, (last.any fun l => leS nm l) = lb := ⟨_, rfl⟩
            have hR := HS.out.2
            rw [hlb] at hR ⊢
            clear hlb HS HN
            cases lb with
            | true =>
              rw [if_pos rfl] at hR
              have HR := Lib.hid hR
              clear hR
              go_wp2
              obtain ⟨W, hW⟩ : ∃ W, W = wc := ⟨_, rfl⟩
              rw [← hW]
              rw [Exit.noGoto_ret]
              have hS := H6.out.s1
              rw [← hW] at hS
              obtain ⟨d0, d1, d2, hg⟩ := hS.failed
              exact bodyPost_ret (v := .tuple #[.agg #[.string ⟨#[]⟩, .int .i64 0, .slice none 0 0], .int .i64 9]) (by simp [results, Tryd.results36, go_sem, d0, d1, d2]) rfl (EntRes.bad HR.out hg)
            | false =>
              rw [if_neg (by simp)] at hR
              obtain ⟨A2, hA2⟩ : ∃ A2, at_ + 1 + n = A2 := ⟨_, rfl⟩
              rw [hA2] at hR H6 r1 h2'
              clear hA2 hfl hw1 lX pX kX kR
              clear b0 b1 b2 r0 r1 x0 y1 y2 f0 f1 f2 v0 v1 v2 q1
              by_cases hA : N < A2 + 2
              · have hR2 : entP xs at_ last = .error 18 := by rw [hR, entS, if_pos (by rw [H.out.2.1]; exact hA)]
                have HR := Lib.hid hR2
                clear hR hR2
                by_cases hA2 : N ≤ A2
                · go_wp2_with fail
                  refine (byte_no H6.out.s1.rd (by rw [H.out.2.1]; exact hA2) (by omega)).mono ?_
                  rintro e w7 ⟨rfl, hto⟩
                  have hS7 := H6.out.to hto
                  have H7 := Lib.hid hS7
                  clear hto hS7
                  go_wp2_with fail
                  refine (byte_no H7.out.s1.rd (by rw [H.out.2.1]; exact hA2) (by omega)).mono ?_
                  rintro e w8 ⟨rfl, hto⟩
                  have hS8 := H7.out.to hto
                  have b0 := hS8.s1.bx.a0; have b1 := hS8.s1.bx.a1; have b2 := hS8.s1.bx.a2; have f0 := hS8.s1.bx.fr 0; have f1 := hS8.s1.bx.fr 1; have f2 := hS8.s1.bx.fr 2; have r0 := hS8.s1.rd.c0; have r1 := hS8.s1.rd.c1; have r2 := hS8.s1.rd.c2; have q1 := hS8.s1.rd.fr 1; have q2 := hS8.s1.rd.fr 2; have x0 := hS8.bx.a0; have y1 := hS8.bx.a1; have y2 := hS8.bx.a2; have v0 := hS8.bx.fr 0; have v1 := hS8.bx.fr 1; have v2 := hS8.bx.fr 2; have lX := hS8.le; have pX := hS8.s1.pl; have kX := hS8.bx.lt; have kR := hS8.s1.le; rw [H.out.2.1] at r0
                  have H8 := Lib.hid hS8
                  clear hto hS8
                  go_wp2
                  obtain ⟨W, hW⟩ : ∃ W, W = w8 := ⟨_, rfl⟩
                  rw [← hW]
                  rw [Exit.noGoto_ret]
                  have hS := H8.out.s1
                  rw [← hW] at hS
                  obtain ⟨d0, d1, d2, hg⟩ := hS.failed
                  exact bodyPost_ret (v := .tuple #[.agg #[.string ⟨#[]⟩, .int .i64 0, .slice none 0 0], .int .i64 18]) (by simp [results, Tryd.results36, go_sem, d0, d1, d2]) rfl (EntRes.bad HR.out hg)
                · go_wp2_with fail
                  refine (byte_yes H6.out.s1.rd (by rw [H.out.2.1]; omega)).mono ?_
                  rintro e w7 ⟨rfl, hto⟩
                  have hS7 := H6.out.to hto
                  have H7 := Lib.hid hS7
                  clear hto hS7
                  go_wp2_with fail
                  refine (byte_no H7.out.s1.rd (by rw [H.out.2.1]; omega) (by omega)).mono ?_
                  rintro e w8 ⟨rfl, hto⟩
                  have hS8 := H7.out.to hto
                  have b0 := hS8.s1.bx.a0; have b1 := hS8.s1.bx.a1; have b2 := hS8.s1.bx.a2; have f0 := hS8.s1.bx.fr 0; have f1 := hS8.s1.bx.fr 1; have f2 := hS8.s1.bx.fr 2; have r0 := hS8.s1.rd.c0; have r1 := hS8.s1.rd.c1; have r2 := hS8.s1.rd.c2; have q1 := hS8.s1.rd.fr 1; have q2 := hS8.s1.rd.fr 2; have x0 := hS8.bx.a0; have y1 := hS8.bx.a1; have y2 := hS8.bx.a2; have v0 := hS8.bx.fr 0; have v1 := hS8.bx.fr 1; have v2 := hS8.bx.fr 2; have lX := hS8.le; have pX := hS8.s1.pl; have kX := hS8.bx.lt; have kR := hS8.s1.le; rw [H.out.2.1] at r0
                  have H8 := Lib.hid hS8
                  clear hto hS8
                  go_wp2
                  obtain ⟨W, hW⟩ : ∃ W, W = w8 := ⟨_, rfl⟩
                  rw [← hW]
                  rw [Exit.noGoto_ret]
                  have hS := H8.out.s1
                  rw [← hW] at hS
                  obtain ⟨d0, d1, d2, hg⟩ := hS.failed
                  exact bodyPost_ret (v := .tuple #[.agg #[.string ⟨#[]⟩, .int .i64 0, .slice none 0 0], .int .i64 18]) (by simp [results, Tryd.results36, go_sem, d0, d1, d2]) rfl (EntRes.bad HR.out hg)
              · obtain ⟨d, hd⟩ : ∃ d, xs[A2]?.getD 0 = d := ⟨_, rfl⟩
                obtain ⟨m, hm⟩ : ∃ m, xs[A2 + 1]?.getD 0 = m := ⟨_, rfl⟩
                have hR2 : entP xs at_ last = if d < 1 ∨ 64 < d ∨ 16 < m then .error 3 else entT xs (A2 + 2) nm d m := by rw [hR, entS, if_neg (by rw [H.out.2.1]; exact hA), hd, hm]
                have hdl : d < 256 := by rw [← hd, List.getElem?_eq_getElem (by rw [H.out.2.1]; omega)]; exact H6.out.s1.rd.byte _ (List.getElem_mem _)
                have hml : m < 256 := by rw [← hm, List.getElem?_eq_getElem (by rw [H.out.2.1]; omega)]; exact H6.out.s1.rd.byte _ (List.getElem_mem _)
                have HD := Lib.hid (And.intro hd hm)
                have HR2 := Lib.hid hR2
                clear hR hd hm hR2
                go_wp2_with fail
                refine (byte_yes H6.out.s1.rd (by rw [H.out.2.1]; omega)).mono ?_
                rintro e w7 ⟨rfl, hto⟩
                rw [HD.out.1]
                have hS7 := H6.out.to hto
                have H7 := Lib.hid hS7
                clear hto hS7 H6
                go_wp2_with fail
                refine (byte_yes H7.out.s1.rd (by rw [H.out.2.1]; omega)).mono ?_
                rintro e w8 ⟨rfl, hto⟩
                rw [HD.out.2]
                have hS8 := H7.out.to hto
                have b0 := hS8.s1.bx.a0; have b1 := hS8.s1.bx.a1; have b2 := hS8.s1.bx.a2; have f0 := hS8.s1.bx.fr 0; have f1 := hS8.s1.bx.fr 1; have f2 := hS8.s1.bx.fr 2; have r0 := hS8.s1.rd.c0; have r1 := hS8.s1.rd.c1; have r2 := hS8.s1.rd.c2; have q1 := hS8.s1.rd.fr 1; have q2 := hS8.s1.rd.fr 2; have x0 := hS8.bx.a0; have y1 := hS8.bx.a1; have y2 := hS8.bx.a2; have v0 := hS8.bx.fr 0; have v1 := hS8.bx.fr 1; have v2 := hS8.bx.fr 2; have lX := hS8.le; have pX := hS8.s1.pl; have kX := hS8.bx.lt; have kR := hS8.s1.le; rw [H.out.2.1] at r0
                have H8 := Lib.hid hS8
                clear hto hS8 H7
                go_upto_region 14 with (fail)
                go_cut [105] (fun u wB => u = .bool (decide (d < 1 ∨ 64 < d ∨ 16 < m)) ∧ wB = w8)
                case first =>
                  by_cases p1 : d < 1
                  · go_wp2
                    go_meet
                    exact ⟨(by first | (congr 1; rw [Bool.eq_iff_iff]; simp; omega) | (congr 1; rw [Bool.eq_iff_iff]; simp; done) | (rw [decide_eq_true (by omega)]) | (rw [decide_eq_false (by omega)])), rfl⟩
                  · by_cases p2 : 64 < d
                    · have p1' : 1 ≤ d := by omega
                      clear p1
                      go_wp2
                      go_meet
                      exact ⟨(by first | (congr 1; rw [Bool.eq_iff_iff]; simp; omega) | (congr 1; rw [Bool.eq_iff_iff]; simp; done) | (rw [decide_eq_true (by omega)]) | (rw [decide_eq_false (by omega)])), rfl⟩
                    · have p1' : 1 ≤ d := by omega
                      have p2' : d ≤ 64 := by omega
                      clear p1 p2
                      by_cases p3 : 16 < m
                      · go_wp2
                        go_meet
                        exact ⟨(by first | (congr 1; rw [Bool.eq_iff_iff]; simp; omega) | (congr 1; rw [Bool.eq_iff_iff]; simp; done) | (rw [decide_eq_true (by omega)]) | (rw [decide_eq_false (by omega)])), rfl⟩
                      · go_wp2
                        go_meet
                        exact ⟨(by first | (congr 1; rw [Bool.eq_iff_iff]; simp; omega) | (congr 1; rw [Bool.eq_iff_iff]; simp; done) | (rw [decide_eq_true (by omega)]) | (rw [decide_eq_false (by omega)])), rfl⟩
                case rest =>
                  obtain ⟨rfl, rfl⟩ := hcut
                  have hR2 := HR2.out
                  clear HR2
                  by_cases hbad : d < 1 ∨ 64 < d ∨ 16 < m
                  · rw [if_pos hbad] at hR2
                    have hdb : decide (d < 1 ∨ 64 < d ∨ 16 < m) = true := decide_eq_true hbad
                    rw [hdb]
                    have HR := Lib.hid hR2
                    clear hR2 hdb hbad
                    go_wp2
                    obtain ⟨W, hW⟩ : ∃ W, W = wc := ⟨_, rfl⟩
                    rw [← hW]
                    rw [Exit.noGoto_ret]
                    have hS := H8.out.s1
                    rw [← hW] at hS
                    obtain ⟨d0, d1, d2, hg⟩ := hS.failed
                    exact bodyPost_ret (v := .tuple #[.agg #[.string ⟨#[]⟩, .int .i64 0, .slice none 0 0], .int .i64 3]) (by simp [results, Tryd.results36, go_sem, d0, d1, d2]) rfl (EntRes.bad HR.out hg)
                  · rw [if_neg hbad] at hR2
                    have hdb : decide (d < 1 ∨ 64 < d ∨ 16 < m) = false := decide_eq_false hbad
                    rw [hdb]
                    have HR := Lib.hid hR2
                    obtain ⟨hd1, hd64, hm16⟩ : 1 ≤ d ∧ d ≤ 64 ∧ m ≤ 16 := by omega
                    clear hR2 hdb hbad hdl hml HD
                    obtain ⟨A3, hA3⟩ : ∃ A3, A2 + 1 + 1 = A3 := ⟨_, rfl⟩
                    have hA3' : A2 + 2 = A3 := hA3
                    rw [hA3] at r1 H8
                    rw [hA3'] at HR
                    have hA3N : A3 ≤ N := by omega
                    clear hA3 hA3' hA h2'
                    go_upto_region 16 with (fail)
                    go_cut [107] (fun _ wE => wE = wc.setCell ⟨X, 1, none⟩ (.int .i64 (d : Int)))
                    case first =>
                      go_wp2
                      go_meet
                      exact rfl
                    case rest =>
                      subst hcut
                      have hS9 := H8.out.setX1 (.int .i64 (d : Int))
                      refine (by assumption : ∀ (a : Act) (w' : World), Code.wp Tryd.prog code17 (Exit.noGoto (bodyPost Tryd.prog Tryd.f36 (EntRes w p (some ⟨bb, oo, none⟩) c xs (entP xs at_ last)))) a w' → _) _ _ ?_
                      exact ent_rest hS9 H.out.2.1 hl hcap hd1 hd64 hm16 hA3N HR.out _ _ _ _ _ _ _ _ _ _ _ _ _ _ _ _ _ _ _ _ _ _ _ _ _ _ _ _ _ _ _ _ _ _ _ _ _ _ _ _ _ _ _ _ _ _ _ _ _ _ _ _ _ _ _ _ _ _ _ _ _ _ _ _ _ _ _ _ _ _ _ _ _ _ _ _ _ _ _ _ _ _ _ _ _ _ _ _ _ _ _ _ _ _ _ _ _ _ _ _ _ _ _ _ _ _ _ _ _ _ _ _ _ _ _ _ _ _ _ _ _ _ _ _ _ _ _ _ _ _ _ _ _ _ _ _ _ _ _ _ _ _ _ _ _ _ _ _ _ _ _ _ _ _ _ _ _ _ _ _ _ _ _ _ _ _ _ _ _ _ _ _ _ _ _ _ _ _ _ _ _ _ _ _ _ _ _ _ _ _ _ _ _ _ _ _ _ _ _ _ _ _
end Go.Proofs.YtjjjnpolhbbepaaDoor
