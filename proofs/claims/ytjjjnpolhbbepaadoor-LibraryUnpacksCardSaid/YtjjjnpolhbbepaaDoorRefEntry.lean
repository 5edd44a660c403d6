/- The reference's reading of an entry. -/
import Derived.Test.YtjjjnpolhbbepaaDoorRefEntRest
set_option linter.unusedSimpArgs false
set_option linter.unusedVariables false
namespace Go.Proofs.YtjjjnpolhbbepaaDoor
open Go.RowKit
open Plain
theorem leS_nil {x : ByteArray} (h : okName (bytesOf x) = true) : leS x ⟨#[]⟩ = false := by
  have hn := (okName_len h).1
  have h2 : (bytesOf x).length = x.toList.length := by unfold bytesOf; rw [ByteArray.toList_eq]; simp
  unfold leS
  cases hx : x.toList with
  | nil => rw [hx] at h2; rw [h2] at hn; simp at hn
  | cons a l => rw [show (⟨#[]⟩ : ByteArray).toList = [] by rw [ByteArray.toList_eq]]; simp [Go.Op.bytesLess]
set_option maxRecDepth 1000000 in
set_option maxHeartbeats 8000000 in
theorem rentry_calls {w : World} {bb oo c at_ N : Nat} {xs : List Nat} {last : Option ByteArray} {lastS : ByteArray} (hB : Byts w (some ⟨bb, oo, none⟩) xs) (hx : ∀ x ∈ xs, x < 256) (hN : xs.length = N) (hl : N ≤ 500000) (hcap : N ≤ c) (hat : at_ ≤ 500000)
    (hlast : ∀ x, last = some x → lastS = x) (hl0 : last = none → lastS = ⟨#[]⟩) :
    Calls Tryd.prog 37 #[.slice (some ⟨bb, oo, none⟩) N c, .int .i64 (at_ : Int), .string lastS] w (REntRes w (entP xs at_ last)) := by
  have H := Lib.hid (And.intro hN (And.intro hB (And.intro hx (And.intro hlast hl0))))
  have hE0 := RE.new w
  have he := entP_eq xs at_ last
  rw [hN] at he
  have HE := Lib.hid hE0
  clear hB hx hN hlast hl0 hE0
  go_enter Tryd.func37, Tryd.ntmps37
  go_upto_region 2 with (fail)
  generalize (w.alloc (.cells #[.string ⟨#[]⟩, .int .i64 0, .slice none 0 0] 46)).alloc (.cells #[.string ⟨#[]⟩, .int .i64 0, .slice none 0 0] 46) = wA at *
  by_cases h1 : N ≤ at_
  · rw [if_pos h1] at he
    have He := Lib.hid he
    have hi : (N : Int) ≤ at_ := by omega
    have b0 := HE.out.r.a0; have b1 := HE.out.r.a1; have b2 := HE.out.r.a2; have f0 := HE.out.r.fr 0; have f1 := HE.out.r.fr 1; have f2 := HE.out.r.fr 2; have x0 := HE.out.x.a0; have x1 := HE.out.x.a1; have x2 := HE.out.x.a2; have v0 := HE.out.x.fr 0; have v1 := HE.out.x.fr 1
    clear he
    go_wp2_with fail
    obtain ⟨W, hW⟩ : ∃ W, W = wA := ⟨_, rfl⟩
    rw [← hW]
    have hE := HE.out
    rw [← hW] at hE
    obtain ⟨d0, d1, d2, hg⟩ := hE.done (.string ⟨#[]⟩) (.int .i64 0) (.slice none 0 0)
    exact bodyPost_ret (v := .tuple #[.agg #[.string ⟨#[]⟩, .int .i64 0, .slice none 0 0], .int .i64 0, .int .i64 18]) (by simp [results, Tryd.results37, go_sem, d0, d1, d2]) rfl (REntRes.bad He.out hE.below hg)
  · rw [if_neg h1] at he
    have h1' : at_ < xs.length := by rw [H.out.1]; omega
    obtain ⟨_, _, e', _, hc⟩ := Byts.at_ (Row.below H.out.2.1 HE.out.below) h1'
    injection e' with e'
    injection e' with e1 e2 _
    subst e1; subst e2
    obtain ⟨n, hn⟩ : ∃ n, xs[at_]?.getD 0 = n := ⟨_, rfl⟩
    have hn2 : n < 256 := by rw [← hn, List.getElem?_eq_getElem h1']; exact H.out.2.2.1 _ (List.getElem_mem _)
    rw [hn] at hc he
    have hai : (at_ : Int) < N := by omega
    have hw1 : IntKind.i64.wrap ((at_ : Int) + 1) = (at_ : Int) + 1 := IntWalk.i64_in _ (by omega)
    have hw2 : IntKind.i64.wrap ((at_ : Int) + 1 + n) = (at_ : Int) + 1 + n := IntWalk.i64_in _ (by omega)
    by_cases h2 : N < at_ + 1 + n
    · rw [if_pos h2] at he
      have He := Lib.hid he
      have hi : (N : Int) < (at_ : Int) + 1 + n := by omega
      have b0 := HE.out.r.a0; have b1 := HE.out.r.a1; have b2 := HE.out.r.a2; have f0 := HE.out.r.fr 0; have f1 := HE.out.r.fr 1; have f2 := HE.out.r.fr 2; have x0 := HE.out.x.a0; have x1 := HE.out.x.a1; have x2 := HE.out.x.a2; have v0 := HE.out.x.fr 0; have v1 := HE.out.x.fr 1
      clear he hn h1'
      go_wp2_with fail
      obtain ⟨W, hW⟩ : ∃ W, W = wA := ⟨_, rfl⟩
      rw [← hW]
      have hE := HE.out
      rw [← hW] at hE
      obtain ⟨d0, d1, d2, hg⟩ := hE.done (.string ⟨#[]⟩) (.int .i64 0) (.slice none 0 0)
      exact bodyPost_ret (v := .tuple #[.agg #[.string ⟨#[]⟩, .int .i64 0, .slice none 0 0], .int .i64 0, .int .i64 18]) (by simp [results, Tryd.results37, go_sem, d0, d1, d2]) rfl (REntRes.bad He.out hE.below hg)
    · rw [if_neg h2] at he
      have hi : (at_ : Int) + 1 + n ≤ (N : Int) := by omega
      obtain ⟨nm, hnm⟩ : ∃ nm, nameOf ((xs.drop (at_ + 1)).take n) = nm := ⟨_, rfl⟩
      obtain ⟨ys, hys⟩ : ∃ ys, (xs.drop (at_ + 1)).take n = ys := ⟨_, rfl⟩
      have hbs : bytesOf nm = ys := by
        rw [← hnm, hys]
        exact bytesOf_nameOf (fun x hx => by rw [← hys] at hx; exact H.out.2.2.1 x (List.mem_of_mem_drop (List.mem_of_mem_take hx)))
      have hnz : nm.size ≤ 9223372036854775807 := by
        have h1 : (bytesOf nm).length = nm.size := by unfold bytesOf; simp
        rw [hbs, ← hys, List.length_take] at h1
        omega
      have hname := fun w => named_calls nm w hnz
      rw [entR, hnm, hys, ← hbs] at he
      obtain ⟨o1, ho1⟩ : ∃ o1, (if c = at_ + 1 then oo else oo + (at_ + 1)) = o1 := ⟨_, rfl⟩
      have hcv : (convert 23 9 (.slice (some ⟨bb, o1, none⟩) n (c - (at_ + 1)))).run Tryd.prog wA = .ok (.string nm) wA := by
        rw [← hnm, ← ho1]
        exact cut_str 23 Tryd.underlying23 (Row.below H.out.2.1 HE.out.below) (by rw [H.out.1]; omega) (by rw [H.out.1]; omega) _
      have hsl : (Instr.slice 23 (.slice (some ⟨bb, oo, none⟩) N c) (some (.int .i64 ((at_ : Int) + 1))) (some (.int .i64 ((at_ : Int) + 1 + n))) none).run Tryd.prog wA = .ok (.slice (some ⟨bb, o1, none⟩) n (c - (at_ + 1))) wA := by
        have := slice_run 23 Tryd.underlying23 bb oo N c (at_ + 1) (at_ + 1 + n) (by omega) (by omega) ((at_ : Int) + 1) ((at_ : Int) + 1 + n) (by omega) (by omega) wA
        rw [ho1, show at_ + 1 + n - (at_ + 1) = n by omega] at this
        exact this
      have HN := Lib.hid hname
      have He := Lib.hid he
      have b0 := HE.out.r.a0; have b1 := HE.out.r.a1; have b2 := HE.out.r.a2; have f0 := HE.out.r.fr 0; have f1 := HE.out.r.fr 1; have f2 := HE.out.r.fr 2; have x0 := HE.out.x.a0; have x1 := HE.out.x.a1; have x2 := HE.out.x.a2; have v0 := HE.out.x.fr 0; have v1 := HE.out.x.fr 1
      clear he hn h1' hnm hys hbs hname ho1 b0 b1 b2 f0 f1 f2
      go_upto_region 8 with (fail)
      have hE := HE.out.setX0 (.string nm)
      clear hcv hsl x0 x1 x2 v0 v1 hc
      generalize wA.setCell ⟨w.heap.size + 1, 0, none⟩ (.string nm) = wB at *
      replace HE := Lib.hid hE
      clear hE
      have b0 := HE.out.r.a0; have b1 := HE.out.r.a1; have b2 := HE.out.r.a2; have f0 := HE.out.r.fr 0; have f1 := HE.out.r.fr 1; have f2 := HE.out.r.fr 2; have x0 := HE.out.x.a0; have x1 := HE.out.x.a1; have x2 := HE.out.x.a2; have v0 := HE.out.x.fr 0; have v1 := HE.out.x.fr 1
      cases hok : okName (bytesOf nm)
      · have hR : entP xs at_ last = .error 17 := by rw [He.out, if_pos hok]
        have HR := Lib.hid hR
        rw [hok] at HN
        clear hR hok
        go_wp2_with (go_at_call 33; refine (HN.out _).mono ?_; rintro e w' ⟨rfl, hw⟩; subst hw)
        obtain ⟨W, hW⟩ : ∃ W, W = wB := ⟨_, rfl⟩
        rw [← hW]
        have hE := HE.out
        rw [← hW] at hE
        obtain ⟨d0, d1, d2, hg⟩ := hE.done (.string nm) (.int .i64 0) (.slice none 0 0)
        exact bodyPost_ret (v := .tuple #[.agg #[.string nm, .int .i64 0, .slice none 0 0], .int .i64 0, .int .i64 17]) (by simp [results, Tryd.results37, go_sem, d0, d1, d2]) rfl (REntRes.bad HR.out hE.below hg)
      · rw [hok] at HN
        have hle : ∀ b : Bool, leS nm lastS = b → (last.any fun l => leS nm l) = b := fun b hb => by
          cases hl9 : last with
          | none =>
            have := H.out.2.2.2.2 hl9
            rw [this, leS_nil hok] at hb
            simpa using hb
          | some l =>
            have := H.out.2.2.2.1 l hl9
            rw [this] at hb
            simpa using hb
        have hrl := fun W => run_leq nm lastS W
        cases hlb : leS nm lastS
        · have he2 := He.out
          rw [if_neg (by simp [hok]), if_neg (by rw [hle _ hlb]; simp)] at he2
          rw [hlb] at hrl
          have hNN := H.out.1
          rw [entS, hNN] at he2
          by_cases h3 : N < at_ + 1 + n + 2
          · rw [if_pos h3] at he2
            have HR := Lib.hid he2
            have hi2 : (N : Int) < (at_ : Int) + 1 + n + 2 := by omega
            have hw3 : IntKind.i64.wrap ((at_ : Int) + 1 + n + 2) = (at_ : Int) + 1 + n + 2 := IntWalk.i64_in _ (by omega)
            clear he2 hok hlb hle hNN
            go_wp2_with (go_at_call 33; refine (HN.out _).mono ?_; rintro e w' ⟨rfl, hw⟩; subst hw)
            obtain ⟨W, hW⟩ : ∃ W, W = wB := ⟨_, rfl⟩
            rw [← hW]
            have hE := HE.out
            rw [← hW] at hE
            obtain ⟨d0, d1, d2, hg⟩ := hE.done (.string nm) (.int .i64 0) (.slice none 0 0)
            exact bodyPost_ret (v := .tuple #[.agg #[.string nm, .int .i64 0, .slice none 0 0], .int .i64 0, .int .i64 18]) (by simp [results, Tryd.results37, go_sem, d0, d1, d2]) rfl (REntRes.bad HR.out hE.below hg)
          · rw [if_neg h3] at he2
            obtain ⟨A2, hA2⟩ : ∃ A2, at_ + 1 + n = A2 := ⟨_, rfl⟩
            rw [hA2] at he2 h3
            have hA2i : (at_ : Int) + 1 + n = (A2 : Int) := by omega
            have hi2 : (A2 : Int) + 2 ≤ (N : Int) := by omega
            have hi3 : (A2 : Int) < (N : Int) := by omega
            have hi4 : (A2 : Int) + 1 < (N : Int) := by omega
            have hw3 : IntKind.i64.wrap ((A2 : Int) + 2) = (A2 : Int) + 2 := IntWalk.i64_in _ (by omega)
            have hw4 : IntKind.i64.wrap ((A2 : Int) + 1) = (A2 : Int) + 1 := IntWalk.i64_in _ (by omega)
            have hw5 : ((A2 : Int) + 1).toNat = A2 + 1 := by omega
            have hw6 : (0 : Int) ≤ (A2 : Int) + 1 := by omega
            obtain ⟨_, _, e', _, hc1⟩ := Byts.at_ (k := A2) (Row.below H.out.2.1 HE.out.below) (by rw [hNN]; omega)
            injection e' with e'
            injection e' with e1 e2 _
            subst e1; subst e2
            obtain ⟨_, _, e', hbl2, hc2⟩ := Byts.at_ (k := A2 + 1) (Row.below H.out.2.1 HE.out.below) (by rw [hNN]; omega)
            injection e' with e'
            injection e' with e1 e2 _
            subst e1; subst e2
            obtain ⟨d, hd⟩ : ∃ d, xs[A2]?.getD 0 = d := ⟨_, rfl⟩
            obtain ⟨m, hm⟩ : ∃ m, xs[A2 + 1]?.getD 0 = m := ⟨_, rfl⟩
            have hd2 : d < 256 := by rw [← hd, List.getElem?_eq_getElem (by rw [hNN]; omega)]; exact H.out.2.2.1 _ (List.getElem_mem _)
            have hm2 : m < 256 := by rw [← hm, List.getElem?_eq_getElem (by rw [hNN]; omega)]; exact H.out.2.2.1 _ (List.getElem_mem _)
            rw [hd] at hc1 he2
            rw [hm] at hc2 he2
            have HR := Lib.hid (And.intro he2 (And.intro hc2 hbl2))
            have HC1 := Lib.hid hc1
            clear he2 hok hlb hle hd hm hc2 hw1
            rw [hA2i] at hi
            go_upto_region 14 with (go_at_call 33; refine (HN.out _).mono ?_; rintro e w' ⟨rfl, hw⟩; subst hw)
            go_upto_region 15 with (fail)
            have hE := HE.out.setX1 (.int .i64 (d : Int))
            have hne : ¬ w.heap.size + 1 = bb := fun e => by have := HR.out.2.2; have := block_lt_of_cell HC1.out; simp only at this; rw [← e] at this; exact absurd rfl (fun _ : (0:Nat) = 0 => by
              have hbw : bb < w.heap.size := by
                obtain ⟨_, _, e', hb9, _⟩ := Byts.at_ (k := A2) H.out.2.1 (by rw [hNN]; omega)
                injection e' with e'
                injection e' with e1 e2 _
                omega
              omega)
            have hc2 : (wB.setCell ⟨w.heap.size + 1, 1, none⟩ (.int .i64 (d : Int))).cell? ⟨bb, oo + (A2 + 1), none⟩ = some (.int .u8 (m : Int)) := (World.cell?_setCell_other _ _ _ _ (by intro e'; simp only [Addr.mk.injEq] at e'; exact hne e'.1)).trans HR.out.2.1
            clear x0 x1 x2 v0 v1 hc1 hne b0 b1 b2 f0 f1 f2
            generalize wB.setCell ⟨w.heap.size + 1, 1, none⟩ (.int .i64 (d : Int)) = wC at *
            replace HE := Lib.hid hE
            clear hE
            have b0 := HE.out.r.a0; have b1 := HE.out.r.a1; have b2 := HE.out.r.a2; have f0 := HE.out.r.fr 0; have f1 := HE.out.r.fr 1; have f2 := HE.out.r.fr 2; have x0 := HE.out.x.a0; have x1 := HE.out.x.a1; have x2 := HE.out.x.a2; have v0 := HE.out.x.fr 0; have v1 := HE.out.x.fr 1
            have hr2 := HR.out.1
            by_cases h4 : d < 1 ∨ 64 < d ∨ 16 < m
            · rw [if_pos h4] at hr2
              have HR3 := Lib.hid hr2
              clear hr2
              by_cases k1 : d < 1
              · have k1i : (d : Int) < 1 := by omega
                clear h4
                go_wp2_with fail
                obtain ⟨W, hW⟩ : ∃ W, W = wC := ⟨_, rfl⟩
                rw [← hW]
                have hE := HE.out
                rw [← hW] at hE
                obtain ⟨d0, d1, d2, hg⟩ := hE.done (.string nm) (.int .i64 (d : Int)) (.slice none 0 0)
                exact bodyPost_ret (v := .tuple #[.agg #[.string nm, .int .i64 (d : Int), .slice none 0 0], .int .i64 0, .int .i64 3]) (by simp [results, Tryd.results37, go_sem, d0, d1, d2]) rfl (REntRes.bad HR3.out hE.below hg)
              · have k1i : (1 : Int) ≤ d := by omega
                by_cases k2 : 64 < d
                · have k2i : (64 : Int) < d := by omega
                  clear h4
                  go_wp2_with fail
                  obtain ⟨W, hW⟩ : ∃ W, W = wC := ⟨_, rfl⟩
                  rw [← hW]
                  have hE := HE.out
                  rw [← hW] at hE
                  obtain ⟨d0, d1, d2, hg⟩ := hE.done (.string nm) (.int .i64 (d : Int)) (.slice none 0 0)
                  exact bodyPost_ret (v := .tuple #[.agg #[.string nm, .int .i64 (d : Int), .slice none 0 0], .int .i64 0, .int .i64 3]) (by simp [results, Tryd.results37, go_sem, d0, d1, d2]) rfl (REntRes.bad HR3.out hE.below hg)
                · have k2i : (d : Int) ≤ 64 := by omega
                  have k3i : (16 : Int) < m := by omega
                  clear h4
                  go_wp2_with fail
                  obtain ⟨W, hW⟩ : ∃ W, W = wC := ⟨_, rfl⟩
                  rw [← hW]
                  have hE := HE.out
                  rw [← hW] at hE
                  obtain ⟨d0, d1, d2, hg⟩ := hE.done (.string nm) (.int .i64 (d : Int)) (.slice none 0 0)
                  exact bodyPost_ret (v := .tuple #[.agg #[.string nm, .int .i64 (d : Int), .slice none 0 0], .int .i64 0, .int .i64 3]) (by simp [results, Tryd.results37, go_sem, d0, d1, d2]) rfl (REntRes.bad HR3.out hE.below hg)
            · rw [if_neg h4] at hr2
              have k1i : (1 : Int) ≤ d := by omega
              have k2i : (d : Int) ≤ 64 := by omega
              have k3i : (m : Int) ≤ 16 := by omega
              have HR3 := Lib.hid hr2
              clear hr2
              go_upto_if 89 with (fail)
              go_cut [7, 8] (fun u7 u8 wx => u7 = .int .i64 0 ∧ u8 = .int .i64 0 ∧ wx = wC)
              case first =>
                go_wp2
                go_meet
                exact ⟨rfl, rfl, rfl⟩
              case rest =>
                obtain ⟨rfl, rfl, rfl⟩ := hcut
                refine (by assumption : ∀ (a : Act) (w' : World), Code.wp Tryd.prog code37 (bodyPost Tryd.prog Tryd.f37 (REntRes w (entP xs at_ last))) a w' → _) _ _ ?_
                rw [show (A2 : Int) + 2 = ((A2 + 2 : Nat) : Int) by omega]
                exact rent_rest (at_ := (at_ : Int)) (lastS := lastS) HE.out H.out.2.1 H.out.2.2.1 hNN hl hcap (by omega) (by omega) (by omega) (show A2 + 2 ≤ N by omega) HR3.out _ _ _ _ _ _ _ _ _ _ _ _ _ _ _ _ _ _ _ _ _ _ _ _ _ _ _ _ _ _ _ _ _ _ _ _ _ _ _ _ _ _ _ _ _ _ _ _ _ _ _ _ _ _ _ _ _ _ _ _ _ _ _ _ _ _ _ _ _ _ _ _ _ _ _ _ _ _ _ _ _ _ _ _ _ _ _ _ _ _ _ _ _ _ _ _ _ _ _ _ _ _ _ _ _ _ _ _ _ _ _ _ _ _ _ _ _ _ _ _ _ _ _ _ _ _ _ _ _ _ _ _ _ _ _ _ _ _ _ _ _ _ _ _ _ _ _ _ _ _ _ _ _ _ _ _ _ _ _ _ _ _ _ _ _ _ _ _ _ _ _ _ _ _ _ _ _ _ _ _ _ _ _ _ _ _ _ _ _ _ _ _ _ _ _
        · have hR : entP xs at_ last = .error 9 := by rw [He.out, if_neg (by simp [hok]), if_pos (hle _ hlb)]
          have HR := Lib.hid hR
          rw [hlb] at hrl
          clear hR hok hlb hle
          go_wp2_with (go_at_call 33; refine (HN.out _).mono ?_; rintro e w' ⟨rfl, hw⟩; subst hw)
          obtain ⟨W, hW⟩ : ∃ W, W = wB := ⟨_, rfl⟩
          rw [← hW]
          have hE := HE.out
          rw [← hW] at hE
          obtain ⟨d0, d1, d2, hg⟩ := hE.done (.string nm) (.int .i64 0) (.slice none 0 0)
          exact bodyPost_ret (v := .tuple #[.agg #[.string nm, .int .i64 0, .slice none 0 0], .int .i64 0, .int .i64 9]) (by simp [results, Tryd.results37, go_sem, d0, d1, d2]) rfl (REntRes.bad HR.out hE.below hg)
end Go.Proofs.YtjjjnpolhbbepaaDoor
