/- Complement: the program's, and the reference's. · Complement, the reference's. · Word: the program's. · Word: the reference's. -/
import Derived.Test.YtifkieopaoooeaaGreatDoorMoveA
import Derived.BigRegion
set_option linter.unusedSimpArgs false
set_option linter.unusedVariables false
namespace Go.Proofs.YtifkieopaoooeaaGreatDoor
open Go.RowKit Plain PlainG
def notAdj (es : List E2) (i k : Nat) : Bool := !adj es i k
theorem rowsF_at {w : World} {G n : Nat} {f : Nat → Nat → Int} (h : Rows w (some ⟨G, 0, none⟩) (matF n f)) {i k : Nat} (hi : i < n) (hk : k < n) :
    ∃ rb ro rc, w.cell? ⟨G, i, none⟩ = some (.slice (some ⟨rb, ro, none⟩) n rc) ∧ w.cell? ⟨rb, ro + k, none⟩ = some (.int .i64 (f i k)) := by
  obtain ⟨g, o, bb, cc, ea, hg, hcell, hrow⟩ := h.at_ (k := i) (by rw [(matF_isMat n f).1]; exact hi)
  injection ea with ea
  injection ea with e1 e2
  subst e1; subst e2
  rw [matF_row hi] at hcell hrow
  obtain ⟨rb, ro, rfl, _, h2⟩ := hrow.at_ (k := k) (by simpa using hk)
  rw [Nat.zero_add] at hcell
  simp only [List.length_map, List.length_range] at hcell
  refine ⟨rb, ro, cc, hcell, ?_⟩
  rw [h2]
  simp [hk]
set_option maxRecDepth 100000 in
set_option maxHeartbeats 8000000 in
theorem gcompl_calls {w : World} {a b : Option Addr} {c d : Nat} {g : Gr} (he : Edg w a g.es) (hc : Ints w b g.cs) :
    Calls Tryz.prog 37 #[.agg #[.int .i64 g.n, .slice a g.es.length c, .slice b g.cs.length d]] w fun r w' => MakeRes w (complA g) r w' := by
  obtain ⟨i0, hi, hz0, hz1, hz2⟩ := info_parts Tryz.info103
  have I := Lib.hid (And.intro hi (And.intro hz0 (And.intro hz1 hz2)))
  clear hi hz0 hz1 hz2
  obtain ⟨W1, hW1, hb1, hs1, hres⟩ := two_graphs (w := w) (.int .i64 g.n) (.slice a g.es.length c) (.slice b g.cs.length d)
  have K27 := gcheck_calls (c := c) (d := d) (he.below hb1) (hc.below hb1)
  obtain ⟨z, hz⟩ : ∃ z, complA g = z := ⟨_, rfl⟩
  rw [hz]
  obtain ⟨E, hE⟩ : ∃ E, chkGr g = E := ⟨_, rfl⟩
  rw [hE] at K27
  obtain ⟨R, hR⟩ : ∃ R, w.heap.size = R := ⟨_, rfl⟩
  rw [hR] at hres hb1 hs1
  have hm : ∀ w2, Below W1.heap.size W1 w2 → Below (R + 2) W1 w2 := fun w2 h => h.mono (by omega)
  obtain ⟨x0, x1, x2, x3, _, _⟩ := hres W1 (Below.refl _ _)
  have x4 := zres_cells x3
  obtain ⟨s0, s1, s2, s3⟩ := x4
  have s30 := s3 0
  have s31 := s3 1
  have s32 := s3 2
  obtain ⟨L, hL⟩ : ∃ L, g.es.length = L := ⟨_, rfl⟩
  obtain ⟨M, hM⟩ : ∃ M, g.cs.length = M := ⟨_, rfl⟩
  by_cases hE0 : E = 0
  · obtain ⟨N, hN, hN24, hel, hev, hcl⟩ := chk_edges (hE.trans hE0)
    have hz0 : z = (⟨(N : Int), canon N (notAdj g.es), g.cs⟩, 0) := by rw [← hz]; unfold complA; rw [if_neg (by rw [hE]; simpa using hE0), hN, Int.toNat_natCast]; rfl
    have K78 := fun (w' : World) (h : Below R w w') => gmatrix_calls (w := w') (c := c) (b := b) (d := d) (L := g.es.length) (M := N) (n := N) (he.below (by rw [hR]; exact h)) rfl (by omega) (fun x hx => by have := hev x hx; omega)
    rw [hcl] at hM
    subst hM
    rw [hN] at K27 hres hW1 x0 ⊢
    rw [hL] at K27 hres hW1 x1 K78 ⊢
    rw [hcl] at K27 hres hW1 x2 ⊢
    have H := Lib.hid (And.intro K27 (And.intro K78 (And.intro hres (And.intro hz0 (And.intro hm (And.intro hc (And.intro hcl hR)))))))
    have HW := Lib.hid hW1
    clear K27 K78 hres hz0 hm hW1 hz hE hN hev hcl he hc hL s3 hs1 x3 hel hR
    subst hE0
    go_enter Tryz.func37, Tryz.ntmps37
    go_upto_region 1 with (fail)
    rw [H.out.2.2.2.2.2.2.2, ← HW.out]
    clear HW
    go_wp2_with (first
      | (go_at_call 27; refine H.out.1.mono ?_; rintro e w2 ⟨rfl, hw2⟩; have hw2' := H.out.2.2.2.2.1 _ hw2; obtain ⟨x0, x1, x2, x3, x4, x5⟩ := H.out.2.2.1 _ hw2'; have HA := Lib.hid (And.intro x4 hw2'); clear hw2 x3 x4 s0 s1 s2 s30 s31 s32 hw2')
      | (go_at_call 78; refine (H.out.2.1 _ HA.out.1).mono ?_; rintro e w3 ⟨G, mc, rfl, hmat, hw3⟩; have hw3' := HA.out.2.trans (hw3.mono x5); obtain ⟨x0, x1, x2, x3, x4, x5⟩ := H.out.2.2.1 _ hw3'; have HB := Lib.hid (And.intro (hmat.rowsF (by omega)) (And.intro x4 hw3')); clear hw3 x3 x4 hw3' hmat))
    obtain ⟨B3, hB3⟩ : ∃ B3, w3.heap.size = B3 := ⟨_, rfl⟩
    have x6 : R + 2 ≤ B3 := by omega
    have HB3 := Lib.hid hB3
    clear hB3 x5
    go_loopw [6, 19] (fun lv i wi => ∃ (k : Nat), k ≤ N ∧ i = .int .i64 (k : Int) ∧ OwnE wi B3 103 lv (upto N (notAdj g.es) k 0) ∧ Below B3 w3 wi) (fun _ i _ => N - (intOf i).toNat)
    case atStart => exact ⟨0, Nat.zero_le _, rfl, by rw [upto_start]; exact OwnE.nil _ _ _, Below.refl _ _⟩
    case round =>
      obtain ⟨k, hk, rfl, hU, hb⟩ := hrel
      have hbW := HB.out.2.2.trans (hb.mono x6)
      obtain ⟨f0, f1, f2, f3, f4, f5⟩ := H.out.2.2.1 _ hbW
      by_cases hlt : k < N
      · have hkN : (k : Int) < N := by omega
        have hkw : IntKind.i64.wrap ((k : Int) + 1) = (k : Int) + 1 := IntWalk.i64_in _ (by omega)
        rw [← upto_row] at hU
        obtain ⟨wo, hwo⟩ : ∃ wo, wo = wr := ⟨_, rfl⟩
        subst hwo
        have HX := Lib.hid (And.intro hU hb)
        clear hU hb hbW f3 f4 f5 f1 f2 x0 x1 x2
        go_wp2
        go_loopw [6, 8] (fun lv i wi => ∃ (j : Nat), k < j ∧ j ≤ N ∧ i = .int .i64 (j : Int) ∧ OwnE wi B3 103 lv (upto N (notAdj g.es) k j) ∧ Below B3 w3 wi) (fun _ i _ => N - (intOf i).toNat)
        case atStart => exact ⟨k + 1, by omega, by omega, by go_num, HX.out.1, HX.out.2⟩
        case round =>
          obtain ⟨j, hj0, hj, rfl, hU, hb⟩ := hrel
          have hbW := HB.out.2.2.trans (hb.mono x6)
          obtain ⟨f0, f1, f2, f3, f4, f5⟩ := H.out.2.2.1 _ hbW
          have hb0 : Below w3.heap.size w3 wr := by rw [HB3.out]; exact hb
          by_cases hlt2 : j < N
          · have hjN : (j : Int) < N := by omega
            obtain ⟨rb, ro, rc, g1, g2⟩ := rowsF_at (HB.out.1.below hb0) hlt hlt2
            cases hA : adj g.es k j
            · have hv : adjF g.es k j = 0 := by unfold adjF; rw [hA]; rfl
              rw [hv] at g2
              obtain ⟨av, cv, hvv⟩ := hU.any_form
              obtain ⟨Lu, hLu⟩ : ∃ Lu, (upto N (notAdj g.es) k j).length = Lu := ⟨_, rfl⟩
              have hLb : Lu ≤ 576 := by have := upto_len N (notAdj g.es) k j; have : N * N ≤ 24 * 24 := Nat.mul_le_mul hN24 hN24; omega
              rw [hLu] at hvv
              subst hvv
              have hy := upto_yes (f := notAdj g.es) hj0 hlt2 (by unfold notAdj; rw [hA]; rfl)
              have HY := Lib.hid (And.intro hU (And.intro hb (And.intro hLu hy)))
              have hsz : B3 ≤ wr.heap.size := by have := hb.size; have := HB3.out; omega
              clear hU hb hbW hLu hy hb0 hA hv f1 f2 f3 f4 f5
              go_wp2_with (at_builtin; refine appE rfl (.tmp 38) (.tmp 42) 101 103 rfl i0 _ 16 Tryz.underlying101 I.out.1 I.out.2.1 I.out.2.2.1 I.out.2.2.2 rfl (by omega) B3 (.slice av Lu cv) (upto N (notAdj g.es) k j) Lu rfl (HY.out.1.alloc _) HY.out.2.2.1 _ 1 ((k : Int), (j : Int)) rfl (pair_new _ _ _ _).1 (pair_new _ _ _ _).2 (by omega) (by simp; omega) ?_; intro G9 cap w6 k2 k3 k4 k5 k6 k7; have HZ := Lib.hid (And.intro k2 (((HY.out.2.1).alloc hsz _).grown k3 (by simp; omega) (fun g hg => (HY.out.1.block_lt hg).2))); clear k2 k3 k4 k5 k6 k7)
              exact ⟨⟨j + 1, by omega, by omega, by go_num, by rw [HY.out.2.2.2]; exact HZ.out.1, HZ.out.2⟩, by simp [intOf]; omega⟩
            · have hv : adjF g.es k j = 1 := by unfold adjF; rw [hA]; rfl
              rw [hv] at g2
              have hy := upto_no (n := N) (i := k) (k := j) (f := notAdj g.es) (by unfold notAdj; rw [hA]; rfl)
              rw [← hy] at hU
              have HY := Lib.hid (And.intro hU hb)
              clear hU hb hbW hy hb0 hA hv f1 f2 f3 f4 f5
              go_wp2
              exact ⟨⟨j + 1, by omega, by omega, by go_num, HY.out.1, HY.out.2⟩, by simp [intOf]; omega⟩
          · have hy := upto_next N (notAdj g.es) k (k := j) (by omega)
            rw [← hy] at hU
            have HY := Lib.hid (And.intro hU hb)
            clear hU hb hbW hy hb0 f1 f2 f3 f4 f5
            go_wp2
            exact ⟨⟨k + 1, by omega, by go_num, HY.out.1, HY.out.2⟩, by simp [intOf]; omega⟩
      · obtain rfl : k = N := by omega
        rw [upto_end _ _ (Nat.le_refl _)] at hU
        obtain ⟨ts, hts⟩ : ∃ ts, canon k (notAdj g.es) = ts := ⟨_, rfl⟩
        have htl : ts.length ≤ 576 := by have := canon_len k (notAdj g.es); have : k * k ≤ 24 * 24 := Nat.mul_le_mul hN24 hN24; rw [← hts]; omega
        rw [hts] at hU
        obtain ⟨av, cv, hvv⟩ := hU.any_form
        subst hvv
        have hsz : B3 ≤ wr.heap.size := by have := hb.size; have := HB3.out; omega
        have K70 := built_calls (w := wr) (D := B3) (N := k) (ts := ts) (c := cv) (a := av) (d := d) (cs := g.cs) (b := b) hU (by omega) (fun w' hg' => H.out.2.2.2.2.2.1.below (by rw [H.out.2.2.2.2.2.2.2]; exact f4.grown hg' (by omega) (fun g hg => by have := (hU.block_lt hg).2; omega))) (by rw [H.out.2.2.2.2.2.2.1]; omega) hsz
        obtain ⟨LT, hLT⟩ : ∃ LT, ts.length = LT := ⟨_, rfl⟩
        rw [hLT, H.out.2.2.2.2.2.2.1] at K70
        rw [hLT]
        have hfin := fun es' (h1 : Srt es') (h2 : ∀ x, x ∈ es' ↔ x ∈ ts) => srt_uniq h1 (hts ▸ canon_srt k (notAdj g.es) : Srt ts) h2
        obtain ⟨s0, s1, s2, s3⟩ := zres_cells f3
        have s30 := s3 0
        have s31 := s3 1
        have s32 := s3 2
        have hzr : ∀ w7, Below B3 wr w7 → w7.heap[R + 1]? = some (.cells #[.int .i64 0, .slice none 0 0, .slice none 0 0] 25) := fun w7 h => (h.block (R + 1) (by omega)).trans f3
        have HQ := Lib.hid (And.intro K70 (And.intro hzr (And.intro f4 (And.intro hfin hts))))
        clear K70 hzr hfin hts f3 f4 hU hb hbW s3 hLT
        go_wp2_with (go_at_call 70; refine HQ.out.1.mono ?_; rintro e w7 ⟨a1, c1, b1, d1, es', rfl, q1, q2, q3, q4, q5, q6⟩; have h7 := HQ.out.2.1 _ q6; obtain ⟨v0, v1, v2, v3⟩ := zres_cells h7; have v30 := v3 0; have v31 := v3 1; have v32 := v3 2; have HY := Lib.hid (And.intro q1 (And.intro q2 (And.intro q3 (And.intro q4 (And.intro q5 (And.intro q6 h7)))))); clear q1 q2 q3 q4 q5 q6 h7 v3)
        obtain ⟨W, hW, y0, y1, y2, y3, y4⟩ := res_out (.int .i64 (k : Int)) (.slice a1 es'.length c1) (.slice b1 k d1) HY.out.2.2.2.2.2.2
        rw [← hW]
        refine bodyPost_ret (v := .tuple #[.agg #[.int .i64 k, .slice a1 es'.length c1, .slice b1 k d1], .int .i64 0]) (by simp [results, Tryz.results37, go_sem, y0, y1, y2]) rfl ?_
        have hEW : OwnE W wr.heap.size 69 (.slice a1 es'.length c1) es' := ownsRow_block HY.out.2.2.2.1 fun g hg => y4 g (by have := (HY.out.2.2.2.1.block_lt hg).2; omega)
        have hUW : Own W wr.heap.size (.slice b1 k d1) 3 (ints g.cs) := ownsRow_block HY.out.2.2.2.2.1 fun g hg => y4 g (by have := (HY.out.2.2.2.2.1.block_lt hg).2; omega)
        have hes := HQ.out.2.2.2.1 es' HY.out.1 HY.out.2.1
        rw [H.out.2.2.2.1, HQ.out.2.2.2.2, ← hes]
        refine ⟨a1, c1, b1, d1, by simp only [H.out.2.2.2.2.2.2.1], hEW.edg (by have := HY.out.2.2.1; omega), hUW.toInts (by rw [H.out.2.2.2.2.2.2.1]; unfold maxLen; omega), ?_⟩
        rw [H.out.2.2.2.2.2.2.2]
        exact (HQ.out.2.2.1.trans (HY.out.2.2.2.2.2.1.mono (by omega))).trans (y3.mono (by omega))
  · have hz0 : z = (⟨0, [], []⟩, E) := by rw [← hz]; unfold complA; rw [if_pos (by rw [hE]; exact hE0), hE]; rfl
    have hEn : (E != 0) = true := by simp [hE0]
    obtain ⟨N, hN⟩ : ∃ N, g.n = N := ⟨_, rfl⟩
    rw [hN] at K27 hres hW1 x0 ⊢
    rw [hL] at K27 hres hW1 x1 ⊢
    rw [hM] at K27 hres hW1 x2 ⊢
    have H := Lib.hid (And.intro K27 (And.intro hres (And.intro hz0 (And.intro hm hR))))
    have HW := Lib.hid hW1
    clear K27 hres hz0 hm hW1 hz hE hN he hc hL hM s3 hs1 x3 hE0 hR
    go_enter Tryz.func37, Tryz.ntmps37
    go_upto_region 1 with (fail)
    rw [H.out.2.2.2.2, ← HW.out]
    go_wp2_with (go_at_call 27; refine H.out.1.mono ?_; rintro e w2 ⟨rfl, hw2⟩; obtain ⟨x0, x1, x2, x3, x4, x5⟩ := H.out.2.1 _ (H.out.2.2.2.1 _ hw2); obtain ⟨s0, s1, s2, s3⟩ := zres_cells x3; have s30 := s3 0; have s31 := s3 1; have s32 := s3 2; have HA := Lib.hid (And.intro x4 x3); clear hw2 x3 x4 s3)
    obtain ⟨W, hW, y0, y1, y2, y3, y4⟩ := res_out (.int .i64 0) (.slice none 0 0) (.slice none 0 0) HA.out.2
    rw [← hW]
    exact bodyPost_ret (v := .tuple #[.agg #[.int .i64 0, .slice none 0 0, .slice none 0 0], .int .i64 E]) (by simp [results, Tryz.results37, go_sem, y0, y1, y2]) rfl (MakeRes.bad H.out.2.2.1 (by rw [H.out.2.2.2.2]; exact HA.out.1.trans (y3.mono (by omega))))
end Go.Proofs.YtifkieopaoooeaaGreatDoor

namespace Go.Proofs.YtifkieopaoooeaaGreatDoor
open Go.RowKit Plain PlainG
def OfNil (w : World) (e : Ending) (w' : World) : Prop := ∃ b1 d1, e = .returned (.agg #[.int .i64 0, .slice none 0 0, .slice b1 0 d1]) ∧ Own w' w.heap.size (.slice b1 0 d1) 3 (ints []) ∧ Below w.heap.size w w'
theorem of_nil {w : World} {G c d : Nat} :
    Calls Tryz.prog 74 #[.slice (some ⟨G, 0, none⟩) 0 c, .slice none 0 d] w (OfNil w) := by
  go_enter Tryz.func74, Tryz.ntmps74
  go_wp2
  go_loop [6] (fun i => i = .int .i64 0) (fun _ => 0)
  case atStart => rfl
  case round =>
    subst hrel
    go_wp2
    refine bodyPost_ret (v := .agg #[.int .i64 0, .slice none 0 0, .slice (some ⟨w.heap.size + 1, 0, none⟩) 0 0]) (by simp [results, Tryz.results74, go_sem]) rfl ⟨_, _, rfl, ?_, (((Below.refl _ _).alloc (Nat.le_refl _) _).alloc (by simp) _).alloc (by simp; omega) _⟩
    have h := (Own.new (w := w.alloc (.cells #[.int .i64 0, .slice none 0 0, .slice (some ⟨w.heap.size + 1, 0, none⟩) 0 0] 25)) (B := w.heap.size) 3 [] (by simp) (Nat.zero_le _)).alloc (.cells #[.int .i64 0, .slice none 0 0, .slice (some ⟨w.heap.size + 1, 0, none⟩) 0 0] 25)
    have e : (w.alloc (.cells #[.int .i64 0, .slice none 0 0, .slice (some ⟨w.heap.size + 1, 0, none⟩) 0 0] 25)).heap.size = w.heap.size + 1 := by simp
    rw [e] at h
    exact h
theorem ofR_any {w : World} {G n c d : Nat} {b : Option Addr} {f : Nat → Nat → Int} {cs : List Int} (hm : Rows w (some ⟨G, 0, none⟩) (matF n f)) (hn : n ≤ 100) (hc : Ints w b cs) (hcl : cs.length = n) :
    Calls Tryz.prog 74 #[.slice (some ⟨G, 0, none⟩) n c, .slice b n d] w fun e w' => ∃ a1 c1 b1 d1, e = .returned (.agg #[.int .i64 (n : Int), .slice a1 (canon n (one f)).length c1, .slice b1 n d1]) ∧
      OwnE w' w.heap.size 69 (.slice a1 (canon n (one f)).length c1) (canon n (one f)) ∧ Own w' w.heap.size (.slice b1 n d1) 3 (ints cs) ∧ Below w.heap.size w w' := by
  cases b with
  | some ad =>
    subst hcl
    exact ofR_graph_calls (c := c) (d := d) hm hn hc (by omega)
  | none =>
    have h0 : n = 0 := by
      rcases Nat.eq_zero_or_pos n with h | h
      · exact h
      · obtain ⟨b, o, e, _⟩ := hc.at_ (k := 0) (by omega)
        cases e
    subst h0
    have hcs : cs = [] := List.eq_nil_of_length_eq_zero hcl
    subst hcs
    refine of_nil.mono ?_
    rintro e w' ⟨b1, d1, rfl, h1, h2⟩
    exact ⟨none, 0, b1, d1, rfl, OwnE.nil _ _ _, h1, h2⟩
/-- The matrix while it is turned round. -/
def flipF (es : List E2) (i k : Nat) (a b : Nat) : Int := if a < i ∨ (a = i ∧ b < k) then 1 - adjF es a b else adjF es a b
theorem flipF_step (es : List E2) (i k : Nat) : (fun a b => if a = i ∧ b = k then 1 - adjF es i k else flipF es i k a b) = flipF es i (k + 1) := by
  funext a b
  unfold flipF
  by_cases h : a = i ∧ b = k
  · obtain ⟨rfl, rfl⟩ := h
    rw [if_pos ⟨rfl, rfl⟩, if_pos (by omega)]
  · rw [if_neg h]
    by_cases h2 : a < i ∨ (a = i ∧ b < k)
    · rw [if_pos h2, if_pos (by omega)]
    · rw [if_neg h2, if_neg (by omega)]
theorem matF_cong {n : Nat} {f g : Nat → Nat → Int} (h : ∀ a b, a < n → b < n → f a b = g a b) : matF n f = matF n g := by
  unfold matF
  refine List.map_congr_left fun a ha => List.map_congr_left fun b hb => h a b (List.mem_range.1 ha) (List.mem_range.1 hb)
theorem flipF_row (es : List E2) (n i : Nat) : matF n (flipF es i n) = matF n (flipF es (i + 1) 0) := matF_cong fun a b _ hb => by
  unfold flipF
  by_cases h2 : a < i ∨ (a = i ∧ b < n)
  · rw [if_pos h2, if_pos (by omega)]
  · rw [if_neg h2, if_neg (by omega)]
theorem flipF_zero (es : List E2) : flipF es 0 0 = adjF es := by
  funext a b; unfold flipF; rw [if_neg (by omega)]
theorem flip_canon (es : List E2) (n : Nat) : canon n (one (flipF es n 0)) = canon n (notAdj es) := canon_cong fun i k _ hk => by
  unfold one flipF notAdj adjF
  rw [if_pos (by omega)]
  cases adj es i k <;> rfl
theorem adj01 (es : List E2) (i k : Nat) : IntKind.i64.wrap (1 - adjF es i k) = 1 - adjF es i k := by
  unfold adjF; split <;> exact IntWalk.i64_in _ (by omega)
set_option maxRecDepth 100000 in
set_option maxHeartbeats 8000000 in
theorem gcomplR_calls {w : World} {a b : Option Addr} {c d : Nat} {g : Gr} (he : Edg w a g.es) (hc : Ints w b g.cs) :
    Calls Tryz.prog 38 #[.agg #[.int .i64 g.n, .slice a g.es.length c, .slice b g.cs.length d]] w fun r w' => MakeRes w (complA g) r w' := by
  obtain ⟨W1, hW1, hb1, hs1, hres⟩ := two_graphs (w := w) (.int .i64 g.n) (.slice a g.es.length c) (.slice b g.cs.length d)
  have K27 := gcheckR_calls (c := c) (d := d) (he.below hb1) (hc.below hb1)
  obtain ⟨z, hz⟩ : ∃ z, complA g = z := ⟨_, rfl⟩
  rw [hz]
  obtain ⟨E, hE⟩ : ∃ E, chkGr g = E := ⟨_, rfl⟩
  rw [hE] at K27
  obtain ⟨R, hR⟩ : ∃ R, w.heap.size = R := ⟨_, rfl⟩
  rw [hR] at hres hb1 hs1
  have hm : ∀ w2, Below W1.heap.size W1 w2 → Below (R + 2) W1 w2 := fun w2 h => h.mono (by omega)
  obtain ⟨x0, x1, x2, x3, _, _⟩ := hres W1 (Below.refl _ _)
  have x4 := zres_cells x3
  obtain ⟨s0, s1, s2, s3⟩ := x4
  have s30 := s3 0
  have s31 := s3 1
  have s32 := s3 2
  obtain ⟨L, hL⟩ : ∃ L, g.es.length = L := ⟨_, rfl⟩
  obtain ⟨M, hM⟩ : ∃ M, g.cs.length = M := ⟨_, rfl⟩
  by_cases hE0 : E = 0
  · obtain ⟨N, hN, hN24, hel, hev, hcl⟩ := chk_edges (hE.trans hE0)
    have hz0 : z = (⟨(N : Int), canon N (notAdj g.es), g.cs⟩, 0) := by rw [← hz]; unfold complA; rw [if_neg (by rw [hE]; simpa using hE0), hN, Int.toNat_natCast]; rfl
    have K78 := fun (w' : World) (h : Below R w w') => gmatrixR_calls (w := w') (c := c) (b := b) (d := d) (L := g.es.length) (M := N) (n := N) (he.below (by rw [hR]; exact h)) rfl (by omega) (fun x hx => by have := hev x hx; omega)
    rw [hcl] at hM
    subst hM
    rw [hN] at K27 hres hW1 x0 ⊢
    rw [hL] at K27 hres hW1 x1 K78 ⊢
    rw [hcl] at K27 hres hW1 x2 ⊢
    have H := Lib.hid (And.intro K27 (And.intro K78 (And.intro hres (And.intro hz0 (And.intro hm (And.intro hc (And.intro hcl hR)))))))
    have HW := Lib.hid hW1
    clear K27 K78 hres hz0 hm hW1 hz hE hN hev hcl he hc hL s3 hs1 x3 hel hR
    subst hE0
    go_enter Tryz.func38, Tryz.ntmps38
    go_upto_region 1 with (fail)
    rw [H.out.2.2.2.2.2.2.2, ← HW.out]
    clear HW
    go_wp2_with (first
      | (go_at_call 28; refine H.out.1.mono ?_; rintro e w2 ⟨rfl, hw2⟩; have hw2' := H.out.2.2.2.2.1 _ hw2; obtain ⟨x0, x1, x2, x3, x4, x5⟩ := H.out.2.2.1 _ hw2'; have HA := Lib.hid (And.intro x4 hw2'); clear hw2 x3 x4 s0 s1 s2 s30 s31 s32 hw2')
      | (go_at_call 71; refine (H.out.2.1 _ HA.out.1).mono ?_; rintro e w3 ⟨G, mc, rfl, hmat, hw3⟩; have HB := Lib.hid (And.intro hmat (And.intro (HA.out.2.trans (hw3.mono x5)) (Nat.le_trans x5 (Nat.le_refl _)))); clear hw3 hmat))
    obtain ⟨B3, hB3⟩ : ∃ B3, w2.heap.size = B3 := ⟨_, rfl⟩
    rw [hB3] at HB x5
    clear hB3 x0 x1 x2
    go_loopw [6] (fun i wi => ∃ (k : Nat), k ≤ N ∧ i = .int .i64 (k : Int) ∧ OwnMat wi B3 G N mc (matF N (flipF g.es k 0)) ∧ Below (R + 2) W1 wi) (fun i _ => N - (intOf i).toNat)
    case atStart => exact ⟨0, Nat.zero_le _, rfl, by rw [flipF_zero]; exact HB.out.1, HB.out.2.1⟩
    case round =>
      obtain ⟨k, hk, rfl, hM, hb⟩ := hrel
      obtain ⟨f0, f1, f2, f3, f4, f5⟩ := H.out.2.2.1 _ hb
      by_cases hlt : k < N
      · have hkN : (k : Int) < N := by omega
        obtain ⟨wo, hwo⟩ : ∃ wo, wo = wr := ⟨_, rfl⟩
        subst hwo
        have HX := Lib.hid (And.intro hM hb)
        clear hM hb f3 f4 f5 f1 f2
        go_wp2
        go_loopw [7] (fun i wi => ∃ (j : Nat), j ≤ N ∧ i = .int .i64 (j : Int) ∧ OwnMat wi B3 G N mc (matF N (flipF g.es k j)) ∧ Below (R + 2) W1 wi) (fun i _ => N - (intOf i).toNat)
        case atStart => exact ⟨0, Nat.zero_le _, rfl, HX.out.1, HX.out.2⟩
        case round =>
          obtain ⟨j, hj, rfl, hM, hb⟩ := hrel
          obtain ⟨f0, f1, f2, f3, f4, f5⟩ := H.out.2.2.1 _ hb
          by_cases hlt2 : j < N
          · have hjN : (j : Int) < N := by omega
            obtain ⟨q1, d1, u1, e12, e13, e14, e15⟩ := hM.entry hlt hlt2
            have hfl : flipF g.es k j k j = adjF g.es k j := by unfold flipF; rw [if_neg (by omega)]
            rw [hfl] at e13
            have hwr := adj01 g.es k j
            have hM2 := hM.setF hlt u1 j (1 - adjF g.es k j)
            rw [flipF_step] at hM2
            have hb2 : Below (R + 2) W1 (wr.setCell ⟨q1, j, none⟩ (.int .i64 (1 - adjF g.es k j))) := hb.setCell (Nat.le_trans x5 e15) _
            obtain ⟨y, hy⟩ : ∃ y, adjF g.es k j = y := ⟨_, rfl⟩
            rw [hy] at e13 hwr hM2 hb2
            have HY := Lib.hid (And.intro hM2.drew hb2.drew)
            clear hM hb hfl hM2 hb2 hy f1 f2 f3 f4 f5 u1 e15
            go_wp2
            go_region
            go_wp2
            exact ⟨⟨j + 1, by omega, by go_num, HY.out.1, HY.out.2⟩, by simp [intOf]; omega⟩
          · obtain rfl : j = N := by omega
            rw [flipF_row] at hM
            have HY := Lib.hid (And.intro hM hb)
            clear hM hb f1 f2 f3 f4 f5
            go_wp2
            exact ⟨⟨k + 1, by omega, by go_num, HY.out.1, HY.out.2⟩, by simp [intOf]; omega⟩
      · obtain rfl : k = N := by omega
        have K74 := ofR_any (w := wr) (c := k) (d := d) (b := b) (hM.rowsF (by omega)) (by omega) (H.out.2.2.2.2.2.1.below (by rw [H.out.2.2.2.2.2.2.2]; exact f4)) H.out.2.2.2.2.2.2.1
        rw [flip_canon] at K74
        obtain ⟨ts, hts⟩ : ∃ ts, canon k (notAdj g.es) = ts := ⟨_, rfl⟩
        have htl : ts.length ≤ 576 := by have := canon_len k (notAdj g.es); have : k * k ≤ 24 * 24 := Nat.mul_le_mul hN24 hN24; rw [← hts]; omega
        rw [hts] at K74
        obtain ⟨s0, s1, s2, s3⟩ := zres_cells f3
        have s30 := s3 0
        have s31 := s3 1
        have s32 := s3 2
        have hzr : ∀ w7, Below wr.heap.size wr w7 → w7.heap[R + 1]? = some (.cells #[.int .i64 0, .slice none 0 0, .slice none 0 0] 25) := fun w7 h => (h.block (R + 1) (by omega)).trans f3
        have HQ := Lib.hid (And.intro K74 (And.intro hzr (And.intro f4 hts)))
        clear K74 hzr hts f3 f4 hM hb s3 f1
        go_wp2_with (go_at_call 74; refine HQ.out.1.mono ?_; rintro e w7 ⟨a1, c1, b1, d1, rfl, q4, q5, q6⟩; have h7 := HQ.out.2.1 _ q6; obtain ⟨v0, v1, v2, v3⟩ := zres_cells h7; have v30 := v3 0; have v31 := v3 1; have v32 := v3 2; have HY := Lib.hid (And.intro q4 (And.intro q5 (And.intro q6 h7))); clear q4 q5 q6 h7 v3)
        obtain ⟨W, hW, y0, y1, y2, y3, y4⟩ := res_out (.int .i64 (k : Int)) (.slice a1 ts.length c1) (.slice b1 k d1) HY.out.2.2.2
        rw [← hW]
        refine bodyPost_ret (v := .tuple #[.agg #[.int .i64 k, .slice a1 ts.length c1, .slice b1 k d1], .int .i64 0]) (by simp [results, Tryz.results38, go_sem, y0, y1, y2]) rfl ?_
        have hEW : OwnE W wr.heap.size 69 (.slice a1 ts.length c1) ts := ownsRow_block HY.out.1 fun g hg => y4 g (by have := (HY.out.1.block_lt hg).2; omega)
        have hUW : Own W wr.heap.size (.slice b1 k d1) 3 (ints g.cs) := ownsRow_block HY.out.2.1 fun g hg => y4 g (by have := (HY.out.2.1.block_lt hg).2; omega)
        rw [H.out.2.2.2.1, HQ.out.2.2.2]
        refine ⟨a1, c1, b1, d1, by simp only [H.out.2.2.2.2.2.2.1], hEW.edg (by omega), hUW.toInts (by rw [H.out.2.2.2.2.2.2.1]; unfold maxLen; omega), ?_⟩
        rw [H.out.2.2.2.2.2.2.2]
        exact (HQ.out.2.2.1.trans (HY.out.2.2.1.mono (by omega))).trans (y3.mono (by omega))
  · have hz0 : z = (⟨0, [], []⟩, E) := by rw [← hz]; unfold complA; rw [if_pos (by rw [hE]; exact hE0), hE]; rfl
    have hEn : (E != 0) = true := by simp [hE0]
    obtain ⟨N, hN⟩ : ∃ N, g.n = N := ⟨_, rfl⟩
    rw [hN] at K27 hres hW1 x0 ⊢
    rw [hL] at K27 hres hW1 x1 ⊢
    rw [hM] at K27 hres hW1 x2 ⊢
    have H := Lib.hid (And.intro K27 (And.intro hres (And.intro hz0 (And.intro hm hR))))
    have HW := Lib.hid hW1
    clear K27 hres hz0 hm hW1 hz hE hN he hc hL hM s3 hs1 x3 hE0 hR
    go_enter Tryz.func38, Tryz.ntmps38
    go_upto_region 1 with (fail)
    rw [H.out.2.2.2.2, ← HW.out]
    go_wp2_with (go_at_call 28; refine H.out.1.mono ?_; rintro e w2 ⟨rfl, hw2⟩; obtain ⟨x0, x1, x2, x3, x4, x5⟩ := H.out.2.1 _ (H.out.2.2.2.1 _ hw2); obtain ⟨s0, s1, s2, s3⟩ := zres_cells x3; have s30 := s3 0; have s31 := s3 1; have s32 := s3 2; have HA := Lib.hid (And.intro x4 x3); clear hw2 x3 x4 s3)
    obtain ⟨W, hW, y0, y1, y2, y3, y4⟩ := res_out (.int .i64 0) (.slice none 0 0) (.slice none 0 0) HA.out.2
    rw [← hW]
    exact bodyPost_ret (v := .tuple #[.agg #[.int .i64 0, .slice none 0 0, .slice none 0 0], .int .i64 E]) (by simp [results, Tryz.results38, go_sem, y0, y1, y2]) rfl (MakeRes.bad H.out.2.2.1 (by rw [H.out.2.2.2.2]; exact HA.out.1.trans (y3.mono (by omega))))
end Go.Proofs.YtifkieopaoooeaaGreatDoor

namespace Go.Proofs.YtifkieopaoooeaaGreatDoor
open Go.RowKit Plain PlainG
theorem slice_to23 (bb oo N c h : Nat) (h1 : h ≤ N) (h2 : N ≤ c) (W : World) :
    (Instr.slice 23 (.slice (some ⟨bb, oo, none⟩) N c) none (some (.int .i64 (h : Int))) none).run Tryz.prog W = .ok (.slice (some ⟨bb, oo, none⟩) h c) W := by
  obtain ⟨i3, hi3, hz3, hs3, hb3⟩ := info_parts Tryz.info3
  by_cases hc0 : c = 0
  · subst hc0
    obtain rfl : N = 0 := by omega
    obtain rfl : h = 0 := by omega
    simp [Instr.slice, run_underlying Tryz.underlying23, Instr.sliceBounds, run_sliceBound, sizeOf, typeInfo, hi3, hs3]
  · simp [Instr.slice, run_underlying Tryz.underlying23, Instr.sliceBounds, run_sliceBound, sizeOf, typeInfo, hi3, hs3, hc0, add_zero_addr, show (0:Int) ≤ h by omega, show (h:Int) ≤ c by omega, h1, h2]
def WordRes (w : World) (r : List Int × Int) (e : Ending) (w' : World) : Prop :=
  ∃ a c, e = .returned (.tuple #[.slice a r.1.length c, .int .i64 r.2]) ∧ Ints w' a r.1 ∧ Below w.heap.size w w'
theorem OwnMat.rowAt {w : World} {B g n : Nat} {cs : List Value} {f : Nat → Nat → Int} (h : OwnMat w B g n cs (matF n f)) {i : Nat} (hi : i < n) :
    ∃ q c, w.cell? ⟨g, i, none⟩ = some (.slice (some ⟨q, 0, none⟩) n c) ∧ n ≤ c ∧ ∀ j, j < n → w.cell? ⟨q, 0 + j, none⟩ = some (.int .i64 (f i j)) := by
  obtain ⟨q, c, h1, h2, _, _, _⟩ := h.entry hi hi
  refine ⟨q, c, h2, ?_, fun j hj => ?_⟩
  · have hrow := h.rows.2 i _ _ h1 (List.getElem?_eq_getElem (by rw [(matF_isMat n f).1]; exact hi))
    obtain ⟨_, _, _, _, _, hc, _⟩ := hrow.at_form (by omega)
    exact hc
  · obtain ⟨q', c', h3, _, h5, _, _⟩ := h.entry hi hj
    rw [h1] at h3
    cases h3
    rw [Nat.zero_add]; exact h5
theorem moveA_ok {g : Gr} {pl : List Int} (h : (moveA g pl).2 = 0) : ∃ N : Nat, N ≤ 24 ∧ (moveA g pl).1.n = N ∧ (∀ x ∈ (moveA g pl).1.es, 0 ≤ x.1 ∧ x.1 < x.2 ∧ x.2 < N) ∧ (moveA g pl).1.cs.length = N := by
  unfold moveA at h ⊢
  by_cases h0 : chkGr g ≠ 0
  · rw [if_pos h0] at h; exact absurd h h0
  · rw [if_neg h0] at h ⊢
    obtain ⟨N, hN, hN24, _, _, _⟩ := chk_edges (Classical.not_not.1 h0)
    by_cases hp : permB g.n pl = true
    · rw [if_pos hp]
      refine ⟨N, hN24, by simp only [movedG]; omega, fun x hx => ?_, by simp only [movedG, movTo_len]; omega⟩
      have := (chkE_srt (chkE_canon g.n.toNat (adj (g.es.map (mvE pl))))).2.1 x hx
      omega
    · rw [if_neg hp] at h; simp at h
set_option maxRecDepth 100000 in
set_option maxHeartbeats 8000000 in
theorem gword_calls {w : World} {a b p : Option Addr} {c d e : Nat} {g : Gr} {pl : List Int} (he : Edg w a g.es) (hc : Ints w b g.cs) (hp : Ints w p pl) (hpl : pl.length ≤ 1000) :
    Calls Tryz.prog 43 #[.agg #[.int .i64 g.n, .slice a g.es.length c, .slice b g.cs.length d], .slice p pl.length e] w fun r w' => WordRes w (wordA g pl) r w' := by
  obtain ⟨i3, hi3, hz3, hs3, hb3⟩ := info_parts Tryz.info3
  have I3 := Lib.hid (And.intro hi3 (And.intro hz3 (And.intro hs3 hb3)))
  clear hi3 hz3 hs3 hb3
  obtain ⟨W1, hW1⟩ : ∃ W1, W1 = w.alloc (.cells #[.int .i64 g.n, .slice a g.es.length c, .slice b g.cs.length d] 25) := ⟨_, rfl⟩
  have hb1 : Below w.heap.size w W1 := by rw [hW1]; exact (Below.refl _ _).alloc (Nat.le_refl _) _
  have x0 : W1.cell? ⟨w.heap.size, 0, none⟩ = some (.int .i64 g.n) := by rw [hW1]; simp
  have x1 : W1.cell? ⟨w.heap.size, 1, none⟩ = some (.slice a g.es.length c) := by rw [hW1]; simp
  have x2 : W1.cell? ⟨w.heap.size, 2, none⟩ = some (.slice b g.cs.length d) := by rw [hW1]; simp
  have K35 := gmove_calls (c := c) (d := d) (e := e) (he.below hb1) (hc.below hb1) (hp.below hb1) hpl
  have hA := @moveA_ok g pl
  obtain ⟨z, hz⟩ : ∃ z, wordA g pl = z := ⟨_, rfl⟩
  rw [hz]
  unfold wordA at hz
  obtain ⟨⟨h, E⟩, hm⟩ : ∃ m, moveA g pl = m := ⟨_, rfl⟩
  rw [hm] at hz K35 hA
  unfold MakeRes at K35
  simp only at hz K35 hA
  obtain ⟨L, hL⟩ : ∃ L, g.es.length = L := ⟨_, rfl⟩
  obtain ⟨M, hM⟩ : ∃ M, g.cs.length = M := ⟨_, rfl⟩
  obtain ⟨N0, hN0⟩ : ∃ N0, g.n = N0 := ⟨_, rfl⟩
  obtain ⟨Q, hQ⟩ : ∃ Q, pl.length = Q := ⟨_, rfl⟩
  rw [hN0, hL, hM, hQ] at K35 ⊢
  rw [hN0] at x0 hW1
  rw [hL] at x1 hW1
  rw [hM] at x2 hW1
  obtain ⟨L1, hL1⟩ : ∃ L1, h.es.length = L1 := ⟨_, rfl⟩
  obtain ⟨M1, hM1⟩ : ∃ M1, h.cs.length = M1 := ⟨_, rfl⟩
  rw [hL1, hM1] at K35
  have HW := Lib.hid hW1
  have hsz : W1.heap.size = w.heap.size + 1 := by rw [hW1]; simp
  by_cases hE : E = 0
  · rw [if_neg (by simpa using hE)] at hz
    obtain ⟨N, hN24, hN, hev, hcl⟩ := hA hE
    obtain rfl : M1 = N := by rw [← hM1]; exact hcl
    rw [hN] at K35
    have hwl : z = (h.cs ++ rowsW h.es M1, 0) := by rw [← hz]; unfold wordG; rw [hN, Int.toNat_natCast]
    have K78 := fun (w' : World) (a' b' : Option Addr) (c' d' : Nat) (h1 : Edg w' a' h.es) => gmatrix_calls (w := w') (b := b') (c := c') (d := d') (L := L1) (M := M1) (n := M1) h1 hL1 (by omega) (fun x hx => by have := hev x hx; omega)
    have H := Lib.hid (And.intro K35 (And.intro K78 (And.intro hwl (And.intro hb1 (And.intro hcl hsz)))))
    subst hE
    clear K35 K78 hwl hb1 hA hz hm hW1 he hc hp hL hM hN0 hQ hL1 hM1 hN hev hcl hpl hsz
    go_enter Tryz.func43, Tryz.ntmps43
    go_upto_region 1 with (fail)
    rw [← HW.out]
    clear HW
    go_upto_region 2 with (go_at_call 35; refine H.out.1.mono ?_; rintro r w2 ⟨a1, c1, b1, d1, rfl, q1, q2, q3⟩; have HA := Lib.hid (And.intro q1 (And.intro q2 q3)); clear q1 q2 q3)
    obtain ⟨X, hX⟩ : ∃ X, w2.heap.size = X := ⟨_, rfl⟩
    obtain ⟨W3, hW3⟩ : ∃ W3, W3 = w2.alloc (.cells #[.int .i64 (M1 : Int), .slice a1 L1 c1, .slice b1 M1 d1] 25) := ⟨_, rfl⟩
    rw [← hW3]
    have hb3 : Below w2.heap.size w2 W3 := by rw [hW3]; exact (Below.refl _ _).alloc (Nat.le_refl _) _
    have y0 : W3.cell? ⟨X, 0, none⟩ = some (.int .i64 (M1 : Int)) := by rw [hW3, ← hX]; simp
    have y1 : W3.cell? ⟨X, 1, none⟩ = some (.slice a1 L1 c1) := by rw [hW3, ← hX]; simp
    have y2 : W3.cell? ⟨X, 2, none⟩ = some (.slice b1 M1 d1) := by rw [hW3, ← hX]; simp
    have hs3 : W3.heap.size = X + 1 := by rw [hW3, ← hX]; simp
    have hfar : ∀ w', Below W3.heap.size W3 w' → w'.cell? ⟨X, 0, none⟩ = some (.int .i64 (M1 : Int)) ∧ w'.cell? ⟨X, 2, none⟩ = some (.slice b1 M1 d1) := fun w' h =>
      ⟨(h.cell (p := ⟨X, 0, none⟩) (block_lt_of_cell y0)).trans y0, (h.cell (p := ⟨X, 2, none⟩) (block_lt_of_cell y2)).trans y2⟩
    have hbw3 : Below w.heap.size w W3 := (H.out.2.2.2.1.trans (HA.out.2.2.mono (by have := H.out.2.2.2.2.2; omega))).trans (hb3.mono (by have := HA.out.2.2.size; have := H.out.2.2.2.2.2; omega))
    have K78 := H.out.2.1 W3 a1 b1 c1 d1 (HA.out.1.below hb3)
    have HB := Lib.hid (And.intro K78 (And.intro (HA.out.2.1.below hb3) (And.intro hfar (And.intro hbw3 (And.intro hb3 hs3)))))
    clear hW3 hb3 hfar hbw3 K78 hs3 x0 x1 x2
    have K53 := fun (w' : World) (d' : Nat) (hh : Ints w' b1 h.cs) => clone_calls b1 d' h.cs w' hh (by rw [H.out.2.2.2.2.1]; omega)
    rw [H.out.2.2.2.2.1] at K53
    have K53 := Lib.hid K53
    try rw [hX]
    go_wp2_with (first
      | (go_at_call 78; refine HB.out.1.mono ?_; rintro r w4 ⟨G, mc, rfl, hmat, hw4⟩; obtain ⟨y0, y2⟩ := HB.out.2.2.1 _ hw4; have HC := Lib.hid (And.intro hmat hw4); clear hmat hw4 y1)
      | (go_at_call 53; refine (K53.out _ _ (HB.out.2.1.below HC.out.2)).mono ?_; rintro r w5 ⟨v, rfl, ho, hw5⟩; obtain ⟨y0, y2⟩ := HB.out.2.2.1 _ (HC.out.2.trans (hw5.mono HC.out.2.size)); have HD := Lib.hid (And.intro ho hw5); clear ho hw5))
    obtain ⟨B5, hB5⟩ : ∃ B5, w4.heap.size = B5 := ⟨_, rfl⟩
    have HB5 := Lib.hid hB5
    clear hB5 y2
    go_loopw [9, 27] (fun v i wi => ∃ (k : Nat), k ≤ M1 ∧ i = .int .i64 (k : Int) ∧ Own wi B5 v 3 (ints (h.cs ++ rowsW h.es k)) ∧ Below B5 w4 wi) (fun _ i _ => M1 - (intOf i).toNat)
    case atStart => exact ⟨0, Nat.zero_le _, rfl, by rw [← HB5.out]; simpa [rowsW] using HD.out.1, by rw [← HB5.out]; exact HD.out.2⟩
    case round =>
      obtain ⟨k, hk, rfl, hU, hb⟩ := hrel
      have hrl := rowsW_len h.es k
      by_cases hlt : k < M1
      · have hmW := HC.out.1.belowB (by rw [HB5.out]; exact hb : Below w4.heap.size w4 wr)
        obtain ⟨q, cc, g1, hqc, g2⟩ := hmW.rowAt hlt
        have hsl := fun W => slice_to23 q 0 M1 cc k (by omega) hqc W
        have hkI : (k : Int) < M1 := by omega
        have hsz : B5 ≤ wr.heap.size := by have h1 := hb.size; have h2 := HB5.out; omega
        have hkk : k * k ≤ 24 * 24 := Nat.mul_le_mul (by omega) (by omega)
        have hll : (h.cs ++ rowsW h.es k).length ≤ 1000 := by rw [List.length_append, H.out.2.2.2.2.1]; omega
        have hsrc : ∀ j y, (ints ((List.range k).map fun i => if adj h.es k i = true then 1 else 0))[j]? = some y → wr.cell? ⟨q, 0 + j, none⟩ = some y := fun j y hy => by
          have hjl := (List.getElem?_eq_some_iff.1 hy).1
          simp only [ints_len, List.length_map, List.length_range] at hjl
          rw [g2 j (by omega)]
          simp only [ints, List.getElem?_map, List.getElem?_range hjl, Option.map_some] at hy
          rw [← hy]; rfl
        have hv := hU.blk
        have HY := Lib.hid (And.intro hU (And.intro hb (And.intro hsrc (And.intro hll hsz))))
        clear hU hb hmW g2 hqc hsrc hll hkk hsz hv hrl
        go_wp2_with (at_builtin; refine appN rfl (.tmp 30) (.tmp 36) 23 3 rfl i3 (.int .i64 0) 8 Tryz.underlying23 I3.out.1 I3.out.2.1 I3.out.2.2.1 I3.out.2.2.2 rfl (by omega) B5 u9 (ints (h.cs ++ rowsW h.es k)) (ints ((List.range k).map fun i => if adj h.es k i = true then 1 else 0)) rfl HY.out.1 q 0 k cc rfl (by simp [ints]) HY.out.2.2.1 (ints_one _) (by rw [ints_len]; have := HY.out.2.2.2.1; omega) HY.out.2.2.2.2 ?_; intro v' w6 k2 k3 k4; have HZ := Lib.hid (And.intro k2 (HY.out.2.1.grown k3 HY.out.2.2.2.2 (fun g hg => by
          rcases HY.out.1.blk with e | ⟨g', _, e, h1, _⟩
          · rw [e] at hg; cases hg
          · rw [e] at hg; cases hg; exact h1))); clear k2 k3 k4)
        refine ⟨⟨k + 1, by omega, by go_num, ?_, HZ.out.2⟩, by simp [intOf]; omega⟩
        have hh := HZ.out.1
        rw [rowsW_succ, ← List.append_assoc]
        rw [show ints ((h.cs ++ rowsW h.es k) ++ (List.range k).map fun i => if adj h.es k i = true then 1 else 0) = ints (h.cs ++ rowsW h.es k) ++ ints ((List.range k).map fun i => if adj h.es k i = true then 1 else 0) by simp [ints]]
        exact hh
      · obtain rfl : k = M1 := by omega
        have hkk : k * k ≤ 24 * 24 := Nat.mul_le_mul (by omega) (by omega)
        have hll : (h.cs ++ rowsW h.es k).length ≤ 1000 := by rw [List.length_append, H.out.2.2.2.2.1]; omega
        obtain ⟨av, cv, hv, hrow⟩ := hU.row (by rw [ints_len]; unfold maxLen; omega)
        rw [ints_len] at hv
        have hI : Ints wr av (h.cs ++ rowsW h.es k) := hrow
        have HY := Lib.hid (And.intro hI (And.intro hb hv))
        clear hU hb hrow hI hll hrl hkk hv
        go_wp2
        go_ret2
        have hz := H.out.2.2.1
        rw [HY.out.2.2, hz]
        refine ⟨av, cv, rfl, HY.out.1, ?_⟩
        have h1 := HB.out.2.2.2.1
        have h2 : Below w.heap.size w w4 := h1.trans (HC.out.2.mono h1.size)
        exact h2.trans (HY.out.2.1.mono (by rw [← HB5.out]; exact h2.size))
  · rw [if_pos (by simpa using hE)] at hz
    have hEn : (E != 0) = true := by simp [hE]
    have hzz : z = ([], E) := hz.symm
    have H := Lib.hid (And.intro K35 (And.intro hzz (And.intro hb1 hsz)))
    clear K35 hzz hb1 hA hz hm hW1 he hc hp hL hM hN0 hQ hL1 hM1 hpl hsz hE
    go_enter Tryz.func43, Tryz.ntmps43
    go_upto_region 1 with (fail)
    rw [← HW.out]
    clear HW
    go_wp2_with (go_at_call 35; refine H.out.1.mono ?_; rintro r w2 ⟨a1, c1, b1, d1, rfl, q1, q2, q3⟩; have HA := Lib.hid q3; clear q1 q2 q3)
    go_ret2
    rw [H.out.2.1]
    exact ⟨none, 0, rfl, ⟨by simp [maxLen], fun i u hu => by simp at hu⟩, (H.out.2.2.1.trans (HA.out.mono (by have := H.out.2.2.2; omega))).alloc (by have := HA.out.size; have := H.out.2.2.2; omega) _⟩
end Go.Proofs.YtifkieopaoooeaaGreatDoor

namespace Go.Proofs.YtifkieopaoooeaaGreatDoor
open Go.RowKit Plain PlainG
def WordV (w : World) (r : List Int) (e : Ending) (w' : World) : Prop :=
  ∃ a c, e = .returned (.slice a r.length c) ∧ Ints w' a r ∧ Below w.heap.size w w'
/-- One more row of the word, begun. -/
def rowW (es : List E2) (k j : Nat) : List Int := (List.range j).map fun i => if adj es k i = true then 1 else 0
theorem rowW_succ (es : List E2) (k j : Nat) : rowW es k (j + 1) = rowW es k j ++ [adjF es j k] := by
  unfold rowW adjF
  rw [List.range_succ, List.map_append, adj_symm es j k]
  rfl
theorem rowsW_one (es : List E2) : rowsW es 1 = [] := by simp [rowsW]
theorem rowsW_zero (es : List E2) : rowsW es 0 = [] := by simp [rowsW]
set_option maxRecDepth 100000 in
set_option maxHeartbeats 8000000 in
theorem wordR_some {w : World} {a : Option Addr} {ad : Addr} {c d N : Nat} {es : List (Int × Int)} {cs : List Int} (he : Edg w a es) (hc : Ints w (some ad) cs) (hN : N ≤ 24) (hev : ∀ x ∈ es, 0 ≤ x.1 ∧ x.1 < x.2 ∧ x.2 < N) (hcl : cs.length = N) :
    Calls Tryz.prog 88 #[.agg #[.int .i64 (N : Int), .slice a es.length c, .slice (some ad) N d]] w fun e w' => WordV w (cs ++ rowsW es N) e w' := by
  obtain ⟨i3, hi3, hz3, hs3, hb3⟩ := info_parts Tryz.info3
  have I3 := Lib.hid (And.intro hi3 (And.intro hz3 (And.intro hs3 hb3)))
  clear hi3 hz3 hs3 hb3
  obtain ⟨L, hL⟩ : ∃ L, es.length = L := ⟨_, rfl⟩
  rw [hL]
  obtain ⟨W1, hW1⟩ : ∃ W1, W1 = w.alloc (.cells #[.int .i64 (N : Int), .slice a L c, .slice (some ad) N d] 25) := ⟨_, rfl⟩
  have hb1 : Below w.heap.size w W1 := by rw [hW1]; exact (Below.refl _ _).alloc (Nat.le_refl _) _
  have hsz : W1.heap.size = w.heap.size + 1 := by rw [hW1]; simp
  have x0 : W1.cell? ⟨w.heap.size, 0, none⟩ = some (.int .i64 (N : Int)) := by rw [hW1]; simp
  have x1 : W1.cell? ⟨w.heap.size, 1, none⟩ = some (.slice a L c) := by rw [hW1]; simp
  have x2 : W1.cell? ⟨w.heap.size, 2, none⟩ = some (.slice (some ad) N d) := by rw [hW1]; simp
  have hfar : ∀ w', Below W1.heap.size W1 w' → w'.cell? ⟨w.heap.size, 0, none⟩ = some (.int .i64 (N : Int)) ∧ w'.cell? ⟨w.heap.size, 2, none⟩ = some (.slice (some ad) N d) ∧ Below w.heap.size w w' := fun w' h =>
    ⟨(h.cell (p := ⟨w.heap.size, 0, none⟩) (block_lt_of_cell x0)).trans x0, (h.cell (p := ⟨w.heap.size, 2, none⟩) (block_lt_of_cell x2)).trans x2, hb1.trans (h.mono (by omega))⟩
  have K71 := gmatrixR_calls (w := W1) (a := a) (b := some ad) (c := c) (d := d) (L := L) (M := N) (n := N) (es := es) (he.below hb1) hL (by omega) (fun x hx => by have := hev x hx; omega)
  obtain ⟨R, hR⟩ : ∃ R, w.heap.size = R := ⟨_, rfl⟩
  rw [hR] at hfar x0 x1 x2 hsz
  have H := Lib.hid (And.intro K71 (And.intro hfar (And.intro hc (And.intro hcl (And.intro hR hsz)))))
  have HW := Lib.hid hW1
  clear K71 hfar hc hcl hR hsz hW1 hb1 he hev hL
  go_enter Tryz.func88, Tryz.ntmps88
  go_upto_region 1 with (fail)
  rw [H.out.2.2.2.2.1, ← HW.out]
  clear HW
  go_upto_region 2 with (go_at_call 71; refine H.out.1.mono ?_; rintro r w2 ⟨G, mc, rfl, hmat, hw2⟩; obtain ⟨y0, y2, hbw⟩ := H.out.2.1 _ hw2; have HA := Lib.hid (And.intro hmat (And.intro hw2 hbw)); clear hmat hw2 hbw x0 x1 x2)
  have hem := Own.new (w := w2) (B := w2.heap.size) 3 [] (Nat.le_refl _) (Nat.zero_le _)
  have hem2 : Own (w2.alloc (.cells #[] 3)) w2.heap.size (.slice (some ⟨w2.heap.size, 0, none⟩) 0 0) 3 [] := hem
  have HE := Lib.hid hem2
  clear hem hem2
  have hcs := (H.out.2.2.1.below (by rw [H.out.2.2.2.2.1]; exact HA.out.2.2 : Below w.heap.size w w2)).below ((Below.refl w2.heap.size w2).alloc (Nat.le_refl _) (.cells #[] 3))
  have HCS := Lib.hid hcs
  clear hcs
  have y2a := cell_alloc_keep (.cells #[] 3) y2
  clear y2
  go_wp2_with (at_builtin; refine appA rfl (.tmp 9) (.tmp 11) 23 3 rfl i3 (.int .i64 0) 8 Tryz.underlying23 I3.out.1 I3.out.2.1 I3.out.2.2.1 I3.out.2.2.2 rfl (by omega) w2.heap.size (.slice (some ⟨w2.heap.size, 0, none⟩) 0 0) [] (ints cs) rfl HE.out ad N d rfl (by rw [ints_len]; exact H.out.2.2.2.1) HCS.out.src (ints_one cs) (by simp; omega) (by simp) ?_; intro v w3 k2 k3; have HD := Lib.hid (And.intro k2 (((Below.refl w2.heap.size w2).alloc (Nat.le_refl _) (.cells #[] 3)).grown k3 (by simp) (fun g hg => by cases hg; exact Nat.le_refl _))); clear k2 k3)
  obtain ⟨B, hB⟩ : ∃ B, w2.heap.size = B := ⟨_, rfl⟩
  rw [hB] at HD
  have HB := Lib.hid hB
  clear hB
  have hres : ∀ wi, Below B w2 wi → wi.cell? ⟨R, 0, none⟩ = some (.int .i64 (N : Int)) ∧ Below R w wi ∧ OwnMat wi W1.heap.size G N mc (matF N (adjF es)) ∧ B ≤ wi.heap.size := fun wi h => by
    have hb2 : Below w2.heap.size w2 wi := by rw [HB.out]; exact h
    have hb3 : Below W1.heap.size W1 wi := HA.out.2.1.trans (hb2.mono HA.out.2.1.size)
    obtain ⟨z0, _, zb⟩ := H.out.2.1 _ hb3
    exact ⟨z0, zb, HA.out.1.belowB hb2, by rw [← HB.out]; exact hb2.size⟩
  have HR := Lib.hid hres
  have y0 := (hres _ HD.out.2).1
  clear hres y2a
  go_loopw [4, 5] (fun v i wi => ∃ (k : Nat), 1 ≤ k ∧ k ≤ max N 1 ∧ i = .int .i64 (k : Int) ∧ Own wi B v 3 (ints (cs ++ rowsW es k)) ∧ Below B w2 wi) (fun _ i _ => N - (intOf i).toNat)
  case atStart => exact ⟨1, Nat.le_refl _, by omega, rfl, by rw [rowsW_one]; simpa using HD.out.1, HD.out.2⟩
  case round =>
    obtain ⟨k, hk1, hk, rfl, hU, hb⟩ := hrel
    clear y0
    obtain ⟨y0, _, _, _⟩ := HR.out _ hb
    by_cases hlt : k < N
    · have hkN : (k : Int) < N := by omega
      obtain ⟨wo, hwo⟩ : ∃ wo, wo = wr := ⟨_, rfl⟩
      subst hwo
      have HX := Lib.hid (And.intro hU hb)
      clear hU hb
      go_wp2
      go_loopw [4, 6] (fun v i wi => ∃ (j : Nat), j ≤ k ∧ i = .int .i64 (j : Int) ∧ Own wi B v 3 (ints (cs ++ rowsW es k ++ rowW es k j)) ∧ Below B w2 wi) (fun _ i _ => k - (intOf i).toNat)
      case atStart => exact ⟨0, Nat.zero_le _, rfl, by simpa [rowW] using HX.out.1, HX.out.2⟩
      case round =>
        obtain ⟨j, hj, rfl, hU, hb⟩ := hrel
        clear y0
        obtain ⟨y0, _, hmW, hsz⟩ := HR.out _ hb
        by_cases hlt2 : j < k
        · have hjk : (j : Int) < k := by omega
          have hjN : (j : Int) < N := by omega
          obtain ⟨q, cc, _, g1, g2, _, _⟩ := hmW.entry (i := j) (k := k) (by omega) hlt
          obtain ⟨y, hy⟩ : ∃ y, adjF es j k = y := ⟨_, rfl⟩
          rw [hy] at g2
          have hrs : cs ++ rowsW es k ++ rowW es k (j + 1) = (cs ++ rowsW es k ++ rowW es k j) ++ [y] := by rw [rowW_succ, hy]; simp
          have hll : (cs ++ rowsW es k ++ rowW es k j).length ≤ 1000 := by
            have h1 := rowsW_len es k
            have h2 : k * k ≤ 24 * 24 := Nat.mul_le_mul (by omega) (by omega)
            have h3 := H.out.2.2.2.1
            have h4 : (rowW es k j).length = j := by simp [rowW]
            simp only [List.length_append]; omega
          have HY := Lib.hid (And.intro hU (And.intro hb (And.intro hrs (And.intro hll hsz))))
          clear hU hb hmW hrs hll hsz hy
          go_wp2_with (at_builtin; refine app1 rfl (.tmp 24) (.tmp 32) 23 3 rfl i3 (.int .i64 0) 8 Tryz.underlying23 I3.out.1 I3.out.2.1 I3.out.2.2.1 I3.out.2.2.2 rfl (by omega) B (.int .i64 y) u4 (ints (cs ++ rowsW es k ++ rowW es k j)) rfl HY.out.1 rfl rfl (by rw [ints_len]; have := HY.out.2.2.2.1; omega) HY.out.2.2.2.2 ?_; intro v' w6 k2 k3 k4; have HZ := Lib.hid (And.intro k2 (HY.out.2.1.grown k3 HY.out.2.2.2.2 (fun g hg => by
            rcases HY.out.1.blk with e | ⟨g', _, e, h1, _⟩
            · rw [e] at hg; cases hg
            · rw [e] at hg; cases hg; exact h1))); clear k2 k3 k4)
          refine ⟨⟨j + 1, by omega, by go_num, ?_, HZ.out.2⟩, by simp [intOf]; omega⟩
          rw [HY.out.2.2.1]
          have hh := HZ.out.1
          rw [show ints ((cs ++ rowsW es k ++ rowW es k j) ++ [y]) = ints (cs ++ rowsW es k ++ rowW es k j) ++ [.int .i64 y] by simp [ints]]
          exact hh
        · obtain rfl : j = k := by omega
          have hrs : cs ++ rowsW es (j + 1) = cs ++ rowsW es j ++ rowW es j j := by rw [rowsW_succ, List.append_assoc]; rfl
          have HY := Lib.hid (And.intro hU (And.intro hb hrs))
          clear hU hb hmW hsz hrs
          go_wp2
          exact ⟨⟨j + 1, by omega, by omega, by go_num, by rw [HY.out.2.2]; exact HY.out.1, HY.out.2.1⟩, by simp [intOf]; omega⟩
    · have hrw : rowsW es k = rowsW es N := by
        rcases Nat.eq_zero_or_pos N with h | h
        · have : k = 1 := by omega
          rw [this, h, rowsW_one, rowsW_zero]
        · have : k = N := by omega
          rw [this]
      rw [hrw] at hU
      have hll : (cs ++ rowsW es N).length ≤ 1000 := by
        have h1 := rowsW_len es N
        have h2 : N * N ≤ 24 * 24 := Nat.mul_le_mul (by omega) (by omega)
        have h3 := H.out.2.2.2.1
        simp only [List.length_append]; omega
      obtain ⟨av, cv, hv, hrow⟩ := hU.row (by rw [ints_len]; unfold maxLen; omega)
      rw [ints_len] at hv
      have hI : Ints wr av (cs ++ rowsW es N) := hrow
      have HY := Lib.hid (And.intro hI (And.intro (HR.out _ hb).2.1 hv))
      clear hU hb hrow hI hll hrw hv
      go_wp2
      go_ret
      exact ⟨av, cv, by rw [← HY.out.2.2]; rfl, HY.out.1, by rw [H.out.2.2.2.2.1]; exact HY.out.2.1⟩
set_option maxHeartbeats 2000000 in
theorem wordR_nil {w : World} {a : Option Addr} {c d : Nat} (he : Edg w a []) :
    Calls Tryz.prog 88 #[.agg #[.int .i64 0, .slice a 0 c, .slice none 0 d]] w fun e w' => WordV w [] e w' := by
  obtain ⟨W1, hW1⟩ : ∃ W1, W1 = w.alloc (.cells #[.int .i64 0, .slice a 0 c, .slice none 0 d] 25) := ⟨_, rfl⟩
  have hb1 : Below w.heap.size w W1 := by rw [hW1]; exact (Below.refl _ _).alloc (Nat.le_refl _) _
  have x0 : W1.cell? ⟨w.heap.size, 0, none⟩ = some (.int .i64 0) := by rw [hW1]; simp
  have x1 : W1.cell? ⟨w.heap.size, 1, none⟩ = some (.slice a 0 c) := by rw [hW1]; simp
  have x2 : W1.cell? ⟨w.heap.size, 2, none⟩ = some (.slice none 0 d) := by rw [hW1]; simp
  have hsz : W1.heap.size = w.heap.size + 1 := by rw [hW1]; simp
  have hfar : ∀ w', Below W1.heap.size W1 w' → w'.cell? ⟨w.heap.size, 0, none⟩ = some (.int .i64 0) ∧ w'.cell? ⟨w.heap.size, 2, none⟩ = some (.slice none 0 d) ∧ Below w.heap.size w w' := fun w' h =>
    ⟨(h.cell (p := ⟨w.heap.size, 0, none⟩) (block_lt_of_cell x0)).trans x0, (h.cell (p := ⟨w.heap.size, 2, none⟩) (block_lt_of_cell x2)).trans x2, hb1.trans (h.mono (by omega))⟩
  have K71 := gmatrixR_calls (w := W1) (a := a) (b := none) (c := c) (d := d) (L := 0) (M := 0) (n := 0) (es := []) (he.below hb1) rfl (by omega) (by simp)
  obtain ⟨R, hR⟩ : ∃ R, w.heap.size = R := ⟨_, rfl⟩
  rw [hR] at hfar x0 x1 x2 hsz
  have H := Lib.hid (And.intro K71 (And.intro hfar (And.intro hR hsz)))
  have HW := Lib.hid hW1
  clear K71 hfar hR hsz hW1 hb1 he
  go_enter Tryz.func88, Tryz.ntmps88
  go_upto_region 1 with (fail)
  rw [H.out.2.2.1, ← HW.out]
  clear HW
  go_upto_region 2 with (go_at_call 71; refine H.out.1.mono ?_; rintro r w2 ⟨G, mc, rfl, hmat, hw2⟩; obtain ⟨y0, y2, hbw⟩ := H.out.2.1 _ hw2; have HA := Lib.hid hbw; clear hmat hw2 hbw x0 x1 x2)
  have y2a := cell_alloc_keep (.cells #[] 3) y2
  have y0a := cell_alloc_keep (.cells #[] 3) y0
  clear y2
  go_wp2
  go_loop [4, 5] (fun v i => v = .slice (some ⟨w2.heap.size, 0, none⟩) 0 0 ∧ i = .int .i64 1) (fun _ _ => 0)
  case atStart => exact ⟨rfl, rfl⟩
  case round =>
    obtain ⟨rfl, rfl⟩ := hrel
    go_wp2
    go_ret
    exact ⟨some ⟨w2.heap.size, 0, none⟩, 0, rfl, ⟨by simp [maxLen], fun i u hu => by simp at hu⟩, by rw [H.out.2.2.1]; exact HA.out.alloc (Nat.le_trans (Nat.le_of_eq H.out.2.2.1.symm) HA.out.size) _⟩
theorem wordR_any {w : World} {a b : Option Addr} {c d N : Nat} {es : List (Int × Int)} {cs : List Int} (he : Edg w a es) (hc : Ints w b cs) (hN : N ≤ 24) (hev : ∀ x ∈ es, 0 ≤ x.1 ∧ x.1 < x.2 ∧ x.2 < N) (hcl : cs.length = N) :
    Calls Tryz.prog 88 #[.agg #[.int .i64 (N : Int), .slice a es.length c, .slice b N d]] w fun e w' => WordV w (cs ++ rowsW es N) e w' := by
  cases b with
  | some ad => exact wordR_some he hc hN hev hcl
  | none =>
    have h0 : N = 0 := by
      rcases Nat.eq_zero_or_pos N with h | h
      · exact h
      · obtain ⟨b, o, e, _⟩ := hc.at_ (k := 0) (by omega)
        cases e
    subst h0
    have hcs : cs = [] := List.eq_nil_of_length_eq_zero hcl
    subst hcs
    have hes : es = [] := by
      cases es with
      | nil => rfl
      | cons x r => have := hev x (by simp); omega
    subst hes
    exact wordR_nil he
set_option maxRecDepth 100000 in
set_option maxHeartbeats 4000000 in
theorem gwordR_calls {w : World} {a b p : Option Addr} {c d e : Nat} {g : Gr} {pl : List Int} (he : Edg w a g.es) (hc : Ints w b g.cs) (hp : Ints w p pl) (hpl : pl.length ≤ 1000) :
    Calls Tryz.prog 44 #[.agg #[.int .i64 g.n, .slice a g.es.length c, .slice b g.cs.length d], .slice p pl.length e] w fun r w' => WordRes w (wordA g pl) r w' := by
  obtain ⟨W1, hW1⟩ : ∃ W1, W1 = w.alloc (.cells #[.int .i64 g.n, .slice a g.es.length c, .slice b g.cs.length d] 25) := ⟨_, rfl⟩
  have hb1 : Below w.heap.size w W1 := by rw [hW1]; exact (Below.refl _ _).alloc (Nat.le_refl _) _
  have x0 : W1.cell? ⟨w.heap.size, 0, none⟩ = some (.int .i64 g.n) := by rw [hW1]; simp
  have x1 : W1.cell? ⟨w.heap.size, 1, none⟩ = some (.slice a g.es.length c) := by rw [hW1]; simp
  have x2 : W1.cell? ⟨w.heap.size, 2, none⟩ = some (.slice b g.cs.length d) := by rw [hW1]; simp
  have hsz : W1.heap.size = w.heap.size + 1 := by rw [hW1]; simp
  have hres : ∀ w', Below W1.heap.size W1 w' → w'.cell? ⟨w.heap.size, 0, none⟩ = some (.int .i64 g.n) ∧ w'.cell? ⟨w.heap.size, 1, none⟩ = some (.slice a g.es.length c) ∧ w'.cell? ⟨w.heap.size, 2, none⟩ = some (.slice b g.cs.length d) ∧ Below w.heap.size w w' := fun w' h =>
    ⟨(h.cell (p := ⟨w.heap.size, 0, none⟩) (block_lt_of_cell x0)).trans x0, (h.cell (p := ⟨w.heap.size, 1, none⟩) (block_lt_of_cell x1)).trans x1, (h.cell (p := ⟨w.heap.size, 2, none⟩) (block_lt_of_cell x2)).trans x2, hb1.trans (h.mono (by omega))⟩
  have K28 := gcheckR_calls (c := c) (d := d) (he.below hb1) (hc.below hb1)
  obtain ⟨z, hz⟩ : ∃ z, wordA g pl = z := ⟨_, rfl⟩
  rw [hz]
  obtain ⟨E, hE⟩ : ∃ E, chkGr g = E := ⟨_, rfl⟩
  rw [hE] at K28
  obtain ⟨L, hL⟩ : ∃ L, g.es.length = L := ⟨_, rfl⟩
  obtain ⟨M, hM⟩ : ∃ M, g.cs.length = M := ⟨_, rfl⟩
  obtain ⟨Q, hQ⟩ : ∃ Q, pl.length = Q := ⟨_, rfl⟩
  have hmv : moveA g pl = if chkGr g ≠ 0 then (zeroG, chkGr g) else if permB g.n pl = true then (movedG g.n.toNat pl g.es g.cs, 0) else (zeroG, 3) := rfl
  by_cases hE0 : E = 0
  · obtain ⟨N, hN, hN24, hel, hev, hcl⟩ := chk_edges (hE.trans hE0)
    have K84 := fun w' (h : Below w.heap.size w w') => fine_calls (w := w') e (N : Int) (hp.below h) (by omega)
    obtain ⟨B, hB⟩ : ∃ B, permB N pl = B := ⟨_, rfl⟩
    rw [hB] at K84
    rw [if_neg (by rw [hE]; simpa using hE0), hN, hB] at hmv
    cases B with
    | false =>
      rw [if_neg (by decide)] at hmv
      have hz0 : z = ([], 3) := by rw [← hz]; unfold wordA; rw [hmv, if_pos (by decide)]
      rw [hN] at K28 hres hW1 x0 ⊢
      rw [hL] at K28 hres hW1 x1 ⊢
      rw [hM] at K28 hres hW1 x2 ⊢
      rw [hQ] at K84 ⊢
      have H := Lib.hid (And.intro K28 (And.intro K84 (And.intro hres (And.intro hz0 hsz))))
      have HW := Lib.hid hW1
      clear K28 K84 hres hz0 hW1 hz hE hN hN24 hel hev hcl hB he hc hp hL hM hQ hmv hsz hb1
      subst hE0
      go_enter Tryz.func44, Tryz.ntmps44
      go_upto_region 1 with (fail)
      rw [← HW.out]
      go_wp2_with (first
        | (go_at_call 28; refine H.out.1.mono ?_; rintro e w2 ⟨rfl, hw2⟩; obtain ⟨x0, x1, x2, x4⟩ := H.out.2.2.1 _ hw2; have HA := Lib.hid x4; clear hw2 x4)
        | (go_at_call 84; refine (H.out.2.1 _ HA.out).mono ?_; rintro e w3 ⟨rfl, hw3⟩; have HB := Lib.hid (HA.out.trans (hw3.mono HA.out.size)); clear hw3 x0 x1 x2))
      go_ret2
      rw [H.out.2.2.2.1]
      exact ⟨none, 0, rfl, ⟨by simp [maxLen], fun i u hu => by simp at hu⟩, HB.out⟩
    | true =>
      obtain ⟨p1, p2, p3⟩ := permB_iff.1 hB
      have hQN : pl.length = N := by omega
      rw [if_pos rfl, Int.toNat_natCast] at hmv
      have hz0 : z = (wordG (movedG N pl g.es g.cs), 0) := by rw [← hz]; unfold wordA; rw [hmv, if_neg (by simp)]
      have K85 := fun w' (h : Below w.heap.size w w') => movedR_calls (w := w') (c := c) (d := d) (e := e) (he.below h) (hc.below h) (hp.below h) hN24 (by omega) hev hcl hQN p2 p3
      have K88 := fun (w' : World) (a' b' : Option Addr) (c' d' : Nat) (h1 : Edg w' a' (movedG N pl g.es g.cs).es) (h2 : Ints w' b' (movedG N pl g.es g.cs).cs) => wordR_any (c := c') (d := d') h1 h2 hN24 (fun x hx => by
        have := (chkE_srt (chkE_canon N (adj (g.es.map (mvE pl))))).2.1 x hx; omega) (movTo_len N pl g.cs N)
      have hww : (movedG N pl g.es g.cs).cs ++ rowsW (movedG N pl g.es g.cs).es N = wordG (movedG N pl g.es g.cs) := by unfold wordG; simp only [movedG, Int.toNat_natCast]
      rw [hww] at K88
      have hed : (movedG N pl g.es g.cs).es.length ≤ 1000 := by have := canon_len N (adj (g.es.map (mvE pl))); have : N * N ≤ 24 * 24 := Nat.mul_le_mul hN24 hN24; simp only [movedG]; omega
      obtain ⟨mg, hmg⟩ : ∃ mg, movedG N pl g.es g.cs = mg := ⟨_, rfl⟩
      have hmc : (movedG N pl g.es g.cs).cs.length = N := movTo_len _ _ _ _
      unfold MovedOK at K85
      rw [hmg] at K88 hed hz0 hmc
      simp only [hmg] at K85
      obtain ⟨Lm, hLm⟩ : ∃ Lm, mg.es.length = Lm := ⟨_, rfl⟩
      rw [hLm] at K85 K88
      rw [hcl] at hM
      subst hM
      rw [hN] at K28 hres hW1 x0 ⊢
      rw [hL] at K28 hres hW1 x1 K85 ⊢
      rw [hcl] at K28 hres hW1 x2 ⊢
      rw [hQN] at K84 ⊢
      have H := Lib.hid (And.intro K28 (And.intro K84 (And.intro hres (And.intro hz0 (And.intro K85 (And.intro K88 (And.intro hed (And.intro hmc hLm))))))))
      have HW := Lib.hid hW1
      clear K28 K84 hres hz0 hW1 hz hE hN hel hev hcl hB he hc hp hL hQ K85 K88 p1 p2 p3 hQN hpl hmv hsz hb1 hww hed hmg hmc hLm
      subst hE0
      go_enter Tryz.func44, Tryz.ntmps44
      go_upto_region 1 with (fail)
      rw [← HW.out]
      go_wp2_with (first
        | (go_at_call 28; refine H.out.1.mono ?_; rintro e w2 ⟨rfl, hw2⟩; obtain ⟨x0, x1, x2, x4⟩ := H.out.2.2.1 _ hw2; have HA := Lib.hid (And.intro x4 hw2); clear hw2 x4)
        | (go_at_call 84; refine (H.out.2.1 _ HA.out.1).mono ?_; rintro e w3 ⟨rfl, hw3⟩; obtain ⟨x0, x1, x2, x4⟩ := H.out.2.2.1 _ (HA.out.2.trans (hw3.mono HA.out.2.size)); have HB := Lib.hid x4; clear hw3 x4)
        | (go_at_call 85; refine (H.out.2.2.2.2.1 _ HB.out).mono ?_; rintro e w4 ⟨a1, c1, b1, d1, rfl, q1, q2, q3⟩; have HC := Lib.hid (And.intro q1 (And.intro q2 (HB.out.trans (q3.mono HB.out.size)))); clear q1 q2 q3 x0 x1 x2)
        | (go_at_call 88; refine (H.out.2.2.2.2.2.1 _ a1 b1 c1 d1 (by have h1 := HC.out.1; rw [← H.out.2.2.2.2.2.2.2.2] at h1; exact h1.edg (by have := H.out.2.2.2.2.2.2.1; omega)) (by have h2 := HC.out.2.1; rw [← H.out.2.2.2.2.2.2.2.1] at h2; exact h2.toInts (by rw [H.out.2.2.2.2.2.2.2.1]; unfold maxLen; omega))).mono ?_; rintro e w5 ⟨a2, c2, rfl, q1, q2⟩; have HD := Lib.hid (And.intro q1 (HC.out.2.2.trans (q2.mono HC.out.2.2.size))); clear q1 q2))
      go_ret2
      rw [H.out.2.2.2.1]
      exact ⟨a2, c2, rfl, HD.out.1, HD.out.2⟩
  · have hm2 : moveA g pl = (zeroG, E) := by rw [hmv, if_pos (by rw [hE]; exact hE0), hE]
    have hz0 : z = ([], E) := by rw [← hz]; unfold wordA; rw [hm2, if_pos (by exact hE0)]
    have hEn : (E != 0) = true := by simp [hE0]
    obtain ⟨N, hN⟩ : ∃ N, g.n = N := ⟨_, rfl⟩
    rw [hN] at K28 hres hW1 x0 ⊢
    rw [hL] at K28 hres hW1 x1 ⊢
    rw [hM] at K28 hres hW1 x2 ⊢
    rw [hQ]
    have H := Lib.hid (And.intro K28 (And.intro hres (And.intro hz0 hsz)))
    have HW := Lib.hid hW1
    clear K28 hres hz0 hW1 hz hE hN he hc hp hL hM hQ hE0 hmv hsz hb1 hm2
    go_enter Tryz.func44, Tryz.ntmps44
    go_upto_region 1 with (fail)
    rw [← HW.out]
    go_wp2_with (go_at_call 28; refine H.out.1.mono ?_; rintro e w2 ⟨rfl, hw2⟩; obtain ⟨x0, x1, x2, x4⟩ := H.out.2.1 _ hw2; have HA := Lib.hid x4; clear hw2 x4)
    go_ret2
    rw [H.out.2.2.1]
    exact ⟨none, 0, rfl, ⟨by simp [maxLen], fun i u hu => by simp at hu⟩, HA.out⟩
end Go.Proofs.YtifkieopaoooeaaGreatDoor
