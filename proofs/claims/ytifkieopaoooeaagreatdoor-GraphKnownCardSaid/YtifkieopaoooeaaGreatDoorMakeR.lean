/- Make, the reference's. -/
import Derived.Test.YtifkieopaoooeaaGreatDoorMakeP
import Derived.Test.YtifkieopaoooeaaGreatDoorOfR
import Derived.Test.YtifkieopaoooeaaGreatDoorRefP
set_option linter.unusedSimpArgs false
set_option linter.unusedVariables false
namespace Go.Proofs.YtifkieopaoooeaaGreatDoor
open Go.RowKit Plain PlainG
theorem one_adjF (es : List E2) : one (adjF es) = adj es := by
  funext i k
  unfold one adjF
  cases adj es i k <;> rfl
set_option maxRecDepth 100000 in
set_option maxHeartbeats 8000000 in
theorem makeR_calls {w : World} {a b : Option Addr} {c d : Nat} {n : Int} {ps : List (Int × Int)} {cs : List Int} (he : Edg w a ps) (hc : Ints w b cs) (hps : ps.length ≤ 1000) (hcs : cs.length ≤ 1000) :
    Calls Tryz.prog 18 #[.int .i64 n, .slice a ps.length c, .slice b cs.length d] w fun e w' => MakeRes w (makeA n ps cs) e w' := by
  obtain ⟨z, hz⟩ : ∃ z, makeA n ps cs = z := ⟨_, rfl⟩
  rw [hz]
  obtain ⟨L, hL⟩ : ∃ L, ps.length = L := ⟨_, rfl⟩
  obtain ⟨M, hM⟩ : ∃ M, cs.length = M := ⟨_, rfl⟩
  rw [hL, hM]
  by_cases h0 : n < 0
  · have hzb : z = (⟨0, [], []⟩, 2) := by rw [← hz]; unfold makeA; rw [if_pos (.inl h0)]
    have H := Lib.hid hzb
    clear hz hzb he hc hL hM
    go_enter Tryz.func18, Tryz.ntmps18
    go_wp2
    exact bodyPost_ret (v := .tuple #[.agg #[.int .i64 0, .slice none 0 0, .slice none 0 0], .int .i64 2]) (by simp [results, Tryz.results18, go_sem]) rfl (MakeRes.bad H.out ((Below.refl _ w).alloc (Nat.le_refl _) _))
  by_cases h24 : 24 < n
  · have hzb : z = (⟨0, [], []⟩, 2) := by rw [← hz]; unfold makeA; rw [if_pos (.inr h24)]
    have H := Lib.hid hzb
    clear hz hzb he hc hL hM
    go_enter Tryz.func18, Tryz.ntmps18
    go_wp2
    exact bodyPost_ret (v := .tuple #[.agg #[.int .i64 0, .slice none 0 0, .slice none 0 0], .int .i64 2]) (by simp [results, Tryz.results18, go_sem]) rfl (MakeRes.bad H.out ((Below.refl _ w).alloc (Nat.le_refl _) _))
  obtain ⟨N, rfl⟩ : ∃ N : Nat, n = N := ⟨n.toNat, by omega⟩
  have hA : z = if pF N ps ≠ 0 then (⟨0, [], []⟩, pF N ps) else if chkC N (fill N cs) ≠ 0 then (⟨0, [], []⟩, chkC N (fill N cs)) else (⟨(N : Int), canon N (adj ps), fill N cs⟩, 0) := by
    rw [← hz]; unfold makeA; rw [if_neg (by omega)]; rfl
  clear hz
  obtain ⟨i3, hi3, hz3, hs3, hb3⟩ := info_parts Tryz.info3
  have I3 := Lib.hid (And.intro hi3 (And.intro hz3 (And.intro hs3 hb3)))
  clear hi3 hz3 hs3 hb3
  obtain ⟨R, hR⟩ : ∃ R, w.heap.size = R := ⟨_, rfl⟩
  obtain ⟨W1, hW1⟩ : ∃ W1, W1 = w.alloc (.cells #[.int .i64 0, .slice none 0 0, .slice none 0 0] 25) := ⟨_, rfl⟩
  have hb1 : Below R w W1 := by rw [hW1, ← hR]; exact (Below.refl _ w).alloc (Nat.le_refl _) _
  have hs1 : W1.heap.size = R + 1 := by rw [hW1, ← hR]; simp
  have hR1 : W1.heap[R]? = some (.cells #[.int .i64 0, .slice none 0 0, .slice none 0 0] 25) := by rw [hW1, ← hR]; exact heap_new w _
  have hN24 : N ≤ 24 := by omega
  have hres : ∀ wr, Below (R + 1) W1 wr → wr.heap[R]? = some (.cells #[.int .i64 0, .slice none 0 0, .slice none 0 0] 25) ∧ Below R w wr ∧ R + 1 ≤ wr.heap.size := fun wr h => ⟨(h.block R (Nat.lt_succ_self _)).trans hR1, hb1.trans (h.mono (Nat.le_succ _)), by rw [← hs1]; exact h.size⟩
  have hLm : L ≤ 1000 := by omega
  have H := Lib.hid (And.intro he (And.intro hc (And.intro hL (And.intro hM (And.intro hA (And.intro hres (And.intro hs1 hcs)))))))
  have HW := Lib.hid hW1
  clear he hc hL hM hA hb1 hs1 hR1 hres hW1 hps hcs
  go_enter Tryz.func18, Tryz.ntmps18
  have H71 := gmatrixR_calls (w := W1) (a := none) (b := none) (c := 0) (d := 0) (L := 0) (M := 0) (n := N) (es := []) (Edg.nil _) rfl (by omega) (by simp)
  rw [H.out.2.2.2.2.2.2.1, adjF_nil] at H71
  have H71 := Lib.hid H71
  go_wp2_with (go_at_call 71; rw [← HW.out]; refine H71.out.mono ?_; rintro e w2 ⟨G, mcs, rfl, hm, hb⟩; have HM := Lib.hid (And.intro hm hb); clear hm hb)
  go_loopw [9] (fun i wr => ∃ k : Nat, k ≤ L ∧ i = .int .i64 (k : Int) ∧ OwnMat wr (R + 1) G N mcs (matF N (adjF (ps.take k))) ∧ Below (R + 1) W1 wr ∧ pF N ps = pF N (ps.drop k)) (fun i _ => L - (intOf i).toNat)
  case atStart => exact ⟨0, Nat.zero_le _, rfl, by rw [List.take_zero, adjF_nil]; exact HM.out.1, HM.out.2, rfl⟩
  case round =>
    obtain ⟨k, hk, rfl, hE, hb, hp⟩ := hrel
    obtain ⟨f1, f2, f3⟩ := H.out.2.2.2.2.2.1 _ hb
    obtain ⟨r1, r2, r3, r4⟩ := zres_cells f1
    have fr0 := r4 0
    have fr1 := r4 1
    have fr2 := r4 2
    by_cases hlt : k < L
    · obtain ⟨x, hx⟩ : ∃ x, ps[k]? = some x := ⟨_, List.getElem?_eq_getElem (by rw [H.out.2.2.1]; exact hlt)⟩
      have hpd := hp.trans (pF_drop hx)
      obtain ⟨B, o, rfl, hB5, e1, e2⟩ := (H.out.1.below (by rw [hR]; exact f2)).at_ k x hx
      obtain ⟨x1, x2⟩ := x
      simp only at e1 e2 hpd
      have hRl : R < wr.heap.size := by omega
      have hzA := H.out.2.2.2.2.1
      -- ARMS
      go_wp2
      go_region
      have f1d : wr.drew.heap[R]? = some (.cells #[.int .i64 0, .slice none 0 0, .slice none 0 0] 25) := f1
      have f2d : Below R w wr.drew := f2.drew
      have f3d : R + 1 ≤ wr.drew.heap.size := f3
      have hEd := hE.drew
      have hbd := hb.drew
      obtain ⟨wy, hwy⟩ : ∃ wy, wy = wr.drew := ⟨_, rfl⟩
      rw [← hwy] at f1d f2d f3d hEd hbd ⊢
      clear hwy r1 r2 r3 r4 fr0 fr1 fr2 e1 e2 hE hb f1 f2 f3 hB5 hRl
      obtain ⟨r1, r2, r3, r4⟩ := zres_cells f1d
      have fr0 := r4 0
      have fr1 := r4 1
      have fr2 := r4 2
      cases h1 : vert N x1
      · rw [if_pos (by rw [h1]; rfl)] at hpd
        have hzb : z = (⟨0, [], []⟩, 2) := by rw [hzA, if_pos (by rw [hpd]; decide), hpd]
        have HZ := Lib.hid (And.intro hzb (And.intro f1d f2d))
        clear f1d f2d f3d hEd hbd hp hpd hx hzA hzb
        go_wp2_with (go_at_call 72; refine (vertexR_calls _ _ _).mono ?_; rintro e w2 ⟨rfl, hw2⟩; replace hw2 := hw2.symm; subst hw2; simp only [h1])
        obtain ⟨W, hW, y0, y1, y2, y3, _⟩ := res_out (.int .i64 0) (.slice none 0 0) (.slice none 0 0) HZ.out.2.1
        rw [← hW]
        exact bodyPost_ret (v := .tuple #[.agg #[.int .i64 0, .slice none 0 0, .slice none 0 0], .int .i64 2]) (by simp [results, Tryz.results18, go_sem, y0, y1, y2]) rfl (MakeRes.bad HZ.out.1 (by rw [hR]; exact HZ.out.2.2.trans y3))
      cases h2 : vert N x2
      · rw [if_pos (by rw [h1, h2]; rfl)] at hpd
        have hzb : z = (⟨0, [], []⟩, 2) := by rw [hzA, if_pos (by rw [hpd]; decide), hpd]
        have HZ := Lib.hid (And.intro hzb (And.intro f1d f2d))
        clear f1d f2d f3d hEd hbd hp hpd hx hzA hzb
        go_wp2_with (go_at_call 72; refine (vertexR_calls _ _ _).mono ?_; rintro e w2 ⟨rfl, hw2⟩; replace hw2 := hw2.symm; subst hw2; simp only [h1, h2])
        obtain ⟨W, hW, y0, y1, y2, y3, _⟩ := res_out (.int .i64 0) (.slice none 0 0) (.slice none 0 0) HZ.out.2.1
        rw [← hW]
        exact bodyPost_ret (v := .tuple #[.agg #[.int .i64 0, .slice none 0 0, .slice none 0 0], .int .i64 2]) (by simp [results, Tryz.results18, go_sem, y0, y1, y2]) rfl (MakeRes.bad HZ.out.1 (by rw [hR]; exact HZ.out.2.2.trans y3))
      have hv1 : 0 ≤ x1 ∧ x1 < N := by simpa [vert] using h1
      have hv2 : 0 ≤ x2 ∧ x2 < N := by simpa [vert] using h2
      rw [if_neg (by rw [h1, h2]; decide)] at hpd
      by_cases h3 : x1 = x2
      · rw [if_pos h3] at hpd
        have hzb : z = (⟨0, [], []⟩, 3) := by rw [hzA, if_pos (by rw [hpd]; decide), hpd]
        have h3b : (x1 == x2) = true := by simp [h3]
        have HZ := Lib.hid (And.intro hzb (And.intro f1d f2d))
        clear f1d f2d f3d hEd hbd hp hpd hx hzA hzb h3
        go_wp2_with (go_at_call 72; refine (vertexR_calls _ _ _).mono ?_; rintro e w2 ⟨rfl, hw2⟩; replace hw2 := hw2.symm; subst hw2; simp only [h1, h2])
        obtain ⟨W, hW, y0, y1, y2, y3, _⟩ := res_out (.int .i64 0) (.slice none 0 0) (.slice none 0 0) HZ.out.2.1
        rw [← hW]
        exact bodyPost_ret (v := .tuple #[.agg #[.int .i64 0, .slice none 0 0, .slice none 0 0], .int .i64 3]) (by simp [results, Tryz.results18, go_sem, y0, y1, y2]) rfl (MakeRes.bad HZ.out.1 (by rw [hR]; exact HZ.out.2.2.trans y3))
      · rw [if_neg h3] at hpd
        have h3b : (x1 == x2) = false := by simp [h3]
        obtain ⟨x, rfl⟩ : ∃ i : Nat, x1 = i := ⟨x1.toNat, by omega⟩
        obtain ⟨y, rfl⟩ : ∃ j : Nat, x2 = j := ⟨x2.toNat, by omega⟩
        have hxn : x < N := by omega
        have hyn : y < N := by omega
        have hxy : x ≠ y := fun e => h3 (by rw [e])
        have htk : ps.take (k + 1) = ps.take k ++ [((x : Int), (y : Int))] := by rw [List.take_add_one, hx]; rfl
        obtain ⟨q1, d1, u1, e12, e13, e14, e15⟩ := hEd.entry hxn hyn
        obtain ⟨q2, d2, u2, e22, e23, e24, e25⟩ := hEd.entry hyn hxn
        have hq12 : q1 ≠ q2 := by
          rcases hEd.apart x y _ _ hxy u1 u2 with e | e
          · cases e
          · exact fun h => e (by rw [h]; rfl)
        have hG1 : q1 ≠ G := by
          rcases (hEd.rows.2 x _ _ u1 (List.getElem?_eq_getElem (by rw [(matF_isMat N _).1]; exact hxn))).ne_type hEd.top (by decide) with e | e
          · cases e
          · exact fun h => e (by rw [h]; rfl)
        have hG2 : q2 ≠ G := by
          rcases (hEd.rows.2 y _ _ u2 (List.getElem?_eq_getElem (by rw [(matF_isMat N _).1]; exact hyn))).ne_type hEd.top (by decide) with e | e
          · cases e
          · exact fun h => e (by rw [h]; rfl)
        have hm3 := (((hEd.setF hxn u1 y 1).setF hyn u2 x 1).drew)
        have hf : (fun a b => if a = y ∧ b = x then (1 : Int) else if a = x ∧ b = y then 1 else adjF (ps.take k) a b) = adjF (ps.take (k + 1)) := by rw [adjF_app, htk]
        rw [hf] at hm3
        have hb3 : Below (R + 1) W1 ((wy.setCell ⟨q1, y, none⟩ (.int .i64 1)).setCell ⟨q2, x, none⟩ (.int .i64 1)).drew := ((hbd.setCell (by simpa using e15) _).setCell (by simpa using e25) _).drew
        have HX := Lib.hid (And.intro hm3 (And.intro hb3 hpd))
        clear f1d f2d f3d hEd hbd hp hpd hx hzA h3 htk hf hm3 hb3 u1 u2 e15 e25 hv1 hv2
        go_wp2_with (go_at_call 72; refine (vertexR_calls _ _ _).mono ?_; rintro e w2 ⟨rfl, hw2⟩; replace hw2 := hw2.symm; subst hw2; simp only [h1, h2])
        go_region
        go_wp2
        exact ⟨⟨k + 1, by omega, by go_num, HX.out.1, HX.out.2.1, HX.out.2.2⟩, by simp [intOf]; omega⟩
    · -- AFTER
      have hkL : k = L := by omega
      subst hkL
      have hF0 : pF N ps = 0 := by rw [hp, List.drop_of_length_le (by rw [H.out.2.2.1]; omega)]; rfl
      have hzA := H.out.2.2.2.2.1
      rw [if_neg (by rw [hF0]; decide)] at hzA
      rw [List.take_of_length_le (by rw [H.out.2.2.1]; omega)] at hE
      have HX := Lib.hid (And.intro (hE.rowsF (by omega)) (And.intro hb (And.intro f1 (And.intro f2 (And.intro f3 hzA)))))
      clear hE hb hzA hF0 hp f1 f2
      by_cases hM0 : M = 0
      · have hcs0 : cs = [] := List.eq_nil_of_length_eq_zero (by rw [H.out.2.2.2.1]; exact hM0)
        have hfl : fill N cs = List.replicate N 0 := by unfold fill; rw [hcs0]; simp
        have hfll : (fill N cs).length = N := by rw [hfl]; simp
        have Hfl := Lib.hid (And.intro hfl hfll)
        clear hfl hfll hcs0
        subst hM0
        go_wp2_with (at_make; refine mk1 rfl _ _ 23 3 rfl i3 (.int .i64 0) 8 Tryz.underlying23 I3.out.1 I3.out.2.1 I3.out.2.2.1 I3.out.2.2.2 rfl (by omega) 0 N rfl rfl (by omega) (Nat.zero_le _) ?_; intro w6 hd hg hz1; have H6 := Lib.hid (And.intro hd (And.intro hg hz1)); clear hd hg hz1)
        have hU6 : Own w6 0 (.slice (some ⟨wr.heap.size, 0, none⟩) N N) 3 (ints (fill N cs)) := by rw [Hfl.out.1, ints, List.map_replicate]; exact H6.out.1
        have hs6 := H6.out.2.2
        have hi6 := hU6.toInts (by rw [Hfl.out.2]; unfold maxLen; omega)
        have HE6 := Lib.hid (And.intro (HX.out.1.below ((Below.refl _ wr).grown H6.out.2.1 (Nat.le_refl _) (by simp))) (And.intro (fun B (hB : B ≤ wr.heap.size) => (Below.refl B wr).grown H6.out.2.1 hB (by simp)) (And.intro ((H6.out.2.1.block R (by omega) (by simp)).trans HX.out.2.2.1) (And.intro hi6 (by omega : R < w6.heap.size)))))
        clear hU6
        have K73 := coloursR_calls (N : Int) (some ⟨wr.heap.size, 0, none⟩) N (fill N cs) w6 hi6
        rw [Hfl.out.2] at K73
        obtain ⟨cc, hcc⟩ : ∃ cc, chkC N (fill N cs) = cc := ⟨_, rfl⟩
        rw [hcc] at K73
        have K74 := ofR_graph_calls (w := w6) (n := N) (G := G) (c := N) (d := N) (f := adjF ps) (cs := fill N cs) (ad := ⟨wr.heap.size, 0, none⟩) HE6.out.1 (by omega) HE6.out.2.2.2.1 (by rw [Hfl.out.2]; omega)
        rw [Hfl.out.2, one_adjF] at K74
        obtain ⟨s0, s1, s2, s3⟩ := zres_cells HE6.out.2.2.1
        have s30 := s3 0
        have s31 := s3 1
        have s32 := s3 2
        have HQ := Lib.hid (And.intro K74 hcc)
        clear K74 hcc s3
        by_cases hc0 : cc = 0
        · subst hc0
          go_wp2_with (go_at_call 73; refine K73.mono ?_; rintro e w2 ⟨rfl, hw2⟩; replace hw2 := hw2.symm; subst hw2)
          go_wp2_with (go_at_call 74; refine HQ.out.1.mono ?_; rintro e w7 ⟨a1, c1, b1, d1, rfl, q4, q5, q6⟩; have h7 : w7.heap[R]? = some (.cells #[.int .i64 0, .slice none 0 0, .slice none 0 0] 25) := (q6.block R HE6.out.2.2.2.2).trans HE6.out.2.2.1; obtain ⟨v0, v1, v2, v3⟩ := zres_cells h7; have v30 := v3 0; have v31 := v3 1; have v32 := v3 2; have HY := Lib.hid (And.intro q4 (And.intro q5 (And.intro q6 h7))); clear q4 q5 q6 h7 v3)
          have hzz := HX.out.2.2.2.2.2
          rw [if_neg (by rw [HQ.out.2]; decide)] at hzz
          obtain ⟨es, hes⟩ : ∃ es, canon N (adj ps) = es := ⟨_, rfl⟩
          have hel : es.length ≤ 1000000 := by rw [← hes]; exact Nat.le_trans (canon_len _ _) (Nat.le_trans (Nat.mul_le_mul hN24 hN24) (by omega))
          rw [hes] at HY hzz ⊢
          obtain ⟨W, hW, y0, y1, y2, y3, y4⟩ := res_out (.int .i64 (N : Int)) (.slice a1 es.length c1) (.slice b1 N d1) HY.out.2.2.2
          rw [← hW]
          refine bodyPost_ret (v := .tuple #[.agg #[.int .i64 N, .slice a1 es.length c1, .slice b1 N d1], .int .i64 0]) (by simp [results, Tryz.results18, go_sem, y0, y1, y2]) rfl ?_
          have hEW : OwnE W (w6).heap.size 69 (.slice a1 es.length c1) es := ownsRow_block HY.out.1 fun g hg => y4 g (by have := (HY.out.1.block_lt hg).2; have := HE6.out.2.2.2.2; omega)
          have hUW : Own W (w6).heap.size (.slice b1 N d1) 3 (ints (fill N cs)) := ownsRow_block HY.out.2.1 fun g hg => y4 g (by have := (HY.out.2.1.block_lt hg).2; have := HE6.out.2.2.2.2; omega)
          rw [hzz]
          refine ⟨a1, c1, b1, d1, by rw [Hfl.out.2], hEW.edg (by omega), hUW.toInts (by rw [Hfl.out.2]; unfold maxLen; omega), ?_⟩
          rw [hR]
          exact ((HX.out.2.2.2.1.trans (HE6.out.2.1 R (by have := HX.out.2.2.2.2.1; omega))).trans (HY.out.2.2.1.mono (by have := HE6.out.2.2.2.2; omega))).trans y3
        · have hcb : (cc != 0) = true := by simp [hc0]
          go_wp2_with (go_at_call 73; refine K73.mono ?_; rintro e w2 ⟨rfl, hw2⟩; replace hw2 := hw2.symm; subst hw2)
          obtain ⟨W, hW, y0, y1, y2, y3, y4⟩ := res_out (.int .i64 0) (.slice none 0 0) (.slice none 0 0) HE6.out.2.2.1
          rw [← hW]
          have hzz := HX.out.2.2.2.2.2
          rw [if_pos (by rw [HQ.out.2]; exact hc0), HQ.out.2] at hzz
          exact bodyPost_ret (v := .tuple #[.agg #[.int .i64 0, .slice none 0 0, .slice none 0 0], .int .i64 cc]) (by simp [results, Tryz.results18, go_sem, y0, y1, y2]) rfl (MakeRes.bad hzz (by rw [hR]; exact (HX.out.2.2.2.1.trans (HE6.out.2.1 R (by have := HX.out.2.2.2.2.1; omega))).trans y3))
      · have hfl : fill N cs = cs := by unfold fill; rw [if_neg (by rw [H.out.2.2.2.1]; exact hM0)]
        have hfll : (fill N cs).length = M := by rw [hfl]; exact H.out.2.2.2.1
        have hi6 : Ints wr b (fill N cs) := by rw [hfl]; exact H.out.2.1.below (by rw [hR]; exact HX.out.2.2.2.1)
        obtain ⟨Bc, oc, rfl, _, _⟩ := hi6.at_ (k := 0) (by rw [hfll]; omega)
        have Hfl := Lib.hid (And.intro hfl hfll)
        have hM64 : M ≤ 1000 := by have := H.out.2.2.2.1; have := H.out.2.2.2.2.2.2.2; omega
        have HE6 := Lib.hid (And.intro HX.out.1 (And.intro (fun B (_ : B ≤ wr.heap.size) => Below.refl B wr) (And.intro HX.out.2.2.1 (And.intro hi6 (by omega : R < wr.heap.size)))))
        clear hfl hfll
        have K73 := coloursR_calls (N : Int) (some ⟨Bc, oc, none⟩) d (fill N cs) wr hi6
        rw [Hfl.out.2] at K73
        obtain ⟨cc, hcc⟩ : ∃ cc, chkC N (fill N cs) = cc := ⟨_, rfl⟩
        rw [hcc] at K73
        have K74 := ofR_graph_calls (w := wr) (n := N) (G := G) (c := N) (d := d) (f := adjF ps) (cs := fill N cs) (ad := ⟨Bc, oc, none⟩) HE6.out.1 (by omega) HE6.out.2.2.2.1 (by rw [Hfl.out.2]; omega)
        rw [Hfl.out.2, one_adjF] at K74
        obtain ⟨s0, s1, s2, s3⟩ := zres_cells HE6.out.2.2.1
        have s30 := s3 0
        have s31 := s3 1
        have s32 := s3 2
        have HQ := Lib.hid (And.intro K74 hcc)
        clear K74 hcc s3
        by_cases hc0 : cc = 0
        · subst hc0
          go_wp2_with (go_at_call 73; refine K73.mono ?_; rintro e w2 ⟨rfl, hw2⟩; replace hw2 := hw2.symm; subst hw2)
          go_wp2_with (go_at_call 74; refine HQ.out.1.mono ?_; rintro e w7 ⟨a1, c1, b1, d1, rfl, q4, q5, q6⟩; have h7 : w7.heap[R]? = some (.cells #[.int .i64 0, .slice none 0 0, .slice none 0 0] 25) := (q6.block R HE6.out.2.2.2.2).trans HE6.out.2.2.1; obtain ⟨v0, v1, v2, v3⟩ := zres_cells h7; have v30 := v3 0; have v31 := v3 1; have v32 := v3 2; have HY := Lib.hid (And.intro q4 (And.intro q5 (And.intro q6 h7))); clear q4 q5 q6 h7 v3)
          have hzz := HX.out.2.2.2.2.2
          rw [if_neg (by rw [HQ.out.2]; decide)] at hzz
          obtain ⟨es, hes⟩ : ∃ es, canon N (adj ps) = es := ⟨_, rfl⟩
          have hel : es.length ≤ 1000000 := by rw [← hes]; exact Nat.le_trans (canon_len _ _) (Nat.le_trans (Nat.mul_le_mul hN24 hN24) (by omega))
          rw [hes] at HY hzz ⊢
          obtain ⟨W, hW, y0, y1, y2, y3, y4⟩ := res_out (.int .i64 (N : Int)) (.slice a1 es.length c1) (.slice b1 M d1) HY.out.2.2.2
          rw [← hW]
          refine bodyPost_ret (v := .tuple #[.agg #[.int .i64 N, .slice a1 es.length c1, .slice b1 M d1], .int .i64 0]) (by simp [results, Tryz.results18, go_sem, y0, y1, y2]) rfl ?_
          have hEW : OwnE W (wr).heap.size 69 (.slice a1 es.length c1) es := ownsRow_block HY.out.1 fun g hg => y4 g (by have := (HY.out.1.block_lt hg).2; have := HE6.out.2.2.2.2; omega)
          have hUW : Own W (wr).heap.size (.slice b1 M d1) 3 (ints (fill N cs)) := ownsRow_block HY.out.2.1 fun g hg => y4 g (by have := (HY.out.2.1.block_lt hg).2; have := HE6.out.2.2.2.2; omega)
          rw [hzz]
          refine ⟨a1, c1, b1, d1, by rw [Hfl.out.2], hEW.edg (by omega), hUW.toInts (by rw [Hfl.out.2]; unfold maxLen; omega), ?_⟩
          rw [hR]
          exact ((HX.out.2.2.2.1.trans (HE6.out.2.1 R (by have := HX.out.2.2.2.2.1; omega))).trans (HY.out.2.2.1.mono (by have := HE6.out.2.2.2.2; omega))).trans y3
        · have hcb : (cc != 0) = true := by simp [hc0]
          go_wp2_with (go_at_call 73; refine K73.mono ?_; rintro e w2 ⟨rfl, hw2⟩; replace hw2 := hw2.symm; subst hw2)
          obtain ⟨W, hW, y0, y1, y2, y3, y4⟩ := res_out (.int .i64 0) (.slice none 0 0) (.slice none 0 0) HE6.out.2.2.1
          rw [← hW]
          have hzz := HX.out.2.2.2.2.2
          rw [if_pos (by rw [HQ.out.2]; exact hc0), HQ.out.2] at hzz
          exact bodyPost_ret (v := .tuple #[.agg #[.int .i64 0, .slice none 0 0, .slice none 0 0], .int .i64 cc]) (by simp [results, Tryz.results18, go_sem, y0, y1, y2]) rfl (MakeRes.bad hzz (by rw [hR]; exact (HX.out.2.2.2.1.trans (HE6.out.2.1 R (by have := HX.out.2.2.2.2.1; omega))).trans y3))
end Go.Proofs.YtifkieopaoooeaaGreatDoor
