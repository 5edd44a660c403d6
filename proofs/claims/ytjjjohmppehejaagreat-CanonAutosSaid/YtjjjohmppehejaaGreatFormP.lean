/- Move and Form: what is handed back is the call's own. -/
import Derived.Test.YtjjjohmppehejaaGreatLabW
import Derived.Test.YtjjjohmppehejaaGreatMoveA
set_option linter.unusedSimpArgs false
set_option linter.unusedVariables false
namespace Go.Proofs.YtjjjohmppehejaaGreat
open Go.RowKit Plain PlainG PlainT
/-- A graph that is handed back, its rows the call's own. -/
def MakeResO (w : World) (r : Gr × Int) (e : Ending) (w' : World) : Prop :=
  ∃ a c b d, e = .returned (.tuple #[.agg #[.int .i64 r.1.n, .slice a r.1.es.length c, .slice b r.1.cs.length d], .int .i64 r.2]) ∧ Edg w' a r.1.es ∧ Ints w' b r.1.cs ∧ Below w.heap.size w w' ∧ OwnE w' w.heap.size 58 (.slice a r.1.es.length c) r.1.es ∧ Own w' w.heap.size (.slice b r.1.cs.length d) 3 (ints r.1.cs)
theorem MakeResO.bad {w w' : World} {r : Gr × Int} {e : Int} (hr : r = (⟨0, [], []⟩, e)) (h : Below w.heap.size w w') : MakeResO w r (.returned (.tuple #[.agg #[.int .i64 0, .slice none 0 0, .slice none 0 0], .int .i64 e])) w' := by
  subst hr
  exact ⟨none, 0, none, 0, rfl, Edg.nil _, Row.nil, h, OwnE.nil _ _ _, Own.nil _ _ _⟩
set_option maxRecDepth 100000 in
set_option maxHeartbeats 4000000 in
theorem gmove_own {w : World} {a b p : Option Addr} {c d e : Nat} {g : Gr} {pl : List Int} (he : Edg w a g.es) (hc : Ints w b g.cs) (hp : Ints w p pl) (hpl : pl.length ≤ 1000) :
    Calls Tryz.prog 41 #[.agg #[.int .i64 g.n, .slice a g.es.length c, .slice b g.cs.length d], .slice p pl.length e] w fun r w' => MakeResO w (moveA g pl) r w' := by
  obtain ⟨W1, hW1, hb1, hs1, hres⟩ := two_graphs (w := w) (.int .i64 g.n) (.slice a g.es.length c) (.slice b g.cs.length d)
  have K27 := gcheck_calls (c := c) (d := d) (he.below hb1) (hc.below hb1)
  obtain ⟨z, hz⟩ : ∃ z, moveA g pl = z := ⟨_, rfl⟩
  rw [hz]
  obtain ⟨E, hE⟩ : ∃ E, chkGr g = E := ⟨_, rfl⟩
  rw [hE] at K27
  have hm : ∀ w2, Below W1.heap.size W1 w2 → Below (w.heap.size + 2) W1 w2 := fun w2 h => h.mono (by omega)
  obtain ⟨x0, x1, x2, x3, _, _⟩ := hres W1 (Below.refl _ _)
  have x4 := zres_cells x3
  obtain ⟨s0, s1, s2, s3⟩ := x4
  have s30 := s3 0
  have s31 := s3 1
  have s32 := s3 2
  obtain ⟨L, hL⟩ : ∃ L, g.es.length = L := ⟨_, rfl⟩
  obtain ⟨M, hM⟩ : ∃ M, g.cs.length = M := ⟨_, rfl⟩
  obtain ⟨Q, hQ⟩ : ∃ Q, pl.length = Q := ⟨_, rfl⟩
  by_cases hE0 : E = 0
  · obtain ⟨N, hN, hN24, hel, hev, hcl⟩ := chk_edges (hE.trans hE0)
    have K82 := fun w' (h : Below w.heap.size w w') => labelling_calls (w := w') e (N : Int) (hp.below h) (by omega)
    obtain ⟨B, hB⟩ : ∃ B, permB N pl = B := ⟨_, rfl⟩
    rw [hB] at K82
    cases B with
    | false =>
      have hz0 : z = (⟨0, [], []⟩, 3) := by rw [← hz]; unfold moveA; rw [if_neg (by rw [hE]; simpa using hE0), hN, hB, if_neg (by decide)]; rfl
      rw [hN] at K27 hres hW1 x0 ⊢
      rw [hL] at K27 hres hW1 x1 ⊢
      rw [hM] at K27 hres hW1 x2 ⊢
      rw [hQ] at K82 ⊢
      have H := Lib.hid (And.intro K27 (And.intro K82 (And.intro hres (And.intro hz0 hm))))
      have HW := Lib.hid hW1
      clear K27 K82 hres hz0 hm hW1 hz hE hN hN24 hel hev hcl hB he hc hp hL hM hQ s3 hs1 x3
      subst hE0
      go_enter Tryz.func41, Tryz.ntmps41
      go_upto_region 1 with (fail)
      rw [← HW.out]
      go_wp2_with (first
        | (go_at_call 46; refine H.out.1.mono ?_; rintro e w2 ⟨rfl, hw2⟩; obtain ⟨x0, x1, x2, x3, x4, x5⟩ := H.out.2.2.1 _ (H.out.2.2.2.2 _ hw2); obtain ⟨s0, s1, s2, s3⟩ := zres_cells x3; have s30 := s3 0; have s31 := s3 1; have s32 := s3 2; have HA := Lib.hid (And.intro x4 (H.out.2.2.2.2 _ hw2)); clear hw2 x3 x4 s3)
        | (go_at_call 60; refine (H.out.2.1 _ HA.out.1).mono ?_; rintro e w3 ⟨rfl, hw3⟩; obtain ⟨x0, x1, x2, x3, x4, x5⟩ := H.out.2.2.1 _ (HA.out.2.trans (hw3.mono x5)); obtain ⟨s0, s1, s2, s3⟩ := zres_cells x3; have s30 := s3 0; have s31 := s3 1; have s32 := s3 2; have HB := Lib.hid (And.intro x4 x3); clear hw3 x3 x4 s3))
      obtain ⟨W, hW, y0, y1, y2, y3, y4⟩ := res_out (.int .i64 0) (.slice none 0 0) (.slice none 0 0) HB.out.2
      rw [← hW]
      exact bodyPost_ret (v := .tuple #[.agg #[.int .i64 0, .slice none 0 0, .slice none 0 0], .int .i64 3]) (by simp [results, Tryz.results41, go_sem, y0, y1, y2]) rfl (MakeResO.bad H.out.2.2.2.1 (HB.out.1.trans (y3.mono (by omega))))
    | true =>
      obtain ⟨p1, p2, p3⟩ := permB_iff.1 hB
      have hQN : pl.length = N := by omega
      have hz0 : z = (movedG N pl g.es g.cs, 0) := by rw [← hz]; unfold moveA; rw [if_neg (by rw [hE]; simpa using hE0), hN, hB, if_pos rfl, Int.toNat_natCast]
      have K83 := fun w' (h : Below w.heap.size w w') => movedP_ok (w := w') (c := c) (d := d) (e := e) (he.below h) (hc.below h) (hp.below h) hN24 (by omega) hev hcl hQN p2 p3
      rw [hcl] at hM
      subst hM
      rw [hN] at K27 hres hW1 x0 ⊢
      rw [hL] at K27 hres hW1 x1 K83 ⊢
      rw [hcl] at K27 hres hW1 x2 ⊢
      rw [hQN] at K82 ⊢
      have H := Lib.hid (And.intro K27 (And.intro K82 (And.intro hres (And.intro hz0 (And.intro hm K83)))))
      have HW := Lib.hid hW1
      clear K27 K82 hres hz0 hm hW1 hz hE hN hel hev hcl hB he hc hp hL hQ s3 K83 p1 p2 p3 hQN hpl hs1 x3
      subst hE0
      go_enter Tryz.func41, Tryz.ntmps41
      go_upto_region 1 with (fail)
      rw [← HW.out]
      go_wp2_with (first
        | (go_at_call 46; refine H.out.1.mono ?_; rintro e w2 ⟨rfl, hw2⟩; obtain ⟨x0, x1, x2, x3, x4, x5⟩ := H.out.2.2.1 _ (H.out.2.2.2.2.1 _ hw2); obtain ⟨s0, s1, s2, s3⟩ := zres_cells x3; have s30 := s3 0; have s31 := s3 1; have s32 := s3 2; have HA := Lib.hid (And.intro x4 (H.out.2.2.2.2.1 _ hw2)); clear hw2 x3 x4 s3)
        | (go_at_call 60; refine (H.out.2.1 _ HA.out.1).mono ?_; rintro e w3 ⟨rfl, hw3⟩; have hw3' := HA.out.2.trans (hw3.mono x5); obtain ⟨x0, x1, x2, x3, x4, x5⟩ := H.out.2.2.1 _ hw3'; obtain ⟨s0, s1, s2, s3⟩ := zres_cells x3; have s30 := s3 0; have s31 := s3 1; have s32 := s3 2; have HB := Lib.hid (And.intro x4 (And.intro hw3' x5)); clear hw3 x3 x4 s3 hw3')
        | (go_at_call 61; refine (H.out.2.2.2.2.2 _ HB.out.1).mono ?_; rintro e w4 ⟨a1, c1, b1, d1, rfl, q1, q2, q3⟩; have hw4' := HB.out.2.1.trans (q3.mono HB.out.2.2); obtain ⟨x0, x1, x2, x3, x4, x5⟩ := H.out.2.2.1 _ hw4'; obtain ⟨s0, s1, s2, s3⟩ := zres_cells x3; have s30 := s3 0; have s31 := s3 1; have s32 := s3 2; have HC := Lib.hid (And.intro q1 (And.intro q2 (And.intro x4 x3))); clear q1 q2 q3 x3 x4 s3 hw4'))
      obtain ⟨es', hes'⟩ : ∃ es', (movedG N pl g.es g.cs).es = es' := ⟨_, rfl⟩
      obtain ⟨W, hW, y0, y1, y2, y3, y4⟩ := res_out (.int .i64 (N : Int)) (.slice a1 (movedG N pl g.es g.cs).es.length c1) (.slice b1 N d1) HC.out.2.2.2
      rw [← hW]
      have hz1 := H.out.2.2.2.1
      refine bodyPost_ret (v := .tuple #[.agg #[.int .i64 N, .slice a1 (movedG N pl g.es g.cs).es.length c1, .slice b1 N d1], .int .i64 0]) (by simp [results, Tryz.results41, go_sem, y0, y1, y2]) rfl ?_
      rw [hz1]
      have hEW : OwnE W _ 58 (.slice a1 (movedG N pl g.es g.cs).es.length c1) (movedG N pl g.es g.cs).es := ownsRow_block HC.out.1 fun g hg => y4 g (by have := (HC.out.1.block_lt hg).2; have := HB.out.2.2; omega)
      have hUW : Own W _ (.slice b1 N d1) 3 (ints (movedG N pl g.es g.cs).cs) := ownsRow_block HC.out.2.1 fun g hg => y4 g (by have := (HC.out.2.1.block_lt hg).2; have := HB.out.2.2; omega)
      have hcl : (movedG N pl g.es g.cs).cs.length = N := movTo_len _ _ _ _
      refine ⟨a1, c1, b1, d1, by simp only [hcl]; rfl, hEW.edg (by have := canon_len N (adj (g.es.map (mvE pl))); have : N * N ≤ 24 * 24 := Nat.mul_le_mul hN24 hN24; simp only [movedG]; omega), hUW.toInts (by rw [hcl]; unfold maxLen; omega), HC.out.2.2.1.trans (y3.mono (by omega)), hEW.mono (by have := HB.out.2.2; have := HB.out.2.1.size; omega), by have := hUW.mono (B' := w.heap.size) (by have := HB.out.2.2; have := HB.out.2.1.size; omega); rw [hcl]; exact this⟩
  · have hz0 : z = (⟨0, [], []⟩, E) := by rw [← hz]; unfold moveA; rw [if_pos (by rw [hE]; exact hE0), hE]; rfl
    have hEn : (E != 0) = true := by simp [hE0]
    obtain ⟨N, hN⟩ : ∃ N, g.n = N := ⟨_, rfl⟩
    rw [hN] at K27 hres hW1 x0 ⊢
    rw [hL] at K27 hres hW1 x1 ⊢
    rw [hM] at K27 hres hW1 x2 ⊢
    rw [hQ]
    have H := Lib.hid (And.intro K27 (And.intro hres (And.intro hz0 hm)))
    have HW := Lib.hid hW1
    clear K27 hres hz0 hm hW1 hz hE hN he hc hp hL hM hQ s3 hs1 x3 hE0
    go_enter Tryz.func41, Tryz.ntmps41
    go_upto_region 1 with (fail)
    rw [← HW.out]
    go_wp2_with (go_at_call 46; refine H.out.1.mono ?_; rintro e w2 ⟨rfl, hw2⟩; obtain ⟨x0, x1, x2, x3, x4, x5⟩ := H.out.2.1 _ (H.out.2.2.2 _ hw2); obtain ⟨s0, s1, s2, s3⟩ := zres_cells x3; have s30 := s3 0; have s31 := s3 1; have s32 := s3 2; have HA := Lib.hid (And.intro x4 x3); clear hw2 x3 x4 s3)
    obtain ⟨W, hW, y0, y1, y2, y3, y4⟩ := res_out (.int .i64 0) (.slice none 0 0) (.slice none 0 0) HA.out.2
    rw [← hW]
    exact bodyPost_ret (v := .tuple #[.agg #[.int .i64 0, .slice none 0 0, .slice none 0 0], .int .i64 E]) (by simp [results, Tryz.results41, go_sem, y0, y1, y2]) rfl (MakeResO.bad H.out.2.2.1 (HA.out.1.trans (y3.mono (by omega))))
theorem OwnE.off {w w' : World} {B C : Nat} {T : TypeId} {v : Value} {ts : List E2} (h : OwnE w B T v ts) (hg : w.grownBy w' (some C)) (hC : C < B) : OwnE w' B T v ts :=
  ownsRow_block h fun g hg2 => hg.block g (h.block_lt hg2).1 (by have := (h.block_lt hg2).2; intro e; injection e with e; omega)
def formG (g : Gr) : Gr × Int := if ckA [g] ≠ 0 then (⟨0, [], []⟩, ckA [g]) else (formT g.n.toNat g, 0)
theorem zbox25 {w : World} : (w.alloc (.cells #[.int .i64 0, .slice none 0 0, .slice none 0 0] 25)).heap[w.heap.size]? = some (.cells #[.int .i64 0, .slice none 0 0, .slice none 0 0] 25) := by
  show (w.heap.push _)[w.heap.size]? = some _
  simp
set_option maxRecDepth 100000 in
set_option maxHeartbeats 2000000 in
theorem form_calls {w : World} {g : Gr} {ea ca : Option Addr} {ec cc : Nat} (he : Edg w ea g.es) (hc : Ints w ca g.cs) :
    Calls Tryz.prog 27 #[.agg #[.int .i64 g.n, .slice ea g.es.length ec, .slice ca g.cs.length cc]] w fun e w' => MakeResO w (formG g) e w' := by
  obtain ⟨X, hX⟩ : ∃ X, w.heap.size = X := ⟨_, rfl⟩
  have hb1 : Below w.heap.size w ((w.alloc (.cells #[.int .i64 g.n, .slice ea g.es.length ec, .slice ca g.cs.length cc] 25)).alloc (.cells #[.int .i64 0, .slice none 0 0, .slice none 0 0] 25)) := alloc_b (alloc_b (Below.refl _ _) _) _
  obtain ⟨W1, hW1⟩ : ∃ W1, (w.alloc (.cells #[.int .i64 g.n, .slice ea g.es.length ec, .slice ca g.cs.length cc] 25)).alloc (.cells #[.int .i64 0, .slice none 0 0, .slice none 0 0] 25) = W1 := ⟨_, rfl⟩
  rw [hW1] at hb1
  have K30 := lab_calls (g := g) (ec := ec) (cc := cc) (he.below hb1) (hc.below hb1)
  have K41 := fun (W : World) (k : Below W1.heap.size W1 W) (p : Option Addr) (e : Nat) (pl : List Int) (hp : Ints W p pl) (hl : pl.length ≤ 1000) => gmove_own (g := g) (c := ec) (d := cc) (e := e) ((he.below hb1).below k) ((hc.below hb1).below k) hp hl
  have hs1 : W1.heap.size = X + 2 := by rw [← hW1, ← hX]; simp
  have hbox : W1.heap[X + 1]? = some (.cells #[.int .i64 0, .slice none 0 0, .slice none 0 0] 25) := by
    rw [← hW1, ← hX]
    have := zbox25 (w := w.alloc (.cells #[.int .i64 g.n, .slice ea g.es.length ec, .slice ca g.cs.length cc] 25))
    simpa using this
  obtain ⟨n, hn⟩ : ∃ n, g.n = n := ⟨_, rfl⟩
  obtain ⟨L, hL⟩ : ∃ L, g.es.length = L := ⟨_, rfl⟩
  obtain ⟨M, hM⟩ : ∃ M, g.cs.length = M := ⟨_, rfl⟩
  rw [hn, hL, hM] at K30 hW1 ⊢
  simp only [hn, hL, hM] at K41
  have x0 : W1.cell? ⟨X, 0, none⟩ = some (.int .i64 n) := by rw [← hW1, ← hX]; simp
  have x1 : W1.cell? ⟨X, 1, none⟩ = some (.slice ea L ec) := by rw [← hW1, ← hX]; simp
  have x2 : W1.cell? ⟨X, 2, none⟩ = some (.slice ca M cc) := by rw [← hW1, ← hX]; simp
  obtain ⟨E, hE⟩ : ∃ E, ckA [g] = E := ⟨_, rfl⟩
  by_cases h0 : E = 0
  · subst h0
    obtain ⟨h1, h2⟩ := ck_one hE
    have g1 := chkGr_ok.1 h1
    obtain ⟨N, hN⟩ : ∃ N, g.n.toNat = N := ⟨_, rfl⟩
    have hvg : Vg N g := ⟨h1, by omega⟩
    have hlab : labG g = (bestT N g, 0) := by unfold labG; rw [if_neg (by simp [hE]), hN]
    have hbl : (bestT N g).length = N := all_len hvg _ (best_all hvg).1
    have hmv : moveA g (bestT N g) = (formT N g, 0) := by
      obtain ⟨s, t, hp, e⟩ := all_perm hvg _ (best_all hvg).1
      unfold moveA formT
      rw [if_neg (by simp [h1]), if_pos (by rw [e, hvg.num]; exact permB_permL hp), hvg.num]; simp
    have hfm : formG g = (formT N g, 0) := by unfold formG; rw [if_neg (by simp [hE]), hN]
    have hfv := form_vg hvg
    have hfe : (formT N g).es.length ≤ 1000 := by
      have := canon_len N (adj (g.es.map (mvE (bestT N g))))
      have h24 := hvg.le
      have : N * N ≤ 24 * 24 := Nat.mul_le_mul h24 h24
      simp only [formT, movedG]; omega
    rw [hlab] at K30
    rw [hfm]
    simp only at K30
    rw [hbl] at K30
    have K := fun W k p e (hp : Ints W p (bestT N g)) => K41 W k p e (bestT N g) hp (by have := hvg.le; omega)
    rw [hmv, hbl] at K
    unfold MakeResO at K ⊢
    simp only at K ⊢
    obtain ⟨F, hF⟩ : ∃ F, formT N g = F := ⟨_, rfl⟩
    rw [hF] at K hfv hfe ⊢
    have hFn := hfv.num
    have hFc := hfv.cl
    rw [hFn] at K ⊢
    obtain ⟨LF, hLF⟩ : ∃ l, F.es.length = l := ⟨_, rfl⟩
    rw [hFc, hLF] at K ⊢
    have H := Lib.hid (And.intro K30 (And.intro K (And.intro hb1 (And.intro hX (And.intro hs1 (And.intro hLF hFc))))))
    have H9 := Lib.hid (And.intro hfe (show N ≤ 24 from hvg.le))
    clear K30 K41 K hb1 he hc hE h1 h2 g1 hN hvg hlab hbl hmv hfm hfv hfe hF hFn hFc hLF hn hL hM
    go_enter Tryz.func27, Tryz.ntmps27
    go_wp2_with fail
    refine H.out.1.mono ?_
    rintro e w3 ⟨a3, c3, rfl, hi, hw3⟩
    have y0 := (hw3.cell (block_lt_of_cell x0)).trans x0
    have y1 := (hw3.cell (block_lt_of_cell x1)).trans x1
    have y2 := (hw3.cell (block_lt_of_cell x2)).trans x2
    have hB3 := (hw3.block (X + 1) (by rw [H.out.2.2.2.2.1]; omega)).trans hbox
    have hX3 : X + 1 < w3.heap.size := by have h1 := hw3.size; have h2 := H.out.2.2.2.2.1; omega
    have H3 := Lib.hid (And.intro hi (And.intro hw3 hB3))
    clear hi hw3 hB3 x0 x1 x2 hW1 hbox
    go_wp2_with fail
    refine (H.out.2.1 w3 H3.out.2.1 a3 c3 H3.out.1).mono ?_
    rintro e w4 ⟨a, c, b, d, rfl, h1, h2, hw4, o1, o2⟩
    have hB4 := (hw4.block (X + 1) hX3).trans H3.out.2.2
    obtain ⟨s0, s1, s2, s3⟩ := zres_cells hB4
    have s30 := s3 0
    have s31 := s3 1
    have s32 := s3 2
    have H4 := Lib.hid (And.intro o1 (And.intro o2 (And.intro hw4 hB4)))
    clear h1 h2 hw4 o1 o2 hB4 s3
    go_wp2
    obtain ⟨W, hW, v0, v1, v2, v3, v4⟩ := res_out (.int .i64 (N : Int)) (.slice a LF c) (.slice b N d) H4.out.2.2.2
    rw [← hW]
    have gF : w4.grownBy W (some (X + 1)) := by rw [hW]; exact ((grown_put 0 _).trans (grown_put 1 _)).trans (grown_put 2 _)
    have hE9 := H4.out.1.off gF hX3
    have hU9 := H4.out.2.1.off gF hX3
    have hbF : Below w.heap.size w W := by
      refine (below_two H.out.2.2.1 (below_two H3.out.2.1 H4.out.2.2.1)).grown gF (Nat.le_trans H.out.2.2.1.size (Nat.le_trans H3.out.2.1.size H4.out.2.2.1.size)) (fun g hg => ?_)
      cases hg; rw [H.out.2.2.2.1]; omega
    have hle : w.heap.size ≤ w3.heap.size := Nat.le_trans H.out.2.2.1.size H3.out.2.1.size
    refine bodyPost_ret (v := .tuple #[.agg #[.int .i64 (N : Int), .slice a LF c, .slice b N d], .int .i64 0]) (by simp [results, Tryz.results27, go_sem, v0, v1, v2]) rfl ?_
    have hee : Edg W a F.es := by
      have := H4.out.1.off gF hX3
      rw [← H.out.2.2.2.2.2.1] at this
      exact this.edg (by have := H9.out.1; omega)
    have hii : Ints W b F.cs := hU9.toInts (by rw [H.out.2.2.2.2.2.2]; have := H9.out.2; unfold maxLen; omega)
    exact ⟨a, c, b, d, rfl, hee, hii, hbF, hE9.mono hle, hU9.mono hle⟩
  · have h0b : (E != 0) = true := by simpa using h0
    have hlab : labG g = ([], E) := by unfold labG; rw [if_pos (by rw [hE]; exact h0), hE]
    have hfm : formG g = (⟨0, [], []⟩, E) := by unfold formG; rw [if_pos (by rw [hE]; exact h0), hE]
    rw [hlab] at K30
    rw [hfm]
    have H := Lib.hid (And.intro K30 (And.intro hb1 (And.intro hX hs1)))
    clear K30 K41 hb1 he hc hE hlab hfm hn hL hM h0
    go_enter Tryz.func27, Tryz.ntmps27
    go_wp2_with fail
    refine H.out.1.mono ?_
    rintro e w3 ⟨a3, c3, rfl, hi, hw3⟩
    have hB3 := (hw3.block (X + 1) (by rw [H.out.2.2.2]; omega)).trans hbox
    obtain ⟨s0, s1, s2, s3⟩ := zres_cells hB3
    have s30 := s3 0
    have s31 := s3 1
    have s32 := s3 2
    have H3 := Lib.hid (And.intro hw3 hB3)
    clear hi hw3 hB3 x0 x1 x2 hW1 hbox s3
    go_wp2
    obtain ⟨W, hW, v0, v1, v2, v3, v4⟩ := res_out (.int .i64 0) (.slice none 0 0) (.slice none 0 0) H3.out.2
    rw [← hW]
    exact bodyPost_ret (v := .tuple #[.agg #[.int .i64 0, .slice none 0 0, .slice none 0 0], .int .i64 E]) (by simp [results, Tryz.results27, go_sem, v0, v1, v2]) rfl (MakeResO.bad rfl ((below_two H.out.2.1 H3.out.1).trans (v3.mono (by rw [H.out.2.2.1]; omega))))
end Go.Proofs.YtjjjohmppehejaaGreat
