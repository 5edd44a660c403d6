/- ordered and built: a graph of edges in any order. -/
import Derived.Test.YtjjjohmppehejaaGreatComp
import Derived.Test.YtjjjohmppehejaaGreatDrawn
set_option linter.unusedSimpArgs false
set_option linter.unusedVariables false
namespace Go.Proofs.YtjjjohmppehejaaGreat
open Go.RowKit Plain PlainG
theorem below_grown {w w' : World} (k : Below w.heap.size w w') (r : Option Nat) : w.grownBy w' r := ⟨k.os, k.tape, k.output, k.size, fun i hi _ => k.block i hi⟩
theorem compact_len : ∀ l : List E2, (compact l).length ≤ l.length
  | [] => Nat.le_refl _
  | x :: r => by
    have ih := compact_len r
    rw [compact]
    cases hc : compact r with
    | nil => simp
    | cons y t =>
      rw [hc] at ih
      simp only [List.length_cons] at ih ⊢
      split <;> simp only [List.length_cons] <;> omega
def ord2 (i k : Int) : Int × Int := (min i k, max i k)
set_option maxHeartbeats 1000000 in
theorem ordered_calls (i k : Int) (w : World) : Calls Tryz.prog 74 #[.int .i64 i, .int .i64 k] w fun e w' => e = .returned (.agg #[.int .i64 (ord2 i k).1, .int .i64 (ord2 i k).2]) ∧ Below w.heap.size w w' := by
  go_enter Tryz.func74, Tryz.ntmps74
  go_wp2
  exact bodyPost_ret (v := .agg #[.int .i64 (min i k), .int .i64 (max i k)]) (by simp [results, Tryz.results74, go_sem]) rfl ⟨rfl, (Below.refl _ w).alloc (Nat.le_refl _) _⟩
theorem gb_app2 {W0 w w6 : World} {q N n cap G Bu : Nat} {v u : Value} {o : Obj} {es : List (Int × Int)} {x : Int × Int} {cs : List Int} (hG : GB w q N v u) (hE : OwnE w W0.heap.size 58 v es) (hU : Own w Bu u 3 (ints cs)) (hub : ∀ g, u.ownBlock = some g → g < W0.heap.size ∧ g ≠ q) (hK : Kept W0 w [q]) (hq : q < W0.heap.size)
    (k3 : (w.alloc o).grownBy w6 v.ownBlock) (k2 : OwnE w6 W0.heap.size 58 (.slice (some ⟨G, 0, none⟩) n cap) (es ++ [x])) (hGB : W0.heap.size ≤ G) :
    GB w6 q N v u ∧ GB (w6.setCell ⟨q, 1, none⟩ (.slice (some ⟨G, 0, none⟩) n cap)) q N (.slice (some ⟨G, 0, none⟩) n cap) u ∧ OwnE (w6.setCell ⟨q, 1, none⟩ (.slice (some ⟨G, 0, none⟩) n cap)) W0.heap.size 58 (.slice (some ⟨G, 0, none⟩) n cap) (es ++ [x]) ∧
    Own (w6.setCell ⟨q, 1, none⟩ (.slice (some ⟨G, 0, none⟩) n cap)) Bu u 3 (ints cs) ∧ Kept W0 (w6.setCell ⟨q, 1, none⟩ (.slice (some ⟨G, 0, none⟩) n cap)) [q] := by
  have hvb : ∀ g, v.ownBlock = some g → W0.heap.size ≤ g := fun g hg => (hE.block_lt hg).2
  have hvq : v.ownBlock ≠ some q := fun e => by have := hvb q e; omega
  have hG6 := (hG.grown (grown_alloc w o none) (by simp)).grown k3 hvq
  have hU6 : Own w6 Bu u 3 (ints cs) := ownsRow_block (hU.alloc o) fun g hg => k3.block g (by have := (hub g hg).1; have := hK.size; simp; omega) (fun e => by have := hvb g e.symm; have := (hub g hg).1; omega)
  refine ⟨hG6, hG6.set1 _, k2.kept (grown_put 1 _) (by right; intro e; have e2 : G = q := Option.some.inj e; omega), ownsRow_block hU6 (fun g hg => Below.heap_setCell _ _ _ _ (hub g hg).2), ?_⟩
  have h1 : Kept W0 (w.alloc o) [q] := hK.trans (Kept.ofGrown (grown_alloc w o none) (by simp))
  have h2 : Kept W0 w6 [q] := h1.transW (S' := v.ownBlock.toList) (Kept.ofGrown k3 (by intro k e; rw [e]; simp)) (by intro k hk; simp at hk; exact .inr (hvb k hk))
  exact h2.trans (Kept.ofGrown (grown_put 1 _) (by intro k e; cases e; simp))
set_option maxRecDepth 100000 in
set_option maxHeartbeats 4000000 in
theorem built_calls {w : World} {D N : Nat} {a b : Option Addr} {c d : Nat} {ts : List (Int × Int)} {cs : List Int} (h : OwnE w D 95 (.slice a ts.length c) ts) (hl : ts.length ≤ 1000000) (hc : ∀ w', w.grownBy w' (Value.slice a ts.length c).ownBlock → Ints w' b cs) (hcl : cs.length ≤ 1000000) (hD : D ≤ w.heap.size) :
    Calls Tryz.prog 75 #[.int .i64 (N : Int), .slice a ts.length c, .slice b cs.length d] w fun e w' => ∃ a1 c1 b1 d1 es, e = .returned (.agg #[.int .i64 (N : Int), .slice a1 (List.length es) c1, .slice b1 cs.length d1]) ∧ Srt es ∧ (∀ x, x ∈ es ↔ x ∈ ts) ∧ es.length ≤ 1000000 ∧ OwnE w' w.heap.size 58 (.slice a1 (List.length es) c1) es ∧ Own w' w.heap.size (.slice b1 cs.length d1) 3 (ints cs) ∧ Below D w w' := by
  obtain ⟨i0, hi, hz0, hz1, hz2⟩ := info_parts Tryz.info58
  have I := Lib.hid (And.intro hi (And.intro hz0 (And.intro hz1 hz2)))
  clear hi hz0 hz1 hz2
  have h1 := h.alloc (.cells #[.int .i64 0, .slice none 0 0, .slice none 0 0] 25)
  have K94 := sortE_calls ts (w.alloc (.cells #[.int .i64 0, .slice none 0 0, .slice none 0 0] 25)) D a c h1 hl
  have hblt : ∀ g, (Value.slice a ts.length c).ownBlock = some g → g < w.heap.size ∧ D ≤ g := fun g hg => h.block_lt hg
  obtain ⟨n, hn⟩ : ∃ n, ts.length = n := ⟨_, rfl⟩
  obtain ⟨M, hM⟩ : ∃ M, cs.length = M := ⟨_, rfl⟩
  rw [hn] at K94 hblt hc ⊢
  rw [hM]
  have H := Lib.hid (And.intro K94 (And.intro hc (And.intro hblt (And.intro hn (And.intro hM (And.intro hcl (And.intro hl hD)))))))
  clear K94 hc hblt hn hM hcl hl hD h h1
  go_enter Tryz.func75, Tryz.ntmps75
  go_wp2_with (go_at_call 86; refine H.out.1.mono ?_; rintro e w2 ⟨rfl, ss, hs1, hs2, hs3, hs4⟩; have HA := Lib.hid (And.intro hs1 (And.intro hs2 (And.intro hs3 hs4))); clear hs1 hs2 hs3 hs4)
  have hI2 := H.out.2.1 w2 ((grown_alloc w _ _).trans HA.out.2.2.2)
  have K53 := clone_calls b d cs w2 hI2 (by have := H.out.2.2.2.2.2.1; omega)
  rw [H.out.2.2.2.2.1] at K53
  have HB := Lib.hid K53
  clear K53 hI2
  go_wp2_with (go_at_call 65; refine HB.out.mono ?_; rintro e w3 ⟨u, rfl, hu1, hu2⟩; obtain ⟨b1, d1, hu, _⟩ := hu1.row (by rw [ints_len]; have := H.out.2.2.2.2.2.1; unfold maxLen; omega); rw [ints_len, H.out.2.2.2.2.1] at hu; subst hu; have HC := Lib.hid (And.intro hu1 hu2); clear hu1 hu2)
  have hsl : ss.length = n := by rw [HA.out.1.length_eq]; exact H.out.2.2.2.1
  obtain ⟨es, hes⟩ : ∃ es, compact ss = es := ⟨_, rfl⟩
  have hLn : es.length ≤ 1000000 := by have h1 := compact_len ss; rw [hes] at h1; have := H.out.2.2.2.1; have := H.out.2.2.2.2.2.2.1; omega
  have hsrt : Srt es := by rw [← hes]; exact compact_srt (HA.out.2.1.imp fun {x y} h => h)
  have hmem : ∀ x, x ∈ es ↔ x ∈ ts := fun x => by rw [← hes, compact_mem]; exact HA.out.1.mem_iff
  obtain ⟨W4, hW4⟩ : ∃ W4, W4 = w3.alloc (.cells #[.int .i64 (N : Int), .slice none 0 0, .slice b1 M d1] 25) := ⟨_, rfl⟩
  have hE3 : OwnE w3 D 95 (.slice a n c) ss := HA.out.2.2.1.kept (below_grown HC.out.2 none) (by cases (Value.slice a n c).ownBlock <;> simp)
  have hE4 : OwnE W4 D 95 (.slice a n c) ss := by rw [hW4]; exact hE3.alloc _
  have K95 := compact_calls (D := D) (a := a) (c := c) (ts := ss) (w := W4) (by rw [hsl]; exact hE4) (by have := H.out.2.2.2.1; have := H.out.2.2.2.2.2.2.1; omega)
  rw [hsl, hes] at K95
  have hs1 : (w.alloc (.cells #[.int .i64 0, .slice none 0 0, .slice none 0 0] 25)).heap.size = w.heap.size + 1 := by simp
  have hs2 : w.heap.size + 1 ≤ w2.heap.size := by have := HA.out.2.2.2.size; omega
  have hs3 := HC.out.2.size
  have hG4 : GB W4 w3.heap.size N (.slice none 0 0) (.slice b1 M d1) := by rw [hW4]; exact ⟨by simp, by simp, by simp, fun o => World.frozen?_alloc_new w3 _ _ o, by simp⟩
  have hU4 : Own W4 w2.heap.size (.slice b1 M d1) 3 (ints cs) := by rw [hW4]; exact HC.out.1.alloc _
  have hub : ∀ g, (Value.slice b1 M d1).ownBlock = some g → w2.heap.size ≤ g ∧ g < w3.heap.size := fun g hg => ⟨(HC.out.1.block_lt hg).2, (HC.out.1.block_lt hg).1⟩
  have hs4 : W4.heap.size = w3.heap.size + 1 := by rw [hW4]; simp
  have hR4 : W4.heap[w.heap.size]? = some (.cells #[.int .i64 0, .slice none 0 0, .slice none 0 0] 25) := by
    rw [hW4, Below.heap_alloc _ _ _ (by omega), HC.out.2.block _ (by omega), HA.out.2.2.2.block _ (by omega) (fun e => by have := (H.out.2.2.1 _ e.symm).1; omega)]
    exact heap_new w _
  have hB4 : Below D w W4 := by
    rw [hW4]
    refine Below.alloc ?_ (by have := H.out.2.2.2.2.2.2.2; omega) _
    refine Below.trans ?_ (HC.out.2.mono (by have := H.out.2.2.2.2.2.2.2; omega))
    exact ((Below.refl D w).alloc H.out.2.2.2.2.2.2.2 _).grown HA.out.2.2.2 (by have := H.out.2.2.2.2.2.2.2; omega) (fun k hk => (H.out.2.2.1 k hk).2)
  rw [← hW4]
  have HD := Lib.hid (And.intro K95 (And.intro hG4 (And.intro hU4 (And.intro hR4 (And.intro hB4 (And.intro hsrt hmem))))))
  have HE := Lib.hid (And.intro hs2 (And.intro hs3 (And.intro hs4 hub)))
  clear hW4 hE3 hE4 K95 hs1 hs2 hs3 hG4 hU4 hub hs4 hR4 hB4 hsrt hmem hes hsl
  obtain ⟨q, hq⟩ : ∃ q, w3.heap.size = q := ⟨_, rfl⟩
  obtain ⟨R, hR⟩ : ∃ R, w.heap.size = R := ⟨_, rfl⟩
  rw [hq] at HD HE ⊢
  rw [hR] at HD HE ⊢
  have hlt0 := H.out.2.2.1
  rw [hR] at hlt0
  have HL := Lib.hid hlt0
  clear hlt0
  obtain ⟨L, hL⟩ : ∃ L, es.length = L := ⟨_, rfl⟩
  rw [hL] at HD hLn
  have hLL := Lib.hid hL
  clear hL
  go_wp2_with (go_at_call 87; refine HD.out.1.mono ?_; rintro e w5 ⟨c5, rfl, hx5, hg5⟩; have HF := Lib.hid (And.intro hx5 hg5); clear hx5 hg5)
  have hbq : (Value.slice a n c).ownBlock ≠ some q := fun e => by have h1 := (HL.out q e).1; have h2 := HE.out; omega
  have hG5 : GB w5 q N (.slice none 0 0) (.slice b1 M d1) := HD.out.2.1.grown HF.out.2 hbq
  have hU5 : Own w5 w2.heap.size (.slice b1 M d1) 3 (ints cs) := ownsRow_block HD.out.2.2.1 fun g hg => HF.out.2.block g (by have h1 := HE.out.2.2.2 g hg; have h2 := HE.out.2.2.1; omega) (fun e => by have h1 := (HL.out g e.symm).1; have h2 := HE.out.2.2.2 g hg; have h3 := HE.out.1; omega)
  have hR5 : w5.heap[R]? = some (.cells #[.int .i64 0, .slice none 0 0, .slice none 0 0] 25) := (HF.out.2.block R (by have h2 := HE.out; omega) (fun e => by have h1 := (HL.out R e.symm).1; omega)).trans HD.out.2.2.2.1
  have hB5 : Below D w w5 := HD.out.2.2.2.2.1.grown HF.out.2 (by have h1 := H.out.2.2.2.2.2.2.2; have h2 := HE.out; omega) (fun k hk => (HL.out k hk).2)
  have hq5 : q < w5.heap.size := by have h1 := HF.out.2.size; have h2 := HE.out.2.2.1; omega
  have hub5 : ∀ g, (Value.slice b1 M d1).ownBlock = some g → g < w5.heap.size ∧ g ≠ q := fun g hg => by have h1 := HE.out.2.2.2 g hg; omega
  have hRq : R ≠ q := by have h2 := HE.out; omega
  have HG := Lib.hid (And.intro hG5 (And.intro hU5 (And.intro hR5 (And.intro hB5 (And.intro hq5 hub5)))))
  clear hG5 hU5 hR5 hB5 hq5 hub5 hbq
  go_loopw [19] (fun i wr => ∃ (k : Nat) (v : Value), k ≤ L ∧ i = .int .i64 (k : Int) ∧ GB wr q N v (.slice b1 M d1) ∧ OwnE wr w5.heap.size 58 v (es.take k) ∧ Own wr w2.heap.size (.slice b1 M d1) 3 (ints cs) ∧ Kept w5 wr [q]) (fun i _ => L - (intOf i).toNat)
  case atStart => exact ⟨0, .slice none 0 0, Nat.zero_le _, rfl, HG.out.1, OwnE.nil _ _ _, HG.out.2.1, Kept.refl _ _⟩
  case round =>
    obtain ⟨k, v, hk, rfl, hGr, hEr, hUr, hKr⟩ := hrel
    have hLm : L ≤ 9223372036854775807 := by have := HF.out.1.len; rw [hLL.out] at this; exact this
    by_cases hlt : k < L
    · obtain ⟨x, hx⟩ : ∃ x, es[k]? = some x := ⟨_, List.getElem?_eq_getElem (by rw [hLL.out]; exact hlt)⟩
      obtain ⟨B, o, ha, hB5, e1, e2⟩ := HF.out.1.at_ k x hx
      subst ha
      have hBR := (HL.out B rfl).1
      have hBq : B ≠ q := by have h2 := HE.out; omega
      replace e1 := (hKr.cell (p := ⟨B, o + k * 2, none⟩) hB5 (by simp; exact hBq)).trans e1
      replace e2 := (hKr.cell (p := ⟨B, o + k * 2 + 1, none⟩) hB5 (by simp; exact hBq)).trans e2
      obtain ⟨x1, x2⟩ := x
      simp only at e1 e2
      have htk : es.take (k + 1) = es.take k ++ [(x1, x2)] := by rw [List.take_add_one, hx]; rfl
      have hkl : (es.take k).length = k := by rw [List.length_take, hLL.out]; omega
      obtain ⟨av, cv, hv⟩ := hEr.any_form
      rw [hkl] at hv
      subst hv
      obtain ⟨wx, hwx⟩ : ∃ wx, wx = wr.alloc (.cells #[.int .i64 x1, .int .i64 x2] 95) := ⟨_, rfl⟩
      have hGx : GB wx q N (.slice av k cv) (.slice b1 M d1) := by rw [hwx]; exact hGr.grown (grown_alloc _ _ none) (by simp)
      have hEx : OwnE wx w5.heap.size 58 (.slice av k cv) (es.take k) := by rw [hwx]; exact hEr.alloc _
      have hUx : Own wx w2.heap.size (.slice b1 M d1) 3 (ints cs) := by rw [hwx]; exact hUr.alloc _
      have hKx : Kept w5 wx [q] := by rw [hwx]; exact hKr.trans (Kept.ofGrown (grown_alloc _ _ none) (by simp))
      have hwxs : wx.heap.size = wr.heap.size + 1 := by rw [hwx]; simp
      have g1 := hGr.c1
      have hqr : q ≠ wr.heap.size := Nat.ne_of_lt hGr.lt
      have hql : q < wr.heap.size := hGr.lt
      have hk64 : k < 1099511627776 := by
        omega
      have HX := Lib.hid (And.intro hGx (And.intro hEx (And.intro hUx (And.intro hKx (And.intro htk (And.intro hkl hwxs))))))
      have HWX := Lib.hid hwx
      clear hGr hEr hUr hKr hGx hEx hUx hKx htk hkl hwxs hx hwx
      go_wp2_with (at_builtin; rw [← HWX.out]; refine appE rfl (.tmp 24) (.tmp 26) 22 58 rfl i0 _ 16 Tryz.underlying22 I.out.1 I.out.2.1 I.out.2.2.1 I.out.2.2.2 rfl (by omega) w5.heap.size (.slice av k cv) (es.take k) k rfl (HX.out.2.1.alloc _) HX.out.2.2.2.2.2.1 ⟨wx.heap.size, 0, none⟩ 1 (x1, x2) (by simp [Act.eval, HX.out.2.2.2.2.2.2]) (pair_new _ _ _ _).1 (pair_new _ _ _ _).2 hk64 (by have h1 := HX.out.2.2.2.1.size; simp; omega) ?_; intro G cap w6 k2 k3 k4 k5 k6 k7; have HY := Lib.hid (And.intro k2 (And.intro k3 k6)); have hgb6 := (gb_app2 HX.out.1 HX.out.2.1 HX.out.2.2.1 HG.out.2.2.2.2.2 HX.out.2.2.2.1 HG.out.2.2.2.2.1 k3 k2 k6).1; have d6 := hgb6.c1; have f6 := hgb6.fr 1; clear k2 k3 k4 k5 k6 k7 hgb6)
      obtain ⟨_, r1, r2, r3, r4⟩ := gb_app2 HX.out.1 HX.out.2.1 HX.out.2.2.1 HG.out.2.2.2.2.2 HX.out.2.2.2.1 HG.out.2.2.2.2.1 HY.out.2.1 HY.out.1 HY.out.2.2
      exact ⟨⟨k + 1, _, by omega, by go_num, r1, by rw [HX.out.2.2.2.2.1]; exact r2, r3, r4⟩, by simp [intOf]; omega⟩
    · obtain rfl : k = L := by omega
      have htk : es.take k = es := List.take_of_length_le (by rw [hLL.out]; omega)
      rw [htk] at hEr
      obtain ⟨av, cv, hv⟩ := hEr.any_form
      rw [hLL.out] at hv
      subst hv
      have c0 := hGr.c0
      have c1 := hGr.c1
      have c2 := hGr.c2
      have hRr : wr.heap[R]? = some (.cells #[.int .i64 0, .slice none 0 0, .slice none 0 0] 25) := (hKr.block R (by have h1 := HG.out.2.2.2.2.1; have h2 := HE.out; omega) (by simp; exact hRq)).trans HG.out.2.2.1
      obtain ⟨r1, r2, r3, r4⟩ := zres_cells hRr
      have fr0 := r4 0
      have fr1 := r4 1
      have fr2 := r4 2
      have hqR : q ≠ R := fun e => hRq e.symm
      have HX := Lib.hid (And.intro hEr (And.intro hUr (And.intro hKr hRr)))
      clear hGr hEr hUr hKr hRr r4
      go_wp2
      obtain ⟨W, hW, x0, x1, x2, x3, x4⟩ := res_out (.int .i64 (N : Int)) (.slice av k cv) (.slice (b1) M d1) HX.out.2.2.2
      rw [← hW]
      have hRl : R < w5.heap.size := by have h1 := HG.out.2.2.2.2.1; have h2 := HE.out; omega
      have hEW : OwnE W w5.heap.size 58 (.slice av k cv) es := ownsRow_block HX.out.1 fun g hg => x4 g (by have := (HX.out.1.block_lt hg).2; omega)
      have hUW : Own W w2.heap.size (.slice b1 M d1) 3 (ints cs) := ownsRow_block HX.out.2.1 fun g hg => x4 g (by have h1 := (HX.out.2.1.block_lt hg).2; have h2 := HE.out.1; omega)
      refine bodyPost_ret (v := .agg #[.int .i64 (N : Int), .slice av k cv, .slice b1 M d1]) (by simp [results, Tryz.results75, go_sem, x0, x1, x2]) rfl ?_
      refine ⟨av, cv, b1, d1, es, by rw [hLL.out], HD.out.2.2.2.2.2.1, HD.out.2.2.2.2.2.2, by rw [hLL.out]; exact hLn, by rw [hLL.out]; exact hEW.mono (by omega), (hUW.mono (by have h2 := HE.out; omega)), ?_⟩
      have hDR : D ≤ R := by rw [← hR]; exact H.out.2.2.2.2.2.2.2
      exact (HG.out.2.2.2.1.trans (HX.out.2.2.1.below (by omega) (by simp; have h2 := HE.out; omega))).trans (x3.mono hDR)
end Go.Proofs.YtjjjohmppehejaaGreat
