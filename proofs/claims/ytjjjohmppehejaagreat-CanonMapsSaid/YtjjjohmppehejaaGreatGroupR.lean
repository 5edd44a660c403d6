/- Group: the reference's. -/
import Derived.Test.YtjjjohmppehejaaGreatGroupP
import Derived.Test.YtjjjohmppehejaaGreatIsoR
set_option linter.unusedSimpArgs false
set_option linter.unusedVariables false
namespace Go.Proofs.YtjjjohmppehejaaGreat
open Go.RowKit Plain PlainG PlainX
/-- The state of the outer loop. -/
structure RSt (W3 : World) (C D0 n k : Nat) (A : Adj) (cs : List Int) (x : List Int) (W : World) (vO vR : Value) (csO csR : List Value) (jO jR : Nat) : Prop where
  box : W.heap[C]? = some (.cells #[.int .i64 (n : Int), vO, vR] 31)
  frc : Own W (C + 1) (.slice (some ⟨C + 1, 0, none⟩) n n) 3 (ints x)
  o : Own W D0 vO 23 csO
  oo : OwnRows W D0 3 csO (orbsA A cs n jO)
  r : Own W D0 vR 43 csR
  rr : OwnR2 W D0 csR (repsA A cs n jR)
  bel : Below C W3 W
  sz : D0 ≤ W.heap.size
theorem own_other {w w' : World} {B B' : Nat} {v v' : Value} {e e' : TypeId} {xs xs' : List Value} (h : Own w B v e xs) (hv : Own w B' v' e' xs') (hg : w.grownBy w' v'.ownBlock) (he : e ≠ e') : Own w' B v e xs := h.kept hg (h.ne_type hv he)
theorem rows_other {w w' : World} {B B' : Nat} {v' : Value} {e' : TypeId} {xs' cs : List Value} {xss : List (List Int)} (h : OwnRows w B 3 cs xss) (hv : Own w B' v' e' xs') (hg : w.grownBy w' v'.ownBlock) (he : 3 ≠ e') : OwnRows w' B 3 cs xss := h.kept hg (fun u xs hu => hu.ne_type hv he)
section
variable {W3 : World} {C D0 n k jO jR : Nat} {A : Adj} {cs x : List Int} {W w' : World} {vO vR : Value} {csO csR : List Value}
theorem RSt.below (h : RSt W3 C D0 n k A cs x W vO vR csO csR jO jR) (hb : Below W.heap.size W w') : RSt W3 C D0 n k A cs x w' vO vR csO csR jO jR :=
  ⟨(hb.block C (Array.getElem?_eq_some_iff.1 h.box).1).trans h.box, h.frc.below hb, h.o.below hb, h.oo.below hb, h.r.below hb, h.rr.below hb, h.bel.trans (hb.mono (by have := (Array.getElem?_eq_some_iff.1 h.box).1; omega)), Nat.le_trans h.sz hb.size⟩
theorem RSt.put (h : RSt W3 C D0 n k A cs x W vO vR csO csR jO jR) (hC : C + 1 < D0) (i : Nat) (u : Int) : RSt W3 C D0 n k A cs (x.set i u) (W.setCell ⟨C + 1, i, none⟩ (.int .i64 u)) vO vR csO csR jO jR := by
  have g := grown_put (w := W) (g := C + 1) i (.int .i64 u)
  have hp := h.frc.put i (.int .i64 u)
  rw [ints_set] at hp
  exact ⟨(g.block C (Array.getElem?_eq_some_iff.1 h.box).1 (by intro e; injection e with e; omega)).trans h.box, hp, h.o.off g hC, h.oo.off g hC, h.r.off g hC, h.rr.off g hC, h.bel.trans ((Below.refl C W).setCell (p := ⟨C + 1, i, none⟩) (Nat.le_succ C) _), by rw [show (W.setCell ⟨C + 1, i, none⟩ (.int .i64 u)).heap.size = W.heap.size by simp [World.setCell]]; exact h.sz⟩
end
theorem frc_set {n k : Nat} (hk : k < n) (y m : Int) : (nts (List.range k) ++ y :: List.replicate (n - k - 1) (-1)).set k m = nts (List.range k) ++ m :: List.replicate (n - k - 1) (-1) := by
  rw [List.set_append_right _ _ (by rw [nts_len]; simp)]
  simp [nts_len]
theorem frc_one {n k m : Nat} (hk : k < n) : nts (List.range k) ++ (m : Int) :: List.replicate (n - k - 1) (-1) = frcL n (List.range k ++ [m]) := by
  unfold frcL
  simp [nts]
  omega
theorem frc_zero {n k : Nat} (hk : k < n) : frcL n (List.range k) = nts (List.range k) ++ (-1) :: List.replicate (n - k - 1) (-1) := by
  unfold frcL
  rw [show n - (List.range k).length = (n - k - 1) + 1 by simp; omega, List.replicate_succ]
theorem iso_ext {n m k : Nat} {A : Adj} {cs : List Int} (hk : k < n) (hm : m < n) : isoA n n A A cs cs (List.range k ++ [m]) = extA A A cs cs n (List.range k ++ [m]) := by
  unfold isoA
  rw [if_pos rfl]
  exact ref_ext (fun v hv => by
    rcases List.mem_append.1 hv with h | h
    · have := List.mem_range.1 h; omega
    · rw [List.mem_singleton.1 h]; exact hm) (by simp; omega)
theorem rst_o {W3 : World} {C D0 n k : Nat} {A : Adj} {cs x : List Int} {W w8 : World} {vO vR v8 o : Value} {csO csR : List Value} (h : RSt W3 C D0 n k A cs x W vO vR csO csR k k) (hC : C + 1 < D0)
    (ho : Own W D0 o 3 (ints (nts (orbA A cs n k)))) (h8 : Own w8 D0 v8 23 (csO ++ [o])) (g8 : W.grownBy w8 vO.ownBlock) :
    RSt W3 C D0 n k A cs x (w8.setCell ⟨C, 1, none⟩ v8) v8 vR (csO ++ [o]) csR (k + 1) k ∧ W.grownBy w8 vO.ownBlock := by
  have gs := grown_put (w := w8) (g := C) 1 v8
  have hb8 := grp_box h.box h.o g8
  have hBC : Below C W w8 := ⟨g8.os, g8.tape, g8.output, g8.size, fun j hj => g8.block j (by have := h.sz; omega) (fun e => by
    rcases h.o.blk with e1 | ⟨g, _, e1, hg, _⟩
    · rw [e1] at e; cases e
    · rw [e1] at e; injection e with e; omega)⟩
  have t8 := own_typ h.o (by decide) (by decide)
  have hfr : Own w8 (C + 1) (.slice (some ⟨C + 1, 0, none⟩) n n) 3 (ints x) := own_other h.frc h.o g8 (by decide)
  have hfs : Own (w8.setCell ⟨C, 1, none⟩ v8) (C + 1) (.slice (some ⟨C + 1, 0, none⟩) n n) 3 (ints x) := hfr.off gs (by omega)
  refine ⟨⟨box_set1 hb8, hfs, h8.off gs (by omega), ?_, (own_other h.r h.o g8 (by decide)).off gs (by omega), (h.rr.keptT g8 t8).off gs (by omega), (h.bel.trans hBC).trans ((Below.refl C w8).setCell (p := ⟨C, 1, none⟩) (Nat.le_refl C) _), by have := h.sz; have := g8.size; simp only [World.setCell, Array.size_modify]; omega⟩, g8⟩
  rw [orbs_succ]
  exact ((rows_other h.oo h.o g8 (by decide)).off gs (by omega)).app (OwnRows.one ((own_other ho h.o g8 (by decide)).off gs (by omega)))
theorem rst_r {W3 : World} {C D0 n k : Nat} {A : Adj} {cs x : List Int} {W w9 : World} {vO vR v9 p : Value} {csO csR us : List Value} (h : RSt W3 C D0 n k A cs x W vO vR csO csR (k + 1) k) (hC : C + 1 < D0)
    (hp : Own W D0 p 40 us) (hu : OwnRows W D0 3 us ((repA A cs n k).map nts)) (h9 : Own w9 D0 v9 43 (csR ++ [p])) (g9 : W.grownBy w9 vR.ownBlock) :
    RSt W3 C D0 n (k + 1) A cs x (w9.setCell ⟨C, 2, none⟩ v9) vO v9 csO (csR ++ [p]) (k + 1) (k + 1) := by
  have gs := grown_put (w := w9) (g := C) 2 v9
  have hb9 := grp_box h.box h.r g9
  have hBC : Below C W w9 := ⟨g9.os, g9.tape, g9.output, g9.size, fun j hj => g9.block j (by have := h.sz; omega) (fun e => by
    rcases h.r.blk with e1 | ⟨g, _, e1, hg, _⟩
    · rw [e1] at e; cases e
    · rw [e1] at e; injection e with e; omega)⟩
  have t9 := own_typ h.r (by decide) (by decide)
  have hfr : Own w9 (C + 1) (.slice (some ⟨C + 1, 0, none⟩) n n) 3 (ints x) := own_other h.frc h.r g9 (by decide)
  have hfs : Own (w9.setCell ⟨C, 2, none⟩ v9) (C + 1) (.slice (some ⟨C + 1, 0, none⟩) n n) 3 (ints x) := hfr.off gs (by omega)
  refine ⟨box_set2 hb9, hfs, (own_other h.o h.r g9 (by decide)).off gs (by omega), (rows_other h.oo h.r g9 (by decide)).off gs (by omega), h9.off gs (by omega), ?_, (h.bel.trans hBC).trans ((Below.refl C w9).setCell (p := ⟨C, 2, none⟩) (Nat.le_refl C) _), by have := h.sz; have := g9.size; simp only [World.setCell, Array.size_modify]; omega⟩
  rw [reps_succ]
  exact ((h.rr.keptT g9 t9).off gs (by omega)).app ((own_other hp h.r g9 (by decide)).off gs (by omega)) ((rows_other hu h.r g9 (by decide)).off gs (by omega))
theorem Own.belowN {w w' : World} {B N : Nat} {v : Value} {e : TypeId} {xs : List Value} (h : Own w B v e xs) (hb : Below N w w') (hN : ∀ g, v.ownBlock = some g → g < N) : Own w' B v e xs := by
  obtain ⟨h1, h2⟩ := h
  refine ⟨h1, ?_⟩
  rcases h2 with h2 | ⟨g, cap, cur, rfl, hB, hh, r⟩
  · exact .inl h2
  · exact .inr ⟨g, cap, cur, rfl, hB, (hb.block g (hN g rfl)).trans hh, r⟩
theorem RSt.grown {W3 : World} {C D0 n k jO jR : Nat} {A : Adj} {cs x x' : List Int} {W W' : World} {vO vR : Value} {csO csR : List Value} (h : RSt W3 C D0 n k A cs x W vO vR csO csR jO jR) (hC : C + 1 < D0) (g : W.grownBy W' (some (C + 1))) (hf : Own W' (C + 1) (.slice (some ⟨C + 1, 0, none⟩) n n) 3 (ints x')) : RSt W3 C D0 n k A cs x' W' vO vR csO csR jO jR :=
  ⟨(g.block C (Array.getElem?_eq_some_iff.1 h.box).1 (by intro e; injection e with e; omega)).trans h.box, hf, h.o.off g hC, h.oo.off g hC, h.r.off g hC, h.rr.off g hC, h.bel.trans ⟨g.os, g.tape, g.output, g.size, fun j hj => g.block j (by have := h.sz; omega) (by intro e; injection e with e; omega)⟩, Nat.le_trans h.sz g.size⟩
theorem grown_on {a b c : World} {F : Nat} (h : a.grownBy b (some F)) (k : Below a.heap.size b c) : a.grownBy c (some F) :=
  ⟨k.os.trans h.os, k.tape.trans h.tape, k.output.trans h.output, Nat.le_trans h.size k.size, fun i hi hne => (k.block i hi).trans (h.block i hi hne)⟩
set_option maxRecDepth 100000 in
set_option maxHeartbeats 4000000 in
theorem grpR_calls {w : World} {g : Gr} {ea ca : Option Addr} {ec cc : Nat} (he : Edg w ea g.es) (hc : Ints w ca g.cs) :
    Calls Tryz.prog 11 #[.agg #[.int .i64 g.n, .slice ea g.es.length ec, .slice ca g.cs.length cc]] w fun e w' => ChnRes w (grpA g) e w' := by
  obtain ⟨i3, hi3, hz3, hs3, hb3⟩ := info_parts Tryz.info3
  obtain ⟨i23, hi23, hz23, hs23, hb23⟩ := info_parts Tryz.info23
  obtain ⟨i40, hi40, hz40, hs40, hb40⟩ := info_parts Tryz.info40
  obtain ⟨i43, hi43, hz43, hs43, hb43⟩ := info_parts Tryz.info43
  have I3 := Lib.hid (And.intro hi3 (And.intro hz3 (And.intro hs3 hb3)))
  have I23 := Lib.hid (And.intro hi23 (And.intro hz23 (And.intro hs23 hb23)))
  have I40 := Lib.hid (And.intro hi40 (And.intro hz40 (And.intro hs40 hb40)))
  have I43 := Lib.hid (And.intro hi43 (And.intro hz43 (And.intro hs43 hb43)))
  clear hi3 hz3 hs3 hb3 hi23 hz23 hs23 hb23 hi40 hz40 hs40 hb40 hi43 hz43 hs43 hb43
  obtain ⟨X, hX⟩ : ∃ X, w.heap.size = X := ⟨_, rfl⟩
  obtain ⟨n, hn⟩ : ∃ n, g.n = n := ⟨_, rfl⟩
  obtain ⟨L, hL⟩ : ∃ L, g.es.length = L := ⟨_, rfl⟩
  obtain ⟨M, hM⟩ : ∃ M, g.cs.length = M := ⟨_, rfl⟩
  obtain ⟨W1, hW1⟩ : ∃ W1, (w.alloc (.cells #[.int .i64 n, .slice ea L ec, .slice ca M cc] 25)).alloc (.cells #[.int .i64 0, .slice none 0 0, .slice none 0 0] 31) = W1 := ⟨_, rfl⟩
  have hs1 : W1.heap.size = X + 2 := by rw [← hW1, ← hX]; simp
  have hb1 : Below w.heap.size w W1 := by rw [← hW1]; exact alloc_b (alloc_b (Below.refl _ _) _) _
  have x0 : W1.cell? ⟨X, 0, none⟩ = some (.int .i64 n) := by rw [← hW1, ← hX]; simp
  have x1 : W1.cell? ⟨X, 1, none⟩ = some (.slice ea L ec) := by rw [← hW1, ← hX]; simp
  have x2 : W1.cell? ⟨X, 2, none⟩ = some (.slice ca M cc) := by rw [← hW1, ← hX]; simp
  have hbox : W1.heap[X + 1]? = some (.cells #[.int .i64 0, .slice none 0 0, .slice none 0 0] 31) := by
    rw [← hW1, ← hX]
    have := zbox (w := w.alloc (.cells #[.int .i64 n, .slice ea L ec, .slice ca M cc] 25))
    simpa using this
  have K33 := rcheck_calls (c := ec) (d := cc) (he.below hb1) (hc.below hb1)
  rw [hn, hL, hM] at K33
  obtain ⟨E, hE⟩ : ∃ E, ckA [g] = E := ⟨_, rfl⟩
  rw [hE] at K33
  rw [hn, hL, hM]
  by_cases h0 : E = 0
  · subst h0
    obtain ⟨h1, h2⟩ := ck_one hE
    have g1 := chkGr_ok.1 h1
    obtain ⟨N, hN⟩ : ∃ N, g.n.toNat = N := ⟨_, rfl⟩
    have hnN : n = (N : Int) := by omega
    have hMN : M = N := by omega
    subst hnN
    subst hMN
    have hres : grpA g = (⟨(M : Int), orbsA (adj g.es) g.cs M M, repsA (adj g.es) g.cs M M⟩, 0) := by
      unfold grpA
      rw [if_neg (by simp [hE]), hn]; simp
    rw [hres]
    have hed : ∀ x ∈ g.es, 0 ≤ x.1 ∧ x.1 < (M : Int) ∧ 0 ≤ x.2 ∧ x.2 < (M : Int) := fun x hx => by have := (chkE_srt g1.2.2.1).2.1 x hx; omega
    have hgW : ∀ W, Below W1.heap.size W1 W → Edg W ea g.es ∧ Ints W ca g.cs := fun W k => ⟨(he.below hb1).below k, (hc.below hb1).below k⟩
    have HG := Lib.hid (And.intro hgW (And.intro hed (And.intro hM (And.intro hL (And.intro hb1 (And.intro hbox (And.intro hX hs1)))))))
    have hM10 : M ≤ 10 := by omega
    have HK := Lib.hid K33
    obtain ⟨es, hes⟩ : ∃ es, g.es = es := ⟨_, rfl⟩
    obtain ⟨cs, hcs⟩ : ∃ cs, g.cs = cs := ⟨_, rfl⟩
    rw [hes, hcs] at HG
    rw [hes, hcs]
    clear K33 hE h1 h2 g1 hres hn hL hM hN he hc hb1 hed hgW hes hcs
    go_enter Tryz.func11, Tryz.ntmps11
    go_wp2_with (first
      | (go_at_call 33; refine HK.out.mono ?_; rintro e w3 ⟨rfl, hw3⟩; obtain ⟨C, hC⟩ : ∃ C, w3.heap.size = C := ⟨_, rfl⟩; have y0 := (hw3.cell (block_lt_of_cell x0)).trans x0; have y1 := (hw3.cell (block_lt_of_cell x1)).trans x1; have y2 := (hw3.cell (block_lt_of_cell x2)).trans x2; have hXC : X + 1 < C := (by have h1 := hw3.size; have h2 := HG.out.2.2.2.2.2.2.2; omega); have nXC : X ≠ C := (by omega); have hal : Below w3.heap.size w3 (w3.alloc (.cells #[.int .i64 (M : Int), .slice none 0 0, .slice none 0 0] 31)) := alloc_b (Below.refl _ _) _; have a0 := (hal.cell (block_lt_of_cell y0)).trans y0; have H3 := Lib.hid (And.intro hw3 (And.intro hC hal)); clear hw3 x0 x1 x2 hbox hW1 hal)
      | (go_at_call 34; refine (none_calls M (by omega) _).mono ?_; rintro e w5 ⟨rfl, hof, hw5⟩; rw [World.size_alloc, hC] at hof; have hsC : C + 1 < w5.heap.size := (own_above hof (C + 1) rfl).2; have hbC : w5.heap[C]? = some (.cells #[.int .i64 (M : Int), .slice none 0 0, .slice none 0 0] 31) := (hw5.block C (by simp; omega)).trans (by have := World.alloc_heap_new w3 (.cells #[.int .i64 (M : Int), .slice none 0 0, .slice none 0 0] 31); rwa [hC] at this); have hb35 := below_two H3.out.2.2 hw5; have z0 := (hb35.cell (block_lt_of_cell y0)).trans y0; have z1 := (hb35.cell (block_lt_of_cell y1)).trans y1; have z2 := (hb35.cell (block_lt_of_cell y2)).trans y2; have H5 := Lib.hid (And.intro hof (And.intro hbC hb35)); have HY := Lib.hid (And.intro y0 (And.intro y1 y2)); clear hof hbC hb35 hw5 y0 y1 y2 a0))
    obtain ⟨D0, hD0⟩ : ∃ D0, w5.heap.size = D0 := ⟨_, rfl⟩
    have hCD : C + 1 < D0 := by omega
    have hst0 : RSt w3 C D0 M 0 (adj es) cs (frcL M (List.range 0)) w5 (.slice none 0 0) (.slice none 0 0) [] [] 0 0 :=
      ⟨H5.out.2.1, by have := H5.out.1; simpa [frcL, nts] using this, Own.nil _ _ _, OwnRows.nil _ _ _, Own.nil _ _ _, OwnR2.nil _ _, H5.out.2.2.mono (by rw [H3.out.2.1]; exact Nat.le_refl _), by omega⟩
    have hxW : ∀ W, Below C w3 W → W.cell? ⟨X, 0, none⟩ = some (.int .i64 (M : Int)) ∧ W.cell? ⟨X, 1, none⟩ = some (.slice ea L ec) ∧ W.cell? ⟨X, 2, none⟩ = some (.slice ca M cc) := fun W k =>
      ⟨(k.cell (p := ⟨X, 0, none⟩) (show X < C by omega)).trans (HY.out.1), (k.cell (p := ⟨X, 1, none⟩) (show X < C by omega)).trans HY.out.2.1, (k.cell (p := ⟨X, 2, none⟩) (show X < C by omega)).trans HY.out.2.2⟩
    have hgW : ∀ W, Below C w3 W → Edg W ea es ∧ Ints W ca cs := fun W k => HG.out.1 W (below_two H3.out.1 ⟨k.os, k.tape, k.output, k.size, fun j hj => k.block j (by rw [H3.out.2.1] at hj; exact hj)⟩)
    have HQ := Lib.hid (And.intro hst0 (And.intro hxW hgW))
    clear hst0 hxW hgW z0 z1 z2
    go_loopw [7] (fun kk wr => ∃ (k : Nat) (vO vR : Value) (csO csR : List Value), k ≤ M ∧ kk = .int .i64 (k : Int) ∧ RSt w3 C D0 M k (adj es) cs (frcL M (List.range k)) wr vO vR csO csR k k) (fun kk _ => M - (intOf kk).toNat)
    case atStart => exact ⟨0, _, _, [], [], by omega, rfl, HQ.out.1⟩
    case round =>
      obtain ⟨k, vO, vR, csO, csR, hk, rfl, hst⟩ := hrel
      obtain ⟨wo, rfl⟩ : ∃ wo : World, wo = wr := ⟨_, rfl⟩
      obtain ⟨y0, y1, y2⟩ := HQ.out.2.1 wo hst.bel
      have HO := Lib.hid hst
      have hso : D0 ≤ wo.heap.size := hst.sz
      clear hst
      by_cases hkn : k < M
      · go_wp2
        go_loopw [8, 9, 10] (fun vo vr kk wr => ∃ (m : Nat) (us : List Value) (acc : List (Nat × List Nat)) (x : Int), m ≤ M ∧ kk = .int .i64 (m : Int) ∧ (wo.grownBy wr (some (C + 1)) ∧ Own wr (C + 1) (.slice (some ⟨C + 1, 0, none⟩) M M) 3 (ints (nts (List.range k) ++ x :: List.replicate (M - k - 1) (-1)))) ∧ Own wr wo.heap.size vo 3 (ints (nts (acc.map (·.1)))) ∧ Own wr wo.heap.size vr 40 us ∧ RowsA wr wo.heap.size us ((acc.map (·.2)).map nts) vo ∧ acc.length ≤ m ∧ levA (adj es) cs M k = acc ++ (List.range' m (M - m)).filterMap (levF (adj es) cs M k) ∧ wo.heap.size ≤ wr.heap.size) (fun _ _ kk _ => M - (intOf kk).toNat)
        case atStart => exact ⟨0, [], [], -1, by omega, rfl, ⟨World.grownBy.refl wo _, by have := HO.out.frc; rwa [frc_zero hkn] at this⟩, Own.nil _ _ _, Own.nil _ _ _, ⟨OwnRows.nil _ _ _, fun u hu => by simp at hu⟩, by simp, by rw [levA_eq]; rfl, Nat.le_refl _⟩
        case round =>
          obtain ⟨m, us, acc, x, hm, rfl, ⟨hgr, hfr⟩, hvo, hvr, hA, hal, hlev, hwo⟩ := hrel
          have hst := HO.out.grown hCD hgr hfr
          have HGR := Lib.hid hgr
          clear hgr hfr
          obtain ⟨wi, rfl⟩ : ∃ wi : World, wi = wr := ⟨_, rfl⟩
          obtain ⟨y0, y1, y2⟩ := HQ.out.2.1 wi hst.bel
          have HI := Lib.hid (And.intro hvo (And.intro hvr (And.intro hA (And.intro hst (And.intro hal hlev)))))
          clear hvo hvr hA hst hal hlev
          by_cases hmn : m < M
          · have hxl : (nts (List.range k) ++ x :: List.replicate (M - k - 1) (-1)).length = M := by simp [nts_len]; omega
            have ck : wi.cell? ⟨C + 1, k, none⟩ = some (.int .i64 x) := by
              rw [HI.out.2.2.2.1.frc.cell k (by rw [ints_len, hxl]; exact hkn), ints_get (by rw [hxl]; exact hkn), List.getElem?_append_right (by simp [nts_len])]
              simp [nts_len]
            have cf := HI.out.2.2.2.1.frc.frozen k
            obtain ⟨wq, hwq⟩ : ∃ wq, wi.setCell ⟨C + 1, k, none⟩ (.int .i64 (m : Int)) = wq := ⟨_, rfl⟩
            have hst1 := HI.out.2.2.2.1.put hCD k (m : Int)
            rw [frc_set hkn, hwq] at hst1
            have hgq : wi.grownBy wq (some (C + 1)) := by rw [← hwq]; exact grown_put _ _
            have HGQ := Lib.hid hgq
            have hsq : wq.heap.size = wi.heap.size := by rw [← hwq]; simp [World.setCell]
            obtain ⟨q0, q1, q2⟩ := HQ.out.2.1 wq hst1.bel
            have hfi : Ints wq (some ⟨C + 1, 0, none⟩) (frcL M (List.range k ++ [m])) := by
              have := hst1.frc
              rw [frc_one hkn] at this
              exact this.toInts (by rw [frcL_len (by simp; omega)]; unfold maxLen; omega)
            have K35 := iso_calls (w := wq) (n := M) (m := M) (fs := List.range k ++ [m]) (gc := ec) (gd := cc) (hc := ec) (hd := cc) (fc := M) (HQ.out.2.2 wq hst1.bel).1 (HQ.out.2.2 wq hst1.bel).2 (HQ.out.2.2 wq hst1.bel).1 (HQ.out.2.2 wq hst1.bel).2 HG.out.2.1 HG.out.2.1 HG.out.2.2.1 HG.out.2.2.1 (by omega) (by simp; omega) hfi
            rw [iso_ext hkn hmn, HG.out.2.2.2.1] at K35
            have hlevS : (List.range' m (M - m)).filterMap (levF (adj es) cs M k) = (levF (adj es) cs M k m).toList ++ (List.range' (m + 1) (M - (m + 1))).filterMap (levF (adj es) cs M k) := by
              rw [show M - m = (M - (m + 1)) + 1 by omega, List.range'_succ, List.filterMap_cons]
              cases levF (adj es) cs M k m <;> rfl
            have hCo : C + 1 < wo.heap.size := by omega
            have hvq := HI.out.1.off hgq hCo
            have hrq := HI.out.2.1.off hgq hCo
            have hAq : RowsA wq wo.heap.size us ((acc.map (·.2)).map nts) u8 := ⟨HI.out.2.2.1.1.off hgq hCo, HI.out.2.2.1.2⟩
            cases ho : extA (adj es) (adj es) cs cs M (List.range k ++ [m]) with
            | none =>
              rw [ho] at K35
              have HK5 := Lib.hid (And.intro K35 (And.intro hlevS ho))
              have HV := Lib.hid (And.intro hst1 (And.intro hvq (And.intro hrq (And.intro hAq hsq))))
              clear K35 hlevS ho hfi hst1 hvq hrq hAq hgq hsq
              go_wp2_with (go_at_call 35; refine HK5.out.1.mono ?_; rintro e w7 ⟨he, hb7⟩; subst he; have H7 := Lib.hid hb7; clear hb7)
              exact ⟨⟨m + 1, us, acc, (m : Int), by omega, by go_num, ⟨(HGR.out.trans HGQ.out).trans (grown_below H7.out _), (HV.out.1.below H7.out).frc⟩, HV.out.2.1.below H7.out, HV.out.2.2.1.below H7.out, HV.out.2.2.2.1.below H7.out, by have := HI.out.2.2.2.2.1; omega, by rw [HI.out.2.2.2.2.2, HK5.out.2.1, levF, HK5.out.2.2]; rfl, by have h1 := H7.out.size; have h2 := HV.out.2.2.2.2; omega⟩, by simp [intOf]; omega⟩
            | some q =>
              rw [ho] at K35
              have hql := ext_len ho (by simp; omega)
              have HK5 := Lib.hid (And.intro K35 (And.intro hlevS (And.intro ho hql)))
              have HV := Lib.hid (And.intro hst1 (And.intro hvq (And.intro hrq (And.intro hAq hsq))))
              clear K35 hlevS ho hfi hst1 hvq hrq hAq hgq hsq hql
              have hlo : (ints (nts (acc.map (·.1)))).length < 1099511627776 := by rw [ints_len, nts_len]; simp; have := HI.out.2.2.2.2.1; omega
              have hlr : us.length < 1099511627776 := by rw [HI.out.2.2.1.1.1]; simp; have := HI.out.2.2.2.2.1; omega
              go_wp2_with (first
                | (go_at_call 35
                   refine HK5.out.1.mono ?_
                   rintro e w7 ⟨he, hb7⟩
                   obtain ⟨r, rfl, hr7⟩ := he
                   have hrf := hr7.row (by rw [ints_len, nts_len, HK5.out.2.2.2]; unfold maxLen; omega)
                   obtain ⟨ra, rc, hrr, -⟩ := hrf
                   rw [ints_len, nts_len, HK5.out.2.2.2] at hrr
                   subst hrr
                   have hw7 : wo.heap.size ≤ w7.heap.size := Nat.le_trans hwo (by have h1 := hb7.size; have h2 := HV.out.2.2.2.2; omega)
                   have H7 := Lib.hid (And.intro hr7 (And.intro hb7 (And.intro (HV.out.2.1.below hb7) (HV.out.2.2.1.below hb7))))
                   clear hb7 hr7)
                | (at_builtin
                   refine app1 rfl (.tmp 49) (.tmp 51) 23 3 rfl i3 (.int .i64 0) 8 Tryz.underlying23 I3.out.1 I3.out.2.1 I3.out.2.2.1 I3.out.2.2.2 rfl (by omega) wo.heap.size (.int .i64 (m : Int)) u8 (ints (nts (acc.map (·.1)))) rfl H7.out.2.2.1 rfl rfl hlo hw7 ?_
                   intro v8 w8 k1 k2 k3
                   have hvr8 := H7.out.2.2.2.kept k2 (H7.out.2.2.2.ne_type H7.out.2.2.1 (by decide))
                   have hw8 : wo.heap.size ≤ w8.heap.size := Nat.le_trans hw7 k2.size
                   have H8 := Lib.hid (And.intro k1 (And.intro k2 (And.intro k3 (And.intro hvr8 hw8))))
                   clear k1 k2 k3 hvr8 hw8)
                | (at_builtin
                   refine app1 rfl (.tmp 53) (.tmp 55) 43 40 rfl i40 (.slice none 0 0) 24 Tryz.underlying43 I40.out.1 I40.out.2.1 I40.out.2.2.1 I40.out.2.2.2 rfl (by omega) wo.heap.size (.slice ra M rc) u9 us rfl H8.out.2.2.2.1 rfl rfl hlr H8.out.2.2.2.2 ?_
                   intro v9 w9 k1 k2 k3
                   have H9 := Lib.hid (And.intro k1 k2)
                   clear k1 k2 k3))
              have hints : ints (nts (acc.map (·.1))) ++ [Value.int .i64 (m : Int)] = ints (nts (acc.map (·.1)) ++ [(m : Int)]) := by simp [ints]
              have k1 := H8.out.1
              rw [hints] at k1
              have hr7 := H7.out.1
              rw [HV.out.2.2.2.2] at hr7
              have hlt9 : ∀ g, u8.ownBlock = some g → g < wi.heap.size := fun g hg => (own_above HI.out.1 g hg).2
              obtain ⟨f1, f2⟩ := grp_app (wi := wi) (xss := (acc.map (·.2)).map nts) (xo := nts (acc.map (·.1))) (q := nts q) (x := (m : Int)) (o1 := .cells #[] 3) H7.out.2.2.1 H7.out.2.2.2 (HV.out.2.2.2.1.below H7.out.2.1) hr7 hwo hlt9 k1 H8.out.2.1 H8.out.2.2.1 H9.out.1 H9.out.2
              have hbz : Below wo.heap.size w7 w9 := by
                refine (((Below.refl wo.heap.size w7).grown H8.out.2.1 hw7 (fun g hg => (own_above H7.out.2.2.1 g hg).1))).grown H9.out.2 H8.out.2.2.2.2 (fun g hg => (own_above H8.out.2.2.2.1 g hg).1)
              have hfr9 : Own w9 (C + 1) (.slice (some ⟨C + 1, 0, none⟩) M M) 3 (ints (nts (List.range k) ++ (m : Int) :: List.replicate (M - k - 1) (-1))) := (HV.out.1.below H7.out.2.1).frc.belowN hbz (fun g hg => by cases hg; omega)
              have hgr9 : wo.grownBy w9 (some (C + 1)) := grown_on ((HGR.out.trans HGQ.out).trans (grown_below H7.out.2.1 _)) hbz
              refine ⟨⟨m + 1, us ++ [.slice ra M rc], acc ++ [(m, q)], (m : Int), by omega, by go_num, ⟨hgr9, hfr9⟩, ?_, H9.out.1, ?_, by simp; have := HI.out.2.2.2.2.1; omega, ?_, Nat.le_trans hw7 hbz.size⟩, by simp [intOf]; omega⟩
              · have e : nts ((acc ++ [(m, q)]).map (·.1)) = nts (acc.map (·.1)) ++ [(m : Int)] := by simp [nts]
                rw [e]; exact f1
              · have e : ((acc ++ [(m, q)]).map (·.2)).map nts = (acc.map (·.2)).map nts ++ [nts q] := by simp
                rw [e]; exact f2
              · rw [HI.out.2.2.2.2.2, HK5.out.2.1, levF, HK5.out.2.2.1]; simp
          · obtain rfl : m = M := by omega
            have hacc : levA (adj es) cs m k = acc := by rw [HI.out.2.2.2.2.2]; simp
            have hxl : (nts (List.range k) ++ x :: List.replicate (m - k - 1) (-1)).length = m := by simp [nts_len]; omega
            have ck : wi.cell? ⟨C + 1, k, none⟩ = some (.int .i64 x) := by
              rw [HI.out.2.2.2.1.frc.cell k (by rw [ints_len, hxl]; exact hkn), ints_get (by rw [hxl]; exact hkn), List.getElem?_append_right (by simp [nts_len])]
              simp [nts_len]
            have cf := HI.out.2.2.2.1.frc.frozen k
            obtain ⟨wq, hwq⟩ : ∃ wq, wi.setCell ⟨C + 1, k, none⟩ (.int .i64 (k : Int)) = wq := ⟨_, rfl⟩
            have hst1 := HI.out.2.2.2.1.put hCD k (k : Int)
            rw [frc_set hkn, hwq, frc_one hkn, ← List.range_succ] at hst1
            have hgq : wi.grownBy wq (some (C + 1)) := by rw [← hwq]; exact grown_put _ _
            have hsq : wq.heap.size = wi.heap.size := by rw [← hwq]; simp [World.setCell]
            have hCo : C + 1 < wo.heap.size := by omega
            have hvq := HI.out.1.off hgq hCo
            have hrq := HI.out.2.1.off hgq hCo
            have hAq : OwnRows wq wo.heap.size 3 us ((acc.map (·.2)).map nts) := HI.out.2.2.1.1.off hgq hCo
            obtain ⟨oa, oc, hov, -⟩ := hvq.row (by rw [ints_len, nts_len]; simp; have := HI.out.2.2.2.2.1; unfold maxLen; omega)
            obtain ⟨pa, pc, hpv, -⟩ := hrq.row (by rw [HI.out.2.2.1.1.1]; simp; have := HI.out.2.2.2.2.1; unfold maxLen; omega)
            rw [ints_len, nts_len] at hov
            obtain ⟨lo, hlo⟩ : ∃ l, (acc.map (·.1)).length = l := ⟨_, rfl⟩
            obtain ⟨lr, hlr⟩ : ∃ l, us.length = l := ⟨_, rfl⟩
            rw [hlo] at hov
            rw [hlr] at hpv
            subst hov
            subst hpv
            have horb : orbA (adj es) cs m k = acc.map (·.1) := by rw [orbA, hacc]
            have hrep : repA (adj es) cs m k = acc.map (·.2) := by rw [repA, hacc]
            rw [← horb] at hvq
            rw [← hrep] at hAq
            have hcO : csO.length < 1099511627776 := by rw [hst1.oo.1]; simp [orbsA]; omega
            have hcR : csR.length < 1099511627776 := by rw [hst1.rr.1]; simp [repsA]; omega
            have hwq0 : D0 ≤ wq.heap.size := hst1.sz
            obtain ⟨b0, b1, b2, b3, b4, b5⟩ := box_cells hst1.box
            have HB := Lib.hid (And.intro hst1 (And.intro (hvq.mono hso) (And.intro (hrq.mono hso) (hAq.mono hso))))
            clear hst1 hvq hrq hAq horb hrep hacc hgq hlo hlr hxl hsq
            go_wp2_with (first
              | (at_builtin
                 refine app1 rfl (.tmp 62) (.tmp 64) 28 23 rfl i23 (.slice none 0 0) 24 Tryz.underlying28 I23.out.1 I23.out.2.1 I23.out.2.2.1 I23.out.2.2.2 rfl (by omega) D0 (.slice oa lo oc) vO csO rfl HB.out.1.o rfl rfl hcO hwq0 ?_
                 intro v8 w8 k1 k2 k3
                 have hff := k1.form (by simp)
                 obtain ⟨G8, cap8, rfl, -⟩ := hff
                 simp only [List.length_append, List.length_singleton] at k1
                 have hC8 := grp_box HB.out.1.box HB.out.1.o k2
                 have bc := box_cells hC8
                 obtain ⟨t0, t1, t2, t3, t4, t5⟩ := bc
                 have hs8 := rst_o HB.out.1 hCD HB.out.2.1 k1 k2
                 obtain ⟨wr8, hwr8⟩ : ∃ wr8, w8.setCell ⟨C, 1, none⟩ (.slice (some ⟨G8, 0, none⟩) (csO.length + 1) cap8) = wr8 := ⟨_, rfl⟩
                 rw [hwr8] at hs8
                 have hg8 : ∀ (v : Value) (e : TypeId) (xs : List Value), e ≠ 23 → Own wq D0 v e xs → Own wr8 D0 v e xs := fun v e xs he h => by
                   rw [← hwr8]; exact (own_other h HB.out.1.o k2 he).off (grown_put 1 _) (by omega)
                 have hgr8 : ∀ (cs : List Value) (xss : List (List Int)), OwnRows wq D0 3 cs xss → OwnRows wr8 D0 3 cs xss := fun cs xss h => by
                   rw [← hwr8]; exact (rows_other h HB.out.1.o k2 (by decide)).off (grown_put 1 _) (by omega)
                 have bc := box_cells hs8.1.box
                 obtain ⟨r0, r1, r2, r3, r4, r5⟩ := bc
                 have hw80 : D0 ≤ wr8.heap.size := hs8.1.sz
                 have H8 := Lib.hid (And.intro hs8.1 (And.intro (hg8 _ _ _ (by decide) HB.out.2.2.1) (hgr8 _ _ HB.out.2.2.2)))
                 clear k1 k2 k3 hs8 hg8 hgr8 hC8)
              | (at_builtin
                 refine app1 rfl (.tmp 68) (.tmp 70) 29 43 rfl i43 (.slice none 0 0) 24 Tryz.underlying29 I43.out.1 I43.out.2.1 I43.out.2.2.1 I43.out.2.2.2 rfl (by omega) D0 (.slice pa lr pc) vR csR rfl H8.out.1.r rfl rfl hcR hw80 ?_
                 intro v9 w9 k1 k2 k3
                 have hff := k1.form (by simp)
                 obtain ⟨G9, cap9, rfl, -⟩ := hff
                 simp only [List.length_append, List.length_singleton] at k1
                 have hC9 := grp_box H8.out.1.box H8.out.1.r k2
                 have bc := box_cells hC9
                 obtain ⟨p0, p1, p2, p3, p4, p5⟩ := bc
                 have hs9 := rst_r H8.out.1 hCD H8.out.2.1 H8.out.2.2 k1 k2
                 have H9 := Lib.hid hs9
                 clear k1 k2 k3 hs9 hC9))
            exact ⟨⟨k + 1, _, _, _, _, by omega, by go_num, H9.out⟩, by simp [intOf]; omega⟩
      · obtain rfl : k = M := by omega
        have hR1 : wo.heap[X + 1]? = some (.cells #[.int .i64 0, .slice none 0 0, .slice none 0 0] 31) :=
          (HO.out.bel.block (X + 1) hXC).trans ((H3.out.1.block (X + 1) (by have := HG.out.2.2.2.2.2.2.2; omega)).trans HG.out.2.2.2.2.2.1)
        have hol : ∀ xs ∈ orbsA (adj es) cs k k, xs.length ≤ maxLen := fun xs hxs => by
          obtain ⟨i, _, rfl⟩ := List.mem_map.1 hxs
          rw [nts_len, orbA, List.length_map]; have := lev_len (adj es) cs k i; unfold maxLen; omega
        have l1 : (orbsA (adj es) cs k k).length = k := by simp [orbsA]
        have l2 : (repsA (adj es) cs k k).length = k := by simp [repsA]
        obtain ⟨aO, cO, hvO, -⟩ := HO.out.oo.rows HO.out.o (by rw [HO.out.oo.1, l1]; unfold maxLen; omega) hol
        obtain ⟨aR, cR, hvR, -⟩ := HO.out.rr.rows2 HO.out.r (by rw [HO.out.rr.1, l2]; omega) (reps_ok (adj es) cs k (by omega))
        rw [l1] at hvO
        rw [l2] at hvR
        subst hvO
        subst hvR
        obtain ⟨c0, c1, c2, _, _, _⟩ := box_cells HO.out.box
        obtain ⟨d0, d1, d2, d3, d4, d5⟩ := box_cells hR1
        go_wp2
        obtain ⟨WF, hWF⟩ : ∃ WF, WF = ((wo.setCell ⟨X + 1, 0, none⟩ (.int .i64 (k : Int))).setCell ⟨X + 1, 1, none⟩ (.slice aO k cO)).setCell ⟨X + 1, 2, none⟩ (.slice aR k cR) := ⟨_, rfl⟩
        have hF : WF.heap[X + 1]? = some (.cells #[.int .i64 (k : Int), .slice aO k cO, .slice aR k cR] 31) := by
          rw [hWF]; exact box_set2 (box_set1 (box_set0 hR1))
        have gF : wo.grownBy WF (some (X + 1)) := by rw [hWF]; exact ((grown_put 0 _).trans (grown_put 1 _)).trans (grown_put 2 _)
        rw [← hWF]
        clear hWF
        obtain ⟨f0, f1, f2, _, _, _⟩ := box_cells hF
        have hX3 : X + 1 < D0 := by omega
        have hO9 := HO.out.o.off gF hX3
        have hR9 := HO.out.r.off gF hX3
        obtain ⟨aO', cO', hvO, hrO⟩ := (HO.out.oo.off gF hX3).rows hO9 (by rw [HO.out.oo.1, l1]; unfold maxLen; omega) hol
        obtain ⟨aR', cR', hvR, hrR⟩ := (HO.out.rr.off gF hX3).rows2 hR9 (by rw [HO.out.rr.1, l2]; omega) (reps_ok (adj es) cs k (by omega))
        rw [l1] at hvO
        rw [l2] at hvR
        cases hvO
        cases hvR
        have hbF : Below w.heap.size w WF := by
          have h1 : Below w.heap.size w wo := (HG.out.2.2.2.2.1.trans (H3.out.1.mono (by have := HG.out.2.2.2.2.2.2; omega))).trans (HO.out.bel.mono (by have := HG.out.2.2.2.2.2.2; omega))
          refine h1.grown gF (by have := HG.out.2.2.2.2.2.2; omega) (fun j hj => ?_)
          cases hj; have := HG.out.2.2.2.2.2.2; omega
        refine bodyPost_ret (v := .tuple #[.agg #[.int .i64 (k : Int), .slice aO k cO, .slice aR k cR], .int .i64 0]) (by simp [results, Tryz.results11, go_sem, f0, f1, f2]) rfl ?_
        refine ⟨aO, cO, aR, cR, ?_, hrO, hrR, hbF⟩
        simp only [l1, l2]
  · have h0b : (E != 0) = true := by simpa using h0
    have hres : grpA g = (⟨0, [], []⟩, E) := by
      unfold grpA
      rw [if_pos (by rw [hE]; exact h0), hE]
    rw [hres]
    have HK := Lib.hid (And.intro K33 (And.intro hb1 hX))
    clear K33 hE hres hn hL hM h0 he hc hb1
    go_enter Tryz.func11, Tryz.ntmps11
    go_wp2_with (go_at_call 33; refine HK.out.1.mono ?_; rintro e w3 ⟨rfl, hw3⟩; have hB3 := (hw3.block (X + 1) (by omega)).trans hbox; have bc := box_cells hB3; obtain ⟨c0, c1, c2, f1, f2, f0⟩ := bc; have H3 := Lib.hid (And.intro hw3 hB3); clear hw3 hB3 x0 x1 x2 hbox hW1)
    obtain ⟨WF, hWF⟩ : ∃ WF, WF = ((w3.setCell ⟨X + 1, 0, none⟩ (.int .i64 0)).setCell ⟨X + 1, 1, none⟩ (.slice none 0 0)).setCell ⟨X + 1, 2, none⟩ (.slice none 0 0) := ⟨_, rfl⟩
    have hF : WF.heap[X + 1]? = some (.cells #[.int .i64 0, .slice none 0 0, .slice none 0 0] 31) := by
      rw [hWF]; exact box_set2 (box_set1 (box_set0 H3.out.2))
    have gF : w3.grownBy WF (some (X + 1)) := by rw [hWF]; exact ((grown_put 0 _).trans (grown_put 1 _)).trans (grown_put 2 _)
    rw [← hWF]
    clear hWF c0 c1 c2 f0 f1 f2
    obtain ⟨f0, f1, f2, _, _, _⟩ := box_cells hF
    have hbF : Below w.heap.size w WF := by
      refine (below_two HK.out.2.1 H3.out.1).grown gF (Nat.le_trans HK.out.2.1.size H3.out.1.size) (fun j hj => ?_)
      cases hj; rw [HK.out.2.2]; omega
    refine bodyPost_ret (v := .tuple #[.agg #[.int .i64 0, .slice none 0 0, .slice none 0 0], .int .i64 E]) (by simp [results, Tryz.results11, go_sem, f0, f1, f2]) rfl ?_
    exact ⟨none, 0, none, 0, rfl, ⟨[], Row.nil, rfl, fun i u xs h => by simp at h⟩, ⟨[], Row.nil, rfl, fun i u xs h => by simp at h⟩, hbF⟩
end Go.Proofs.YtjjjohmppehejaaGreat
