/- The law: a graph and its text determine each other. -/
import Derived.Test.YtifkieopaoooeaaDoorAwake
import Derived.Test.YtifkieopaoooeaaDoorDrawn
import Derived.Test.YtifkieopaoooeaaDoorSameG
set_option linter.unusedSimpArgs false
set_option linter.unusedVariables false
namespace Go.Proofs.YtifkieopaoooeaaDoor
open Go.RowKit Plain PlainG
theorem box_out {w : World} {D : Nat} {x0 x1 x2 y0 y1 : Value} {T T2 : TypeId} (a0 a1 a2 b0 b1 : Value) (h1 : w.heap[D]? = some (.cells #[x0, x1, x2] T (0, 0))) (h2 : w.heap[D + 1]? = some (.cells #[y0, y1] T2 (0, 0))) :
    ∃ W, W = ((((w.setCell ⟨D, 0, none⟩ a0).setCell ⟨D, 1, none⟩ a1).setCell ⟨D, 2, none⟩ a2).setCell ⟨D + 1, 0, none⟩ b0).setCell ⟨D + 1, 1, none⟩ b1 ∧ W.cell? ⟨D, 0, none⟩ = some a0 ∧ W.cell? ⟨D, 1, none⟩ = some a1 ∧ W.cell? ⟨D, 2, none⟩ = some a2 ∧ W.cell? ⟨D + 1, 0, none⟩ = some b0 ∧ W.cell? ⟨D + 1, 1, none⟩ = some b1 ∧ Below D w W ∧ ∀ k, k ≠ D → k ≠ D + 1 → W.heap[k]? = w.heap[k]? := by
  have r1 : w.cell? ⟨D, 0, none⟩ = some x0 := by simp [World.cell?, h1]
  have r2 : w.cell? ⟨D, 1, none⟩ = some x1 := by simp [World.cell?, h1]
  have r3 : w.cell? ⟨D, 2, none⟩ = some x2 := by simp [World.cell?, h1]
  have s1 : w.cell? ⟨D + 1, 0, none⟩ = some y0 := by simp [World.cell?, h2]
  have s2 : w.cell? ⟨D + 1, 1, none⟩ = some y1 := by simp [World.cell?, h2]
  refine ⟨_, rfl, ?_, ?_, ?_, ?_, ?_, ?_, ?_⟩
  · rw [cell_set_other (by simp), cell_set_other (by simp), cell_set_other (by simp), cell_set_other (by simp), cell_set_same r1]
  · rw [cell_set_other (by simp), cell_set_other (by simp), cell_set_other (by simp), cell_set_same ((cell_set_other (by simp)).trans r2)]
  · rw [cell_set_other (by simp), cell_set_other (by simp), cell_set_same ((cell_set_other (by simp)).trans ((cell_set_other (by simp)).trans r3))]
  · rw [cell_set_other (by simp), cell_set_same ((cell_set_other (by simp)).trans ((cell_set_other (by simp)).trans ((cell_set_other (by simp)).trans s1)))]
  · rw [cell_set_same ((cell_set_other (by simp)).trans ((cell_set_other (by simp)).trans ((cell_set_other (by simp)).trans ((cell_set_other (by simp)).trans s2))))]
  · exact ((((Below.refl D w).setCell (p := ⟨D, 0, none⟩) (Nat.le_refl _) _).setCell (p := ⟨D, 1, none⟩) (Nat.le_refl _) _).setCell (p := ⟨D, 2, none⟩) (Nat.le_refl _) _).setCell (p := ⟨D + 1, 0, none⟩) (Nat.le_succ _) _ |>.setCell (p := ⟨D + 1, 1, none⟩) (Nat.le_succ _) _
  · intro k hk1 hk2
    rw [Below.heap_setCell _ _ _ _ hk2, Below.heap_setCell _ _ _ _ hk2, Below.heap_setCell _ _ _ _ hk1, Below.heap_setCell _ _ _ _ hk1, Below.heap_setCell _ _ _ _ hk1]
theorem dec_lt (n : Nat) (hn : n ≤ 99) : ∀ x ∈ dec n, x < 256 := by
  intro x hx
  unfold dec at hx
  split at hx <;> simp at hx <;> omega
theorem text_lt {g : Gr} (h : chkGr g = 0) : ∀ x ∈ textG g, x < 256 := by
  obtain ⟨n0, n1, hE, hl, hok⟩ := chkGr_ok.1 h
  have hed := (chkE_srt hE).2.1
  have hc := fun c hc => (show okC c = true from List.all_eq_true.1 hok c hc)
  intro x hx
  unfold textG at hx
  rcases List.mem_append.1 hx with hx | hx
  · exact dec_lt _ (by omega) x hx
  rcases List.mem_append.1 hx with hx | hx
  · obtain ⟨e, he, hx⟩ := List.mem_flatMap.1 hx
    have h1 := hed e he
    simp only [edgeT, List.mem_cons, List.mem_append] at hx
    rcases hx with hx | hx | hx | hx
    · omega
    · exact dec_lt _ (by omega) x hx
    · omega
    · exact dec_lt _ (by omega) x hx
  · unfold colsT at hx
    split at hx
    · simp at hx
    · simp only [List.mem_cons, List.mem_flatMap] at hx
      rcases hx with hx | hx | ⟨c, hc1, hx | hx⟩
      · omega
      · omega
      · omega
      · have := hc c hc1
        simp [okC] at this
        exact dec_lt _ (by omega) x hx
theorem sb_text {g : Gr} (h : chkGr g = 0) : bytesOf (sb (textG g)) = textG g := sb_bytes (text_lt h)
theorem parse_ok {b : ByteArray} {g : Gr} (w : World) (hb : b.size ≤ 1000000) (h : parse (bytesOf b) = .ok g) :
    Calls Tryd.prog 8 #[.string b] w fun e w' => ∃ a c b1 d, e = .returned (.tuple #[.agg #[.int .i64 g.n, .slice a g.es.length c, .slice b1 g.cs.length d], .agg #[.int .i64 0, .int .i64 0]]) ∧ OwnE w' w.heap.size 45 (.slice a g.es.length c) g.es ∧ Own w' w.heap.size (.slice b1 g.cs.length d) 3 (ints g.cs) ∧ g.es.length ≤ 20000 ∧ g.cs.length ≤ 24 ∧ Below w.heap.size w w' := by
  have := gparse_calls b w hb
  rw [h] at this
  exact this
theorem parse_bad {b : ByteArray} {f : Flt} (w : World) (hb : b.size ≤ 1000000) (h : parse (bytesOf b) = .error f) :
    Calls Tryd.prog 8 #[.string b] w fun e w' => e = .returned (.tuple #[.agg #[.int .i64 0, .slice none 0 0, .slice none 0 0], .agg #[.int .i64 f.1, .int .i64 (f.2 : Int)]]) ∧ Below w.heap.size w w' := by
  have := gparse_calls b w hb
  rw [h] at this
  exact this
theorem text_ok {w : World} {a b : Option Addr} {c d : Nat} {g : Gr} (he : Edg w a g.es) (hc : Ints w b g.cs) (h0 : chkGr g = 0) :
    Calls Tryd.prog 7 #[.agg #[.int .i64 g.n, .slice a g.es.length c, .slice b g.cs.length d]] w fun e w' => e = .returned (.tuple #[.string (sb (textG g)), .int .i64 0]) ∧ Below w.heap.size w w' := by
  have := gtext_calls (c := c) (d := d) he hc
  rw [h0] at this
  have ht : textR g = textG g := by unfold textR; rw [if_pos h0]
  rw [ht] at this
  exact this
set_option maxRecDepth 100000 in
set_option maxHeartbeats 4000000 in
theorem again_calls {w : World} {a : Option Addr} {nums : List Int} (c : Nat) (n : Int) (s : ByteArray) (ha : Ints w a nums) :
    Calls Tryd.prog 3 #[.int .i64 n, .slice a nums.length c, .string s] w fun e w' => e = .returned (.bool true) ∧ Below w.heap.size w w' := by
  by_cases hbig : 3000 < s.size
  · have hb : (3000 : Int) < (s.size : Int) := by omega
    have hA := Lib.hid (awake_calls w)
    clear ha
    obtain ⟨S, hS⟩ : ∃ S, s.size = S := ⟨_, rfl⟩
    rw [hS] at hb hbig
    go_enter Tryd.func3, Tryd.ntmps3
    go_wp2_with (go_at_call 4; refine hA.out.mono ?_; rintro e w2 ⟨rfl, hw2⟩; have HB := Lib.hid hw2; clear hw2)
    go_ret
    exact ⟨rfl, HB.out⟩
  · have hbr := bel_range (n := n) (k := 25) (by omega)
    have K6 := below_calls n 25 w (by omega)
    obtain ⟨N, hN⟩ : ∃ N : Nat, bel n 25 = N := ⟨(bel n 25).toNat, by omega⟩
    rw [hN] at K6 hbr
    have K5 := drawn_calls c ha (n := N) (by omega)
    have hsl : s.size ≤ 1000000 := by omega
    obtain ⟨S, hS⟩ : ∃ S, s.size = S := ⟨_, rfl⟩
    have hbS : ¬ 3000 < S := by rw [← hS]; exact hbig
    have hbl := bytesOf_len s
    have HS := Lib.hid (And.intro K6 (And.intro K5 (And.intro hsl hbl)))
    clear K6 K5 hsl hbl hbig ha hbr hN
    go_enter Tryd.func3, Tryd.ntmps3
    go_wp2_with (go_at_call 6; refine HS.out.1.mono ?_; rintro e w2 ⟨rfl, hw⟩; replace hw := hw.symm; subst hw)
    go_wp2_with (go_at_call 5; refine HS.out.2.1.mono ?_; rintro e w2 ⟨a1, c1, b1, d1, g, rfl, hgn, hg0, hge, hgc, hw2⟩; have HA := Lib.hid (And.intro hgn (And.intro hg0 (And.intro hge (And.intro hgc hw2)))); clear hgn hg0 hge hgc hw2)
    obtain ⟨W1, hW1⟩ : ∃ W1, W1 = w2.alloc (.cells #[.int .i64 (N : Int), .slice a1 g.es.length c1, .slice b1 g.cs.length d1] 26) := ⟨_, rfl⟩
    have hbW1 : Below w2.heap.size w2 W1 := by rw [hW1]; exact (Below.refl _ _).alloc (Nat.le_refl _) _
    have hx1 : ∀ w', Below W1.heap.size W1 w' → w'.cell? ⟨w2.heap.size, 0, none⟩ = some (.int .i64 (N : Int)) ∧ w'.cell? ⟨w2.heap.size, 1, none⟩ = some (.slice a1 g.es.length c1) ∧ w'.cell? ⟨w2.heap.size, 2, none⟩ = some (.slice b1 g.cs.length d1) ∧ w2.heap.size < w'.heap.size := fun w' h => by
      rw [hW1] at h; exact box3 h
    have K7 := text_ok (w := W1) (c := c1) (d := d1) (HA.out.2.2.1.below hbW1) (HA.out.2.2.2.1.below hbW1) HA.out.2.1
    rw [HA.out.1] at K7
    have K8 := fun w' => parse_ok (b := sb (textG g)) (g := g) w' (by have := text_len HA.out.2.1; rw [sb_size]; omega) (by rw [sb_text HA.out.2.1]; exact parse_text HA.out.2.1)
    rw [HA.out.1] at K8
    have HB := Lib.hid (And.intro K7 (And.intro K8 (And.intro hx1 (HA.out.2.2.2.2.trans (hbW1.mono HA.out.2.2.2.2.size)))))
    have HA2 := Lib.hid (And.intro (HA.out.2.2.1.below hbW1) (HA.out.2.2.2.1.below hbW1))
    rw [← hW1]
    clear hW1 hbW1 hx1 K7 K8
    go_wp2_with (go_at_call 7; refine HB.out.1.mono ?_; rintro e w3 ⟨rfl, hw3⟩; have HC := Lib.hid hw3; clear hw3)
    go_wp2_with (go_at_call 8; refine (HB.out.2.1 _).mono ?_; rintro e w4 ⟨a2, c2, b2, d2, rfl, hp1, hp2, hp3, hp4, hp5⟩; have HD := Lib.hid (And.intro (hp1.edg (by omega)) (And.intro (hp2.toInts (by unfold maxLen; omega)) (HC.out.trans (hp5.mono HC.out.size)))); have hx1 := HB.out.2.2.1 _ HD.out.2.2; clear hp1 hp2 hp3 hp4 hp5)
    obtain ⟨W4, hW4⟩ : ∃ W4, W4 = (w4.alloc (.cells #[.int .i64 (N : Int), .slice a2 g.es.length c2, .slice b2 g.cs.length d2] 26)).alloc (.cells #[.int .i64 0, .int .i64 0] 33) := ⟨_, rfl⟩
    have hbW4 : Below w4.heap.size w4 W4 := by rw [hW4]; exact ((Below.refl _ _).alloc (Nat.le_refl _) _).alloc (by simp) _
    have hs4 : W4.heap.size = w4.heap.size + 1 + 1 := by rw [hW4]; simp
    have hh1 : W4.heap[w4.heap.size]? = some (.cells #[.int .i64 (N : Int), .slice a2 g.es.length c2, .slice b2 g.cs.length d2] 26 (0, 0)) := by
      rw [hW4, Below.heap_alloc _ _ _ (by simp)]; exact heap_new _ _
    have hh2 : W4.heap[w4.heap.size + 1]? = some (.cells #[.int .i64 0, .int .i64 0] 33 (0, 0)) := by
      have e : w4.heap.size + 1 = (w4.alloc (.cells #[.int .i64 (N : Int), .slice a2 g.es.length c2, .slice b2 g.cs.length d2] 26)).heap.size := by simp
      rw [hW4, e]; exact heap_new _ _
    have hk4 : ∀ w', Below W4.heap.size W4 w' → w'.heap[w4.heap.size]? = some (.cells #[.int .i64 (N : Int), .slice a2 g.es.length c2, .slice b2 g.cs.length d2] 26 (0, 0)) ∧ w'.heap[w4.heap.size + 1]? = some (.cells #[.int .i64 0, .int .i64 0] 33 (0, 0)) := fun w' h =>
      ⟨(h.block _ (by rw [hs4]; omega)).trans hh1, (h.block _ (by rw [hs4]; omega)).trans hh2⟩
    have K9 := sameGraph_calls (w := W4) (g := g) (h := g) (c1 := c1) (d1 := d1) (c2 := c2) (d2 := d2) ((HA2.out.1.below HD.out.2.2).below hbW4) ((HA2.out.2.below HD.out.2.2).below hbW4) (HD.out.1.below hbW4) (HD.out.2.1.below hbW4)
    rw [sameG_iff.2 rfl, HA.out.1] at K9
    have hw4 : Below w.heap.size w W4 := (HB.out.2.2.2.trans (HD.out.2.2.mono HB.out.2.2.2.size)).trans (hbW4.mono (HB.out.2.2.2.trans (HD.out.2.2.mono HB.out.2.2.2.size)).size)
    have HE := Lib.hid (And.intro K9 (And.intro hk4 (And.intro hw4 hs4)))
    rw [← hW4]
    obtain ⟨D, hDe⟩ : ∃ D, w4.heap.size = D := ⟨_, rfl⟩
    rw [hDe] at hs4 HE ⊢
    clear hW4 hbW4 hh1 hh2 hk4 K9 hw4 hs4
    cases hr : parse (bytesOf s) with
    | error f =>
      obtain ⟨hf2, hf1⟩ := parse_err hr (by rw [HS.out.2.2.2]; omega)
      rw [HS.out.2.2.2, hS] at hf2
      have K8 := fun w' => parse_bad w' HS.out.2.2.1 hr
      have HP := Lib.hid K8
      obtain ⟨f1, f2⟩ := f
      simp only at hf1 hf2
      have hfb : (f1 != 0) = true := by simp [hf1]
      have hfI : (f2 : Int) ≤ (S : Int) := by omega
      have hfn : (0 : Int) ≤ (f2 : Int) := by omega
      clear hr K8
      go_wp2_with (first
        | (go_at_call 9; refine HE.out.1.mono ?_; rintro e w5 ⟨rfl, hw5⟩; have HG := Lib.hid hw5; clear hw5)
        | (go_at_call 8; refine (HP.out _).mono ?_; rintro e w6 ⟨rfl, hw6⟩; have HH := Lib.hid (HG.out.trans (hw6.mono HG.out.size)); obtain ⟨k1, k2⟩ := HE.out.2.1 _ HH.out; have r1 : w6.cell? ⟨D, 0, none⟩ = some (.int .i64 (N : Int)) := by { simp [World.cell?, k1] }; have r2 : w6.cell? ⟨D, 1, none⟩ = some (.slice a2 g.es.length c2) := by { simp [World.cell?, k1] }; have r3 : w6.cell? ⟨D, 2, none⟩ = some (.slice b2 g.cs.length d2) := by { simp [World.cell?, k1] }; have s1 : w6.cell? ⟨D + 1, 0, none⟩ = some (.int .i64 0) := by { simp [World.cell?, k2] }; have s2 : w6.cell? ⟨D + 1, 1, none⟩ = some (.int .i64 0) := by { simp [World.cell?, k2] }; have t1 : ∀ o, w6.frozen? ⟨D, o, none⟩ = false := by { intro o; simp [World.frozen?, k1] }; have t2 : ∀ o, w6.frozen? ⟨D + 1, o, none⟩ = false := by { intro o; simp [World.frozen?, k2] }; clear k1 k2))
      obtain ⟨k1, k2⟩ := HE.out.2.1 _ HH.out
      obtain ⟨W, hW, _, _, _, _, _, hbW, _⟩ := box_out (.int .i64 0) (.slice none 0 0) (.slice none 0 0) (.int .i64 f1) (.int .i64 (f2 : Int)) k1 k2
      rw [← hW]
      have hD1 : w.heap.size ≤ D := by have h1 := HE.out.2.2.1.size; have h2 := HE.out.2.2.2; have h3 := HB.out.2.2.2.size; have h4 := HD.out.2.2.size; omega
      have hWw : Below w.heap.size w W := (HE.out.2.2.1.trans (HH.out.mono HE.out.2.2.1.size)).trans (hbW.mono hD1)
      refine (awake_calls W).mono ?_
      rintro e w7 ⟨rfl, hw7⟩
      have HL := Lib.hid (hWw.trans (hw7.mono hWw.size))
      clear hW hbW hWw hw7 hD1 k1 k2
      go_wp2
      go_ret
      exact ⟨rfl, HL.out⟩
    | ok h =>
      obtain ⟨hc0, htx⟩ := parse_inv hr
      have K8 := fun w' => parse_ok w' HS.out.2.2.1 hr
      have hst : sb (textG h) = s := by rw [htx, sb_of]
      have K7 := fun (w' : World) (a b : Option Addr) (c d : Nat) (he : Edg w' a h.es) (hc : Ints w' b h.cs) => text_ok (c := c) (d := d) he hc hc0
      have K10 : ∀ (w' : World) (a b : Option Addr) (c d : Nat) (he : Edg w' a h.es) (hc : Ints w' b h.cs), Calls Tryd.prog 10 #[.agg #[.int .i64 h.n, .slice a h.es.length c, .slice b h.cs.length d]] w' fun e w2 => e = .returned (.int .i64 0) ∧ Below w'.heap.size w' w2 := fun w' a b c d he hc => by
        have := gcheck_calls (c := c) (d := d) he hc
        rw [hc0] at this
        exact this
      simp only [hst] at K7
      obtain ⟨n2, hn2⟩ : ∃ n2, h.n = n2 := ⟨_, rfl⟩
      obtain ⟨L2, hL2⟩ : ∃ L2, h.es.length = L2 := ⟨_, rfl⟩
      obtain ⟨M2, hM2⟩ : ∃ M2, h.cs.length = M2 := ⟨_, rfl⟩
      rw [hn2, hL2, hM2] at K7 K10
      rw [hn2, hL2, hM2] at K8
      have HP := Lib.hid (And.intro K8 (And.intro K7 (And.intro K10 (And.intro hL2 hM2))))
      clear hr K8 K7 K10 hst hc0 htx hn2 hL2 hM2
      go_wp2_with (first
        | (go_at_call 9; refine HE.out.1.mono ?_; rintro e w5 ⟨rfl, hw5⟩; have HG := Lib.hid hw5; clear hw5)
        | (go_at_call 8; refine (HP.out.1 _).mono ?_; rintro e w6 ⟨a3, c3, b3, d3, rfl, hp1, hp2, hp3, hp4, hw6⟩; have HX := Lib.hid (And.intro hp1 (And.intro hp2 (And.intro hp3 hp4))); have HH := Lib.hid (HG.out.trans (hw6.mono HG.out.size)); have hs5 := Lib.hid HG.out.size; clear hp1 hp2 hp3 hp4 hw6; obtain ⟨k1, k2⟩ := HE.out.2.1 _ HH.out; have r1 : w6.cell? ⟨D, 0, none⟩ = some (.int .i64 (N : Int)) := by { simp [World.cell?, k1] }; have r2 : w6.cell? ⟨D, 1, none⟩ = some (.slice a2 g.es.length c2) := by { simp [World.cell?, k1] }; have r3 : w6.cell? ⟨D, 2, none⟩ = some (.slice b2 g.cs.length d2) := by { simp [World.cell?, k1] }; have s1 : w6.cell? ⟨D + 1, 0, none⟩ = some (.int .i64 0) := by { simp [World.cell?, k2] }; have s2 : w6.cell? ⟨D + 1, 1, none⟩ = some (.int .i64 0) := by { simp [World.cell?, k2] }; have t1 : ∀ o, w6.frozen? ⟨D, o, none⟩ = false := by { intro o; simp [World.frozen?, k1] }; have t2 : ∀ o, w6.frozen? ⟨D + 1, o, none⟩ = false := by { intro o; simp [World.frozen?, k2] }; clear k1 k2))
      obtain ⟨k1, k2⟩ := HE.out.2.1 _ HH.out
      obtain ⟨W, hW, y0, y1, y2, y3, y4, hbW, hblk⟩ := box_out (.int .i64 n2) (.slice a3 L2 c3) (.slice b3 M2 d3) (.int .i64 0) (.int .i64 0) k1 k2
      rw [← hW]
      have hs5' := hs5.out
      have hse := HE.out.2.2.2
      have hD1 : w.heap.size ≤ D := by have h1 := HE.out.2.2.1.size; have h3 := HB.out.2.2.2.size; have h4 := HD.out.2.2.size; omega
      have hWw : Below w.heap.size w W := (HE.out.2.2.1.trans (HH.out.mono HE.out.2.2.1.size)).trans (hbW.mono hD1)
      have hDW : D < W.heap.size := by have := hbW.size; have := HH.out.size; omega
      have hEW : Edg W a3 h.es := (show OwnE W w5.heap.size 45 _ h.es from ownsRow_block HX.out.1 fun g hg => hblk g (by have := (HX.out.1.block_lt hg).2; omega) (by have := (HX.out.1.block_lt hg).2; omega)).edg (by have := HX.out.2.2.1; have := HP.out.2.2.2.1; omega)
      have hCW : Ints W b3 h.cs := (show Own W w5.heap.size _ 3 (ints h.cs) from ownsRow_block HX.out.2.1 fun g hg => hblk g (by have := (HX.out.2.1.block_lt hg).2; omega) (by have := (HX.out.2.1.block_lt hg).2; omega)).toInts (by have := HX.out.2.2.2; have := HP.out.2.2.2.2; unfold maxLen; omega)
      have hbx : ∀ w', Below W.heap.size W w' → w'.cell? ⟨D, 0, none⟩ = some (.int .i64 n2) ∧ w'.cell? ⟨D, 1, none⟩ = some (.slice a3 L2 c3) ∧ w'.cell? ⟨D, 2, none⟩ = some (.slice b3 M2 d3) := fun w' h => ⟨(h.cell (p := ⟨D, 0, none⟩) hDW).trans y0, (h.cell (p := ⟨D, 1, none⟩) hDW).trans y1, (h.cell (p := ⟨D, 2, none⟩) hDW).trans y2⟩
      have HL := Lib.hid (And.intro hWw (And.intro hEW (And.intro hCW hbx)))
      clear hW hbW hWw hD1 k1 k2 hblk hEW hCW hbx hs5' hse hDW y0 y1 y2 y3 y4 r1 r2 r3 s1 s2 t1 t2
      refine (HP.out.2.1 W a3 b3 c3 d3 HL.out.2.1 HL.out.2.2.1).mono ?_
      rintro e w7 ⟨rfl, hw7⟩
      have HM := Lib.hid hw7
      obtain ⟨y0, y1, y2⟩ := HL.out.2.2.2 _ hw7
      clear hw7
      go_wp2_with (first
        | (go_at_call 10; refine (HP.out.2.2.1 _ _ _ _ _ (HL.out.2.1.below HM.out) (HL.out.2.2.1.below HM.out)).mono ?_; rintro e w8 ⟨rfl, hw8⟩; have HN := Lib.hid (HM.out.trans (hw8.mono HM.out.size)); clear hw8)
        | (go_at_call 4; refine (awake_calls _).mono ?_; rintro e w9 ⟨rfl, hw9⟩; have HO := Lib.hid (HN.out.trans (hw9.mono HN.out.size)); clear hw9))
      go_ret
      exact ⟨rfl, HL.out.1.trans (HO.out.mono HL.out.1.size)⟩
theorem againW {w : World} {a1 : Option Addr} {c1 : Nat} {l1 : List Int} (ha : Ints w a1 l1) {s2 : ByteArray} (n : Int) :
    Calls Tryd.prog 3 #[.int .i64 n, .slice a1 l1.length c1, .string s2] w fun e w' => e = .returned (.bool true) ∧ Below w.heap.size w w' := again_calls c1 n s2 ha
end Go.Proofs.YtifkieopaoooeaaDoor
