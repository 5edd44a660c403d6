/- The sort of at most twelve points by a comparison that may rewrite one block. -/
import Derived.Test.YtlnikgcanimggaaGreatSortAll
import Derived.Test.YtlnikgcanimggaaGreatPlainIns
import Derived.BigRegion
set_option linter.unusedSimpArgs false
set_option linter.unusedVariables false
namespace Go.Proofs.YtlnikgcanimggaaGreat
open Go.RowKit Go.Sort Go.Shelf Plain

/-- A comparison handed in: at any two points below n it answers cf; it rewrites the block F at most, and Inv, said of F, stays. -/
structure CmpMut (w : World) (g : Nat) (cb : Array Value) (n : Nat) (cf : Nat → Nat → Int) (F : Nat) (Inv : World → Prop) : Prop where
  enters : ∀ args w, (callFunc g args).run Tryz.prog w = .ok (.enter g args) w
  stable : ∀ (W W' : World) row, W.grownBy W' row → row ≠ some F → Inv W → Inv W'
  lt : F < w.heap.size
  kind : ∀ W, Inv W → ∀ cs fr, W.heap[F]? ≠ some (.cells cs 3 fr)
  calls : ∀ W, w.grownBy W (some F) → Inv W → ∀ x y : Nat, x < n → y < n → Calls Tryz.prog g (#[.int .i64 (x : Int), .int .i64 (y : Int)] ++ cb) W fun e w' => e = .returned (.int .i64 (cf x y)) ∧ W.grownBy w' (some F) ∧ Inv w'

theorem grown_to {w W W' : World} {F : Nat} {row : Option Nat} (h : w.grownBy W (some F)) (k : W.grownBy W' row) (hr : ∀ g, row = some g → w.heap.size ≤ g) : w.grownBy W' (some F) :=
  grown_new h k (fun g hg => .inl (hr g hg))

set_option maxHeartbeats 400000 in
theorem grouped1M_calls (g : Nat) (cb : Array Value) (c : Int) (D F : Nat) (Inv : World → Prop) (x y : Nat) (hx : x < 1000000) (hy : y < 1000000) (W : World) (eg : ∀ args w, (callFunc g args).run Tryz.prog w = .ok (.enter g args) w)
    (hst : ∀ (W W' : World) row, W.grownBy W' row → row ≠ some F → Inv W → Inv W')
    (hbox : W.cell? ⟨D, 0, none⟩ = some (.func (.func g) #[] cb)) (hc : Calls Tryz.prog g (#[.int .i64 (x : Int), .int .i64 (y : Int)] ++ cb) W fun e w' => e = .returned (.int .i64 c) ∧ W.grownBy w' (some F) ∧ Inv w') :
    Calls Tryz.prog 57 #[.int .i64 (x : Int), .int .i64 (y : Int), .pointer (some ⟨D, 0, none⟩)] W fun e w' => e = .returned (.int .i64 (orL [c, (x : Int) - y])) ∧ W.grownBy w' (some F) ∧ Inv w' := by
  have Hc := Lib.hid hc
  have Hst := Lib.hid hst
  clear hc hst
  go_enter Tryz.func57, Tryz.ntmps57
  go_wp2_with fail
  refine Hc.out.mono ?_
  rintro e W1 ⟨rfl, hW1⟩
  have H1 := Lib.hid hW1
  clear hW1
  have hown := Own.new (w := W1) (B := 0) 3 (ints [c, (x : Int) - y]) (Nat.zero_le _) (by unfold maxLen; simp [ints])
  have hor := or_calls (some ⟨W1.heap.size, 0, none⟩) 2 [c, (x : Int) - y] _ (hown.toInts (by unfold maxLen; simp))
  have Ho := Lib.hid hor
  clear hown hor
  go_wp2_with (go_at_call 38; refine Ho.out.mono ?_; rintro e w' ⟨rfl, rfl⟩)
  go_ret
  exact ⟨rfl, grown_new H1.out.1 (grown_alloc W1 _ none) (fun g hg => by cases hg), Hst.out _ _ none (grown_alloc W1 _ none) (by simp) H1.out.2⟩

/-- The points as they lie while they are sorted. -/
structure SortS (w wr : World) (D F n blk c g : Nat) (cb : Array Value) (Inv : World → Prop) (s : List Nat) : Prop where
  own : Own wr D (.slice (some ⟨blk, 0, none⟩) n c) 3 (nums s)
  box : Own wr D (.slice (some ⟨D, 0, none⟩) 1 1) 73 [.func (.func g) #[] cb]
  grown : w.grownBy wr (some F)
  inv : Inv wr
  perm : s.Perm (List.range n)
  blkD : D ≤ blk
  FD : F < D
  Dw : D = w.heap.size
section
variable {w wr w' : World} {D F n blk c g : Nat} {cb : Array Value} {Inv : World → Prop} {s : List Nat}
theorem SortS.len (h : SortS w wr D F n blk c g cb Inv s) : s.length = n := by rw [h.perm.length_eq]; simp
theorem SortS.boxcell (h : SortS w wr D F n blk c g cb Inv s) : wr.cell? ⟨D, 0, none⟩ = some (.func (.func g) #[] cb) := by rw [h.box.cell 0 (by simp)]; rfl
theorem nums_get {s : List Nat} {p : Nat} (h : p < s.length) : (nums s)[p]? = some (.int .i64 (at' s p : Int)) := by
  simp only [nums, List.getElem?_map, at', List.getElem?_eq_getElem h, Option.map_some, Option.getD_some]
theorem SortS.cell (h : SortS w wr D F n blk c g cb Inv s) {p : Nat} (hp : p < n) : wr.cell? ⟨blk, p, none⟩ = some (.int .i64 (at' s p : Int)) := by
  rw [h.own.cell p (by rw [nums, List.length_map, h.len]; exact hp), nums_get (by rw [h.len]; exact hp)]
theorem SortS.at_lt (h : SortS w wr D F n blk c g cb Inv s) {p : Nat} (hp : p < n) : at' s p < n := by
  have hm : at' s p ∈ s := by rw [at', List.getElem?_eq_getElem (by rw [h.len]; exact hp)]; exact List.getElem_mem _
  exact List.mem_range.1 (h.perm.mem_iff.1 hm)
theorem SortS.at_ne (h : SortS w wr D F n blk c g cb Inv s) {p q : Nat} (hp : p < n) (hq : q < n) (hne : p ≠ q) : at' s p ≠ at' s q := by
  have hd : s.Nodup := h.perm.nodup_iff.2 List.nodup_range
  have hl := h.len
  rw [at', at', List.getElem?_eq_getElem (by omega), List.getElem?_eq_getElem (by omega), Option.getD_some, Option.getD_some]
  have hpw := List.pairwise_iff_getElem.1 hd
  rcases Nat.lt_or_gt_of_ne hne with h1 | h1
  · exact hpw p q (by omega) (by omega) h1
  · exact fun e => hpw q p (by omega) (by omega) h1 e.symm
/-- .. behind a comparison. -/
theorem SortS.cmp (h : SortS w wr D F n blk c g cb Inv s) (hg : wr.grownBy w' (some F)) (hi : Inv w') : SortS w w' D F n blk c g cb Inv s := by
  refine ⟨h.own.kept hg ?_, h.box.kept hg ?_, grown_new h.grown hg (fun g hg => .inr (by cases hg; rfl)), hi, h.perm, h.blkD, h.FD, h.Dw⟩
  · right; intro e; have e2 : blk = F := Option.some.inj e; have := h.blkD; have := h.FD; omega
  · right; intro e; have e2 : D = F := Option.some.inj e; have := h.FD; omega
theorem SortS.drewN (h : SortS w wr D F n blk c g cb Inv s) (hst : ∀ (W W' : World) row, W.grownBy W' row → row ≠ some F → Inv W → Inv W') (q : Nat) : SortS w (wr.drewN q) D F n blk c g cb Inv s :=
  ⟨h.own.drewN q, h.box.drewN q, h.grown.trans (grown_drewN wr q _), hst _ _ none (grown_drewN wr q none) (by simp) h.inv, h.perm, h.blkD, h.FD, h.Dw⟩
/-- .. behind a change of two neighbours. -/
theorem SortS.swap (h : SortS w wr D F n blk c g cb Inv s) (hst : ∀ (W W' : World) row, W.grownBy W' row → row ≠ some F → Inv W → Inv W') {j : Nat} (hj : 0 < j) (hjn : j < n) :
    SortS w ((wr.setCell ⟨blk, j, none⟩ (.int .i64 (at' s (j - 1) : Int))).setCell ⟨blk, j - 1, none⟩ (.int .i64 (at' s j : Int))) D F n blk c g cb Inv (swapDown s j) := by
  have hl := h.len
  have g1 := grown_put (w := wr) (g := blk) j (.int .i64 (at' s (j - 1) : Int))
  have g2 := grown_put (w := wr.setCell ⟨blk, j, none⟩ (.int .i64 (at' s (j - 1) : Int))) (g := blk) (j - 1) (.int .i64 (at' s j : Int))
  have hne : some blk ≠ some F := by intro e; cases e; have := h.blkD; have := h.FD; omega
  have hbl : ∀ g, some blk = some g → w.heap.size ≤ g := fun g hg => by cases hg; have := h.blkD; have := h.Dw; omega
  refine ⟨?_, (h.box.kept g1 (h.box.ne_type h.own (by decide))).kept g2 ?_, grown_to (grown_to h.grown g1 hbl) g2 hbl, hst _ _ _ g2 hne (hst _ _ _ g1 hne h.inv), (swapDown_perm hj (by rw [hl]; exact hjn)).trans h.perm, h.blkD, h.FD, h.Dw⟩
  · have h1 := (h.own.put j (.int .i64 (at' s (j - 1) : Int))).put (j - 1) (.int .i64 (at' s j : Int))
    have e : nums (swapDown s j) = ((nums s).set j (.int .i64 (at' s (j - 1) : Int))).set (j - 1) (.int .i64 (at' s j : Int)) := by
      simp [nums, swapDown, List.map_set]
    rw [e]; exact h1
  · exact h.box.ne_type h.own (by decide)
end

set_option maxRecDepth 100000 in
set_option maxHeartbeats 2000000 in
theorem insertM_calls (n : Nat) (hn : n ≤ 1000) (R : Nat → List Int) (g : Nat) (cb : Array Value) (cf : Nat → Nat → Int) (F : Nat) (Inv : World → Prop) (w wr : World) (hok : CmpMut w g cb n cf F Inv)
    (hcf : ∀ x y, x < n → y < n → (cf x y < 0 ↔ cmpL (R x) (R y) < 0) ∧ (cf x y = 0 ↔ R x = R y)) (D blk c : Nat) (s : List Nat) (hs : SortS w wr D F n blk c g cb Inv s) :
    Calls Tryz.prog 88 #[.slice (some ⟨blk, 0, none⟩) n c, .int .i64 0, .int .i64 n, .func (.func 57) #[] #[.pointer (some ⟨D, 0, none⟩)]] wr fun e w' => e = .returned (.tuple #[]) ∧ ∃ s : List Nat, s.Pairwise (fun p q => Ahead R p q) ∧ SortS w w' D F n blk c g cb Inv s := by
  have H0 := Lib.hid (And.intro hok (And.intro hcf hs))
  clear hok hcf hs
  go_enter Tryz.func88, Tryz.ntmps88
  go_wp2
  go_loopw [8] (fun i wr => ∃ (i' : Nat) (s : List Nat), 1 ≤ i' ∧ (i' ≤ n ∨ i' = 1) ∧ i = .int .i64 i' ∧ SortS w wr D F n blk c g cb Inv s ∧ Sorted' R s i') (fun i _ => n - (intOf i).toNat)
  case atStart => exact ⟨1, s, by omega, by omega, rfl, H0.out.2.2, fun p q h1 h2 => by omega⟩
  case round =>
    obtain ⟨i, s, hi1, hin, rfl, hS, hsrt⟩ := hrel
    have H := Lib.hid (And.intro hS hsrt)
    clear hS hsrt
    by_cases hlt : i < n
    · go_wp2
      go_loopw [9] (fun j wr => ∃ (j' : Nat) (s : List Nat), j' ≤ i ∧ j = .int .i64 j' ∧ SortS w wr D F n blk c g cb Inv s ∧ Srt R s i j') (fun j _ => (intOf j).toNat)
      case atStart => exact ⟨i, s, by omega, rfl, H.out.1, Srt.start H.out.2⟩
      case round =>
        clear H
        obtain ⟨j, s, hji, rfl, hS, hsrt⟩ := hrel
        by_cases hj0 : j = 0
        · subst hj0
          have H := Lib.hid (And.intro hS hsrt)
          clear hS hsrt
          go_wp2
          go_quiet (fail)
          go_wp2
          exact ⟨⟨i + 1, s, by omega, by omega, by go_num, H.out.1.drewN H0.out.1.stable _, Srt.zero H.out.2⟩, by simp [intOf]; omega⟩
        · have hjn : j < n := by omega
          have hc1 := hS.cell hjn
          have hc2 := hS.cell (p := j - 1) (by omega)
          have hx1 := hS.at_lt hjn
          have hx2 := hS.at_lt (p := j - 1) (by omega)
          have hne := hS.at_ne (p := j) (q := j - 1) hjn (by omega) (by omega)
          have hf1 := hS.own.frozen j
          have hf2 := hS.own.frozen (j - 1)
          obtain ⟨x, hx⟩ : ∃ x, at' s j = x := ⟨_, rfl⟩
          obtain ⟨y, hy⟩ : ∃ x, at' s (j - 1) = x := ⟨_, rfl⟩
          rw [hx] at hc1 hx1 hne
          rw [hy] at hc2 hx2 hne
          have hS1 := hS.drewN H0.out.1.stable 1
          have hcall := grouped1M_calls g cb (cf x y) D F Inv x y (by omega) (by omega) (wr.drewN 1) H0.out.1.enters H0.out.1.stable hS1.boxcell (H0.out.1.calls (wr.drewN 1) hS1.grown hS1.inv x y hx1 hx2)
          have hah := lt_ahead H0.out.2.1 hx1 hx2
          obtain ⟨r, hr⟩ : ∃ r, orL [cf x y, (x : Int) - y] = r := ⟨_, rfl⟩
          rw [hr] at hcall hah
          have hw1 : IntKind.i64.wrap ((j : Int) - 1) = (j : Int) - 1 := IntWalk.i64_in _ (by omega)
          have hj00 : decide (0 < j) = true := decide_eq_true (by omega)
          have hb1 : (1 : Int) ≤ (j : Int) := by omega
          have hb0 : (0 : Int) < (j : Int) := by omega
          have hb2 : (j : Int) - 1 < (n : Int) := by omega
          have hb3 : (j : Int) < (n : Int) := by omega
          have hn1 : ((j : Int) - 1).toNat = j - 1 := by omega
          have H := Lib.hid (And.intro hS1 (And.intro hsrt (And.intro hx (And.intro hy (And.intro hne (And.intro hah hf1))))))
          have Hc := Lib.hid hcall
          clear hS hS1 hsrt hx hy hne hah hcall hr hf1 hf2
          go_wp2
          go_still_tail 14, (by kernel_rfl)
          change wpList _ _ _ _ _ (wr.drewN 1)
          go_wp2_with fail
          refine Hc.out.mono ?_
          rintro e w3 ⟨rfl, hg3, hi3⟩
          have hS3 := H.out.1.cmp hg3 hi3
          by_cases hr0 : r < 0
          · have hr0' : decide (r < 0) = true := decide_eq_true hr0
            have hah := H.out.2.2.2.2.2.1.1 hr0
            have hc1 := hS3.cell hjn
            have hc2 := hS3.cell (p := j - 1) (by omega)
            have hf1 := hS3.own.frozen j
            have hf2 := hS3.own.frozen (j - 1)
            rw [H.out.2.2.1] at hc1
            rw [H.out.2.2.2.1] at hc2
            have H3 := Lib.hid (And.intro hS3 hah)
            clear hS3 hah hg3 hi3
            go_wp2
            go_region
            go_wp2
            have hsw := H3.out.1.swap H0.out.1.stable (j := j) (by omega) hjn
            rw [H.out.2.2.1, H.out.2.2.2.1] at hsw
            have hcast : (j : Int) - 1 = ((j - 1 : Nat) : Int) := by omega
            refine ⟨⟨j - 1, swapDown s j, by omega, by rw [hcast], hsw.drewN H0.out.1.stable 1, ?_⟩, by simp [intOf]; omega⟩
            refine Srt.swap H.out.2.1 (by omega) hji (by rw [H3.out.1.len]; exact hjn) ?_
            rw [H.out.2.2.1, H.out.2.2.2.1]; exact H3.out.2
          · have hr0' : decide (r < 0) = false := decide_eq_false hr0
            have hnot : ¬ Ahead R x y := fun h => hr0 (H.out.2.2.2.2.2.1.2 h)
            have H3 := Lib.hid (And.intro hS3 hnot)
            clear hS3 hnot hg3 hi3
            go_wp2
            refine ⟨⟨i + 1, s, by omega, by omega, by go_num, H3.out.1, ?_⟩, by simp [intOf]; omega⟩
            refine Srt.stop H.out.2.1 (by omega) hji ?_ ?_
            · rw [H.out.2.2.1, H.out.2.2.2.1]; exact H3.out.2
            · rw [H.out.2.2.1, H.out.2.2.2.1]; exact H.out.2.2.2.2.1
    · have H' := H
      go_wp2
      go_end0
      refine ⟨rfl, s, ?_, H.out.1⟩
      refine Sorted'.pairwise H.out.1.len ?_
      intro p q h1 h2
      exact H.out.2 p q h1 (by omega)

set_option maxRecDepth 100000 in
set_option maxHeartbeats 2000000 in
theorem pdqM_calls (n : Nat) (hn : n ≤ 12) (lim : Int) (R : Nat → List Int) (g : Nat) (cb : Array Value) (cf : Nat → Nat → Int) (F : Nat) (Inv : World → Prop) (w wr : World) (hok : CmpMut w g cb n cf F Inv)
    (hcf : ∀ x y, x < n → y < n → (cf x y < 0 ↔ cmpL (R x) (R y) < 0) ∧ (cf x y = 0 ↔ R x = R y)) (D blk c : Nat) (s : List Nat) (hs : SortS w wr D F n blk c g cb Inv s) :
    Calls Tryz.prog 73 #[.slice (some ⟨blk, 0, none⟩) n c, .int .i64 0, .int .i64 n, .int .i64 lim, .func (.func 57) #[] #[.pointer (some ⟨D, 0, none⟩)]] wr fun e w' => e = .returned (.tuple #[]) ∧ ∃ s : List Nat, s.Pairwise (fun p q => Ahead R p q) ∧ SortS w w' D F n blk c g cb Inv s := by
  have hi := insertM_calls n (by omega) R g cb cf F Inv w wr hok hcf D blk c s hs
  have Hi := Lib.hid hi
  clear hi hok hcf hs
  have h12 : (n : Int) ≤ 12 := by omega
  go_enter Tryz.func73, Tryz.ntmps73
  go_wp2
  go_loopw [1, 2] (fun a b wr' => a = .int .i64 0 ∧ b = .int .i64 n ∧ wr' = wr) (fun _ _ _ => 0)
  case atStart => exact ⟨rfl, rfl, rfl⟩
  case round =>
    obtain ⟨rfl, rfl, rfl⟩ := hrel
    go_wp2_with fail
    refine Hi.out.mono ?_
    rintro e w2 ⟨rfl, h⟩
    have H := Lib.hid h
    clear h
    go_wp2
    refine bodyPost_ret (results_none rfl _ _ _) rfl ?_
    exact ⟨rfl, H.out⟩

theorem len64_calls (x : Nat) (hx : x ≤ 12) (w : World) : Calls Tryz.prog 72 #[.int .u64 x] w fun e w' => (∃ i : Int, e = .returned (.int .i64 i)) ∧ w' = w := by
  rcases (by omega : x = 0 ∨ x = 1 ∨ x = 2 ∨ x = 3 ∨ x = 4 ∨ x = 5 ∨ x = 6 ∨ x = 7 ∨ x = 8 ∨ x = 9 ∨ x = 10 ∨ x = 11 ∨ x = 12) with rfl | rfl | rfl | rfl | rfl | rfl | rfl | rfl | rfl | rfl | rfl | rfl | rfl <;>
  · go_enter Tryz.func72, Tryz.ntmps72
    go_wp2
    go_ret
    exact ⟨⟨_, rfl⟩, rfl⟩
theorem len_calls (x : Nat) (hx : x ≤ 12) (w : World) : Calls Tryz.prog 55 #[.int .u64 x] w fun e w' => (∃ i : Int, e = .returned (.int .i64 i)) ∧ w' = w := by
  have H := Lib.hid (len64_calls x hx w)
  go_enter Tryz.func55, Tryz.ntmps55
  go_wp2_with fail
  refine H.out.mono ?_
  rintro e w1 ⟨⟨i, rfl⟩, hw⟩
  replace hw := hw.symm
  subst hw
  go_wp2
  go_ret
  exact ⟨⟨_, rfl⟩, rfl⟩

theorem sortM_calls (n : Nat) (hn : n ≤ 12) (R : Nat → List Int) (g : Nat) (cb : Array Value) (cf : Nat → Nat → Int) (F : Nat) (Inv : World → Prop) (w wr : World) (hok : CmpMut w g cb n cf F Inv)
    (hcf : ∀ x y, x < n → y < n → (cf x y < 0 ↔ cmpL (R x) (R y) < 0) ∧ (cf x y = 0 ↔ R x = R y)) (D : Nat) (hD : D = w.heap.size) (a : Option Addr) (c : Nat)
    (ho : Own wr D (.slice a n c) 3 (nums (List.range n))) (hbx : Own wr D (.slice (some ⟨D, 0, none⟩) 1 1) 73 [.func (.func g) #[] cb]) (hgr : w.grownBy wr (some F)) (hinv : Inv wr) :
    Calls Tryz.prog 56 #[.slice a n c, .func (.func 57) #[] #[.pointer (some ⟨D, 0, none⟩)]] wr fun e w' => e = .returned (.tuple #[]) ∧ ∃ s : List Nat, s.Perm (List.range n) ∧ s.Pairwise (fun p q => Ahead R p q) ∧
      Own w' D (.slice a n c) 3 (nums s) ∧ Own w' D (.slice (some ⟨D, 0, none⟩) 1 1) 73 [.func (.func g) #[] cb] ∧ w.grownBy w' (some F) ∧ Inv w' := by
  rcases Nat.eq_zero_or_pos n with h0 | h0
  · subst h0
    have h := AnyF.slices_SortFunc_none (P := Tryz.prog) (ρ := Tryz.sortI_ren) { Tryz.sortI with } a c (.func (.func 57) #[] #[.pointer (some ⟨D, 0, none⟩)]) wr
    change Calls Tryz.prog 56 _ _ _ at h
    exact h.mono fun e w' ⟨he, hw⟩ => ⟨he, [], by simp, by simp, by rw [hw]; exact ho, by rw [hw]; exact hbx, by rw [hw]; exact hgr, by rw [hw]; exact hinv⟩
  · obtain ⟨blk, rfl, hblk, hblt, -⟩ := ho.at_form h0
    have hS : SortS w wr D F n blk c g cb Inv (List.range n) := ⟨ho, hbx, hgr, hinv, .refl _, hblk, by rw [hD]; exact hok.lt, hD⟩
    have hp := fun lim : Int => pdqM_calls n hn lim R g cb cf F Inv w wr hok hcf D blk c _ hS
    have Hl := Lib.hid (len_calls n hn wr)
    have Hp := Lib.hid hp
    clear hp hS hok hcf ho hbx hgr hinv hD
    go_enter Tryz.func56, Tryz.ntmps56
    go_wp2_with fail
    refine Hl.out.mono ?_
    rintro e w1 ⟨⟨i, rfl⟩, hw⟩
    replace hw := hw.symm
    subst hw
    go_wp2_with fail
    refine (Hp.out i).mono ?_
    rintro e w2 ⟨rfl, s, hs, hS⟩
    have H := Lib.hid (And.intro hs hS)
    clear hs hS
    go_wp2
    go_end0
    exact ⟨rfl, s, H.out.2.perm, H.out.1, H.out.2.own, H.out.2.box, H.out.2.grown, H.out.2.inv⟩
end Go.Proofs.YtlnikgcanimggaaGreat
