/- slices.Grow of nil, slices.Concat of two. -/
import Derived.Test.YtlnikgcanimggaaGreatCollect
import Derived.Lib.AppendZeros
import Derived.Lib.AppendZerosOnto
import Derived.Laws.Append
import Derived.Deep.Upon
set_option linter.unusedSimpArgs false
set_option linter.unusedVariables false
namespace Go.Proofs.YtlnikgcanimggaaGreat
open Go.RowKit Plain

set_option maxRecDepth 100000 in
set_option maxHeartbeats 1000000 in
theorem grow_calls (n : Nat) (hn : n ≤ 1000) (B : Nat) (w : World) (hB : B ≤ w.heap.size) :
    Calls Tryz.prog 45 #[.slice none 0 0, .int .i64 n] w fun e w' => ∃ v, e = .returned v ∧ Own w' B v 24 [] ∧ w.grownBy w' none := by
  rcases Nat.eq_zero_or_pos n with h0 | h0
  · subst h0
    go_enter Tryz.func45, Tryz.ntmps45
    go_wp2
    go_ret
    exact ⟨_, rfl, Own.nil _ _ _, World.grownBy.refl _ _⟩
  · obtain ⟨i29, hi29, hz29, hs29, hb29⟩ := info_parts Tryz.info24
    have hrz : ∀ ty, (Builtin.append_ #[25, 3] ty #[.slice none 0 0, .int .i64 (n : Int)]).run Tryz.prog w =
        .ok (.slice (some ⟨w.heap.size, 0, none⟩) n (grownCap w n 0 24)) (w.drew.alloc (.cells (#[] ++ Builtin.zeroCells (Value.slice none 0 0).cells n ++ Builtin.zeroCells (Value.slice none 0 0).cells (grownCap w n 0 24 - n)) 24)) := fun ty => by
      have h := Lib.run_append_grow_zeros w 25 3 ty 24 i29 (.slice none 0 0) .i64 .i64 Tryz.underlying25 Tryz.underlying3 hi29 hz29 none 0 0 [] (run_firstCells_none w.drew i29.size 0 0 0) n h0 (by rw [hs29]; omega) (by omega) (by omega) (by rw [hb29]; omega) (by rw [Nat.zero_add]; exact growslice_fits h0 (by rw [hb29]; omega))
      simp only [Nat.zero_add] at h
      exact h
    have hge := grownCap_ge w n 0 24
    have hcm : grownCap w n 0 24 ≤ maxLen := grownCap_le_maxLen w n 0 24 (by unfold maxLen; omega)
    obtain ⟨G, hG⟩ : ∃ G, grownCap w n 0 24 = G := ⟨_, rfl⟩
    rw [hG] at hrz hge hcm
    have hG63 : G ≤ 9223372036854775807 := by unfold maxLen at hcm; omega
    have hown : Own (w.alloc (.cells (#[] ++ Builtin.zeroCells (Value.slice none 0 0).cells n ++ Builtin.zeroCells (Value.slice none 0 0).cells (G - n)) 24)) B (.slice (some ⟨w.heap.size, 0, none⟩) 0 G) 24 [] := by
      refine ⟨rfl, .inr ⟨w.heap.size, G, _, rfl, hB, heap_alloc_new w _, Nat.zero_le _, hcm, ?_, by simp⟩⟩
      simp only [Array.size_append, size_zeroCells]
      simp [Value.cells]; omega
    obtain ⟨CS, hCS⟩ : ∃ CS, #[] ++ Builtin.zeroCells (Value.slice none 0 0).cells n ++ Builtin.zeroCells (Value.slice none 0 0).cells (G - n) = CS := ⟨_, rfl⟩
    rw [hCS] at hown
    simp only [hCS] at hrz
    clear hCS
    have H := Lib.hid (And.intro hrz hown)
    have hn' : (0 : Int) < (n : Int) := by omega
    clear hrz hown hi29 hz29 hs29 hb29 hG hcm
    go_enter Tryz.func45, Tryz.ntmps45
    go_wp2_with (at_builtin; refine Lib.wpList_append_run _ rfl _ _ _ _ rfl _ _ rfl rfl _ _ (H.out.1 _) ?_)
    all_goals (go_ret; exact ⟨_, rfl, H.out.2.drew, (grown_alloc w _ none).trans (grown_drewN _ 1 none)⟩)

theorem Rows.vals {w : World} {a : Option Addr} {xs : List (List Int)} (h : Rows w a xs) : ∃ vs : List Value, Row w a vs ∧ vs.length = xs.length ∧ (∀ v ∈ vs, v.oneCell' = true) ∧ ∀ (i : Nat) u x, vs[i]? = some u → xs[i]? = some x → IsInts w u x := by
  obtain ⟨vs, hr, hl, hi⟩ := h
  refine ⟨vs, hr, hl, fun v hv => ?_, hi⟩
  obtain ⟨i, hiv⟩ := List.mem_iff_getElem?.1 hv
  have hil : i < xs.length := by rw [← hl]; exact (List.getElem?_eq_some_iff.1 hiv).1
  obtain ⟨b, c, rfl, _⟩ := hi i v _ hiv (List.getElem?_eq_getElem hil)
  rfl
section
variable {P : Program}
/-- append of all values of a slice that reads as a row. -/
theorem appR {ops : Array Oper} {rest : List Oper} {o : Oper} {a : Act} {Q : Exit → Act → World → Prop} {w : World} (hgd : o.guard = none) (s x : Operand) (T e : TypeId)
    (ho : o.op = .call { callee := .builtin .append, args := #[s, x], argTypes := #[T, T] })
    (i : TypeInfo) (z : Value) (bytes : Nat) (ht : P.underlying T = some (.slice e)) (hi : P.info? e = some i) (hz : i.zero = some z)
    (hsize : i.size = 1) (hby : i.bytes = bytes) (hzs : z.cells.size = 1) (hb64 : bytes ≤ 64)
    (B : Nat) (v : Value) (xs ys : List Value) (hs : a.eval s = v) (hown : Own w B v e xs) (ad : Option Addr) (m c : Nat) (hx : a.eval x = .slice ad m c)
    (hm : ys.length = m) (hsrc : Row w ad ys) (h1 : ∀ y ∈ ys, y.oneCell' = true) (hlen : xs.length + m < 1099511627776) (hB : B ≤ w.heap.size)
    (h : ∀ v' w', Own w' B v' e (xs ++ ys) → w.grownBy w' v.ownBlock → (v'.ownBlock = v.ownBlock ∨ v'.ownBlock = some w.heap.size) → wpList P ops Q rest (a.put o.dst v') w') :
    wpList P ops Q (o :: rest) a w := by
  rcases Nat.eq_zero_or_pos m with h0 | h0
  · have hys : ys = [] := List.eq_nil_of_length_eq_zero (by omega)
    subst hys
    subst h0
    obtain ⟨A, L, C, rfl, hLC⟩ : ∃ A L C, v = .slice A L C ∧ L ≤ C := by
      rcases hown.2 with ⟨rfl, h0⟩ | ⟨g, cap, cur, rfl, _, _, hnc, _⟩
      · exact ⟨none, 0, 0, rfl, Nat.le_refl _⟩
      · exact ⟨_, _, _, rfl, hnc⟩
    have hs0 : Src P i.size T (.slice ad 0 c) 0 [] w := by
      cases ad with
      | none => exact Src.ofNil w ht c
      | some ad => exact Src.ofSlice w ht ad 0 c [] (by simp) (fun j u hu => by simp at hu) (fun u hu => by simp at hu)
    have hr := run_append_nothing w T T o.type e i ht hi A L C hLC (.slice ad 0 c) hs0
    refine Lib.wpList_append_run w hgd s x T T ho _ _ hs hx _ w hr ?_
    exact h _ _ (by rw [List.append_nil]; exact hown) (World.grownBy.refl _ _) (.inl rfl)
  · obtain ⟨y0, hy0⟩ : ∃ y, ys[0]? = some y := ⟨_, List.getElem?_eq_getElem (by omega)⟩
    obtain ⟨b, o', rfl, _, _⟩ := hsrc.2 0 y0 hy0
    refine wpList_append_own_at (w := w) hgd s x T ho B e i z 1 bytes ht hi hz hsize hby hzs (by omega) v xs.length xs hs hown ⟨b, o', none⟩ m c ys hx (by omega) (fun j u hu => ?_) h1 (by unfold maxLen; omega)
      (Nat.le_trans (Nat.mul_le_mul_left _ hb64) (by omega)) hB ?_
    · obtain ⟨b2, o2, e2, _, hc⟩ := hsrc.2 j u hu
      cases e2
      rw [add_zero_addr]; exact hc
    · intro v' w' h2 h3 _ h5
      exact h v' w' (by unfold Own; rw [List.length_append, hm]; exact h2) h3 h5
end

set_option maxRecDepth 100000 in
set_option maxHeartbeats 2000000 in
theorem concat_calls (K k L M : Nat) (a b : Option Addr) (c d : Nat) (us vs : List Value) (w : World) (hus : Row w a us) (hvs : Row w b vs) (huo : ∀ v ∈ us, v.oneCell' = true) (hvo : ∀ v ∈ vs, v.oneCell' = true) (hul : us.length = L) (hvl : vs.length = M)
    (hK0 : w.cell? ⟨K, 0, none⟩ = some (.slice a L c)) (hK1 : w.cell? ⟨K, 1, none⟩ = some (.slice b M d)) (hKl : K < w.heap.size) (hxl : L ≤ 400) (hyl : M ≤ 400) :
    Calls Tryz.prog 21 #[.slice (some ⟨K, 0, none⟩) 2 k] w fun e w' => ∃ v, e = .returned v ∧ Own w' w.heap.size v 24 (us ++ vs) ∧ Below w.heap.size w w' := by
  obtain ⟨i29, hi29, hz29, hs29, hb29⟩ := info_parts Tryz.info24
  have I29 := Lib.hid (And.intro hi29 (And.intro hz29 (And.intro hs29 hb29)))
  clear hi29 hz29 hs29 hb29
  have hgrow := grow_calls (L + M) (by omega)
  have H0 := Lib.hid (And.intro hus (And.intro hvs (And.intro huo (And.intro hvo (And.intro hul hvl)))))
  have HC := Lib.hid (fun (w1 : World) (h : Below w.heap.size w w1) => And.intro ((h.cell (p := ⟨K, 0, none⟩) hKl).trans hK0) ((h.cell (p := ⟨K, 1, none⟩) hKl).trans hK1))
  have Hg := Lib.hid hgrow
  obtain ⟨D, hD⟩ : ∃ D, D = w.heap.size := ⟨_, rfl⟩
  rw [← hD] at HC ⊢
  have HD := Lib.hid hD
  clear hus hvs huo hvo hul hvl hgrow hD hKl
  go_enter Tryz.func21, Tryz.ntmps21
  go_wp2
  go_loop [3, 11] (fun s i => ∃ i' : Nat, i' ≤ 2 ∧ i = .int .i64 i' ∧ s = .int .i64 (((if 0 < i' then L else 0) + (if 1 < i' then M else 0) : Nat) : Int)) (fun _ i => 2 - (intOf i).toNat)
  case atStart => exact ⟨0, by omega, rfl, rfl⟩
  case round =>
    obtain ⟨i, hi, rfl, rfl⟩ := hrel
    rcases (by omega : i = 0 ∨ i = 1 ∨ i = 2) with rfl | rfl | rfl
    · simp only [Nat.lt_irrefl, if_false, Nat.add_zero, show ¬ (1 < 0) by omega]
      go_wp2
      exact ⟨⟨1, by omega, by go_num, by simp⟩, by simp [intOf]⟩
    · simp only [Nat.lt_irrefl, if_false, Nat.add_zero, show (0 < 1) by omega, if_true]
      go_wp2
      exact ⟨⟨2, by omega, by go_num, by simp⟩, by simp [intOf]⟩
    · simp only [show (0 < 2) by omega, show (1 < 2) by omega, if_true]
      go_wp2_with fail
      refine (Hg.out D w (by rw [HD.out]; exact Nat.le_refl _)).mono ?_
      rintro e w1 ⟨v, rfl, ho, hg⟩
      have H1 := Lib.hid (And.intro ho ((Below.refl D w).grown hg (by rw [HD.out]; exact Nat.le_refl _) (fun k hk => by cases hk)))
      clear ho hg
      go_wp2
      go_loopw [6, 27] (fun v i wr => ∃ i' : Nat, i' ≤ 2 ∧ i = .int .i64 i' ∧ Own wr D v 24 ((if 0 < i' then us else []) ++ (if 1 < i' then vs else [])) ∧ Below D w wr) (fun _ i _ => 2 - (intOf i).toNat)
      case atStart => exact ⟨0, by omega, rfl, by simpa using H1.out.1, H1.out.2⟩
      case round =>
        clear H1
        obtain ⟨i, hi, rfl, ho, hb⟩ := hrel
        obtain ⟨hc0, hc1⟩ := HC.out wr hb
        have hDr : D ≤ wr.heap.size := by have := hb.size; have := HD.out; omega
        have H := Lib.hid (And.intro ho hb)
        have hrow : ∀ q, v.ownBlock = some q → True := fun _ _ => trivial
        clear ho hrow
        rcases (by omega : i = 0 ∨ i = 1 ∨ i = 2) with rfl | rfl | rfl
        · have hus := H0.out.1.below (w' := wr) (by rw [← HD.out]; exact hb)
          have Hu := Lib.hid hus
          have ho2 : Own wr D u6 24 [] := by simpa using H.out.1
          have Ho := Lib.hid ho2
          have hlen : ([] : List Value).length + L < 1099511627776 := by simp; omega
          clear hus hb ho2
          go_wp2_with (at_builtin; refine appR rfl (.tmp 31) (.tmp 32) 25 24 rfl i29 (.slice none 0 0) 24 Tryz.underlying25 I29.out.1 I29.out.2.1 I29.out.2.2.1 I29.out.2.2.2 rfl (by omega) D u6 [] us rfl Ho.out a L c rfl H0.out.2.2.2.2.1 Hu.out H0.out.2.2.1 hlen hDr ?_; intro v' w' h2 h3 h5; have H9 := Lib.hid (And.intro h2 h3); clear h2 h3 h5)
          refine ⟨⟨1, by omega, by go_num, by simpa using H9.out.1, H.out.2.grown H9.out.2 hDr (fun q hq => ?_)⟩, by simp [intOf]⟩
          rcases Ho.out.blk with e | ⟨g', _, e, hB, _⟩
          · rw [e] at hq; cases hq
          · rw [e] at hq; cases hq; exact hB
        · have hvs := H0.out.2.1.below (w' := wr) (by rw [← HD.out]; exact hb)
          have Hu := Lib.hid hvs
          have ho2 : Own wr D u6 24 us := by simpa using H.out.1
          have Ho := Lib.hid ho2
          have hlen : us.length + M < 1099511627776 := by rw [H0.out.2.2.2.2.1]; omega
          clear hvs hb ho2
          go_wp2_with (at_builtin; refine appR rfl (.tmp 31) (.tmp 32) 25 24 rfl i29 (.slice none 0 0) 24 Tryz.underlying25 I29.out.1 I29.out.2.1 I29.out.2.2.1 I29.out.2.2.2 rfl (by omega) D u6 us vs rfl Ho.out b M d rfl H0.out.2.2.2.2.2 Hu.out H0.out.2.2.2.1 hlen hDr ?_; intro v' w' h2 h3 h5; have H9 := Lib.hid (And.intro h2 h3); clear h2 h3 h5)
          refine ⟨⟨2, by omega, by go_num, by simpa using H9.out.1, H.out.2.grown H9.out.2 hDr (fun q hq => ?_)⟩, by simp [intOf]⟩
          rcases Ho.out.blk with e | ⟨g', _, e, hB, _⟩
          · rw [e] at hq; cases hq
          · rw [e] at hq; cases hq; exact hB
        · have ho2 : Own wr D u6 24 (us ++ vs) := by simpa using H.out.1
          have Hr := Lib.hid ho2
          clear ho2 hb
          go_wp2
          go_ret
          exact ⟨_, rfl, Hr.out, H.out.2⟩
end Go.Proofs.YtlnikgcanimggaaGreat
