/- The program's labels. -/
import Derived.Test.YtifkieopaoooeaaDoorPoints
set_option linter.unusedSimpArgs false
set_option linter.unusedVariables false
namespace Go.Proofs.YtifkieopaoooeaaDoor
open Go.RowKit Go.Shelf Plain

attribute [local go_sem] Oper.semAt_some

set_option maxHeartbeats 1000000 in
theorem points_in (F : Fence) (nn : Nat) (h79 : F.fn 55) (hro : F.round = none) (a : Option Addr) (len cap : Nat) (w : World) :
    CallsIn F nn Tryd.prog 55 #[.slice a len cap] w fun e w' => e = .returned (.func (.func 65) #[] #[.pointer (some ⟨w.heap.size, 0, none⟩)]) ∧ w' = w.alloc (.cells #[.slice a len cap] 40) := by
  refine callsIn_of_wp Tryd.func55 rfl h79 ?_ hro
  simp only [Tryd.ntmps55, List.size_toArray, List.length_cons, List.length_nil, Nat.reduceAdd, Nat.reduceSub, Array.replicate_succ, Array.replicate_zero, List.push_toArray, List.append_toArray, List.nil_append, List.cons_append]
  gi_wp2
  go_ret
  exact ⟨rfl, rfl⟩

theorem points_stops (F : Fence) (nn : Nat) (h96 : F.fn 65) (hro : F.round = none) (hn1 : 1 ≤ nn) (Bs n0 n : Nat) (a : Option Addr) (c : Nat) (l : List (List Int)) (A : List (List (Pt n))) (hA : IsPts n l A) (w0 w : World)
    (hBs : w.cell? ⟨Bs, 0, none⟩ = some (.slice a l.length c)) (hl : Rows w0 a l) (hw0 : w0.heap.size = n0) (hb : Below n0 w0 w) :
    SeqStopsK F nn Tryd.prog 65 #[.pointer (some ⟨Bs, 0, none⟩)] (fun x : Pt n => #[Value.int .i64 x.1.1, Value.int .i64 (x.1.2 : Int)]) (Below n0) (fun ys => ys = A.flatten) (fun _ => True) A.flatten.length w := fun lp J Jx W hW _ _ hY h0 => by
  have hlt := block_lt_of_cell hBs
  have hc' := (hW.cell (p := ⟨Bs, 0, none⟩) hlt).trans hBs
  refine (points1_in F nn h96 hro hn1 lp Bs n0 n a c l A hA J Jx hY W w0 hc' hl hw0 (hb.trans (hW.mono (by have := hb.size; omega))) h0).mono ?_
  rintro e W' ⟨he, hj | ⟨pre, hj⟩⟩
  · exact ⟨he, .inl ⟨_, rfl, hj⟩⟩
  · exact ⟨he, .inr ⟨_, trivial, hj⟩⟩

/-- What the labels' row holds when some points have come. -/
def setPts {n : Nat} (out : List Int) (pre : List (Pt n)) : List Int := pre.foldl (fun o x => o.set x.1.1.toNat (x.1.2 : Int)) out
theorem setPts_len {n : Nat} : ∀ (pre : List (Pt n)) (out : List Int), (setPts out pre).length = out.length
  | [], _ => rfl
  | x :: r, out => by
    show (setPts (out.set x.1.1.toNat (x.1.2 : Int)) r).length = _
    rw [setPts_len r]; simp
theorem setPts_snoc {n : Nat} (out : List Int) (pre : List (Pt n)) (x : Pt n) : setPts out (pre ++ [x]) = (setPts out pre).set x.1.1.toNat (x.1.2 : Int) := by simp [setPts]
theorem setPts_app {n : Nat} (out : List Int) (p q : List (Pt n)) : setPts out (p ++ q) = setPts (setPts out p) q := by simp [setPts]
theorem setPts_cell {n k : Nat} : ∀ (c : List Int) (ac : List (Pt n)) (out : List Int), ac.length = c.length → (∀ (j : Nat) (p : Int), c[j]? = some p → ∃ a : Pt n, ac[j]? = some a ∧ a.1 = (p, k)) → setPts out ac = putCell out k c
  | [], [], out, _, _ => rfl
  | [], _ :: _, _, h, _ => by simp at h
  | _ :: _, [], _, h, _ => by simp at h
  | p :: c, a :: ac, out, h, hall => by
    obtain ⟨a', h1, h2⟩ := hall 0 p rfl
    simp at h1; subst h1
    rw [putCell]
    show setPts (out.set a.1.1.toNat (a.1.2 : Int)) ac = _
    rw [h2]
    exact setPts_cell c ac _ (by simpa using h) (fun j q hq => hall (j + 1) q (by simpa using hq))
theorem setPts_all {n : Nat} : ∀ (l : List (List Int)) (A : List (List (Pt n))) (i : Nat) (out : List Int), A.length = l.length →
    (∀ (k : Nat) c, l[k]? = some c → ∃ ac, A[k]? = some ac ∧ ac.length = c.length ∧ ∀ (j : Nat) (p : Int), c[j]? = some p → ∃ a : Pt n, ac[j]? = some a ∧ a.1 = (p, i + k)) → setPts out A.flatten = putCells out i l
  | [], [], _, out, _, _ => rfl
  | [], _ :: _, _, _, h, _ => by simp at h
  | _ :: _, [], _, _, h, _ => by simp at h
  | c :: l, ac :: A, i, out, h, hall => by
    obtain ⟨ac', h1, h2, h3⟩ := hall 0 c rfl
    simp at h1; subst h1
    rw [List.flatten_cons, setPts_app, putCells, setPts_cell (k := i) c ac out h2 h3]
    exact setPts_all l A (i + 1) _ (by simpa using h) (fun k d hd => by
      obtain ⟨bc, h4, h5, h6⟩ := hall (k + 1) d (by simpa using hd)
      refine ⟨bc, by simpa using h4, h5, fun j p hp => ?_⟩
      obtain ⟨a, h7, h8⟩ := h6 j p hp
      exact ⟨a, h7, by rw [h8]; congr 1; omega⟩)
theorem setPts_labels {n : Nat} {l : List (List Int)} {A : List (List (Pt n))} (hA : IsPts n l A) : setPts (List.replicate n 0) A.flatten = labelsL n l := by
  refine setPts_all l A 0 _ hA.1 (fun k c hc => ?_)
  obtain ⟨ac, h1, h2, h3⟩ := hA.2 k c hc
  exact ⟨ac, h1, h2, fun j p hp => by obtain ⟨a, h4, h5⟩ := h3 j p hp; exact ⟨a, h4, by rw [h5, Nat.zero_add]⟩⟩

theorem Own.cellsKept {w w' : World} {B : Nat} {v : Value} {e : TypeId} {xs : List Value} (h : Own w B v e xs) {row : Option Nat} (hg : w.grownBy w' row)
    (hr : ∀ r, row = some r → ∃ o, w.heap[r]? = some o ∧ o.isCells = false) : Own w' B v e xs := by
  refine h.kept hg ?_
  rcases h.blk with e | ⟨g, cur, e, _, _, hh⟩
  · exact .inl e
  · right
    rw [e]
    intro he
    obtain ⟨o, ho, hc⟩ := hr g he.symm
    rw [hh] at ho
    injection ho with ho
    subst ho
    cases hc

set_option maxRecDepth 100000 in
set_option maxHeartbeats 2000000 in
theorem labels_in (F : Fence) (nn : Nat) (h49 : F.fn 42) (h79 : F.fn 55) (h96 : F.fn 65) (hro : F.round = none) (hnn : 3 ≤ nn) (n : Nat) (a : Option Addr) (c : Nat) (l : List (List Int)) (w : World) (hl : Rows w a l) (hn : n ≤ 1000000) (hin : InRange n l) :
    CallsIn F nn Tryd.prog 42 #[.int .i64 n, .slice a l.length c] w fun e w' => ∃ v, e = .returned v ∧ Own w' w.heap.size v 3 (ints (labelsL n l)) ∧ Below w.heap.size w w' := by
  obtain ⟨A, hA⟩ := pts_of hin
  have H0 := Lib.hid (And.intro hl (And.intro hin hA))
  clear hl hin hA
  obtain ⟨m, hm⟩ : ∃ m, m = l.length := ⟨_, rfl⟩
  rw [← hm]
  have Hm := Lib.hid hm
  clear hm
  obtain ⟨i3, hi3, hz3, hs3, hb3⟩ := info_parts Tryd.info3
  have hmk : ∀ W : World, (Instr.makeSlice 22 (.int .i64 (n : Int)) (.int .i64 (n : Int))).run Tryd.prog W = .ok (.slice (some ⟨W.heap.size, 0, none⟩) n n) (W.alloc (.cells (List.replicate n (Value.int .i64 0)).toArray 3)) := by
    intro W
    have hr := run_make (P := Tryd.prog) W 22 3 i3 (.int .i64 0) Tryd.underlying22 hi3 hz3 .i64 .i64 n n (by omega) (Int.le_refl _) (by rw [hb3]; omega) (by omega)
    simp only [Int.toNat_natCast] at hr
    rw [hr, hs3, Nat.mul_one]
    congr 3
    apply Array.ext'
    rw [show (Value.int IntKind.i64 0).cells = #[.int .i64 0] from rfl, toList_madeCells_one]
  clear hi3 hz3 hs3 hb3
  have hn1 : 1 ≤ nn := by omega
  refine callsIn_of_wp_marks Tryd.func42 rfl h49 ?_ hro
  simp only [Tryd.ntmps42, List.size_toArray, List.length_cons, List.length_nil, Nat.reduceAdd, Nat.reduceSub, Array.replicate_succ, Array.replicate_zero, List.push_toArray, List.append_toArray, List.nil_append, List.cons_append]
  gi_wp2_with (gi_at_call 55; refine (points_in F (nn - 1) h79 hro _ _ _ _).mono ?_; rintro e w' ⟨rfl, rfl⟩)
  clear hmk
  obtain ⟨W0, hW0⟩ : ∃ W0, W0 = (((w.alloc (.cells (Array.replicate n (Value.int .i64 0)) 3)).alloc (.cells #[.slice (some ⟨w.heap.size, 0, none⟩) n n] 22)).alloc (.cells #[.slice a m c] 40)) := ⟨_, rfl⟩
  rw [← hW0]
  have hsz : W0.heap.size = w.heap.size + 3 := by rw [hW0]; simp
  have hB0 : Below w.heap.size w W0 := by rw [hW0]; exact (((Below.refl _ w).alloc (Nat.le_refl _) _).alloc (by simp) _).alloc (by simp; omega) _
  have hown : Own W0 w.heap.size (.slice (some ⟨w.heap.size, 0, none⟩) n n) 3 (ints (List.replicate n 0)) := by
    rw [hW0]
    have h1 := Own.new (w := w) (B := w.heap.size) 3 (List.replicate n (Value.int .i64 0)) (Nat.le_refl _) (by simp [maxLen]; omega)
    rw [List.length_replicate] at h1
    have h2 : (List.replicate n (Value.int .i64 0)).toArray = Array.replicate n (Value.int .i64 0) := by simp
    rw [h2] at h1
    have h3 := (h1.alloc (.cells #[.slice (some ⟨w.heap.size, 0, none⟩) n n] 22)).alloc (.cells #[.slice a m c] 40)
    rw [ints_zero] at h3
    exact h3
  have hbox : W0.cell? ⟨w.heap.size + 1, 0, none⟩ = some (.slice (some ⟨w.heap.size, 0, none⟩) n n) := by
    rw [hW0]
    have h1 := Boxed.new (w.alloc (.cells (Array.replicate n (Value.int .i64 0)) 3)) 22 (.slice (some ⟨w.heap.size, 0, none⟩) n n)
    rw [World.size_alloc] at h1
    exact (h1.alloc _).cell
  have hBs : W0.cell? ⟨w.heap.size + 1 + 1, 0, none⟩ = some (.slice a l.length c) := by
    rw [hW0, ← Hm.out]
    have h1 := Boxed.new ((w.alloc (.cells (Array.replicate n (Value.int .i64 0)) 3)).alloc (.cells #[.slice (some ⟨w.heap.size, 0, none⟩) n n] 22)) 40 (.slice a m c)
    rw [World.size_alloc, World.size_alloc] at h1
    exact h1.cell
  have HW := Lib.hid (And.intro hB0 (And.intro hown (And.intro hbox (And.intro hBs hsz))))
  clear hB0 hown hbox hBs hW0 hsz
  refine wpIn_rangeFunc_ownF hro hn1 (gf := 65) (lb := #[.pointer (some ⟨w.heap.size + 1 + 1, 0, none⟩)]) rfl h96 (enters_of Tryd.func65 (by kernel_rfl) rfl)
    (points_stops F (nn - 1) h96 hro (by omega) (w.heap.size + 1 + 1) w.heap.size n a c l A H0.out.2.2 w W0 HW.out.2.2.2.1 H0.out.1 rfl HW.out.1) belowK_t (belowK_b (by have := HW.out.2.2.2.2; omega)) (Below.refl _ _) (fun _ => rfl)
    (fun pre W => (W.cell? ⟨w.heap.size + 1, 0, none⟩ = some (.slice (some ⟨w.heap.size, 0, none⟩) n n) ∧ Own W w.heap.size (.slice (some ⟨w.heap.size, 0, none⟩) n n) 3 (ints (setPts (List.replicate n 0) pre))) ∧ Below w.heap.size w W)
    (fun _ _ _ => False)
    (OwnFrom.and (Own.from (fun s A B row hs hg hr => ⟨cell_kept hs.1 hg hr, hs.2.cellsKept hg hr⟩) _) (ownFrom_below (Nat.le_refl _) (by have := HW.out.2.2.2.2; omega)))
    (fun _ _ _ _ _ hs _ _ => hs)
    ⟨⟨HW.out.2.2.1, HW.out.2.1⟩, HW.out.1⟩
    (fun x => { tmps := #[.int .i64 n, .slice a m c, undef, undef, .slice none 0 0, .pointer (some ⟨w.heap.size + 1, 0, none⟩), .int .i64 x.1.1, .int .i64 (x.1.2 : Int), .int .i64 n, .slice (some ⟨w.heap.size, 0, none⟩) n n, .slice a m c, .func (.func 65) #[] #[.pointer (some ⟨w.heap.size + 1 + 1, 0, none⟩)], .int .i64 x.1.1, .int .i64 (x.1.2 : Int), undef, undef, undef, undef, undef], defers := [] }) ?assign ?body ?done ?stop
  case assign =>
    intro l x W K hK
    gi_wp2
    exact hK
  case body =>
    rintro l pre x W ⟨⟨hc, ho⟩, hB⟩ _
    have hx := x.2
    obtain ⟨p, hp⟩ := Int.eq_ofNat_of_zero_le hx.1
    have hpn : p < n := by have := hx.2; omega
    have hlen : (setPts (List.replicate n 0) pre).length = n := by rw [setPts_len]; simp
    have hcell := ho.cell p (by rw [ints_len, hlen]; exact hpn)
    rw [ints_get (by rw [hlen]; exact hpn)] at hcell
    have hfz := ho.frozen p
    have H := Lib.hid (And.intro hc (And.intro ho (And.intro hB (And.intro hlen hp))))
    simp only [hp]
    clear ho hB hlen hx hp
    gi_wp2
    refine ⟨KeepsOthers.setCell _ _ _, (Below.refl w.heap.size W).setCell (p := ⟨w.heap.size, p, none⟩) (Nat.le_refl _) _, ⟨?_, ?_⟩, H.out.2.2.1.setCell (p := ⟨w.heap.size, p, none⟩) (Nat.le_refl _) _⟩
    · rw [World.cell?_setCell_other _ _ _ _ (by intro e; injection e with e; omega)]; exact H.out.1
    · rw [setPts_snoc, H.out.2.2.2.2, Int.toNat_natCast, ← ints_set]
      exact H.out.2.1.put p _
  case done =>
    rintro D ys W hD rfl ⟨⟨hc, ho⟩, hB⟩ hK
    have H := Lib.hid (And.intro ho hB)
    clear ho hB
    gi_wp2
    refine ⟨by simp, .inl ⟨_, _, rfl, run_takeDeferred hK, ?_⟩⟩
    refine ⟨_, results_tmp rfl _ _ _, ⟨_, rfl, ?_, H.out.2.trans (belowK_b (w := w) (Nat.le_refl _) W D _ _ (by have := HW.out.2.2.2.2; omega) hK rfl rfl)⟩⟩
    rw [← setPts_labels H0.out.2.2]
    exact H.out.1.cellsKept (grownBy_putObj' W D (.deferred none)) (fun r e => by cases e; exact ⟨_, hK, rfl⟩)
  case stop =>
    rintro D c pre W _ _ h _
    exact h.elim

theorem labels_calls (n : Nat) (a : Option Addr) (c : Nat) (l : List (List Int)) (w : World) (hl : Rows w a l) (hn : n ≤ 1000000) (hin : InRange n l) :
    Calls Tryd.prog 42 #[.int .i64 n, .slice a l.length c] w fun e w' => ∃ v, e = .returned v ∧ Own w' w.heap.size v 3 (ints (labelsL n l)) ∧ Below w.heap.size w w' :=
  (callsIn_wide (n := 3)).1 (labels_in Fence.wide 3 trivial trivial trivial rfl (by omega) n a c l w hl hn hin)
end Go.Proofs.YtifkieopaoooeaaDoor
