/- The reference's compare: lists, element by element. · Both checks of a partition answer what the plain check says. · The reference's collect gives the partition of equal rows. · The reference's labels of a partition. · The program's labels: a loop over an iterator of points and labels. · The program's labels. -/
import Derived.Test.YtjjjohmppehejaaGreatProg
import Derived.Test.YtjjjohmppehejaaGreatBase
import Derived.Test.YtjjjohmppehejaaGreatPlainC
import Derived.RangeFuncBox
import Derived.RangeFuncLeaves
import Derived.RangeFuncWrites
import Derived.RangeFuncFrom
import Derived.Shelf.Abstract
import Derived.WalkKit
import Derived.OwnWalkIn
import Derived.TacticsInMore
import Derived.LoopNIn
import Derived.LoopIn
set_option linter.unusedSimpArgs false
set_option linter.unusedVariables false
namespace Go.Proofs.YtjjjohmppehejaaGreat
open Go.RowKit Plain

end Go.Proofs.YtjjjohmppehejaaGreat

namespace Go.Proofs.YtjjjohmppehejaaGreat
open Go.RowKit Plain

/-- The block B holds the marks of the points in s, 64 of them. -/
def Marks (w : World) (B : Nat) (s : List Int) : Prop :=
  ∃ cs, w.heap[B]? = some (.cells cs 136 (0, 0)) ∧ cs.size = 64 ∧ ∀ p : Nat, p < 64 → cs[p]? = some (.bool (decide ((p : Int) ∈ s)))
theorem Marks.cell {w : World} {B : Nat} {s : List Int} (h : Marks w B s) (p : Nat) (hp : p < 64) : w.cell? ⟨B, p, none⟩ = some (.bool (decide ((p : Int) ∈ s))) := by
  obtain ⟨cs, hb, _, hc⟩ := h
  rw [cell_of_row w B p cs 136 (0, 0) hb]; exact hc p hp
theorem Marks.frozen {w : World} {B : Nat} {s : List Int} (h : Marks w B s) (p : Nat) : w.frozen? ⟨B, p, none⟩ = false := by
  obtain ⟨cs, hb, _, hc⟩ := h
  simp [World.frozen?, hb]
theorem Marks.put {w : World} {B : Nat} {s : List Int} (h : Marks w B s) (p : Nat) (hp : p < 64) : Marks (w.setCell ⟨B, p, none⟩ (.bool true)) B ((p : Int) :: s) := by
  obtain ⟨cs, hb, hs, hc⟩ := h
  refine ⟨cs.setIfInBounds p (.bool true), ?_, by simpa using hs, fun q hq => ?_⟩
  · simp [World.setCell, Array.getElem?_modify, hb]
  · rw [Array.getElem?_setIfInBounds]
    by_cases e : p = q
    · subst e; simp; omega
    · rw [if_neg e, hc q hq]
      congr 2
      have : (q : Int) ≠ p := by omega
      simp [this]
theorem Marks.new (w : World) : Marks (w.alloc (.cells (Array.replicate 64 (.bool false)) 136)) w.heap.size [] := by
  refine ⟨_, heap_alloc_new w _, by simp, fun p hp => ?_⟩
  rw [Array.getElem?_replicate, if_pos hp]; simp
theorem Marks.drew {w : World} {B : Nat} {s : List Int} (h : Marks w B s) (q : Nat) : Marks (w.drewN q) B s := h

set_option maxHeartbeats 1000000 in
theorem check_calls (n : Int) (a : Option Addr) (c : Nat) (xs : List (List Int)) (w : World) (ha : Rows w a xs) :
    Calls Tryz.prog 89 #[.int .i64 n, .slice a xs.length c] w fun e w' => e = .returned (.int .i64 (chk n xs)) ∧ Below w.heap.size w w' := by
  have hA := Lib.hid ha
  have hmx := ha.len
  clear ha
  obtain ⟨m, hm⟩ : ∃ m, m = xs.length := ⟨_, rfl⟩
  rw [← hm] at hmx ⊢
  have Hm := Lib.hid hm
  clear hm
  by_cases h0 : n < 0
  · go_enter Tryz.func89, Tryz.ntmps89
    go_wp2
    go_ret
    exact ⟨ret_int (chk_range (.inl h0)).symm, Below.refl _ _⟩
  by_cases h1 : 64 < n
  · go_enter Tryz.func89, Tryz.ntmps89
    go_wp2
    go_ret
    exact ⟨ret_int (chk_range (.inr h1)).symm, Below.refl _ _⟩
  obtain ⟨n, rfl⟩ := Int.eq_ofNat_of_zero_le (by omega : 0 ≤ n)
  have hn0 : ¬ ((n : Int) < 0 ∨ 64 < (n : Int)) := by omega
  have HN := Lib.hid hn0
  clear hn0
  have hM := Lib.hid (Marks.new w)
  have hBel : Below w.heap.size w (w.alloc (.cells (Array.replicate 64 (.bool false)) 136)) := (Below.refl _ _).alloc (Nat.le_refl _) _
  have hB0 := Lib.hid hBel
  clear hBel
  go_enter Tryz.func89, Tryz.ntmps89
  go_wp2
  go_loopw [6, 19] (fun many i wr => ∃ (k : Nat) (s : List Int), k ≤ m ∧ i = .int .i64 k ∧ many = .int .i64 s.length ∧ Marks wr w.heap.size s ∧ Below w.heap.size w wr ∧ Fine n s ∧ chkCells n [] xs = chkCells n s (xs.drop k)) (fun _ i _ => m - (intOf i).toNat)
  case atStart => exact ⟨0, [], by omega, rfl, rfl, hM.out, hB0.out, Fine.nil _, rfl⟩
  case round =>
    obtain ⟨k, s, hk, rfl, rfl, hmk, hbl, hf, hc⟩ := hrel
    have hsl : (s.length : Int) ≤ n := hf.len (by omega)
    have Hmk := Lib.hid hmk
    have Hbl := Lib.hid hbl
    have Hf := Lib.hid hf
    have Hc := Lib.hid hc
    clear hmk hbl hf hc
    by_cases hlt : k < m
    · obtain ⟨a', oa, a2, ac, rfl, hab, hca, hia⟩ := hA.out.at_ (k := k) (by have := Hm.out; omega)
      have hcr : wr.cell? ⟨a', oa + k, none⟩ = some (.slice a2 (xs[k]?.getD []).length ac) := by rw [Hbl.out.cell hab]; exact hca
      have hxl : k < xs.length := by have := Hm.out; omega
      obtain ⟨x, hx⟩ : ∃ x, xs[k]?.getD [] = x := ⟨_, rfl⟩
      rw [hx] at hcr hia
      have hxn := hia.len
      obtain ⟨L, hL⟩ : ∃ L, L = x.length := ⟨_, rfl⟩
      rw [← hL] at hcr hxn
      have Hx := Lib.hid (And.intro hx hL)
      have Hi := Lib.hid hia
      have Hk := Lib.hid hxl
      clear hca hia hx hxl hL
      by_cases hl0 : L = 0
      · subst hl0
        go_wp2
        go_ret
        refine ⟨ret_int (chk_err HN.out (Hc.out.trans (cells_empty Hk.out ?_))).symm, Hbl.out⟩
        rw [Hx.out.1, ← Hx.out.2]
      · have hl0' : ((L : Int) == 0) = false := by simp; omega
        go_wp2
        go_loopw [6, 28] (fun many j wr => ∃ (j' : Nat) (s' : List Int), j' ≤ L ∧ j = .int .i64 j' ∧ many = .int .i64 s'.length ∧ Marks wr w.heap.size s' ∧ Below w.heap.size w wr ∧ Fine n s' ∧ chkCell n s none x = chkCell n s' (prevAt x j') (x.drop j')) (fun _ j _ => L - (intOf j).toNat)
        case atStart => exact ⟨0, s, by omega, rfl, rfl, Hmk.out, Hbl.out, Hf.out, rfl⟩
        case round =>
          obtain ⟨j, t, hj, rfl, rfl, hmk, hbl, hf, hc⟩ := hrel
          have htl : (t.length : Int) ≤ n := hf.len (by omega)
          have Hmk2 := Lib.hid hmk
          have Hbl2 := Lib.hid hbl
          have Hf2 := Lib.hid hf
          have Hc2 := Lib.hid hc
          clear hmk hbl hf hc
          by_cases hjl : j < L
          · obtain ⟨b', ob, rfl, hbb, hcb⟩ := Hi.out.at_ (k := j) (by have := Hx.out.2; omega)
            have hcp : wr.cell? ⟨b', ob + j, none⟩ = some (.int .i64 (x[j]?.getD 0)) := by rw [Hbl2.out.cell hbb]; exact hcb
            have hjx : j < x.length := by have := Hx.out.2; omega
            have Hjx := Lib.hid hjx
            have Hbb := Lib.hid hbb
            obtain ⟨p, hp⟩ : ∃ p, x[j]?.getD 0 = p := ⟨_, rfl⟩
            rw [hp] at hcp
            have Hp := Lib.hid hp
            clear hcb hbb hjx hp
            by_cases hp0 : p < 0
            · go_wp2
              go_ret
              exact ⟨ret_int (chk_err HN.out (Hc.out.trans (cells_err Hk.out (by rw [Hx.out.1, ← Hx.out.2]; exact hl0) (by rw [Hx.out.1, Hc2.out]; exact cell_range Hjx.out (by rw [Hp.out]; omega))))).symm, Hbl2.out⟩
            by_cases hp1 : (n : Int) ≤ p
            · go_wp2
              go_ret
              exact ⟨ret_int (chk_err HN.out (Hc.out.trans (cells_err Hk.out (by rw [Hx.out.1, ← Hx.out.2]; exact hl0) (by rw [Hx.out.1, Hc2.out]; exact cell_range Hjx.out (by rw [Hp.out]; omega))))).symm, Hbl2.out⟩
            obtain ⟨p, rfl⟩ := Int.eq_ofNat_of_zero_le (by omega : 0 ≤ p)
            have hr : ¬ (x[j]?.getD 0 < 0 ∨ (n : Int) ≤ x[j]?.getD 0) := by rw [Hp.out]; omega
            have Hr := Lib.hid hr
            have hcm := Hmk2.out.cell p (by omega)
            have hfz := Hmk2.out.frozen p
            clear hr
            by_cases hin : (p : Int) ∈ t
            · rw [decide_eq_true hin] at hcm
              go_wp2
              go_ret
              exact ⟨ret_int (chk_err HN.out (Hc.out.trans (cells_err Hk.out (by rw [Hx.out.1, ← Hx.out.2]; exact hl0) (by rw [Hx.out.1, Hc2.out]; exact cell_twice Hjx.out Hr.out (by rw [Hp.out]; exact hin))))).symm, Hbl2.out⟩
            rw [decide_eq_false hin] at hcm
            have Hin := Lib.hid hin
            clear hin
            have hnext : ∀ h3, _ := fun h3 => cell_next (s := t) Hjx.out Hr.out (by rw [Hp.out]; exact Hin.out) h3
            rw [Hp.out] at hnext
            have Hnext := Lib.hid hnext
            clear hnext
            have hclose : Marks (wr.setCell ⟨w.heap.size, p, none⟩ (.bool true)) w.heap.size ((p : Int) :: t) ∧ Below w.heap.size w (wr.setCell ⟨w.heap.size, p, none⟩ (.bool true)) ∧ Fine n ((p : Int) :: t) :=
              ⟨Hmk2.out.put p (by omega), Hbl2.out.setCell (Nat.le_refl _) _, Hf2.out.cons (by omega) Hin.out⟩
            have Hclose := Lib.hid hclose
            clear hclose
            by_cases hj0 : j = 0
            · subst hj0
              rw [Nat.add_zero] at hcp
              go_wp2
              refine ⟨⟨1, (p : Int) :: t, by omega, by go_num, by simp, Hclose.out.1, Hclose.out.2.1, Hclose.out.2.2, Hc2.out.trans (Hnext.out (by omega))⟩, by simp [intOf]; omega⟩
            · obtain ⟨b2, o2, e2, _, hcb2⟩ := Hi.out.at_ (k := j - 1) (by have := Hx.out.2; omega)
              cases e2
              have hcq : wr.cell? ⟨b', ob + (j - 1), none⟩ = some (.int .i64 (x[j - 1]?.getD 0)) := by rw [Hbl2.out.cell Hbb.out]; exact hcb2
              clear hcb2
              obtain ⟨j, rfl⟩ : ∃ i, j = i + 1 := ⟨j - 1, by omega⟩
              simp only [Nat.add_sub_cancel] at hcq
              obtain ⟨q, hq⟩ : ∃ q, x[j]?.getD 0 = q := ⟨_, rfl⟩
              rw [hq] at hcq
              have Hq := Lib.hid hq
              clear hq
              by_cases hlt : (p : Int) < q
              · go_wp2
                go_ret
                exact ⟨ret_int (chk_err HN.out (Hc.out.trans (cells_err Hk.out (by rw [Hx.out.1, ← Hx.out.2]; exact hl0) (by rw [Hx.out.1, Hc2.out]; exact cell_order Hjx.out Hr.out (by rw [Hp.out]; exact Hin.out) (by omega) (by rw [Hp.out, Nat.add_sub_cancel, Hq.out]; exact hlt))))).symm, Hbl2.out⟩
              · go_wp2
                refine ⟨⟨j + 1 + 1, (p : Int) :: t, by omega, by go_num, by simp, Hclose.out.1, Hclose.out.2.1, Hclose.out.2.2, Hc2.out.trans (Hnext.out (by rw [Nat.add_sub_cancel, Hq.out]; omega))⟩, by simp [intOf]; omega⟩
          · go_wp2
            refine ⟨⟨k + 1, t, by omega, by go_num, rfl, Hmk2.out, Hbl2.out, Hf2.out, Hc.out.trans (cells_next Hk.out (by rw [Hx.out.1, ← Hx.out.2]; exact hl0) ?_)⟩, by simp [intOf]; omega⟩
            rw [Hx.out.1, Hc2.out]
            exact cell_end (by have := Hx.out.2; omega) _
    · have hend : ∀ e, (if (s.length : Int) < n then 18 else 0) = e → chk n xs = e := fun e he => (chk_end HN.out (Hc.out.trans (cells_end (by have := Hm.out; omega)))).trans he
      have Hend := Lib.hid hend
      clear hend
      by_cases hs : (s.length : Int) < n
      · go_wp2
        go_ret
        exact ⟨ret_int (Hend.out _ (by rw [if_pos hs])).symm, Hbl.out⟩
      · go_wp2
        go_ret
        exact ⟨ret_int (Hend.out _ (by rw [if_neg (by omega)])).symm, Hbl.out⟩
end Go.Proofs.YtjjjohmppehejaaGreat

namespace Go.Proofs.YtjjjohmppehejaaGreat
open Go.RowKit Plain

theorem Tryz.info3 : (Tryz.prog.info? 3).map (fun i => (i.zero, i.size, i.bytes)) = some (some (.int .i64 0), 1, 8) := by kernel_rfl
theorem Tryz.info4 : (Tryz.prog.info? 4).map (fun i => (i.zero, i.size, i.bytes)) = some (some (.bool false), 1, 1) := by kernel_rfl
theorem Tryz.info23 : (Tryz.prog.info? 23).map (fun i => (i.zero, i.size, i.bytes)) = some (some (.slice none 0 0), 1, 24) := by kernel_rfl

def encLeast : Option Nat → Value
  | none => .int .i64 (-1)
  | some l => .int .i64 l
def nums (xs : List Nat) : List Value := xs.map fun (k : Nat) => Value.int .i64 (k : Int)
def marks (td : Nat → Bool) (n : Nat) : List Value := (List.range n).map fun k => .bool (!td k)
theorem marks_get {td : Nat → Bool} {n k : Nat} (h : k < n) : (marks td n)[k]? = some (.bool (!td k)) := by
  simp [marks, List.getElem?_map, List.getElem?_range, h]
theorem marks_len (td : Nat → Bool) (n : Nat) : (marks td n).length = n := by simp [marks]
theorem marks_congr {td td' : Nat → Bool} {n : Nat} (h : ∀ k, k < n → td k = td' k) : marks td n = marks td' n := by
  unfold marks
  apply List.map_congr_left
  intro k hk
  rw [h k (List.mem_range.1 hk)]
theorem marks_set {R : Nat → List Int} {td : Nat → Bool} {l n i : Nat} (h : td i = true ∧ cmpL (R i) (R l) = 0) (hi : i < n) : (marks (strike R td l i) n).set i (.bool true) = marks (strike R td l (i + 1)) n := by
  apply List.ext_getElem?
  intro k
  rw [List.getElem?_set, marks_len]
  by_cases hk : k < n
  · rw [marks_get hk, marks_get hk]
    by_cases e : i = k
    · subst e; simp [hi, strike, h.1, h.2]
    · rw [if_neg e]
      have : decide (k < i + 1) = decide (k < i) := by rw [decide_eq_decide]; omega
      simp [strike, this]
  · rw [List.getElem?_eq_none (by rw [marks_len]; omega), List.getElem?_eq_none (by rw [marks_len]; omega)]
    by_cases e : i = k
    · omega
    · simp [e]
theorem strike_skip {R : Nat → List Int} {td : Nat → Bool} {l n i : Nat} (h : ¬ (td i = true ∧ cmpL (R i) (R l) = 0)) : marks (strike R td l i) n = marks (strike R td l (i + 1)) n := by
  apply marks_congr
  intro k hk
  simp only [strike]
  by_cases e : k = i
  · subst e
    by_cases h1 : td k = true
    · have h2 : cmpL (R k) (R l) ≠ 0 := fun h2 => h ⟨h1, h2⟩
      simp [h1, h2]
    · simp [h1]
  · have : decide (k < i + 1) = decide (k < i) := by rw [decide_eq_decide]; omega
    rw [this]

/-- The cells that have been collected: each a row of the call's own. -/
def Cellsof (w : World) (B : Nat) (cs : List Value) (out : List (List Nat)) : Prop :=
  cs.length = out.length ∧ ∀ (i : Nat) u xs, cs[i]? = some u → out[i]? = some xs → Own w B u 3 (nums xs)
theorem Cellsof.kept {w w' : World} {B : Nat} {cs : List Value} {out : List (List Nat)} (h : Cellsof w B cs out) {row : Option Nat} (hg : w.grownBy w' row)
    (hne : ∀ (u : Value) (xs : List Value), Own w B u 3 xs → u.ownBlock = none ∨ u.ownBlock ≠ row) : Cellsof w' B cs out :=
  ⟨h.1, fun i u xs hu hx => (h.2 i u xs hu hx).kept hg (hne u _ (h.2 i u xs hu hx))⟩
theorem Cellsof.snoc {w : World} {B : Nat} {cs : List Value} {out : List (List Nat)} (h : Cellsof w B cs out) {u : Value} {xs : List Nat} (hu : Own w B u 3 (nums xs)) : Cellsof w B (cs ++ [u]) (out ++ [xs]) := by
  refine ⟨by simp [h.1], fun i v ys hv hy => ?_⟩
  by_cases hi : i < cs.length
  · rw [List.getElem?_append_left hi] at hv
    rw [List.getElem?_append_left (by rw [← h.1]; exact hi)] at hy
    exact h.2 i v ys hv hy
  · rw [List.getElem?_append_right (by omega)] at hv
    rw [List.getElem?_append_right (by rw [← h.1]; omega)] at hy
    rw [← h.1] at hy
    by_cases e : i - cs.length = 0
    · rw [e] at hv hy
      simp at hv hy
      subst hv; subst hy; exact hu
    · obtain ⟨j, hj⟩ : ∃ j, i - cs.length = j + 1 := ⟨i - cs.length - 1, by omega⟩
      rw [hj] at hv; simp at hv
theorem Cellsof.rows {w : World} {B : Nat} {v : Value} {cs : List Value} {out : List (List Nat)} (h : Cellsof w B cs out) (hv : Own w B v 23 cs) (hl : cs.length ≤ maxLen) (hs : ∀ xs ∈ out, xs.length ≤ maxLen) :
    ∃ a c, v = .slice a out.length c ∧ Rows w a (out.map (·.map Int.ofNat)) := by
  obtain ⟨a, c, rfl, hr⟩ := hv.row hl
  refine ⟨a, c, by rw [h.1], cs, hr, by simp [h.1], fun i u xs hu hx => ?_⟩
  rw [List.getElem?_map, Option.map_eq_some_iff] at hx
  obtain ⟨ys, hy, rfl⟩ := hx
  have ho := h.2 i u ys hu hy
  have hm : ys ∈ out := List.mem_of_getElem? hy
  obtain ⟨a', c', e, hr'⟩ := ho.row (by simp [nums]; exact hs ys hm)
  refine ⟨a', c', by rw [e]; simp [nums], ?_⟩
  unfold Ints
  rw [List.map_map]
  exact hr'

theorem Cellsof.ownRows {w : World} {B : Nat} {cs : List Value} {out : List (List Nat)} (h : Cellsof w B cs out) : OwnRows w B 3 cs (out.map (·.map Int.ofNat)) := by
  refine ⟨by rw [List.length_map]; exact h.1, fun i u xs hu hx => ?_⟩
  rw [List.getElem?_map] at hx
  cases ho : out[i]? with
  | none => rw [ho] at hx; cases hx
  | some ys =>
    rw [ho] at hx
    cases hx
    have := h.2 i u ys hu ho
    have e : ints (ys.map Int.ofNat) = nums ys := by simp [ints, nums, Function.comp_def]
    rw [e]; exact this
theorem Cellsof.rowsB {w : World} {B : Nat} {v : Value} {cs : List Value} {out : List (List Nat)} (h : Cellsof w B cs out) (hv : Own w B v 23 cs) (hl : cs.length ≤ maxLen) (hs : ∀ xs ∈ out, xs.length ≤ maxLen) :
    ∃ a c, v = .slice a out.length c ∧ RowsB B w a (out.map (·.map Int.ofNat)) := by
  obtain ⟨a, c, rfl, hr⟩ := h.rows hv hl hs
  refine ⟨a, c, rfl, hr, ?_⟩
  have := h.ownRows.far hv
  exact this
end Go.Proofs.YtjjjohmppehejaaGreat

namespace Go.Proofs.YtjjjohmppehejaaGreat
open Go.RowKit Plain

end Go.Proofs.YtjjjohmppehejaaGreat

namespace Go.Proofs.YtjjjohmppehejaaGreat
open Go.RowKit Go.Shelf Plain

attribute [local go_sem] Oper.semAt_some

/-- A point below n, and its label. -/
abbrev Pt (n : Nat) := { x : Int × Nat // 0 ≤ x.1 ∧ x.1 < n }
/-- The points of a partition, with their labels, cell by cell. -/
def IsPts (n : Nat) (l : List (List Int)) (A : List (List (Pt n))) : Prop :=
  A.length = l.length ∧ ∀ (k : Nat) c, l[k]? = some c → ∃ ac, A[k]? = some ac ∧ ac.length = c.length ∧ ∀ (j : Nat) (p : Int), c[j]? = some p → ∃ a : Pt n, ac[j]? = some a ∧ a.1 = (p, k)
theorem pts_cell {n : Nat} (k : Nat) : ∀ (c : List Int), (∀ p ∈ c, 0 ≤ p ∧ p < n) → ∃ ac : List (Pt n), ac.length = c.length ∧ ∀ (j : Nat) (p : Int), c[j]? = some p → ∃ a : Pt n, ac[j]? = some a ∧ a.1 = (p, k)
  | [], _ => ⟨[], rfl, fun j p h => by simp at h⟩
  | p :: r, h => by
    obtain ⟨ac, h1, h2⟩ := pts_cell k r (fun q hq => h q (List.mem_cons_of_mem _ hq))
    refine ⟨⟨(p, k), h p (by simp)⟩ :: ac, by simp [h1], fun j q hq => ?_⟩
    cases j with
    | zero => simp at hq; subst hq; exact ⟨_, rfl, rfl⟩
    | succ j => simp only [List.getElem?_cons_succ] at hq ⊢; exact h2 j q hq
theorem pts_from {n : Nat} : ∀ (l : List (List Int)) (i : Nat), (∀ c ∈ l, ∀ p ∈ c, 0 ≤ p ∧ p < n) → ∃ A : List (List (Pt n)), A.length = l.length ∧
    ∀ (k : Nat) c, l[k]? = some c → ∃ ac, A[k]? = some ac ∧ ac.length = c.length ∧ ∀ (j : Nat) (p : Int), c[j]? = some p → ∃ a : Pt n, ac[j]? = some a ∧ a.1 = (p, i + k)
  | [], i, _ => ⟨[], rfl, fun k c h => by simp at h⟩
  | c :: r, i, h => by
    obtain ⟨ac, h1, h2⟩ := pts_cell i c (h c (by simp))
    obtain ⟨A, h3, h4⟩ := pts_from r (i + 1) (fun d hd => h d (List.mem_cons_of_mem _ hd))
    refine ⟨ac :: A, by simp [h3], fun k d hd => ?_⟩
    cases k with
    | zero => simp at hd; subst hd; exact ⟨ac, rfl, h1, h2⟩
    | succ k =>
      simp only [List.getElem?_cons_succ] at hd ⊢
      obtain ⟨bc, h5, h6, h7⟩ := h4 k d hd
      refine ⟨bc, h5, h6, fun j p hp => ?_⟩
      obtain ⟨a, h8, h9⟩ := h7 j p hp
      exact ⟨a, h8, by rw [h9]; congr 1; omega⟩
theorem pts_of {n : Nat} {l : List (List Int)} (h : InRange n l) : ∃ A, IsPts n l A := by
  obtain ⟨A, h1, h2⟩ := pts_from l 0 h
  exact ⟨A, h1, fun k c hc => by
    obtain ⟨ac, h3, h4, h5⟩ := h2 k c hc
    exact ⟨ac, h3, h4, fun j p hp => by obtain ⟨a, h6, h7⟩ := h5 j p hp; exact ⟨a, h6, by rw [h7, Nat.zero_add]⟩⟩⟩

/-- The points before place j of cell k. -/
def ptsTo {n : Nat} (A : List (List (Pt n))) (k j : Nat) : List (Pt n) := (A.take k).flatten ++ (A[k]?.getD []).take j
theorem ptsTo_len {n : Nat} (A : List (List (Pt n))) (k j : Nat) (hk : k < A.length) (hj : j < (A[k]?.getD []).length) : (ptsTo A k j).length < A.flatten.length := by
  have h1 : A.flatten = (A.take k).flatten ++ (A.drop k).flatten := by rw [← List.flatten_append, List.take_append_drop]
  have h2 : A.drop k = (A[k]?.getD []) :: A.drop (k + 1) := drop_cons hk
  rw [h1, h2, ptsTo, List.flatten_cons]
  simp only [List.length_append, List.length_take]; omega
theorem ptsTo_next {n : Nat} {A : List (List (Pt n))} {k j : Nat} {a : Pt n} (h : (A[k]?.getD [])[j]? = some a) : ptsTo A k (j + 1) = ptsTo A k j ++ [a] := by
  have hj := (List.getElem?_eq_some_iff.1 h).1
  rw [ptsTo, ptsTo, List.take_succ_eq_append_getElem hj, List.append_assoc, (List.getElem?_eq_some_iff.1 h).2]
theorem ptsTo_cell {n : Nat} {A : List (List (Pt n))} {k j : Nat} (hk : k < A.length) (hj : (A[k]?.getD []).length ≤ j) : ptsTo A k j = ptsTo A (k + 1) 0 := by
  rw [ptsTo, ptsTo, List.take_of_length_le hj, List.take_zero, List.append_nil, List.take_succ_eq_append_getElem hk, List.flatten_append, List.getElem?_eq_getElem hk]; simp
theorem ptsTo_all {n : Nat} {A : List (List (Pt n))} {k : Nat} (hk : A.length ≤ k) : ptsTo A k 0 = A.flatten := by
  rw [ptsTo, List.take_of_length_le hk]; simp

def encPt {n : Nat} (x : Pt n) : Array Value := #[.int .i64 x.1.1, .int .i64 (x.1.2 : Int)]

set_option maxRecDepth 100000 in
set_option maxHeartbeats 2000000 in
/-- The iterator's closure: for every body that keeps what lay below n0. -/
theorem points1_in (F : Fence) (nn : Nat) (h96 : F.fn 133) (hro : F.round = none) (hn1 : 1 ≤ nn) (lp Bs n0 : Nat) (n : Nat) (a : Option Addr) (c : Nat) (l : List (List Int)) (A : List (List (Pt n))) (hA : IsPts n l A)
    (J Jx : List (Pt n) → World → Prop)
    (hY : ∀ pre x W, J pre W → pre.length < A.flatten.length → YieldAt F (nn - 1) Tryz.prog lp (encPt x) W fun e W' =>
      (e = .returned (.bool true) ∧ J (pre ++ [x]) W' ∧ Below n0 W W') ∨ (e = .returned (.bool false) ∧ Jx (pre ++ [x]) W'))
    (W w : World) (hBs : W.cell? ⟨Bs, 0, none⟩ = some (.slice a l.length c)) (hl : Rows w a l) (hw0 : w.heap.size = n0) (hWw : Below n0 w W) (h0 : J [] W) :
    CallsIn F nn Tryz.prog 133 #[.func (.yield lp) #[] #[], .pointer (some ⟨Bs, 0, none⟩)] W fun e W' => (∃ v, e = .returned v) ∧
      (J A.flatten W' ∨ (∃ pre, Jx pre W')) := by
  have hlen := hl.len
  have H0 := Lib.hid (And.intro hl (And.intro hw0 (And.intro hWw hA)))
  clear hl hw0 hWw hA
  obtain ⟨m, hm⟩ : ∃ m, m = l.length := ⟨_, rfl⟩
  rw [← hm] at hBs hlen
  have Hm := Lib.hid hm
  clear hm
  refine callsIn_of_wp Tryz.func133 rfl h96 ?_ hro
  simp only [Tryz.ntmps133, List.size_toArray, List.length_cons, List.length_nil, Nat.reduceAdd, Nat.reduceSub, Array.replicate_succ, Array.replicate_zero, List.push_toArray, List.append_toArray, List.nil_append, List.cons_append]
  gi_wp2
  gi_loopw [9] (fun i wr => ∃ k : Nat, k ≤ m ∧ i = .int .i64 k ∧ J (ptsTo A k 0) wr ∧ Below n0 W wr) (fun i _ => m - (intOf i).toNat)
  case atStart => exact ⟨0, Nat.zero_le _, rfl, h0, Below.refl _ _⟩
  case round =>
    obtain ⟨k, hk, rfl, hJs, hnx⟩ := hrel
    by_cases hlt : k < m
    · obtain ⟨g, o, b, cc, rfl, hg, hc1, hi⟩ := H0.out.1.at_ (k := k) (by rw [← Hm.out]; exact hlt)
      have hcx : wr.cell? ⟨g, o + k, none⟩ = some (.slice b (l[k]?.getD []).length cc) := by
        rw [(H0.out.2.2.1.trans hnx).cell (by rw [← H0.out.2.1]; exact hg)]; exact hc1
      obtain ⟨x, hx⟩ : ∃ x, l[k]?.getD [] = x := ⟨_, rfl⟩
      rw [hx] at hcx hi
      have hxl := hi.len
      obtain ⟨L, hL⟩ : ∃ L, L = x.length := ⟨_, rfl⟩
      rw [← hL] at hcx hxl
      have Hx := Lib.hid (And.intro hx (And.intro hL hi))
      have HJ := Lib.hid (And.intro hJs hnx)
      clear hx hL hi hJs hnx hc1 h0
      gi_wp2
      gi_loopw [16] (fun j wq => ∃ j' : Nat, j' ≤ L ∧ j = .int .i64 j' ∧ J (ptsTo A k j') wq ∧ Below n0 W wq) (fun j _ => L - (intOf j).toNat)
      case atStart => exact ⟨0, Nat.zero_le _, rfl, HJ.out.1, HJ.out.2⟩
      case round =>
        obtain ⟨j, hj, rfl, hJ2, hb2⟩ := hrel
        have HJ2 := Lib.hid (And.intro hJ2 hb2)
        clear hJ2 hb2
        by_cases hjl : j < L
        · obtain ⟨gb, ob, rfl, hgb, hcp⟩ := Hx.out.2.2.at_ (k := j) (by rw [← Hx.out.2.1]; exact hjl)
          have hcp2 : wr.cell? ⟨gb, ob + j, none⟩ = some (.int .i64 (x[j]?.getD 0)) := by
            rw [(H0.out.2.2.1.trans HJ2.out.2).cell (by rw [← H0.out.2.1]; exact hgb)]; exact hcp
          have hlx : l[k]? = some x := by
            have hk2 : k < l.length := by rw [← Hm.out]; exact hlt
            rw [List.getElem?_eq_getElem hk2]; rw [← Hx.out.1, List.getElem?_eq_getElem hk2]; rfl
          have hAl : k < A.length := by rw [H0.out.2.2.2.1, ← Hm.out]; exact hlt
          obtain ⟨ac, hac, hacl, hall⟩ := H0.out.2.2.2.2 k x hlx
          have hjx : j < x.length := by rw [← Hx.out.2.1]; exact hjl
          obtain ⟨a0, ha0, hav⟩ := hall j x[j] (List.getElem?_eq_getElem hjx)
          have hacd : A[k]?.getD [] = ac := by rw [hac]; rfl
          have hnext : ptsTo A k (j + 1) = ptsTo A k j ++ [a0] := ptsTo_next (by rw [hacd]; exact ha0)
          obtain ⟨fn, tmps, assign, body, hy, hR⟩ := hY _ a0 wr HJ2.out.1 (ptsTo_len A k j hAl (by rw [hacd, hacl]; exact hjx))
          have e1 : a0.1.1 = x[j]?.getD 0 := by rw [hav, List.getElem?_eq_getElem hjx]; rfl
          have e2 : a0.1.2 = k := by rw [hav]
          simp only [encPt, e1, e2] at hy
          have Hn := Lib.hid hnext
          clear hnext hac hacl hall ha0 hav hacd e1 e2 hlx hAl hjx hcp
          gi_wp2
          refine hR.mono ?_
          rintro e W3 (⟨rfl, hJ3, hk3⟩ | ⟨rfl, hJx3⟩)
          · have H3 := Lib.hid (And.intro hJ3 hk3)
            clear hJ3 hk3
            gi_wp2
            go_roundw
            case rel => exact ⟨j + 1, by omega, by go_num, by rw [Hn.out]; exact H3.out.1, HJ2.out.2.trans H3.out.2⟩
            case measure => simp [intOf]; omega
          · have H3 := Lib.hid hJx3
            clear hJx3
            gi_wp2
            refine bodyPost_ret (results_none rfl _ _ _) rfl ?_
            exact ⟨⟨_, rfl⟩, .inr ⟨_, H3.out⟩⟩
        · have hcell : ptsTo A k j = ptsTo A (k + 1) 0 := by
            have hlx : l[k]? = some x := by
              have hk2 : k < l.length := by rw [← Hm.out]; exact hlt
              rw [List.getElem?_eq_getElem hk2]; rw [← Hx.out.1, List.getElem?_eq_getElem hk2]; rfl
            obtain ⟨ac, hac, hacl, _⟩ := H0.out.2.2.2.2 k x hlx
            refine ptsTo_cell (by rw [H0.out.2.2.2.1, ← Hm.out]; exact hlt) ?_
            rw [hac]; simp only [Option.getD_some]; rw [hacl, ← Hx.out.2.1]; omega
          have Hce := Lib.hid hcell
          clear hcell
          gi_wp2
          go_roundw
          case rel => exact ⟨k + 1, by omega, by go_num, by rw [← Hce.out]; exact HJ2.out.1, HJ2.out.2⟩
          case measure => simp [intOf]; omega
    · have HJ := Lib.hid hJs
      clear hJs
      gi_wp2
      go_end0
      refine ⟨⟨_, rfl⟩, .inl ?_⟩
      have := HJ.out
      rwa [ptsTo_all (by rw [H0.out.2.2.2.1, ← Hm.out]; omega)] at this
end Go.Proofs.YtjjjohmppehejaaGreat

namespace Go.Proofs.YtjjjohmppehejaaGreat
open Go.RowKit Go.Shelf Plain

attribute [local go_sem] Oper.semAt_some

set_option maxHeartbeats 1000000 in
theorem points_in (F : Fence) (nn : Nat) (h79 : F.fn 109) (hro : F.round = none) (a : Option Addr) (len cap : Nat) (w : World) :
    CallsIn F nn Tryz.prog 109 #[.slice a len cap] w fun e w' => e = .returned (.func (.func 133) #[] #[.pointer (some ⟨w.heap.size, 0, none⟩)]) ∧ w' = w.alloc (.cells #[.slice a len cap] 28) := by
  refine callsIn_of_wp Tryz.func109 rfl h79 ?_ hro
  simp only [Tryz.ntmps109, List.size_toArray, List.length_cons, List.length_nil, Nat.reduceAdd, Nat.reduceSub, Array.replicate_succ, Array.replicate_zero, List.push_toArray, List.append_toArray, List.nil_append, List.cons_append]
  gi_wp2
  go_ret
  exact ⟨rfl, rfl⟩

theorem points_stops (F : Fence) (nn : Nat) (h96 : F.fn 133) (hro : F.round = none) (hn1 : 1 ≤ nn) (Bs n0 n : Nat) (a : Option Addr) (c : Nat) (l : List (List Int)) (A : List (List (Pt n))) (hA : IsPts n l A) (w0 w : World)
    (hBs : w.cell? ⟨Bs, 0, none⟩ = some (.slice a l.length c)) (hl : Rows w0 a l) (hw0 : w0.heap.size = n0) (hb : Below n0 w0 w) :
    SeqStopsK F nn Tryz.prog 133 #[.pointer (some ⟨Bs, 0, none⟩)] (fun x : Pt n => #[Value.int .i64 x.1.1, Value.int .i64 (x.1.2 : Int)]) (Below n0) (fun ys => ys = A.flatten) (fun _ => True) A.flatten.length w := fun lp J Jx W hW _ _ hY h0 => by
  have hlt := block_lt_of_cell hBs
  have hc' := (hW.cell (p := ⟨Bs, 0, none⟩) hlt).trans hBs
  refine (points1_in F nn h96 hro hn1 lp Bs n0 n a c l A hA J Jx hY W w0 hc' hl hw0 (hb.trans (hW.mono (by have := hb.size; omega))) h0).mono ?_
  rintro e W' ⟨he, hj | ⟨pre, hj⟩⟩
  · exact ⟨he, .inl ⟨_, rfl, hj⟩⟩
  · exact ⟨he, .inr ⟨_, trivial, hj⟩⟩

/-- What the labels' row holds when some points have come. -/
def setPts {n : Nat} (out : List Int) (pre : List (Pt n)) : List Int := pre.foldl (fun o x => o.set x.1.1.toNat (x.1.2 : Int)) out
theorem setPts_len {n : Nat} : ∀ (pre : List (Pt n)) (out : List Int), (setPts out pre).length = out.length
  | [], _ => rfl
  | x :: r, out => by
    show (setPts (out.set x.1.1.toNat (x.1.2 : Int)) r).length = _
    rw [setPts_len r]; simp
theorem setPts_snoc {n : Nat} (out : List Int) (pre : List (Pt n)) (x : Pt n) : setPts out (pre ++ [x]) = (setPts out pre).set x.1.1.toNat (x.1.2 : Int) := by simp [setPts]
theorem setPts_app {n : Nat} (out : List Int) (p q : List (Pt n)) : setPts out (p ++ q) = setPts (setPts out p) q := by simp [setPts]
theorem setPts_cell {n k : Nat} : ∀ (c : List Int) (ac : List (Pt n)) (out : List Int), ac.length = c.length → (∀ (j : Nat) (p : Int), c[j]? = some p → ∃ a : Pt n, ac[j]? = some a ∧ a.1 = (p, k)) → setPts out ac = putCell out k c
  | [], [], out, _, _ => rfl
  | [], _ :: _, _, h, _ => by simp at h
  | _ :: _, [], _, h, _ => by simp at h
  | p :: c, a :: ac, out, h, hall => by
    obtain ⟨a', h1, h2⟩ := hall 0 p rfl
    simp at h1; subst h1
    rw [putCell]
    show setPts (out.set a.1.1.toNat (a.1.2 : Int)) ac = _
    rw [h2]
    exact setPts_cell c ac _ (by simpa using h) (fun j q hq => hall (j + 1) q (by simpa using hq))
theorem setPts_all {n : Nat} : ∀ (l : List (List Int)) (A : List (List (Pt n))) (i : Nat) (out : List Int), A.length = l.length →
    (∀ (k : Nat) c, l[k]? = some c → ∃ ac, A[k]? = some ac ∧ ac.length = c.length ∧ ∀ (j : Nat) (p : Int), c[j]? = some p → ∃ a : Pt n, ac[j]? = some a ∧ a.1 = (p, i + k)) → setPts out A.flatten = putCells out i l
  | [], [], _, out, _, _ => rfl
  | [], _ :: _, _, _, h, _ => by simp at h
  | _ :: _, [], _, _, h, _ => by simp at h
  | c :: l, ac :: A, i, out, h, hall => by
    obtain ⟨ac', h1, h2, h3⟩ := hall 0 c rfl
    simp at h1; subst h1
    rw [List.flatten_cons, setPts_app, putCells, setPts_cell (k := i) c ac out h2 h3]
    exact setPts_all l A (i + 1) _ (by simpa using h) (fun k d hd => by
      obtain ⟨bc, h4, h5, h6⟩ := hall (k + 1) d (by simpa using hd)
      refine ⟨bc, by simpa using h4, h5, fun j p hp => ?_⟩
      obtain ⟨a, h7, h8⟩ := h6 j p hp
      exact ⟨a, h7, by rw [h8]; congr 1; omega⟩)
theorem setPts_labels {n : Nat} {l : List (List Int)} {A : List (List (Pt n))} (hA : IsPts n l A) : setPts (List.replicate n 0) A.flatten = labelsL n l := by
  refine setPts_all l A 0 _ hA.1 (fun k c hc => ?_)
  obtain ⟨ac, h1, h2, h3⟩ := hA.2 k c hc
  exact ⟨ac, h1, h2, fun j p hp => by obtain ⟨a, h4, h5⟩ := h3 j p hp; exact ⟨a, h4, by rw [h5, Nat.zero_add]⟩⟩

theorem Own.cellsKept {w w' : World} {B : Nat} {v : Value} {e : TypeId} {xs : List Value} (h : Own w B v e xs) {row : Option Nat} (hg : w.grownBy w' row)
    (hr : ∀ r, row = some r → ∃ o, w.heap[r]? = some o ∧ o.isCells = false) : Own w' B v e xs := by
  refine h.kept hg ?_
  rcases h.blk with e | ⟨g, cur, e, _, _, hh⟩
  · exact .inl e
  · right
    rw [e]
    intro he
    obtain ⟨o, ho, hc⟩ := hr g he.symm
    rw [hh] at ho
    injection ho with ho
    subst ho
    cases hc

set_option maxRecDepth 100000 in
set_option maxHeartbeats 2000000 in
theorem labels_in (F : Fence) (nn : Nat) (h49 : F.fn 92) (h79 : F.fn 109) (h96 : F.fn 133) (hro : F.round = none) (hnn : 3 ≤ nn) (n : Nat) (a : Option Addr) (c : Nat) (l : List (List Int)) (w : World) (hl : Rows w a l) (hn : n ≤ 1000000) (hin : InRange n l) :
    CallsIn F nn Tryz.prog 92 #[.int .i64 n, .slice a l.length c] w fun e w' => ∃ v, e = .returned v ∧ Own w' w.heap.size v 3 (ints (labelsL n l)) ∧ Below w.heap.size w w' := by
  obtain ⟨A, hA⟩ := pts_of hin
  have H0 := Lib.hid (And.intro hl (And.intro hin hA))
  clear hl hin hA
  obtain ⟨m, hm⟩ : ∃ m, m = l.length := ⟨_, rfl⟩
  rw [← hm]
  have Hm := Lib.hid hm
  clear hm
  obtain ⟨i3, hi3, hz3, hs3, hb3⟩ := info_parts Tryz.info3
  have hmk : ∀ W : World, (Instr.makeSlice 23 (.int .i64 (n : Int)) (.int .i64 (n : Int))).run Tryz.prog W = .ok (.slice (some ⟨W.heap.size, 0, none⟩) n n) (W.alloc (.cells (List.replicate n (Value.int .i64 0)).toArray 3)) := by
    intro W
    have hr := run_make (P := Tryz.prog) W 23 3 i3 (.int .i64 0) Tryz.underlying23 hi3 hz3 .i64 .i64 n n (by omega) (Int.le_refl _) (by rw [hb3]; omega) (by omega)
    simp only [Int.toNat_natCast] at hr
    rw [hr, hs3, Nat.mul_one]
    congr 3
    apply Array.ext'
    rw [show (Value.int IntKind.i64 0).cells = #[.int .i64 0] from rfl, toList_madeCells_one]
  clear hi3 hz3 hs3 hb3
  have hn1 : 1 ≤ nn := by omega
  refine callsIn_of_wp_marks Tryz.func92 rfl h49 ?_ hro
  simp only [Tryz.ntmps92, List.size_toArray, List.length_cons, List.length_nil, Nat.reduceAdd, Nat.reduceSub, Array.replicate_succ, Array.replicate_zero, List.push_toArray, List.append_toArray, List.nil_append, List.cons_append]
  gi_wp2_with (gi_at_call 109; refine (points_in F (nn - 1) h79 hro _ _ _ _).mono ?_; rintro e w' ⟨rfl, rfl⟩)
  clear hmk
  obtain ⟨W0, hW0⟩ : ∃ W0, W0 = (((w.alloc (.cells (Array.replicate n (Value.int .i64 0)) 3)).alloc (.cells #[.slice (some ⟨w.heap.size, 0, none⟩) n n] 23)).alloc (.cells #[.slice a m c] 28)) := ⟨_, rfl⟩
  rw [← hW0]
  have hsz : W0.heap.size = w.heap.size + 3 := by rw [hW0]; simp
  have hB0 : Below w.heap.size w W0 := by rw [hW0]; exact (((Below.refl _ w).alloc (Nat.le_refl _) _).alloc (by simp) _).alloc (by simp; omega) _
  have hown : Own W0 w.heap.size (.slice (some ⟨w.heap.size, 0, none⟩) n n) 3 (ints (List.replicate n 0)) := by
    rw [hW0]
    have h1 := Own.new (w := w) (B := w.heap.size) 3 (List.replicate n (Value.int .i64 0)) (Nat.le_refl _) (by simp [maxLen]; omega)
    rw [List.length_replicate] at h1
    have h2 : (List.replicate n (Value.int .i64 0)).toArray = Array.replicate n (Value.int .i64 0) := by simp
    rw [h2] at h1
    have h3 := (h1.alloc (.cells #[.slice (some ⟨w.heap.size, 0, none⟩) n n] 23)).alloc (.cells #[.slice a m c] 28)
    rw [ints_zero] at h3
    exact h3
  have hbox : W0.cell? ⟨w.heap.size + 1, 0, none⟩ = some (.slice (some ⟨w.heap.size, 0, none⟩) n n) := by
    rw [hW0]
    have h1 := Boxed.new (w.alloc (.cells (Array.replicate n (Value.int .i64 0)) 3)) 23 (.slice (some ⟨w.heap.size, 0, none⟩) n n)
    rw [World.size_alloc] at h1
    exact (h1.alloc _).cell
  have hBs : W0.cell? ⟨w.heap.size + 1 + 1, 0, none⟩ = some (.slice a l.length c) := by
    rw [hW0, ← Hm.out]
    have h1 := Boxed.new ((w.alloc (.cells (Array.replicate n (Value.int .i64 0)) 3)).alloc (.cells #[.slice (some ⟨w.heap.size, 0, none⟩) n n] 23)) 28 (.slice a m c)
    rw [World.size_alloc, World.size_alloc] at h1
    exact h1.cell
  have HW := Lib.hid (And.intro hB0 (And.intro hown (And.intro hbox (And.intro hBs hsz))))
  clear hB0 hown hbox hBs hW0 hsz
  refine wpIn_rangeFunc_ownF hro hn1 (gf := 133) (lb := #[.pointer (some ⟨w.heap.size + 1 + 1, 0, none⟩)]) rfl h96 (enters_of Tryz.func133 (by kernel_rfl) rfl)
    (points_stops F (nn - 1) h96 hro (by omega) (w.heap.size + 1 + 1) w.heap.size n a c l A H0.out.2.2 w W0 HW.out.2.2.2.1 H0.out.1 rfl HW.out.1) belowK_t (belowK_b (by have := HW.out.2.2.2.2; omega)) (Below.refl _ _) (fun _ => rfl)
    (fun pre W => (W.cell? ⟨w.heap.size + 1, 0, none⟩ = some (.slice (some ⟨w.heap.size, 0, none⟩) n n) ∧ Own W w.heap.size (.slice (some ⟨w.heap.size, 0, none⟩) n n) 3 (ints (setPts (List.replicate n 0) pre))) ∧ Below w.heap.size w W)
    (fun _ _ _ => False)
    (OwnFrom.and (Own.from (fun s A B row hs hg hr => ⟨cell_kept hs.1 hg hr, hs.2.cellsKept hg hr⟩) _) (ownFrom_below (Nat.le_refl _) (by have := HW.out.2.2.2.2; omega)))
    (fun _ _ _ _ _ hs _ _ => hs)
    ⟨⟨HW.out.2.2.1, HW.out.2.1⟩, HW.out.1⟩
    (fun x => { tmps := #[.int .i64 n, .slice a m c, undef, undef, .slice none 0 0, .pointer (some ⟨w.heap.size + 1, 0, none⟩), .int .i64 x.1.1, .int .i64 (x.1.2 : Int), .int .i64 n, .slice (some ⟨w.heap.size, 0, none⟩) n n, .slice a m c, .func (.func 133) #[] #[.pointer (some ⟨w.heap.size + 1 + 1, 0, none⟩)], .int .i64 x.1.1, .int .i64 (x.1.2 : Int), undef, undef, undef, undef, undef], defers := [] }) ?assign ?body ?done ?stop
  case assign =>
    intro l x W K hK
    gi_wp2
    exact hK
  case body =>
    rintro l pre x W ⟨⟨hc, ho⟩, hB⟩ _
    have hx := x.2
    obtain ⟨p, hp⟩ := Int.eq_ofNat_of_zero_le hx.1
    have hpn : p < n := by have := hx.2; omega
    have hlen : (setPts (List.replicate n 0) pre).length = n := by rw [setPts_len]; simp
    have hcell := ho.cell p (by rw [ints_len, hlen]; exact hpn)
    rw [ints_get (by rw [hlen]; exact hpn)] at hcell
    have hfz := ho.frozen p
    have H := Lib.hid (And.intro hc (And.intro ho (And.intro hB (And.intro hlen hp))))
    simp only [hp]
    clear ho hB hlen hx hp
    gi_wp2
    refine ⟨KeepsOthers.setCell _ _ _, (Below.refl w.heap.size W).setCell (p := ⟨w.heap.size, p, none⟩) (Nat.le_refl _) _, ⟨?_, ?_⟩, H.out.2.2.1.setCell (p := ⟨w.heap.size, p, none⟩) (Nat.le_refl _) _⟩
    · rw [World.cell?_setCell_other _ _ _ _ (by intro e; injection e with e; omega)]; exact H.out.1
    · rw [setPts_snoc, H.out.2.2.2.2, Int.toNat_natCast, ← ints_set]
      exact H.out.2.1.put p _
  case done =>
    rintro D ys W hD rfl ⟨⟨hc, ho⟩, hB⟩ hK
    have H := Lib.hid (And.intro ho hB)
    clear ho hB
    gi_wp2
    refine ⟨by simp, .inl ⟨_, _, rfl, run_takeDeferred hK, ?_⟩⟩
    refine ⟨_, results_tmp rfl _ _ _, ⟨_, rfl, ?_, H.out.2.trans (belowK_b (w := w) (Nat.le_refl _) W D _ _ (by have := HW.out.2.2.2.2; omega) hK rfl rfl)⟩⟩
    rw [← setPts_labels H0.out.2.2]
    exact H.out.1.cellsKept (grownBy_putObj' W D (.deferred none)) (fun r e => by cases e; exact ⟨_, hK, rfl⟩)
  case stop =>
    rintro D c pre W _ _ h _
    exact h.elim

theorem labels_calls (n : Nat) (a : Option Addr) (c : Nat) (l : List (List Int)) (w : World) (hl : Rows w a l) (hn : n ≤ 1000000) (hin : InRange n l) :
    Calls Tryz.prog 92 #[.int .i64 n, .slice a l.length c] w fun e w' => ∃ v, e = .returned v ∧ Own w' w.heap.size v 3 (ints (labelsL n l)) ∧ Below w.heap.size w w' :=
  (callsIn_wide (n := 3)).1 (labels_in Fence.wide 3 trivial trivial trivial rfl (by omega) n a c l w hl hn hin)
end Go.Proofs.YtjjjohmppehejaaGreat
