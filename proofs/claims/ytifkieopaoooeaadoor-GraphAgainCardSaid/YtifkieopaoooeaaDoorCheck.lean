/- Both checks of a partition answer what the plain check says. -/
import Derived.Test.YtifkieopaoooeaaDoorProg
import Derived.Test.YtifkieopaoooeaaDoorBase
import Derived.Test.YtifkieopaoooeaaDoorPlain
set_option linter.unusedSimpArgs false
set_option linter.unusedVariables false
namespace Go.Proofs.YtifkieopaoooeaaDoor
open Go.RowKit Plain

/-- The block B holds the marks of the points in s, 64 of them. -/
def Marks (w : World) (B : Nat) (s : List Int) : Prop :=
  ∃ cs, w.heap[B]? = some (.cells cs 96 (0, 0)) ∧ cs.size = 64 ∧ ∀ p : Nat, p < 64 → cs[p]? = some (.bool (decide ((p : Int) ∈ s)))
theorem Marks.cell {w : World} {B : Nat} {s : List Int} (h : Marks w B s) (p : Nat) (hp : p < 64) : w.cell? ⟨B, p, none⟩ = some (.bool (decide ((p : Int) ∈ s))) := by
  obtain ⟨cs, hb, _, hc⟩ := h
  rw [cell_of_row w B p cs 96 (0, 0) hb]; exact hc p hp
theorem Marks.frozen {w : World} {B : Nat} {s : List Int} (h : Marks w B s) (p : Nat) : w.frozen? ⟨B, p, none⟩ = false := by
  obtain ⟨cs, hb, _, hc⟩ := h
  simp [World.frozen?, hb]
theorem Marks.put {w : World} {B : Nat} {s : List Int} (h : Marks w B s) (p : Nat) (hp : p < 64) : Marks (w.setCell ⟨B, p, none⟩ (.bool true)) B ((p : Int) :: s) := by
  obtain ⟨cs, hb, hs, hc⟩ := h
  refine ⟨cs.setIfInBounds p (.bool true), ?_, by simpa using hs, fun q hq => ?_⟩
  · simp [World.setCell, Array.getElem?_modify, hb]
  · rw [Array.getElem?_setIfInBounds]
    by_cases e : p = q
    · subst e; simp; omega
    · rw [if_neg e, hc q hq]
      congr 2
      have : (q : Int) ≠ p := by omega
      simp [this]
theorem Marks.new (w : World) : Marks (w.alloc (.cells (Array.replicate 64 (.bool false)) 96)) w.heap.size [] := by
  refine ⟨_, heap_alloc_new w _, by simp, fun p hp => ?_⟩
  rw [Array.getElem?_replicate, if_pos hp]; simp
theorem Marks.drew {w : World} {B : Nat} {s : List Int} (h : Marks w B s) (q : Nat) : Marks (w.drewN q) B s := h

set_option maxHeartbeats 1000000 in
theorem check_calls (n : Int) (a : Option Addr) (c : Nat) (xs : List (List Int)) (w : World) (ha : Rows w a xs) :
    Calls Tryd.prog 39 #[.int .i64 n, .slice a xs.length c] w fun e w' => e = .returned (.int .i64 (chk n xs)) ∧ Below w.heap.size w w' := by
  have hA := Lib.hid ha
  have hmx := ha.len
  clear ha
  obtain ⟨m, hm⟩ : ∃ m, m = xs.length := ⟨_, rfl⟩
  rw [← hm] at hmx ⊢
  have Hm := Lib.hid hm
  clear hm
  by_cases h0 : n < 0
  · go_enter Tryd.func39, Tryd.ntmps39
    go_wp2
    go_ret
    exact ⟨ret_int (chk_range (.inl h0)).symm, Below.refl _ _⟩
  by_cases h1 : 64 < n
  · go_enter Tryd.func39, Tryd.ntmps39
    go_wp2
    go_ret
    exact ⟨ret_int (chk_range (.inr h1)).symm, Below.refl _ _⟩
  obtain ⟨n, rfl⟩ := Int.eq_ofNat_of_zero_le (by omega : 0 ≤ n)
  have hn0 : ¬ ((n : Int) < 0 ∨ 64 < (n : Int)) := by omega
  have HN := Lib.hid hn0
  clear hn0
  have hM := Lib.hid (Marks.new w)
  have hBel : Below w.heap.size w (w.alloc (.cells (Array.replicate 64 (.bool false)) 96)) := (Below.refl _ _).alloc (Nat.le_refl _) _
  have hB0 := Lib.hid hBel
  clear hBel
  go_enter Tryd.func39, Tryd.ntmps39
  go_wp2
  go_loopw [6, 19] (fun many i wr => ∃ (k : Nat) (s : List Int), k ≤ m ∧ i = .int .i64 k ∧ many = .int .i64 s.length ∧ Marks wr w.heap.size s ∧ Below w.heap.size w wr ∧ Fine n s ∧ chkCells n [] xs = chkCells n s (xs.drop k)) (fun _ i _ => m - (intOf i).toNat)
  case atStart => exact ⟨0, [], by omega, rfl, rfl, hM.out, hB0.out, Fine.nil _, rfl⟩
  case round =>
    obtain ⟨k, s, hk, rfl, rfl, hmk, hbl, hf, hc⟩ := hrel
    have hsl : (s.length : Int) ≤ n := hf.len (by omega)
    have Hmk := Lib.hid hmk
    have Hbl := Lib.hid hbl
    have Hf := Lib.hid hf
    have Hc := Lib.hid hc
    clear hmk hbl hf hc
    by_cases hlt : k < m
    · obtain ⟨a', oa, a2, ac, rfl, hab, hca, hia⟩ := hA.out.at_ (k := k) (by have := Hm.out; omega)
      have hcr : wr.cell? ⟨a', oa + k, none⟩ = some (.slice a2 (xs[k]?.getD []).length ac) := by rw [Hbl.out.cell hab]; exact hca
      have hxl : k < xs.length := by have := Hm.out; omega
      obtain ⟨x, hx⟩ : ∃ x, xs[k]?.getD [] = x := ⟨_, rfl⟩
      rw [hx] at hcr hia
      have hxn := hia.len
      obtain ⟨L, hL⟩ : ∃ L, L = x.length := ⟨_, rfl⟩
      rw [← hL] at hcr hxn
      have Hx := Lib.hid (And.intro hx hL)
      have Hi := Lib.hid hia
      have Hk := Lib.hid hxl
      clear hca hia hx hxl hL
      by_cases hl0 : L = 0
      · subst hl0
        go_wp2
        go_ret
        refine ⟨ret_int (chk_err HN.out (Hc.out.trans (cells_empty Hk.out ?_))).symm, Hbl.out⟩
        rw [Hx.out.1, ← Hx.out.2]
      · have hl0' : ((L : Int) == 0) = false := by simp; omega
        go_wp2
        go_loopw [6, 28] (fun many j wr => ∃ (j' : Nat) (s' : List Int), j' ≤ L ∧ j = .int .i64 j' ∧ many = .int .i64 s'.length ∧ Marks wr w.heap.size s' ∧ Below w.heap.size w wr ∧ Fine n s' ∧ chkCell n s none x = chkCell n s' (prevAt x j') (x.drop j')) (fun _ j _ => L - (intOf j).toNat)
        case atStart => exact ⟨0, s, by omega, rfl, rfl, Hmk.out, Hbl.out, Hf.out, rfl⟩
        case round =>
          obtain ⟨j, t, hj, rfl, rfl, hmk, hbl, hf, hc⟩ := hrel
          have htl : (t.length : Int) ≤ n := hf.len (by omega)
          have Hmk2 := Lib.hid hmk
          have Hbl2 := Lib.hid hbl
          have Hf2 := Lib.hid hf
          have Hc2 := Lib.hid hc
          clear hmk hbl hf hc
          by_cases hjl : j < L
          · obtain ⟨b', ob, rfl, hbb, hcb⟩ := Hi.out.at_ (k := j) (by have := Hx.out.2; omega)
            have hcp : wr.cell? ⟨b', ob + j, none⟩ = some (.int .i64 (x[j]?.getD 0)) := by rw [Hbl2.out.cell hbb]; exact hcb
            have hjx : j < x.length := by have := Hx.out.2; omega
            have Hjx := Lib.hid hjx
            have Hbb := Lib.hid hbb
            obtain ⟨p, hp⟩ : ∃ p, x[j]?.getD 0 = p := ⟨_, rfl⟩
            rw [hp] at hcp
            have Hp := Lib.hid hp
            clear hcb hbb hjx hp
            by_cases hp0 : p < 0
            · go_wp2
              go_ret
              exact ⟨ret_int (chk_err HN.out (Hc.out.trans (cells_err Hk.out (by rw [Hx.out.1, ← Hx.out.2]; exact hl0) (by rw [Hx.out.1, Hc2.out]; exact cell_range Hjx.out (by rw [Hp.out]; omega))))).symm, Hbl2.out⟩
            by_cases hp1 : (n : Int) ≤ p
            · go_wp2
              go_ret
              exact ⟨ret_int (chk_err HN.out (Hc.out.trans (cells_err Hk.out (by rw [Hx.out.1, ← Hx.out.2]; exact hl0) (by rw [Hx.out.1, Hc2.out]; exact cell_range Hjx.out (by rw [Hp.out]; omega))))).symm, Hbl2.out⟩
            obtain ⟨p, rfl⟩ := Int.eq_ofNat_of_zero_le (by omega : 0 ≤ p)
            have hr : ¬ (x[j]?.getD 0 < 0 ∨ (n : Int) ≤ x[j]?.getD 0) := by rw [Hp.out]; omega
            have Hr := Lib.hid hr
            have hcm := Hmk2.out.cell p (by omega)
            have hfz := Hmk2.out.frozen p
            clear hr
            by_cases hin : (p : Int) ∈ t
            · rw [decide_eq_true hin] at hcm
              go_wp2
              go_ret
              exact ⟨ret_int (chk_err HN.out (Hc.out.trans (cells_err Hk.out (by rw [Hx.out.1, ← Hx.out.2]; exact hl0) (by rw [Hx.out.1, Hc2.out]; exact cell_twice Hjx.out Hr.out (by rw [Hp.out]; exact hin))))).symm, Hbl2.out⟩
            rw [decide_eq_false hin] at hcm
            have Hin := Lib.hid hin
            clear hin
            have hnext : ∀ h3, _ := fun h3 => cell_next (s := t) Hjx.out Hr.out (by rw [Hp.out]; exact Hin.out) h3
            rw [Hp.out] at hnext
            have Hnext := Lib.hid hnext
            clear hnext
            have hclose : Marks (wr.setCell ⟨w.heap.size, p, none⟩ (.bool true)) w.heap.size ((p : Int) :: t) ∧ Below w.heap.size w (wr.setCell ⟨w.heap.size, p, none⟩ (.bool true)) ∧ Fine n ((p : Int) :: t) :=
              ⟨Hmk2.out.put p (by omega), Hbl2.out.setCell (Nat.le_refl _) _, Hf2.out.cons (by omega) Hin.out⟩
            have Hclose := Lib.hid hclose
            clear hclose
            by_cases hj0 : j = 0
            · subst hj0
              rw [Nat.add_zero] at hcp
              go_wp2
              refine ⟨⟨1, (p : Int) :: t, by omega, by go_num, by simp, Hclose.out.1, Hclose.out.2.1, Hclose.out.2.2, Hc2.out.trans (Hnext.out (by omega))⟩, by simp [intOf]; omega⟩
            · obtain ⟨b2, o2, e2, _, hcb2⟩ := Hi.out.at_ (k := j - 1) (by have := Hx.out.2; omega)
              cases e2
              have hcq : wr.cell? ⟨b', ob + (j - 1), none⟩ = some (.int .i64 (x[j - 1]?.getD 0)) := by rw [Hbl2.out.cell Hbb.out]; exact hcb2
              clear hcb2
              obtain ⟨j, rfl⟩ : ∃ i, j = i + 1 := ⟨j - 1, by omega⟩
              simp only [Nat.add_sub_cancel] at hcq
              obtain ⟨q, hq⟩ : ∃ q, x[j]?.getD 0 = q := ⟨_, rfl⟩
              rw [hq] at hcq
              have Hq := Lib.hid hq
              clear hq
              by_cases hlt : (p : Int) < q
              · go_wp2
                go_ret
                exact ⟨ret_int (chk_err HN.out (Hc.out.trans (cells_err Hk.out (by rw [Hx.out.1, ← Hx.out.2]; exact hl0) (by rw [Hx.out.1, Hc2.out]; exact cell_order Hjx.out Hr.out (by rw [Hp.out]; exact Hin.out) (by omega) (by rw [Hp.out, Nat.add_sub_cancel, Hq.out]; exact hlt))))).symm, Hbl2.out⟩
              · go_wp2
                refine ⟨⟨j + 1 + 1, (p : Int) :: t, by omega, by go_num, by simp, Hclose.out.1, Hclose.out.2.1, Hclose.out.2.2, Hc2.out.trans (Hnext.out (by rw [Nat.add_sub_cancel, Hq.out]; omega))⟩, by simp [intOf]; omega⟩
          · go_wp2
            refine ⟨⟨k + 1, t, by omega, by go_num, rfl, Hmk2.out, Hbl2.out, Hf2.out, Hc.out.trans (cells_next Hk.out (by rw [Hx.out.1, ← Hx.out.2]; exact hl0) ?_)⟩, by simp [intOf]; omega⟩
            rw [Hx.out.1, Hc2.out]
            exact cell_end (by have := Hx.out.2; omega) _
    · have hend : ∀ e, (if (s.length : Int) < n then 18 else 0) = e → chk n xs = e := fun e he => (chk_end HN.out (Hc.out.trans (cells_end (by have := Hm.out; omega)))).trans he
      have Hend := Lib.hid hend
      clear hend
      by_cases hs : (s.length : Int) < n
      · go_wp2
        go_ret
        exact ⟨ret_int (Hend.out _ (by rw [if_pos hs])).symm, Hbl.out⟩
      · go_wp2
        go_ret
        exact ⟨ret_int (Hend.out _ (by rw [if_neg (by omega)])).symm, Hbl.out⟩
end Go.Proofs.YtifkieopaoooeaaDoor
