/- The reader of a graph's text: fail, sign, next, number. -/
import Derived.Test.YtifkieopaoooeaaDoorVert
set_option linter.unusedSimpArgs false
set_option linter.unusedVariables false
namespace Go.Proofs.YtifkieopaoooeaaDoor
open Go.RowKit Plain PlainG
def bytesOf (s : ByteArray) : List Nat := s.data.toList.map UInt8.toNat
theorem bytesOf_len (s : ByteArray) : (bytesOf s).length = s.size := by unfold bytesOf; simp
theorem bytesOf_lt (s : ByteArray) (k : Nat) : (bytesOf s)[k]?.getD 0 < 256 := by
  unfold bytesOf
  rw [List.getElem?_map]
  cases h : s.data.toList[k]? with
  | none => simp
  | some x => simp only [Option.map_some, Option.getD_some]; exact x.toNat_lt
theorem str_byte {s : ByteArray} {k : Nat} (hk : k < s.size) (w : World) :
    (Instr.index 9 (.string s) (.int .i64 (k : Int))).run Tryd.prog w = .ok (.int .u8 (((bytesOf s)[k]?.getD 0 : Nat) : Int)) w := by
  rw [run_index_string w 9 s .i64 _ Tryd.underlying9, dif_pos ⟨by omega, by omega⟩]
  have e : ((k : Int)).toNat = k := by omega
  simp only [e]
  have hl : k < s.data.toList.length := by simpa using hk
  have : (bytesOf s)[k]?.getD 0 = (s[k]'hk).toNat := by
    unfold bytesOf
    rw [List.getElem?_map, List.getElem?_eq_getElem hl]
    rfl
  rw [this]
/-- A reader: its text, its place, its fault. -/
structure Rg (w : World) (p : Nat) (b : ByteArray) (at_ : Nat) (f : Int × Nat) : Prop where
  c0 : w.cell? ⟨p, 0, none⟩ = some (.string b)
  c1 : w.cell? ⟨p, 1, none⟩ = some (.int .i64 (at_ : Int))
  c2 : w.cell? ⟨p, 2, none⟩ = some (.int .i64 f.1)
  c3 : w.cell? ⟨p, 3, none⟩ = some (.int .i64 (f.2 : Int))
  fr : ∀ o, w.frozen? ⟨p, o, none⟩ = false
  lt : p < w.heap.size
  len : b.size ≤ 20000
section
variable {w : World} {p : Nat} {b : ByteArray} {at_ : Nat} {f : Int × Nat}
theorem Rg.grown {w' : World} (h : Rg w p b at_ f) {row : Option Nat} (k : w.grownBy w' row) (hr : row ≠ some p) : Rg w' p b at_ f := by
  have hb := k.block p h.lt (fun e => hr e.symm)
  have hc : ∀ o, w'.cell? ⟨p, o, none⟩ = w.cell? ⟨p, o, none⟩ := fun o => by unfold World.cell?; rw [hb]
  have hf : ∀ o, w'.frozen? ⟨p, o, none⟩ = w.frozen? ⟨p, o, none⟩ := fun o => by unfold World.frozen?; rw [hb]
  exact ⟨(hc 0).trans h.c0, (hc 1).trans h.c1, (hc 2).trans h.c2, (hc 3).trans h.c3, fun o => (hf o).trans (h.fr o), Nat.lt_of_lt_of_le h.lt k.size, h.len⟩
theorem Rg.drewN (h : Rg w p b at_ f) (n : Nat) : Rg (w.drewN n) p b at_ f := ⟨h.c0, h.c1, h.c2, h.c3, h.fr, h.lt, h.len⟩
theorem Rg.set1 (h : Rg w p b at_ f) (n : Nat) : Rg (w.setCell ⟨p, 1, none⟩ (.int .i64 (n : Int))) p b n f :=
  ⟨(World.cell?_setCell_other _ _ _ _ (by intro e; simp at e)).trans h.c0, World.cell?_setCell_same _ _ _ h.c1, (World.cell?_setCell_other _ _ _ _ (by intro e; simp at e)).trans h.c2, (World.cell?_setCell_other _ _ _ _ (by intro e; simp at e)).trans h.c3, fun o => (World.frozen?_setCell _ _ _ _).trans (h.fr o), by simpa [World.setCell] using h.lt, h.len⟩
theorem Rg.setF (h : Rg w p b at_ f) (e : Int) (n : Nat) : Rg ((w.setCell ⟨p, 2, none⟩ (.int .i64 e)).setCell ⟨p, 3, none⟩ (.int .i64 (n : Int))) p b at_ (e, n) := by
  have h1 : Rg (w.setCell ⟨p, 2, none⟩ (.int .i64 e)) p b at_ (e, f.2) :=
    ⟨(World.cell?_setCell_other _ _ _ _ (by intro e; simp at e)).trans h.c0, (World.cell?_setCell_other _ _ _ _ (by intro e; simp at e)).trans h.c1, World.cell?_setCell_same _ _ _ h.c2, (World.cell?_setCell_other _ _ _ _ (by intro e; simp at e)).trans h.c3, fun o => (World.frozen?_setCell _ _ _ _).trans (h.fr o), by simpa [World.setCell] using h.lt, h.len⟩
  exact ⟨(World.cell?_setCell_other _ _ _ _ (by intro e; simp at e)).trans h1.c0, (World.cell?_setCell_other _ _ _ _ (by intro e; simp at e)).trans h1.c1, (World.cell?_setCell_other _ _ _ _ (by intro e; simp at e)).trans h1.c2, World.cell?_setCell_same _ _ _ h1.c3, fun o => (World.frozen?_setCell _ _ _ _).trans (h1.fr o), by simpa [World.setCell] using h1.lt, h.len⟩
end
/-- Only block p has changed: the reader stands at another place. -/
def RgTo (w w' : World) (p : Nat) (b : ByteArray) (at_ : Nat) (f : Int × Nat) : Prop := Rg w' p b at_ f ∧ w.grownBy w' (some p)
theorem RgTo.trans {w w1 w2 : World} {p : Nat} {b : ByteArray} {a1 a2 : Nat} {f1 f2 : Int × Nat} (h : RgTo w w1 p b a1 f1) (k : RgTo w1 w2 p b a2 f2) : RgTo w w2 p b a2 f2 := ⟨k.1, h.2.trans k.2⟩
set_option maxHeartbeats 2000000 in
theorem fail_calls {w : World} {p : Nat} {b : ByteArray} {at_ : Nat} (h : Rg w p b at_ (0, 0)) (e : Int) (n : Nat) :
    Calls Tryd.prog 34 #[.pointer (some ⟨p, 0, none⟩), .int .i64 e, .int .i64 (n : Int)] w fun r w' => r = .returned (.bool false) ∧ RgTo w w' p b at_ (e, n) := by
  have c2 := h.c2
  have c3 := h.c3
  have hf := h.fr 2
  have hf3 := h.fr 3
  have hlt := h.lt
  have H := Lib.hid h
  clear h
  go_enter Tryd.func34, Tryd.ntmps34
  go_wp2
  go_ret
  exact ⟨rfl, H.out.setF e n, (grown_put 2 _).trans (grown_put 3 _)⟩
set_option maxHeartbeats 2000000 in
theorem next_calls {w : World} {p : Nat} {b : ByteArray} {at_ : Nat} {f : Int × Nat} (h : Rg w p b at_ f) (c : Nat) (hat : at_ ≤ 1000000) :
    Calls Tryd.prog 24 #[.pointer (some ⟨p, 0, none⟩), .int .u8 (c : Int)] w fun r w' => r = .returned (.bool (decide (at_ < b.size) && ((bytesOf b)[at_]?.getD 0 == c))) ∧ ∃ q, w' = w.drewN q := by
  have c0 := h.c0
  have c1 := h.c1
  have hl := h.len
  have H := Lib.hid h
  clear h
  by_cases hlt : at_ < b.size
  · have hix := fun W => str_byte hlt W
    rw [show decide (at_ < b.size) = true by simpa using hlt, Bool.true_and]
    obtain ⟨x, hx⟩ : ∃ x, (bytesOf b)[at_]?.getD 0 = x := ⟨_, rfl⟩
    rw [hx] at hix ⊢
    obtain ⟨n, hn⟩ : ∃ n, b.size = n := ⟨_, rfl⟩
    rw [hn] at hlt hl
    have hlt2 : (at_ : Int) < n := by omega
    have hxc : (x == c) = ((x : Int) == (c : Int)) := by rw [Bool.eq_iff_iff]; simp; omega
    rw [hxc]
    clear hxc hx
    cases hq : ((x : Int) == (c : Int)) <;> (
      go_enter Tryd.func24, Tryd.ntmps24
      go_wp2
      go_quiet (fail)
      go_wp2
      go_ret
      exact ⟨rfl, _, rfl⟩)
  · rw [show decide (at_ < b.size) = false by simpa using hlt, Bool.false_and]
    obtain ⟨n, hn⟩ : ∃ n, b.size = n := ⟨_, rfl⟩
    rw [hn] at hlt hl
    have hlt2 : ¬ (at_ : Int) < n := by omega
    go_enter Tryd.func24, Tryd.ntmps24
    go_wp2
    go_quiet (fail)
    go_wp2
    go_ret
    exact ⟨rfl, _, rfl⟩
set_option maxHeartbeats 2000000 in
theorem sign_ok {w : World} {p : Nat} {b : ByteArray} {at_ : Nat} (h : Rg w p b at_ (0, 0)) (c : Nat) (hlt : at_ < b.size) (hc : (bytesOf b)[at_]?.getD 0 = c) :
    Calls Tryd.prog 23 #[.pointer (some ⟨p, 0, none⟩), .int .u8 (c : Int)] w fun r w' => r = .returned (.bool true) ∧ RgTo w w' p b (at_ + 1) (0, 0) := by
  have c0 := h.c0
  have c1 := h.c1
  have hl := h.len
  have hf := h.fr 1
  have hp := h.lt
  have H := Lib.hid h
  clear h
  have hix := fun W => str_byte hlt W
  rw [hc] at hix
  clear hc
  obtain ⟨n, hn⟩ : ∃ n, b.size = n := ⟨_, rfl⟩
  rw [hn] at hlt hl
  have Hn := Lib.hid hn
  have hlt2 : ¬ (n : Int) ≤ at_ := by omega
  go_enter Tryd.func23, Tryd.ntmps23
  go_wp2
  go_quiet (fail)
  go_wp2
  go_ret
  have h1 := fun q => (H.out.drewN q).set1 (at_ + 1)
  rw [show ((at_ + 1 : Nat) : Int) = (at_ : Int) + 1 by omega] at h1
  exact ⟨rfl, h1 _, (grown_drewN w _ _).trans (grown_put 1 _)⟩
set_option maxHeartbeats 2000000 in
theorem sign_no {w : World} {p : Nat} {b : ByteArray} {at_ : Nat} (h : Rg w p b at_ (0, 0)) (c : Nat) (hat : at_ ≤ 1000000) (hno : ¬ (at_ < b.size ∧ (bytesOf b)[at_]?.getD 0 = c)) :
    Calls Tryd.prog 23 #[.pointer (some ⟨p, 0, none⟩), .int .u8 (c : Int)] w fun r w' => r = .returned (.bool false) ∧ RgTo w w' p b at_ (11, at_) := by
  have c0 := h.c0
  have c1 := h.c1
  have hl := h.len
  have hfl := fun (w1 : World) (h1 : Rg w1 p b at_ (0, 0)) => fail_calls h1 11 at_
  have H := Lib.hid (And.intro h hfl)
  clear h hfl
  by_cases hlt : at_ < b.size
  · have hix := fun W => str_byte hlt W
    have hne : ((((bytesOf b)[at_]?.getD 0 : Nat) : Int) != (c : Int)) = true := by
      simp only [bne_iff_ne, ne_eq]; intro e; exact hno ⟨hlt, by omega⟩
    obtain ⟨x, hx⟩ : ∃ x, (bytesOf b)[at_]?.getD 0 = x := ⟨_, rfl⟩
    rw [hx] at hix hne
    obtain ⟨n, hn⟩ : ∃ n, b.size = n := ⟨_, rfl⟩
    rw [hn] at hlt hl
    have hlt2 : ¬ (n : Int) ≤ at_ := by omega
    clear hx hno
    go_enter Tryd.func23, Tryd.ntmps23
    go_wp2
    go_quiet (fail)
    go_wp2_with (go_at_call 34; refine (H.out.2 _ (H.out.1.drewN _)).mono ?_; rintro e w2 ⟨rfl, hw2⟩; have HW := Lib.hid hw2; clear hw2)
    go_ret
    exact ⟨rfl, HW.out.1, (grown_drewN w _ _).trans HW.out.2⟩
  · obtain ⟨n, hn⟩ : ∃ n, b.size = n := ⟨_, rfl⟩
    rw [hn] at hlt hl
    have hlt2 : (n : Int) ≤ at_ := by omega
    clear hno
    go_enter Tryd.func23, Tryd.ntmps23
    go_wp2
    go_quiet (fail)
    go_wp2_with (go_at_call 34; refine (H.out.2 _ (H.out.1.drewN _)).mono ?_; rintro e w2 ⟨rfl, hw2⟩; have HW := Lib.hid hw2; clear hw2)
    go_ret
    exact ⟨rfl, HW.out.1, (grown_drewN w _ _).trans HW.out.2⟩
end Go.Proofs.YtifkieopaoooeaaDoor
