/- Of and Single, of the program and of the reference. -/
import Derived.Test.YtifkieopaoooeaaDoorOf
import Derived.Test.YtifkieopaoooeaaDoorKeys
set_option linter.unusedSimpArgs false
set_option linter.unusedVariables false
namespace Go.Proofs.YtifkieopaoooeaaDoor
open Go.RowKit Plain

theorem Rows.empty {w : World} {a : Option Addr} : Rows w a [] := ⟨[], Row.empty, rfl, fun i u xs hu => by simp at hu⟩
def ofA (l : List Int) : List (List Int) × Int := if 64 < l.length then ([], 4) else (collect (l.map fun x => [x]), 0)
theorem part_collect {rows : List (List Int)} {R : Nat → List Int} {n : Nat} (hn : rows.length = n) (hR : ∀ i, i < n → R i = rows[i]?.getD []) {P : List (List Nat)} (hP : IsPart R (· < n) P) : P.map (·.map Int.ofNat) = collect rows := by
  obtain ⟨Q, h1, h2⟩ := collect_part rows
  rw [hn] at h2
  have h3 : IsPart (fun k => rows[k]?.getD []) (· < n) P := hP.congr hR
  rw [h1, h3.unique h2]

theorem ofE_calls (a : Option Addr) (c : Nat) (l : List Int) (w : World) (hl : Ints w a l) :
    Calls Tryd.prog 38 #[.slice a l.length c] w fun e w' => ∃ a c, e = .returned (.tuple #[.slice a (ofA l).1.length c, .int .i64 (ofA l).2]) ∧ Rows w' a (ofA l).1 ∧ Below w.heap.size w w' := by
  by_cases h : 64 < l.length
  · have hA : ofA l = ([], 4) := by rw [ofA, if_pos h]
    rw [hA]
    have hm := hl.len
    obtain ⟨L, hL⟩ : ∃ L, L = l.length := ⟨_, rfl⟩
    rw [← hL] at h hm ⊢
    have hb : Below w.heap.size w (w.alloc (.cells #[.slice a L c] 22)) := (Below.refl _ _).alloc (Nat.le_refl _) _
    have hcc : (w.alloc (.cells #[.slice a L c] 22)).cell? ⟨w.heap.size, 0, none⟩ = some (.slice a L c) := by simp [go_sem]
    have Hb := Lib.hid hb
    clear hL hA hl hb
    go_enter Tryd.func38, Tryd.ntmps38
    go_wp2
    go_ret2
    exact ⟨none, 0, rfl, Rows.empty, Hb.out⟩
  · have hA : ofA l = (collect (l.map fun x => [x]), 0) := by rw [ofA, if_neg h]
    rw [hA]
    refine (of_calls l.length (by omega) a c l w hl rfl).mono ?_
    rintro e w' ⟨a', c', P, rfl, hr, hp, hb⟩
    have := part_collect (rows := l.map fun x => [x]) (by simp) (fun i hi => by simp [List.getElem?_eq_getElem hi]) hp
    rw [← this]
    exact ⟨a', c', rfl, hr, hb⟩

end Go.Proofs.YtifkieopaoooeaaDoor
