/- Of and Single, of the program and of the reference. -/
import Derived.Test.YtlnikgcanimggaaGreatSplitR
import Derived.Test.YtlnikgcanimggaaGreatOf
import Derived.Test.YtlnikgcanimggaaGreatKeys
set_option linter.unusedSimpArgs false
set_option linter.unusedVariables false
namespace Go.Proofs.YtlnikgcanimggaaGreat
open Go.RowKit Plain

theorem Rows.empty {w : World} {a : Option Addr} : Rows w a [] := ⟨[], Row.empty, rfl, fun i u xs hu => by simp at hu⟩
def ofA (l : List Int) : List (List Int) × Int := if 64 < l.length then ([], 4) else (collect (l.map fun x => [x]), 0)
theorem part_collect {rows : List (List Int)} {R : Nat → List Int} {n : Nat} (hn : rows.length = n) (hR : ∀ i, i < n → R i = rows[i]?.getD []) {P : List (List Nat)} (hP : IsPart R (· < n) P) : P.map (·.map Int.ofNat) = collect rows := by
  obtain ⟨Q, h1, h2⟩ := collect_part rows
  rw [hn] at h2
  have h3 : IsPart (fun k => rows[k]?.getD []) (· < n) P := hP.congr hR
  rw [h1, h3.unique h2]

theorem ofE_calls (a : Option Addr) (c : Nat) (l : List Int) (w : World) (hl : Ints w a l) :
    Calls Tryz.prog 15 #[.slice a l.length c] w fun e w' => ∃ a c, e = .returned (.tuple #[.slice a (ofA l).1.length c, .int .i64 (ofA l).2]) ∧ Rows w' a (ofA l).1 ∧ Below w.heap.size w w' := by
  by_cases h : 64 < l.length
  · have hA : ofA l = ([], 4) := by rw [ofA, if_pos h]
    rw [hA]
    have hm := hl.len
    obtain ⟨L, hL⟩ : ∃ L, L = l.length := ⟨_, rfl⟩
    rw [← hL] at h hm ⊢
    have hb : Below w.heap.size w (w.alloc (.cells #[.slice a L c] 24)) := (Below.refl _ _).alloc (Nat.le_refl _) _
    have hcc : (w.alloc (.cells #[.slice a L c] 24)).cell? ⟨w.heap.size, 0, none⟩ = some (.slice a L c) := by simp [go_sem]
    have Hb := Lib.hid hb
    clear hL hA hl hb
    go_enter Tryz.func15, Tryz.ntmps15
    go_wp2
    go_ret2
    exact ⟨none, 0, rfl, Rows.empty, Hb.out⟩
  · have hA : ofA l = (collect (l.map fun x => [x]), 0) := by rw [ofA, if_neg h]
    rw [hA]
    refine (of_calls l.length (by omega) a c l w hl rfl).mono ?_
    rintro e w' ⟨a', c', P, rfl, hr, hp, hb⟩
    have := part_collect (rows := l.map fun x => [x]) (by simp) (fun i hi => by simp [List.getElem?_eq_getElem hi]) hp
    rw [← this]
    exact ⟨a', c', rfl, hr, hb⟩

theorem single_calls (n : Int) (a : Option Addr) (c : Nat) (l : List (List Int)) (p : Int) (w : World) (ha : Rows w a l) :
    Calls Tryz.prog 8 #[.int .i64 n, .slice a l.length c, .int .i64 p] w fun e w' => ∃ a c, e = .returned (.tuple #[.slice a (splitA n l [p]).1.length c, .int .i64 (splitA n l [p]).2]) ∧ Rows w' a (splitA n l [p]).1 ∧ Below w.heap.size w w' := by
  have hb : Below w.heap.size w (w.alloc (.cells #[.int .i64 p] 3)) := (Below.refl _ _).alloc (Nat.le_refl _) _
  have hnew := Own.new (w := w) (B := 0) 3 (ints [p]) (Nat.zero_le _) (by unfold maxLen; simp [ints])
  have hs := split_calls n a (some ⟨w.heap.size, 0, none⟩) c 1 l [p] _ (ha.below hb) (hnew.toInts (by unfold maxLen; simp))
  have Hs := Lib.hid (And.intro hs hb)
  obtain ⟨L, hL⟩ : ∃ L, L = l.length := ⟨_, rfl⟩
  rw [← hL] at Hs ⊢
  obtain ⟨A, hA⟩ : ∃ A, A = splitA n l [p] := ⟨_, rfl⟩
  rw [← hA] at Hs ⊢
  clear ha hb hnew hs hL hA
  go_enter Tryz.func8, Tryz.ntmps8
  go_wp2_with fail
  refine Hs.out.1.mono ?_
  rintro e w2 ⟨a2, c2, rfl, hr2, hb2⟩
  have H2 := Lib.hid (And.intro hr2 (Hs.out.2.trans (hb2.mono Hs.out.2.size)))
  clear hr2 hb2
  go_wp2
  go_ret2
  first | exact ⟨a2, c2, rfl, H2.out.1, H2.out.2⟩ | exact ⟨a2, ⟨c2, rfl⟩, H2.out.1, H2.out.2⟩
end Go.Proofs.YtlnikgcanimggaaGreat
