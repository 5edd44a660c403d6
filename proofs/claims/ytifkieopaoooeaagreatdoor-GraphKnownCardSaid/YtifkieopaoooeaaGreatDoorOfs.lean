/- Of and Single, of the program and of the reference. -/
import Derived.Test.YtifkieopaoooeaaGreatDoorSortB
set_option linter.unusedSimpArgs false
set_option linter.unusedVariables false
namespace Go.Proofs.YtifkieopaoooeaaGreatDoor
open Go.RowKit Plain

theorem Rows.empty {w : World} {a : Option Addr} : Rows w a [] := ⟨[], Row.empty, rfl, fun i u xs hu => by simp at hu⟩
def ofA (l : List Int) : List (List Int) × Int := if 64 < l.length then ([], 4) else (collect (l.map fun x => [x]), 0)
theorem part_collect {rows : List (List Int)} {R : Nat → List Int} {n : Nat} (hn : rows.length = n) (hR : ∀ i, i < n → R i = rows[i]?.getD []) {P : List (List Nat)} (hP : IsPart R (· < n) P) : P.map (·.map Int.ofNat) = collect rows := by
  obtain ⟨Q, h1, h2⟩ := collect_part rows
  rw [hn] at h2
  have h3 : IsPart (fun k => rows[k]?.getD []) (· < n) P := hP.congr hR
  rw [h1, h3.unique h2]

theorem ofE_calls (a : Option Addr) (c : Nat) (l : List Int) (w : World) (hl : Ints w a l) :
    Calls Tryz.prog 76 #[.slice a l.length c] w fun e w' => ∃ a c, e = .returned (.tuple #[.slice a (ofA l).1.length c, .int .i64 (ofA l).2]) ∧ Rows w' a (ofA l).1 ∧ Below w.heap.size w w' := by
  by_cases h : 64 < l.length
  · have hA : ofA l = ([], 4) := by rw [ofA, if_pos h]
    rw [hA]
    have hm := hl.len
    obtain ⟨L, hL⟩ : ∃ L, L = l.length := ⟨_, rfl⟩
    rw [← hL] at h hm ⊢
    have hb : Below w.heap.size w (w.alloc (.cells #[.slice a L c] 23)) := (Below.refl _ _).alloc (Nat.le_refl _) _
    have hcc : (w.alloc (.cells #[.slice a L c] 23)).cell? ⟨w.heap.size, 0, none⟩ = some (.slice a L c) := by simp [go_sem]
    have Hb := Lib.hid hb
    clear hL hA hl hb
    go_enter Tryz.func76, Tryz.ntmps76
    go_wp2
    go_ret2
    exact ⟨none, 0, rfl, Rows.empty, Hb.out⟩
  · have hA : ofA l = (collect (l.map fun x => [x]), 0) := by rw [ofA, if_neg h]
    rw [hA]
    refine (of_calls l.length (by omega) a c l w hl rfl).mono ?_
    rintro e w' ⟨a', c', P, rfl, hr, hp, hb⟩
    have := part_collect (rows := l.map fun x => [x]) (by simp) (fun i hi => by simp [List.getElem?_eq_getElem hi]) hp
    rw [← this]
    exact ⟨a', c', rfl, hr, hb⟩

set_option maxRecDepth 100000 in
set_option maxHeartbeats 1000000 in
theorem ofR_calls (a : Option Addr) (c : Nat) (l : List Int) (w : World) (hl : Ints w a l) :
    Calls Tryz.prog 81 #[.slice a l.length c] w fun e w' => ∃ a c, e = .returned (.tuple #[.slice a (ofA l).1.length c, .int .i64 (ofA l).2]) ∧ Rows w' a (ofA l).1 ∧ Below w.heap.size w w' := by
  have hm := hl.len
  by_cases h : 64 < l.length
  · have hA : ofA l = ([], 4) := by rw [ofA, if_pos h]
    rw [hA]
    obtain ⟨L, hL⟩ : ∃ L, L = l.length := ⟨_, rfl⟩
    rw [← hL] at h hm ⊢
    clear hL hA hl
    go_enter Tryz.func81, Tryz.ntmps81
    go_wp2
    go_ret2
    exact ⟨none, 0, rfl, Rows.empty, Below.refl _ _⟩
  · have hA : ofA l = (collect (l.map fun x => [x]), 0) := by rw [ofA, if_neg h]
    rw [hA]
    obtain ⟨i29, hi29, hz29, hs29, hb29⟩ := info_parts Tryz.info23
    have I29 := Lib.hid (And.intro hi29 (And.intro hz29 (And.intro hs29 hb29)))
    clear hi29 hz29 hs29 hb29
    obtain ⟨L, hL⟩ : ∃ L, L = l.length := ⟨_, rfl⟩
    rw [← hL] at h hm ⊢
    have HL := Lib.hid hL
    obtain ⟨D, hD⟩ : ∃ D, D = w.heap.size := ⟨_, rfl⟩
    rw [← hD]
    have H0 := Lib.hid (fun (wr : World) (hb : Below D w wr) => hl.below (by rw [← hD]; exact hb))
    have HD := Lib.hid hD
    clear hL hA hl hD
    go_enter Tryz.func81, Tryz.ntmps81
    go_wp2
    go_loopw [4, 5] (fun v kk wr => ∃ (k : Nat) (cs : List Value), k ≤ L ∧ kk = .int .i64 k ∧ Own wr D v 23 cs ∧ OwnRows wr D 3 cs ((l.take k).map fun x => [x]) ∧ Below D w wr) (fun _ kk _ => L - (intOf kk).toNat)
    case atStart => exact ⟨0, [], by omega, rfl, Own.nil _ _ _, OwnRows.nil _ _ _, Below.refl _ _⟩
    case round =>
      obtain ⟨k, cs, hk, rfl, hv, hcs, hbl⟩ := hrel
      have hDr : D ≤ wr.heap.size := by have := hbl.size; have := HD.out; omega
      have hcl : cs.length = k := by rw [hcs.1]; simp; have := HL.out; omega
      have Hv := Lib.hid (And.intro hv (And.intro hcs (And.intro hbl hcl)))
      clear hv hcs
      by_cases hlt : k < L
      · obtain ⟨g, o, rfl, _, hc⟩ := (H0.out wr hbl).at_ (k := k) (by rw [← HL.out]; exact hlt)
        have htk : (l.take (k + 1)).map (fun x => [x]) = (l.take k).map (fun x => [x]) ++ [[l[k]?.getD 0]] := by
          rw [List.take_add_one, List.map_append, List.getElem?_eq_getElem (by rw [← HL.out]; exact hlt)]; rfl
        obtain ⟨x, hx⟩ : ∃ x, l[k]?.getD 0 = x := ⟨_, rfl⟩
        rw [hx] at hc htk
        have hnew := Own.new (w := wr) (B := D) 3 (ints [x]) hDr (by unfold maxLen; simp [ints])
        have ha1 : wr.grownBy (wr.alloc (.cells #[.int .i64 x] 3)) none := grown_alloc wr _ none
        have hv1 := Hv.out.1.alloc (.cells #[.int .i64 x] 3)
        have hcs1 : OwnRows (wr.alloc (.cells #[.int .i64 x] 3)) D 3 cs ((l.take k).map fun x => [x]) := Hv.out.2.1.kept ha1 (fun u xs h => by rcases h.blk with e | ⟨g, _, e, _⟩ <;> rw [e] <;> simp)
        have hsz : cs.length < 1099511627776 := by omega
        have hD1 : D ≤ (wr.alloc (.cells #[.int .i64 x] 3)).heap.size := by simp; omega
        have hb1 : Below D w (wr.alloc (.cells #[.int .i64 x] 3)) := hbl.alloc hDr _
        have H := Lib.hid (And.intro htk (And.intro hnew (And.intro hv1 (And.intro hcs1 hb1))))
        clear hx htk hnew ha1 hv1 hcs1 hb1 hbl
        go_wp2_with (at_builtin; refine app1 rfl (.tmp 15) (.tmp 21) 42 23 rfl i29 (.slice none 0 0) 24 Tryz.underlying42 I29.out.1 I29.out.2.1 I29.out.2.2.1 I29.out.2.2.2 rfl (by omega) D (.slice (some ⟨wr.heap.size, 0, none⟩) 1 1) u4 cs rfl H.out.2.2.1 (by simp [go_sem, Act.eval]) rfl hsz hD1 ?_; intro v' w' h2 h3 h4; have H9 := Lib.hid (And.intro h2 h3); clear h2 h3 h4)
        obtain ⟨h2, h3⟩ := H9.out
        refine ⟨⟨k + 1, cs ++ [.slice (some ⟨wr.heap.size, 0, none⟩) 1 1], by omega, by go_num, h2, ?_, ?_⟩, by simp [intOf]; omega⟩
        · rw [H.out.1]
          exact (H.out.2.2.2.1.kept h3 (fun u xs h => h.ne_type H.out.2.2.1 (by decide))).app (OwnRows.one (H.out.2.1.kept h3 (H.out.2.1.ne_type H.out.2.2.1 (by decide))))
        · refine H.out.2.2.2.2.grown h3 hD1 (fun k hk => ?_)
          rcases H.out.2.2.1.blk with e | ⟨g', _, e, hB, _⟩
          · rw [e] at hk; cases hk
          · rw [e] at hk; cases hk; exact hB
      · obtain rfl : k = L := by omega
        have hcs := Hv.out.2.1
        rw [List.take_of_length_le (by rw [← HL.out]; omega)] at hcs
        obtain ⟨a', c', rfl, hrows⟩ := hcs.rows Hv.out.1 (by rw [Hv.out.2.2.2]; unfold maxLen; omega) (fun y hy => by
          obtain ⟨z, _, rfl⟩ := List.mem_map.1 hy
          unfold maxLen; simp)
        have hco := collect_calls a' c' (l.map fun x => [x]) wr hrows (by rw [List.length_map, ← HL.out]; omega)
        have Hc := Lib.hid hco
        have hlen : (l.map fun x => [x]).length = k := by rw [List.length_map, ← HL.out]
        rw [hlen] at Hc ⊢
        clear hrows hcs hco hbl hlen
        go_wp2_with fail
        refine Hc.out.mono ?_
        rintro e w2 ⟨a2, c2, rfl, hr2, hb2⟩
        have H2 := Lib.hid (And.intro hr2 (Hv.out.2.2.1.trans (hb2.mono hDr)))
        clear hr2 hb2
        go_wp2
        go_ret2
        exact ⟨a2, c2, rfl, H2.out.1, H2.out.2⟩
end Go.Proofs.YtifkieopaoooeaaGreatDoor
