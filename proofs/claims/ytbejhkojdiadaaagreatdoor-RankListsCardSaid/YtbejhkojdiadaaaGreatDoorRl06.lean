/- The law RankLists walked: the two sides agree, whatever the chains. · Arguments read: lists of ints, and chains. -/
import Derived.Test.YtbejhkojdiadaaaGreatDoorRk01
import Derived.Test.YtbejhkojdiadaaaGreatDoorRk02
import Derived.Test.YtbejhkojdiadaaaGreatDoorRk03
import Derived.Test.YtbejhkojdiadaaaGreatDoorRk04
import Derived.Test.YtbejhkojdiadaaaGreatDoorRk05
import Derived.Test.YtbejhkojdiadaaaGreatDoorRk06
import Derived.Test.YtbejhkojdiadaaaGreatDoorRk07
import Derived.Test.YtbejhkojdiadaaaGreatDoorRk08
import Derived.Test.YtbejhkojdiadaaaGreatDoorRk09
import Derived.Test.YtbejhkojdiadaaaGreatDoorRk10
import Derived.Test.YtbejhkojdiadaaaGreatDoorRk11
import Derived.Test.YtbejhkojdiadaaaGreatDoorRk12
import Derived.Test.YtbejhkojdiadaaaGreatDoorRk13
import Derived.Test.YtbejhkojdiadaaaGreatDoorRk14
import Derived.Test.YtbejhkojdiadaaaGreatDoorRk15
import Derived.Test.YtbejhkojdiadaaaGreatDoorRk16
import Derived.Test.YtbejhkojdiadaaaGreatDoorRk17
import Derived.Test.YtbejhkojdiadaaaGreatDoorRk18
import Derived.Test.YtbejhkojdiadaaaGreatDoorRk19
import Derived.Test.YtbejhkojdiadaaaGreatDoorRk20
import Derived.Test.YtbejhkojdiadaaaGreatDoorRl01
import Derived.Test.YtbejhkojdiadaaaGreatDoorRl02
import Derived.Test.YtbejhkojdiadaaaGreatDoorRl03
import Derived.Test.YtbejhkojdiadaaaGreatDoorRl04
import Derived.Test.YtbejhkojdiadaaaGreatDoorRl05
import Derived.Test.YtbejhkojdiadaaaGreatDoorProg
import Derived.WalkKit
import Derived.WalkSpells
import Derived.BigQuiet
import Derived.Deep.QuietTactic
import Derived.Deep.LoopGhost
import Derived.Lib.Hide
import Derived.Maps.AppendAt
import Derived.Deep.AppendLies
import Derived.StillTailTactics
import Derived.Laws.CopyOwn
import Derived.Deep.OwnRows
import Derived.Deep.DeepCutAuto
import Derived.Laws.Cover3
import Derived.Deep.RegionHeld3
import Derived.RangeFuncRecord
import Derived.Lib.SlicesSearch
import Derived.RangeFuncBox
import Derived.RangeFuncLeaves
import Derived.RangeFuncWrites
import Derived.RangeFuncFrom
import Derived.Shelf.Abstract
import Derived.OwnWalkIn
import Derived.TacticsInMore
import Derived.LoopNIn
import Derived.LoopIn
import Derived.Shelf.GgSortFunc.Insertion
import Derived.Shelf.SlIter.Collect
import Derived.Shelf.Sort.Plain
import Derived.Deep.RegionLaw
import Derived.ControlIn
import Derived.Deep.AppendSrc
import Derived.Sort.BigQuietIn
import Derived.Laws.BytesArg
import Derived.Laws.IdiomStrings
import Derived.Maps.OwnSet
import Derived.Carry
import Derived.Shelf.SlLaysF
import Derived.Shelf.SlSortCmp.Whole1
import Derived.Deep.Matrix
import Derived.Below
import Derived.ChangeSame
import Derived.Deep.Slices
import Derived.Deep.Fields
import Derived.OpenShut
set_option linter.unusedSimpArgs false
set_option linter.unusedVariables false
namespace Go.Proofs.YtbejhkojdiadaaaGreatDoor
open Go.RowKit PlainPm
set_option maxRecDepth 100000 in
set_option maxHeartbeats 8000000 in
theorem rankListsW {w : World} {v1 v2 : Value} {d1 d2 : Int} {os1 os2 : List (List Int)} {rs1 rs2 : List (List (List Int))} (h1 : ChV w v1 d1 os1 rs1) (hc1 : CapV w v1) (h2 : ChV w v2 d2 os2 rs2) (hc2 : CapV w v2) :
    Calls Tryz.prog 3 #[v1, v2] w fun e w' => e = .returned (.bool true) ∧ Below w.heap.size w w' := by
  have hv1 := fun (W : World) (hb : Below w.heap.size w W) => vast10 (h1.below hb)
  have hv2 := fun (W : World) (hb : Below w.heap.size w W) => vast10 (h2.below hb)
  have hls := fun (hd : ¬ (8 < d1 ∧ d1 ≤ 64)) => lists h1 hc1 hd
  have hid := fun (hd : ¬ (8 < d1 ∧ d1 ≤ 64)) => idxs h1 h2 hc1 hc2 hd
  have hco := fun (hd : ¬ (8 < d1 ∧ d1 ≤ 64)) => coss h1 h2 hc1 hc2 hd
  obtain ⟨a, c, b, e, rfl, _⟩ := h1
  obtain ⟨a', c', b', e', rfl, _⟩ := h2
  obtain ⟨lo, hlo⟩ : ∃ l, os1.length = l := ⟨_, rfl⟩
  obtain ⟨lr, hlr⟩ : ∃ l, rs1.length = l := ⟨_, rfl⟩
  obtain ⟨mo, hmo⟩ : ∃ l, os2.length = l := ⟨_, rfl⟩
  obtain ⟨mr, hmr⟩ : ∃ l, rs2.length = l := ⟨_, rfl⟩
  rw [hlo, hlr] at hv1 hls hid hco
  rw [hmo, hmr] at hv2 hid hco
  rw [hlo, hlr, hmo, hmr]
  obtain ⟨X, hX⟩ : ∃ X, w.heap.size = X := ⟨_, rfl⟩
  obtain ⟨W2, hW2⟩ : ∃ W2, ((w.alloc (.cells #[.int .i64 d1, .slice a lo c, .slice b lr e] 25)).alloc (.cells #[.int .i64 d2, .slice a' mo c', .slice b' mr e'] 25)) = W2 := ⟨_, rfl⟩
  have k0 : Below w.heap.size w W2 := hW2 ▸ alloc_b (alloc_b (Below.refl _ _) _) _
  have z0 : W2.heap[X]? = some (.cells #[.int .i64 d1, .slice a lo c, .slice b lr e] 25) := by
    rw [← hW2, ← hX]; exact ((alloc_b (Below.refl _ _) _).block _ (by simp)).trans (box_al25 rfl _ _ _)
  have z1 : W2.heap[X + 1]? = some (.cells #[.int .i64 d2, .slice a' mo c', .slice b' mr e'] 25) := by
    rw [← hW2]; exact box_al25 (by simp [hX]) _ _ _
  obtain ⟨i00, i01, i02, _⟩ := box_cells z0
  obtain ⟨i10, i11, i12, _⟩ := box_cells z1
  have HV := Lib.hid (And.intro hv1 hv2)
  have HF := Lib.hid (And.intro hls (And.intro hid hco))
  have HB := Lib.hid (And.intro k0 (And.intro z0 z1))
  clear hv1 hv2 hls hid hco k0 z0 z1 hc1 hc2 hlo hlr hmo hmr
  go_enter Tryz.func3, Tryz.ntmps3
  try simp only [hX]
  go_wp2_with fail
  go_at_call 8
  (with_reducible refine (HV.out.1 _ HB.out.1).mono ?_)
  rintro e1 w1 ⟨⟨B, rfl, hB⟩, k1⟩
  have zz := (k1.block X (Array.getElem?_eq_some_iff.1 HB.out.2.1).1).trans HB.out.2.1
  obtain ⟨n00, n01, n02, _⟩ := box_cells zz
  have zz := (k1.block (X + 1) (Array.getElem?_eq_some_iff.1 HB.out.2.2).1).trans HB.out.2.2
  obtain ⟨n10, n11, n12, _⟩ := box_cells zz
  clear zz
  have HK1 := Lib.hid k1
  clear k1
  cases B with
  | true =>
    clear hB
    go_wp2_with (go_at_call 9; refine awake11.mono ?_; rintro e9 w9 ⟨rfl, k9⟩; have HK9 := Lib.hid (below_trans (below_trans HB.out.1 HK1.out) k9); clear k9)
    go_ret
    exact ⟨rfl, by have h9 := HK9.out; first | exact h9 | rwa [hX] at h9⟩
  | false =>
    have hd := hB rfl
    have HD := Lib.hid hd
    clear hB hd
    go_wp2_with fail
    go_at_call 8
    (with_reducible refine (HV.out.2 _ (below_trans HB.out.1 HK1.out)).mono ?_)
    rintro e2 w2 ⟨⟨B, rfl, hB⟩, k2⟩
    have HK2 := Lib.hid (below_trans HK1.out k2)
    clear k2
    cases B with
    | true =>
      clear hB
      go_wp2_with (go_at_call 9; refine awake11.mono ?_; rintro e9 w9 ⟨rfl, k9⟩; have HK9 := Lib.hid (below_trans (below_trans HB.out.1 HK2.out) k9); clear k9)
      go_ret
      exact ⟨rfl, by have h9 := HK9.out; first | exact h9 | rwa [hX] at h9⟩
    | false =>
      clear hB
      obtain ⟨xs, E1, c10, c11⟩ := HF.out.1 HD.out
      obtain ⟨P, E2, hP, c12, c13⟩ := HF.out.2.1 HD.out
      obtain ⟨ys, E3, c14, c15⟩ := HF.out.2.2 HD.out
      have HC := Lib.hid (And.intro c10 (And.intro c11 (And.intro c12 (And.intro c13 (And.intro c14 (And.intro c15 hP))))))
      have g1 : (E1 == E1) = true := by simp
      have g2 : (E2 == E2) = true := by simp
      have g3 : (E3 == E3) = true := by simp
      clear c10 c11 c12 c13 c14 c15 hP
      have hk2 := HK2.out
      have zz := (hk2.block X (Array.getElem?_eq_some_iff.1 HB.out.2.1).1).trans HB.out.2.1
      obtain ⟨p00, p01, p02, _⟩ := box_cells zz
      have zz := (hk2.block (X + 1) (Array.getElem?_eq_some_iff.1 HB.out.2.2).1).trans HB.out.2.2
      obtain ⟨p10, p11, p12, _⟩ := box_cells zz
      clear zz
      clear hk2
      go_wp2_with fail
      go_at_call 10
      (with_reducible refine (HC.out.1 _ (below_trans HB.out.1 HK2.out)).mono ?_)
      rintro e3 w3 ⟨u3, rfl, r3, k⟩
      have hk3 := below_trans HK2.out k
      have zz := (hk3.block X (Array.getElem?_eq_some_iff.1 HB.out.2.1).1).trans HB.out.2.1
      obtain ⟨q00, q01, q02, _⟩ := box_cells zz
      have zz := (hk3.block (X + 1) (Array.getElem?_eq_some_iff.1 HB.out.2.2).1).trans HB.out.2.2
      obtain ⟨q10, q11, q12, _⟩ := box_cells zz
      clear zz
      have HK3 := Lib.hid hk3
      have R3 := Lib.hid r3; clear r3
      clear k hk3 p00 p01 p02 p10 p11 p12
      go_wp2_with fail
      go_at_call 11
      (with_reducible refine (HC.out.2.1 _ (below_trans HB.out.1 HK3.out)).mono ?_)
      rintro e4 w4 ⟨u4, rfl, r4, k⟩
      have hk4 := below_trans HK3.out k
      have zz := (hk4.block X (Array.getElem?_eq_some_iff.1 HB.out.2.1).1).trans HB.out.2.1
      obtain ⟨r00, r01, r02, _⟩ := box_cells zz
      have zz := (hk4.block (X + 1) (Array.getElem?_eq_some_iff.1 HB.out.2.2).1).trans HB.out.2.2
      obtain ⟨r10, r11, r12, _⟩ := box_cells zz
      clear zz
      have HK4 := Lib.hid hk4
      have R4 := Lib.hid (And.intro (R3.out.below k) r4); clear r4
      clear k hk4 q00 q01 q02 q10 q11 q12
      go_wp2_with fail
      go_at_call 12
      (with_reducible refine (HC.out.2.2.1 _ (below_trans HB.out.1 HK4.out)).mono ?_)
      rintro e5 w5 ⟨t5, rfl, ht5, k⟩
      have hk5 := below_trans HK4.out k
      have zz := (hk5.block X (Array.getElem?_eq_some_iff.1 HB.out.2.1).1).trans HB.out.2.1
      obtain ⟨s00, s01, s02, _⟩ := box_cells zz
      have zz := (hk5.block (X + 1) (Array.getElem?_eq_some_iff.1 HB.out.2.2).1).trans HB.out.2.2
      obtain ⟨s10, s11, s12, _⟩ := box_cells zz
      clear zz
      have HK5 := Lib.hid hk5
      have R5 := Lib.hid (And.intro (And.intro (R4.out.1.below k) (R4.out.2.below k)) ht5); clear ht5
      clear k hk5 r00 r01 r02 r10 r11 r12
      go_wp2_with fail
      go_at_call 13
      (with_reducible refine (HC.out.2.2.2.1 _ (below_trans HB.out.1 HK5.out)).mono ?_)
      rintro e6 w6 ⟨t6, rfl, ht6, k⟩
      have hk6 := below_trans HK5.out k
      have zz := (hk6.block X (Array.getElem?_eq_some_iff.1 HB.out.2.1).1).trans HB.out.2.1
      obtain ⟨t00, t01, t02, _⟩ := box_cells zz
      have zz := (hk6.block (X + 1) (Array.getElem?_eq_some_iff.1 HB.out.2.2).1).trans HB.out.2.2
      obtain ⟨t10, t11, t12, _⟩ := box_cells zz
      clear zz
      have HK6 := Lib.hid hk6
      have ht : t6 = t5 := HC.out.2.2.2.2.2.2 _ _ ht6 R5.out.2
      subst ht
      have R6 := Lib.hid (And.intro (R5.out.1.1.below k) (R5.out.1.2.below k)); clear ht6
      clear k hk6 s00 s01 s02 s10 s11 s12
      go_wp2_with fail
      go_at_call 14
      (with_reducible refine (HC.out.2.2.2.2.1 _ (below_trans HB.out.1 HK6.out)).mono ?_)
      rintro e7 w7 ⟨u7, rfl, r7, k⟩
      have hk7 := below_trans HK6.out k
      have zz := (hk7.block X (Array.getElem?_eq_some_iff.1 HB.out.2.1).1).trans HB.out.2.1
      obtain ⟨m00, m01, m02, _⟩ := box_cells zz
      have zz := (hk7.block (X + 1) (Array.getElem?_eq_some_iff.1 HB.out.2.2).1).trans HB.out.2.2
      obtain ⟨m10, m11, m12, _⟩ := box_cells zz
      clear zz
      have HK7 := Lib.hid hk7
      have R7 := Lib.hid (And.intro (And.intro (R6.out.1.below k) (R6.out.2.below k)) r7); clear r7
      clear k hk7 t00 t01 t02 t10 t11 t12
      go_wp2_with fail
      go_at_call 15
      (with_reducible refine (HC.out.2.2.2.2.2.1 _ (below_trans HB.out.1 HK7.out)).mono ?_)
      rintro e8 w8 ⟨u8, rfl, r8, k⟩
      have c16 := rows_same (R7.out.1.1.below k) (R7.out.1.2.below k)
      have R8 := Lib.hid (And.intro (And.intro (R7.out.2.below k) r8) (And.intro c16 (below_trans HK7.out k)))
      clear k r8 c16 m00 m01 m02 m10 m11 m12
      go_wp2_with fail
      go_at_call 16
      (with_reducible refine R8.out.2.1.mono ?_)
      rintro e10 w10 ⟨rfl, k⟩
      have R10 := Lib.hid (And.intro (rows_same (R8.out.1.1.below k) (R8.out.1.2.below k)) (below_trans R8.out.2.2 k))
      clear k
      go_wp2_with fail
      go_at_call 16
      (with_reducible refine R10.out.1.mono ?_)
      rintro e11 w11 ⟨rfl, k⟩
      have R11 := Lib.hid (below_trans R10.out.2 k)
      clear k
      go_wp2_with (go_at_call 9; refine awake11.mono ?_; rintro e9 w9 ⟨rfl, k9⟩; have HK9 := Lib.hid (below_trans HB.out.1 (below_trans R11.out k9)); clear k9)
      go_ret
      exact ⟨rfl, by have h9 := HK9.out; first | exact h9 | rwa [hX] at h9⟩
end Go.Proofs.YtbejhkojdiadaaaGreatDoor
namespace Go.Proofs.YtbejhkojdiadaaaGreatDoor
open Go.RowKit Go.WideShapes Go.ChangeShapes Go.Deep
theorem Tryz.cells3 : Tryz.prog.cellsOf 3 = 1 := by kernel_rfl
theorem Tryz.cells22 : Tryz.prog.cellsOf 22 = 1 := by kernel_rfl
theorem Tryz.cells23 : Tryz.prog.cellsOf 23 = 1 := by kernel_rfl
theorem Tryz.cells25 : Tryz.prog.cellsOf 25 = 3 := by kernel_rfl
theorem Tryz.cells40 : Tryz.prog.cellsOf 40 = 1 := by kernel_rfl
theorem Tryz.cells41 : Tryz.prog.cellsOf 41 = 1 := by kernel_rfl
theorem Tryz.cells28 : Tryz.prog.cellsOf 28 = 1 := by kernel_rfl
theorem list_choice {α β : Type} {P : α → β → Prop} : ∀ {us : List α}, (∀ u ∈ us, ∃ x, P u x) → ∃ xs : List β, us.length = xs.length ∧ ∀ (i : Nat) u x, us[i]? = some u → xs[i]? = some x → P u x
  | [], _ => ⟨[], rfl, fun i u x h => by simp at h⟩
  | u :: us, h => by
    obtain ⟨x, hx⟩ := h u (by simp)
    obtain ⟨xs, hl, hp⟩ := list_choice (us := us) (fun u' hu => h u' (by simp [hu]))
    refine ⟨x :: xs, by simp [hl], fun i u' x' hu hx' => ?_⟩
    match i, hu, hx' with
    | 0, hu, hx' => simp at hu hx'; subst hu; subst hx'; exact hx
    | i + 1, hu, hx' => exact hp i u' x' (by simpa using hu) (by simpa using hx')
section
variable {H : Type} {enc : TypeId × Value → H}
theorem spot_none {w : World} {a : Addr} {v : Value} (h : w.cell? (a.add 0) = some v) : ∃ b o, a = ⟨b, o, none⟩ := by
  obtain ⟨b, o, s⟩ := a
  have hs : s = none := by simpa [Addr.add] using World.cell?_spot h
  exact ⟨b, o, by rw [hs]⟩
set_option maxRecDepth 100000 in
theorem elems_of {t e : TypeId} (ht : Tryz.prog.underlying t = some (.slice e)) (he : Tryz.prog.cellsOf e = 1) {W : World} {b0 n : Nat} {v : Value} {y : DataW H × List MemPlace} {Q : Value → Prop}
    (hf : DataW.trod enc Tryz.prog W b0 (fun _ => true) true n t [v] = some y) (hQ : ∀ n' u y', DataW.trod enc Tryz.prog W b0 (fun _ => true) true n' e [u] = some y' → Q u) :
    ∃ a c us, v = .slice a (List.length us) c ∧ us.length ≤ c ∧ Row W a us ∧ ∀ u ∈ us, Q u := by
  rcases open_slice ht hf with ⟨hcs0, hx⟩ | ⟨a, len, cap, m, n, D, Pl, hcs0, hb, hl, hm, hmm, hx, hi⟩
  · simp at hcs0
    subst hcs0
    exact ⟨none, 0, [], rfl, Nat.le_refl _, Row.nil, by simp⟩
  · simp at hcs0
    subst hcs0
    simp only [if_true] at hmm
    subst hmm
    rw [he] at hi
    have each : ∀ i, ∃ u, i < len → W.cell? (a.add i) = some u ∧ Q u := fun i => by
      by_cases hlt : i < len
      · obtain ⟨cs, hc, ht'⟩ := hi i (by omega)
        obtain ⟨_, hcl, hat⟩ := World.cells?_some hc
        match cs, hcl, hat, ht' with
        | [u], _, hat, ht' =>
          refine ⟨u, fun _ => ⟨?_, hQ _ u _ ht'⟩⟩
          have := hat 0 (by decide)
          rw [add_of_add, Nat.mul_one, Nat.add_zero] at this
          exact this
      · exact ⟨.bool false, fun h => absurd h hlt⟩
    obtain ⟨f, hfe⟩ := Classical.axiomOfChoice each
    refine ⟨some a, m, (List.range len).map f, by simp, by simpa using hl, ⟨by simp; unfold maxLen at hm ⊢; omega, fun i u hu => ?_⟩, fun u hu => ?_⟩
    · have hlt : i < len := by have := (List.getElem?_eq_some_iff.1 hu).1; simpa using this
      rw [List.getElem?_map, List.getElem?_range hlt] at hu
      cases hu
      obtain ⟨c0, _⟩ := hfe i hlt
      obtain ⟨z0, _⟩ := hfe 0 (by omega)
      obtain ⟨b, o, rfl⟩ := spot_none z0
      rw [add_zero_addr] at c0
      exact ⟨b, o, rfl, block_lt_of_cell c0, c0⟩
    · obtain ⟨i, hi', rfl⟩ := List.mem_map.1 hu
      exact (hfe i (List.mem_range.1 hi')).2
set_option maxRecDepth 100000 in
theorem ints_of_trod {t : TypeId} (ht : Tryz.prog.underlying t = some (.slice 3)) {W : World} {b0 n : Nat} {v : Value} {y : DataW H × List MemPlace} (hf : DataW.trod enc Tryz.prog W b0 (fun _ => true) true n t [v] = some y) :
    ∃ a c l, v = .slice a (List.length l) c ∧ l.length ≤ c ∧ Ints W a l := by
  obtain ⟨a, c, us, rfl, hl, hr, hq⟩ := elems_of (Q := fun u => ∃ x : Int, u = .int .i64 x) ht Tryz.cells3 hf (fun n' u y' h => by
    obtain ⟨x, hx, _, _⟩ := DataW.trod_int Tryz.underlying3 h
    simp at hx
    exact ⟨x, hx⟩)
  obtain ⟨xs, hxl, hp⟩ := list_choice hq
  have he : us = xs.map (Value.int .i64) := by
    refine List.ext_getElem? fun i => ?_
    rw [List.getElem?_map]
    by_cases hi : i < us.length
    · rw [List.getElem?_eq_getElem hi, List.getElem?_eq_getElem (by omega : i < xs.length)]
      exact congrArg some (hp i _ _ (List.getElem?_eq_getElem hi) (List.getElem?_eq_getElem (by omega)))
    · rw [List.getElem?_eq_none (by omega), List.getElem?_eq_none (by omega)]; rfl
  refine ⟨a, c, xs, by rw [hxl], by omega, ?_⟩
  unfold Ints; rw [← he]; exact hr
theorem capR_of {W : World} {a : Option Addr} {us : List Value} (hr : Row W a us) (h : ∀ u ∈ us, ∀ x l k, u = .slice x l k → l ≤ k) : CapR W a us.length := fun ad ea i hi x l' k hc => by
  subst ea
  obtain ⟨b, o, he, _, hc'⟩ := hr.2 i us[i] (List.getElem?_eq_getElem hi)
  cases he
  rw [add_zero_addr, hc'] at hc
  exact h _ (List.getElem_mem hi) x l' k (Option.some.inj hc)
set_option maxRecDepth 100000 in
theorem rows_of_trod {t e : TypeId} (ht : Tryz.prog.underlying t = some (.slice e)) (he : Tryz.prog.underlying e = some (.slice 3)) (hce : Tryz.prog.cellsOf e = 1) {W : World} {b0 n : Nat} {v : Value} {y : DataW H × List MemPlace} (hf : DataW.trod enc Tryz.prog W b0 (fun _ => true) true n t [v] = some y) :
    ∃ a c ll, v = .slice a (List.length ll) c ∧ ll.length ≤ c ∧ Rows W a ll ∧ CapR W a ll.length := by
  obtain ⟨a, c, us, rfl, hl, hr, hq⟩ := elems_of (Q := fun u => ∃ l, IsInts W u l ∧ ∀ x l k, u = .slice x l k → l ≤ k) ht hce hf (fun n' u y' h => by
    obtain ⟨a, c, l, rfl, hlc, hi⟩ := ints_of_trod he h
    exact ⟨l, ⟨a, c, rfl, hi⟩, fun x l' k e => by injection e with _ e1 e2; omega⟩)
  have hcap := capR_of hr (fun u hu => by obtain ⟨l, _, h⟩ := hq u hu; exact h)
  obtain ⟨xs, hxl, hp⟩ := list_choice hq
  refine ⟨a, c, xs, by rw [hxl], by omega, ⟨us, hr, hxl, fun i u x hu hx => (hp i u x hu hx).1⟩, by rw [← hxl]; exact hcap⟩
set_option maxRecDepth 100000 in
theorem rows2_of_trod {t e e' : TypeId} (ht : Tryz.prog.underlying t = some (.slice e)) (he : Tryz.prog.underlying e = some (.slice e')) (he' : Tryz.prog.underlying e' = some (.slice 3)) (hce : Tryz.prog.cellsOf e = 1) (hce' : Tryz.prog.cellsOf e' = 1) {W : World} {b0 n : Nat} {v : Value} {y : DataW H × List MemPlace} (hf : DataW.trod enc Tryz.prog W b0 (fun _ => true) true n t [v] = some y) :
    ∃ a c ll, v = .slice a (List.length ll) c ∧ ll.length ≤ c ∧ Rows2 W a ll ∧ CapR W a ll.length := by
  obtain ⟨a, c, us, rfl, hl, hr, hq⟩ := elems_of (Q := fun u => ∃ ll, (∃ b c, u = .slice b (List.length ll) c ∧ Rows W b ll) ∧ ∀ x l k, u = .slice x l k → l ≤ k) ht hce hf (fun n' u y' h => by
    obtain ⟨a, c, l, rfl, hlc, hi, _⟩ := rows_of_trod he he' hce' h
    exact ⟨l, ⟨a, c, rfl, hi⟩, fun x l' k e => by injection e with _ e1 e2; omega⟩)
  have hcap := capR_of hr (fun u hu => by obtain ⟨l, _, h⟩ := hq u hu; exact h)
  obtain ⟨xs, hxl, hp⟩ := list_choice hq
  refine ⟨a, c, xs, by rw [hxl], by omega, ⟨us, hr, hxl, fun i u x hu hx => (hp i u x hu hx).1⟩, by rw [← hxl]; exact hcap⟩
set_option maxRecDepth 100000 in
theorem open_chain {W : World} {base b0 : Nat} {v : Value} {d : DataW H} {p : List MemPlace} (hv : Value.okWide Tryz.prog W .any base 25 v) (h : DataW.Trod enc Tryz.prog W b0 (fun _ => true) true 25 v d p) :
    ∃ d os rs, ChV W v d os rs ∧ CapV W v := by
  obtain ⟨cs, rfl, hsz⟩ := okWide_struct Tryz.underlying25 hv
  obtain ⟨fuel, hf⟩ := h
  obtain ⟨l⟩ := cs
  have hsz2 : l.length = 3 := by simpa [Tryz.cells25] using hsz
  match l, hsz2, hf with
  | [v0, v1, v2], _, hf =>
    have hf : DataW.trod enc Tryz.prog W b0 (fun _ => true) true fuel 25 [v0, v1, v2] = some (d, p) := hf
    obtain ⟨ys, n', _, _, _, hyl, hf⟩ := DataW.trod_struct Tryz.underlying25 hf
    have f0 : DataW.trod enc Tryz.prog W b0 (fun _ => true) true n' 3 (([v0, v1, v2].drop 0).take (Tryz.prog.cellsOf 3)) = ys[0]? := hf 0 _ rfl
    have f1 : DataW.trod enc Tryz.prog W b0 (fun _ => true) true n' 22 (([v0, v1, v2].drop 1).take (Tryz.prog.cellsOf 22)) = ys[1]? := hf 1 _ rfl
    have f2 : DataW.trod enc Tryz.prog W b0 (fun _ => true) true n' 23 (([v0, v1, v2].drop 2).take (Tryz.prog.cellsOf 23)) = ys[2]? := hf 2 _ rfl
    rw [Tryz.cells3] at f0
    rw [Tryz.cells22] at f1
    rw [Tryz.cells23] at f2
    simp only [List.drop_zero, List.take_succ_cons, List.take_zero, List.drop_succ_cons] at f0 f1 f2
    have hy0 : ys[0]? = some (ys[0]'(by rw [hyl]; decide)) := List.getElem?_eq_getElem _
    have hy1 : ys[1]? = some (ys[1]'(by rw [hyl]; decide)) := List.getElem?_eq_getElem _
    have hy2 : ys[2]? = some (ys[2]'(by rw [hyl]; decide)) := List.getElem?_eq_getElem _
    rw [hy0] at f0
    rw [hy1] at f1
    rw [hy2] at f2
    obtain ⟨x, hx, _, _⟩ := DataW.trod_int Tryz.underlying3 f0
    obtain ⟨a, c, os, rfl, _, ho, hoc⟩ := rows_of_trod Tryz.underlying22 Tryz.underlying40 Tryz.cells40 f1
    obtain ⟨b, e, rs, rfl, _, hr, hrc⟩ := rows2_of_trod Tryz.underlying23 Tryz.underlying28 Tryz.underlying41 Tryz.cells28 Tryz.cells41 f2
    simp at hx
    subst hx
    refine ⟨x, os, rs, ⟨a, c, b, e, rfl, ho, hr⟩, fun d' a' lo c' b' lr e' he => ?_⟩
    simp only [Value.agg.injEq, Array.mk.injEq, List.cons.injEq, Value.int.injEq, Value.slice.injEq, and_true, true_and] at he
    obtain ⟨_, ⟨rfl, rfl, rfl⟩, rfl, rfl, rfl⟩ := he
    exact ⟨hoc, hrc⟩
end
end Go.Proofs.YtbejhkojdiadaaaGreatDoor
