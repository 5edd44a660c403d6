/- Chapter 11: the law's vast: chains that are too large. · Arguments read: lists of ints, and chains. -/
import Derived.Test.YtbejhkojdiadaaaGreatCl01
import Derived.Test.YtbejhkojdiadaaaGreatCl02
import Derived.Test.YtbejhkojdiadaaaGreatCl03
import Derived.Test.YtbejhkojdiadaaaGreatCl04
import Derived.Test.YtbejhkojdiadaaaGreatCl05
import Derived.Test.YtbejhkojdiadaaaGreatCl06
import Derived.Test.YtbejhkojdiadaaaGreatCl07
import Derived.Test.YtbejhkojdiadaaaGreatCl08
import Derived.Test.YtbejhkojdiadaaaGreatCl09
import Derived.Test.YtbejhkojdiadaaaGreatCl10
import Derived.Test.YtbejhkojdiadaaaGreatCl12
import Derived.Test.YtbejhkojdiadaaaGreatCl13
import Derived.Test.YtbejhkojdiadaaaGreatCl14
import Derived.Test.YtbejhkojdiadaaaGreatProg
import Derived.Deep.Matrix
import Derived.Below
import Derived.ChangeSame
import Derived.Deep.Slices
import Derived.Deep.Fields
import Derived.OpenShut
import Derived.WalkKit
import Derived.WalkSpells
import Derived.BigQuiet
import Derived.Deep.QuietTactic
import Derived.Deep.LoopGhost
import Derived.Lib.Hide
import Derived.Maps.AppendAt
import Derived.Deep.AppendLies
import Derived.StillTailTactics
import Derived.Laws.CopyOwn
import Derived.Deep.OwnRows
import Derived.Deep.DeepCutAuto
import Derived.Laws.Cover3
import Derived.Deep.RegionHeld3
import Derived.RangeFuncRecord
import Derived.Lib.SlicesSearch
import Derived.RangeFuncBox
import Derived.RangeFuncLeaves
import Derived.RangeFuncWrites
import Derived.RangeFuncFrom
import Derived.Shelf.Abstract
import Derived.OwnWalkIn
import Derived.TacticsInMore
import Derived.LoopNIn
import Derived.LoopIn
import Derived.Shelf.GgSortFunc.Insertion
import Derived.Shelf.SlIter.Collect
import Derived.Shelf.Sort.Plain
import Derived.Deep.RegionLaw
import Derived.ControlIn
set_option linter.unusedSimpArgs false
set_option linter.unusedVariables false
namespace Go.Proofs.YtbejhkojdiadaaaGreat
open Go.RowKit PlainPm
set_option maxRecDepth 100000 in
set_option maxHeartbeats 2000000 in
theorem vast21 {w : World} {v : Value} {d : Int} {os : List (List Int)} {rs : List (List (List Int))} (h : ChV w v d os rs) :
    Calls Tryz.prog 21 #[v] w fun e w' => (∃ B, e = .returned (.bool B) ∧ (B = false → ¬ (7 < d ∧ d ≤ 64))) ∧ Below w.heap.size w w' := by
  obtain ⟨a, c, b, e, rfl, h1, h2⟩ := h
  obtain ⟨X, hX⟩ : ∃ X, w.heap.size = X := ⟨_, rfl⟩
  obtain ⟨lo, hlo⟩ : ∃ l, os.length = l := ⟨_, rfl⟩
  obtain ⟨lr, hlr⟩ : ∃ l, rs.length = l := ⟨_, rfl⟩
  rw [hlo, hlr]
  obtain ⟨W1, hW1⟩ : ∃ W1, W1 = w.alloc (.cells #[.int .i64 d, .slice a lo c, .slice b lr e] 25) := ⟨_, rfl⟩
  have hbw : Below w.heap.size w W1 := by rw [hW1]; exact alloc_b (Below.refl _ _) _
  obtain ⟨x0, x1, x2⟩ : W1.cell? ⟨X, 0, none⟩ = some (.int .i64 d) ∧ W1.cell? ⟨X, 1, none⟩ = some (.slice a lo c) ∧ W1.cell? ⟨X, 2, none⟩ = some (.slice b lr e) := by rw [hW1]; exact box3a w _ _ _ X hX
  have hm1 := h1.len
  have hm2 := h2.len
  rw [hlo] at hm1
  rw [hlr] at hm2
  have H := Lib.hid (And.intro h1 (And.intro h2 (And.intro hlo (And.intro hlr (And.intro hbw hX)))))
  clear h1 h2 hlo hlr hbw
  by_cases hA : 7 < d ∧ d ≤ 64
  · have g1 : decide (7 < d) = true := by simp [hA.1]
    have g2 : decide (d ≤ 64) = true := by simp [hA.2]
    clear hA x0 x1 x2
    go_enter Tryz.func21, Tryz.ntmps21
    try rw [hX]
    go_wp2_with fail
    go_ret
    refine ⟨⟨true, rfl, fun h => by cases h⟩, ?_⟩
    rw [← hW1]; have := H.out.2.2.2.2.1; rwa [H.out.2.2.2.2.2] at this
  · have HA := Lib.hid hA
    have hg : decide (7 < d) = false ∨ (decide (7 < d) = true ∧ decide (d ≤ 64) = false) := by
      by_cases h7 : 7 < d
      · exact .inr ⟨by simp [h7], by simp; omega⟩
      · exact .inl (by simp [h7])
    clear hA
    by_cases hlo12 : 12 < lo
    · have g3 : decide ((12 : Int) < (lo : Int)) = true := by simp; omega
      have g4 : decide (12 < lo) = true := by simp [hlo12]
      clear x0 x1 x2
      rcases hg with g1 | ⟨g1, g2⟩
      all_goals
        go_enter Tryz.func21, Tryz.ntmps21
        try rw [hX]
        go_wp2_with fail
        go_ret
        refine ⟨⟨true, rfl, fun h => by cases h⟩, ?_⟩
        rw [← hW1]; have := H.out.2.2.2.2.1; rwa [H.out.2.2.2.2.2] at this
    by_cases hlr12 : 12 < lr
    · have g3 : decide ((12 : Int) < (lo : Int)) = false := by simp; omega
      have g4 : decide (12 < lo) = false := by simp [hlo12]
      have g5 : decide ((12 : Int) < (lr : Int)) = true := by simp; omega
      have g6 : decide (12 < lr) = true := by simp [hlr12]
      clear x0 x1 x2
      rcases hg with g1 | ⟨g1, g2⟩
      all_goals
        go_enter Tryz.func21, Tryz.ntmps21
        try rw [hX]
        go_wp2_with fail
        go_ret
        refine ⟨⟨true, rfl, fun h => by cases h⟩, ?_⟩
        rw [← hW1]; have := H.out.2.2.2.2.1; rwa [H.out.2.2.2.2.2] at this
    have g3 : decide ((12 : Int) < (lo : Int)) = false := by simp; omega
    have g4 : decide (12 < lo) = false := by simp [hlo12]
    have g5 : decide ((12 : Int) < (lr : Int)) = false := by simp; omega
    have g6 : decide (12 < lr) = false := by simp [hlr12]
    have hlo13 : lo ≤ 12 := by omega
    have hlr13 : lr ≤ 12 := by omega
    clear hlo12 hlr12
    rcases hg with g1 | ⟨g1, g2⟩
    all_goals
      go_enter Tryz.func21, Tryz.ntmps21
      try rw [hX]
      go_wp2_with fail
      try rw [← hW1]
      clear hW1
      go_loopw [3] (fun i wr => ∃ (k : Nat), k ≤ lo ∧ i = .int .i64 (k : Int) ∧ wr = W1) (fun i _ => lo - (intOf i).toNat)
      case atStart => exact ⟨0, by omega, rfl, rfl⟩
      case round =>
        obtain ⟨k, hk, rfl, rfl⟩ := hrel
        by_cases hkl : k < lo
        · obtain ⟨ag, ao, ab, ac, hae, _, hac, _⟩ := (H.out.1.below H.out.2.2.2.2.1).at_ (k := k) (by rw [H.out.2.2.1]; exact hkl)
          subst hae
          obtain ⟨L, hL⟩ : ∃ L, (os[k]?.getD []).length = L := ⟨_, rfl⟩
          rw [hL] at hac
          clear hL
          have hk1 : (k : Int) < lo := by omega
          by_cases hL12 : 12 < L
          · have e1 : decide ((12 : Int) < (L : Int)) = true := by simp; omega
            go_wp2_with fail
            go_ret
            refine ⟨⟨true, rfl, fun h => by cases h⟩, ?_⟩
            have := H.out.2.2.2.2.1; rwa [H.out.2.2.2.2.2] at this
          · have e1 : decide ((12 : Int) < (L : Int)) = false := by simp; omega
            go_wp2_with fail
            exact ⟨⟨k + 1, by omega, by go_num, trivial⟩, by simp [intOf]; omega⟩
        · obtain rfl : k = lo := by omega
          have hk1 : ¬ (k : Int) < k := by omega
          go_wp2_with fail
          go_loopw [4, 5] (fun i _ wq => ∃ (m : Nat), m ≤ lr ∧ i = .int .i64 (m : Int) ∧ wq = wr) (fun i _ _ => lr - (intOf i).toNat)
          case atStart => exact ⟨0, by omega, rfl, rfl⟩
          case round =>
            obtain ⟨m, hm, rfl, rfl⟩ := hrel
            by_cases hml : m < lr
            · obtain ⟨bg, bo, bb, bc, hbe, _, hbc, hri⟩ := (H.out.2.1.below H.out.2.2.2.2.1).at_ (k := m) (by rw [H.out.2.2.2.1]; exact hml)
              subst hbe
              have hRm := hri.len
              obtain ⟨R, hR⟩ : ∃ R, (rs[m]?.getD []).length = R := ⟨_, rfl⟩
              rw [hR] at hbc hRm
              have HR := Lib.hid (And.intro hR hri)
              clear hR hri
              have hm1' : (m : Int) < lr := by omega
              by_cases hR12 : 12 < R
              · have e1 : decide ((12 : Int) < (R : Int)) = true := by simp; omega
                go_wp2_with fail
                go_ret
                refine ⟨⟨true, rfl, fun h => by cases h⟩, ?_⟩
                have := H.out.2.2.2.2.1; rwa [H.out.2.2.2.2.2] at this
              · have e1 : decide ((12 : Int) < (R : Int)) = false := by simp; omega
                go_wp2_with fail
                obtain ⟨wo, rfl⟩ : ∃ wo : World, wo = wr := ⟨_, rfl⟩
                go_loopw [5] (fun i wq => ∃ (q : Nat), q ≤ R ∧ i = .int .i64 (q : Int) ∧ wq = wo) (fun i _ => R - (intOf i).toNat)
                case atStart => exact ⟨0, by omega, rfl, rfl⟩
                case round =>
                  obtain ⟨q, hq, rfl, rfl⟩ := hrel
                  by_cases hqR : q < R
                  · obtain ⟨cg, co, cb, cc, hce, _, hcc, _⟩ := HR.out.2.at_ (k := q) (by rw [HR.out.1]; exact hqR)
                    subst hce
                    obtain ⟨Q, hQ⟩ : ∃ Q, (((rs[m]?.getD [])[q]?).getD []).length = Q := ⟨_, rfl⟩
                    rw [hQ] at hcc
                    clear hQ
                    have hq1 : (q : Int) < R := by omega
                    by_cases hQ12 : 12 < Q
                    · have e2 : decide ((12 : Int) < (Q : Int)) = true := by simp; omega
                      go_wp2_with fail
                      go_ret
                      refine ⟨⟨true, rfl, fun h => by cases h⟩, ?_⟩
                      have := H.out.2.2.2.2.1; rwa [H.out.2.2.2.2.2] at this
                    · have e2 : decide ((12 : Int) < (Q : Int)) = false := by simp; omega
                      go_wp2_with fail
                      exact ⟨⟨q + 1, by omega, by go_num, trivial⟩, by simp [intOf]; omega⟩
                  · obtain rfl : q = R := by omega
                    have hq1 : ¬ (q : Int) < q := by omega
                    go_wp2_with fail
                    exact ⟨⟨m + 1, by omega, by go_num, trivial⟩, by simp [intOf]; omega⟩
            · obtain rfl : m = lr := by omega
              have hm1' : ¬ (m : Int) < m := by omega
              go_wp2_with fail
              refine bodyPost_ret (v := .bool false) (by simp [results, Tryz.results21, go_sem]) rfl ?_
              refine ⟨by first | exact ⟨false, rfl, fun _ => HA.out⟩ | exact .inl ⟨rfl, fun h7 => by have h9 := HA.out; omega⟩, ?_⟩
              have := H.out.2.2.2.2.1; rwa [H.out.2.2.2.2.2] at this
end Go.Proofs.YtbejhkojdiadaaaGreat
namespace Go.Proofs.YtbejhkojdiadaaaGreat
open Go.RowKit Go.WideShapes Go.ChangeShapes Go.Deep
theorem Tryz.cells3 : Tryz.prog.cellsOf 3 = 1 := by kernel_rfl
theorem Tryz.cells22 : Tryz.prog.cellsOf 22 = 1 := by kernel_rfl
theorem Tryz.cells23 : Tryz.prog.cellsOf 23 = 1 := by kernel_rfl
theorem Tryz.cells25 : Tryz.prog.cellsOf 25 = 3 := by kernel_rfl
theorem Tryz.cells26 : Tryz.prog.cellsOf 26 = 1 := by kernel_rfl
theorem Tryz.cells27 : Tryz.prog.cellsOf 27 = 1 := by kernel_rfl
theorem Tryz.cells44 : Tryz.prog.cellsOf 44 = 1 := by kernel_rfl
theorem list_choice {α β : Type} {P : α → β → Prop} : ∀ {us : List α}, (∀ u ∈ us, ∃ x, P u x) → ∃ xs : List β, us.length = xs.length ∧ ∀ (i : Nat) u x, us[i]? = some u → xs[i]? = some x → P u x
  | [], _ => ⟨[], rfl, fun i u x h => by simp at h⟩
  | u :: us, h => by
    obtain ⟨x, hx⟩ := h u (by simp)
    obtain ⟨xs, hl, hp⟩ := list_choice (us := us) (fun u' hu => h u' (by simp [hu]))
    refine ⟨x :: xs, by simp [hl], fun i u' x' hu hx' => ?_⟩
    match i, hu, hx' with
    | 0, hu, hx' => simp at hu hx'; subst hu; subst hx'; exact hx
    | i + 1, hu, hx' => exact hp i u' x' (by simpa using hu) (by simpa using hx')
section
variable {H : Type} {enc : TypeId × Value → H}
theorem spot_none {w : World} {a : Addr} {v : Value} (h : w.cell? (a.add 0) = some v) : ∃ b o, a = ⟨b, o, none⟩ := by
  obtain ⟨b, o, s⟩ := a
  have hs : s = none := by simpa [Addr.add] using World.cell?_spot h
  exact ⟨b, o, by rw [hs]⟩
set_option maxRecDepth 100000 in
theorem elems_of {t e : TypeId} (ht : Tryz.prog.underlying t = some (.slice e)) (he : Tryz.prog.cellsOf e = 1) {W : World} {b0 n : Nat} {v : Value} {y : DataW H × List MemPlace} {Q : Value → Prop}
    (hf : DataW.trod enc Tryz.prog W b0 (fun _ => true) true n t [v] = some y) (hQ : ∀ n' u y', DataW.trod enc Tryz.prog W b0 (fun _ => true) true n' e [u] = some y' → Q u) :
    ∃ a c us, v = .slice a (List.length us) c ∧ us.length ≤ c ∧ Row W a us ∧ ∀ u ∈ us, Q u := by
  rcases open_slice ht hf with ⟨hcs0, hx⟩ | ⟨a, len, cap, m, n, D, Pl, hcs0, hb, hl, hm, hmm, hx, hi⟩
  · simp at hcs0
    subst hcs0
    exact ⟨none, 0, [], rfl, Nat.le_refl _, Row.nil, by simp⟩
  · simp at hcs0
    subst hcs0
    simp only [if_true] at hmm
    subst hmm
    rw [he] at hi
    have each : ∀ i, ∃ u, i < len → W.cell? (a.add i) = some u ∧ Q u := fun i => by
      by_cases hlt : i < len
      · obtain ⟨cs, hc, ht'⟩ := hi i (by omega)
        obtain ⟨_, hcl, hat⟩ := World.cells?_some hc
        match cs, hcl, hat, ht' with
        | [u], _, hat, ht' =>
          refine ⟨u, fun _ => ⟨?_, hQ _ u _ ht'⟩⟩
          have := hat 0 (by decide)
          rw [add_of_add, Nat.mul_one, Nat.add_zero] at this
          exact this
      · exact ⟨.bool false, fun h => absurd h hlt⟩
    obtain ⟨f, hfe⟩ := Classical.axiomOfChoice each
    refine ⟨some a, m, (List.range len).map f, by simp, by simpa using hl, ⟨by simp; unfold maxLen at hm ⊢; omega, fun i u hu => ?_⟩, fun u hu => ?_⟩
    · have hlt : i < len := by have := (List.getElem?_eq_some_iff.1 hu).1; simpa using this
      rw [List.getElem?_map, List.getElem?_range hlt] at hu
      cases hu
      obtain ⟨c0, _⟩ := hfe i hlt
      obtain ⟨z0, _⟩ := hfe 0 (by omega)
      obtain ⟨b, o, rfl⟩ := spot_none z0
      rw [add_zero_addr] at c0
      exact ⟨b, o, rfl, block_lt_of_cell c0, c0⟩
    · obtain ⟨i, hi', rfl⟩ := List.mem_map.1 hu
      exact (hfe i (List.mem_range.1 hi')).2
set_option maxRecDepth 100000 in
theorem ints_of_trod {t : TypeId} (ht : Tryz.prog.underlying t = some (.slice 3)) {W : World} {b0 n : Nat} {v : Value} {y : DataW H × List MemPlace} (hf : DataW.trod enc Tryz.prog W b0 (fun _ => true) true n t [v] = some y) :
    ∃ a c l, v = .slice a (List.length l) c ∧ l.length ≤ c ∧ Ints W a l := by
  obtain ⟨a, c, us, rfl, hl, hr, hq⟩ := elems_of (Q := fun u => ∃ x : Int, u = .int .i64 x) ht Tryz.cells3 hf (fun n' u y' h => by
    obtain ⟨x, hx, _, _⟩ := DataW.trod_int Tryz.underlying3 h
    simp at hx
    exact ⟨x, hx⟩)
  obtain ⟨xs, hxl, hp⟩ := list_choice hq
  have he : us = xs.map (Value.int .i64) := by
    refine List.ext_getElem? fun i => ?_
    rw [List.getElem?_map]
    by_cases hi : i < us.length
    · rw [List.getElem?_eq_getElem hi, List.getElem?_eq_getElem (by omega : i < xs.length)]
      exact congrArg some (hp i _ _ (List.getElem?_eq_getElem hi) (List.getElem?_eq_getElem (by omega)))
    · rw [List.getElem?_eq_none (by omega), List.getElem?_eq_none (by omega)]; rfl
  refine ⟨a, c, xs, by rw [hxl], by omega, ?_⟩
  unfold Ints; rw [← he]; exact hr
theorem capR_of {W : World} {a : Option Addr} {us : List Value} (hr : Row W a us) (h : ∀ u ∈ us, ∀ x l k, u = .slice x l k → l ≤ k) : CapR W a us.length := fun ad ea i hi x l' k hc => by
  subst ea
  obtain ⟨b, o, he, _, hc'⟩ := hr.2 i us[i] (List.getElem?_eq_getElem hi)
  cases he
  rw [add_zero_addr, hc'] at hc
  exact h _ (List.getElem_mem hi) x l' k (Option.some.inj hc)
set_option maxRecDepth 100000 in
theorem rows_of_trod {t e : TypeId} (ht : Tryz.prog.underlying t = some (.slice e)) (he : Tryz.prog.underlying e = some (.slice 3)) (hce : Tryz.prog.cellsOf e = 1) {W : World} {b0 n : Nat} {v : Value} {y : DataW H × List MemPlace} (hf : DataW.trod enc Tryz.prog W b0 (fun _ => true) true n t [v] = some y) :
    ∃ a c ll, v = .slice a (List.length ll) c ∧ ll.length ≤ c ∧ Rows W a ll ∧ CapR W a ll.length := by
  obtain ⟨a, c, us, rfl, hl, hr, hq⟩ := elems_of (Q := fun u => ∃ l, IsInts W u l ∧ ∀ x l k, u = .slice x l k → l ≤ k) ht hce hf (fun n' u y' h => by
    obtain ⟨a, c, l, rfl, hlc, hi⟩ := ints_of_trod he h
    exact ⟨l, ⟨a, c, rfl, hi⟩, fun x l' k e => by injection e with _ e1 e2; omega⟩)
  have hcap := capR_of hr (fun u hu => by obtain ⟨l, _, h⟩ := hq u hu; exact h)
  obtain ⟨xs, hxl, hp⟩ := list_choice hq
  refine ⟨a, c, xs, by rw [hxl], by omega, ⟨us, hr, hxl, fun i u x hu hx => (hp i u x hu hx).1⟩, by rw [← hxl]; exact hcap⟩
set_option maxRecDepth 100000 in
theorem rows2_of_trod {t e e' : TypeId} (ht : Tryz.prog.underlying t = some (.slice e)) (he : Tryz.prog.underlying e = some (.slice e')) (he' : Tryz.prog.underlying e' = some (.slice 3)) (hce : Tryz.prog.cellsOf e = 1) (hce' : Tryz.prog.cellsOf e' = 1) {W : World} {b0 n : Nat} {v : Value} {y : DataW H × List MemPlace} (hf : DataW.trod enc Tryz.prog W b0 (fun _ => true) true n t [v] = some y) :
    ∃ a c ll, v = .slice a (List.length ll) c ∧ ll.length ≤ c ∧ Rows2 W a ll ∧ CapR W a ll.length := by
  obtain ⟨a, c, us, rfl, hl, hr, hq⟩ := elems_of (Q := fun u => ∃ ll, (∃ b c, u = .slice b (List.length ll) c ∧ Rows W b ll) ∧ ∀ x l k, u = .slice x l k → l ≤ k) ht hce hf (fun n' u y' h => by
    obtain ⟨a, c, l, rfl, hlc, hi, _⟩ := rows_of_trod he he' hce' h
    exact ⟨l, ⟨a, c, rfl, hi⟩, fun x l' k e => by injection e with _ e1 e2; omega⟩)
  have hcap := capR_of hr (fun u hu => by obtain ⟨l, _, h⟩ := hq u hu; exact h)
  obtain ⟨xs, hxl, hp⟩ := list_choice hq
  refine ⟨a, c, xs, by rw [hxl], by omega, ⟨us, hr, hxl, fun i u x hu hx => (hp i u x hu hx).1⟩, by rw [← hxl]; exact hcap⟩
set_option maxRecDepth 100000 in
theorem open_ints1 {t : TypeId} (ht : Tryz.prog.underlying t = some (.slice 3)) {W : World} {base b0 : Nat} {v : Value} {d : DataW H} {p : List MemPlace} (hv : Value.okWide Tryz.prog W .any base t v) (h : DataW.Trod enc Tryz.prog W b0 (fun _ => true) true t v d p) :
    ∃ a c l, v = .slice a (List.length l) c ∧ Ints W a l := by
  obtain ⟨a0, len, cap, rfl⟩ := okWide_slice ht hv
  obtain ⟨fuel, hf⟩ := h
  obtain ⟨a, c, l, h1, _, h2⟩ := ints_of_trod ht hf
  exact ⟨a, c, l, h1, h2⟩
set_option maxRecDepth 100000 in
theorem open_chain {W : World} {base b0 : Nat} {v : Value} {d : DataW H} {p : List MemPlace} (hv : Value.okWide Tryz.prog W .any base 25 v) (h : DataW.Trod enc Tryz.prog W b0 (fun _ => true) true 25 v d p) :
    ∃ d os rs, ChV W v d os rs ∧ CapV W v := by
  obtain ⟨cs, rfl, hsz⟩ := okWide_struct Tryz.underlying25 hv
  obtain ⟨fuel, hf⟩ := h
  obtain ⟨l⟩ := cs
  have hsz2 : l.length = 3 := by simpa [Tryz.cells25] using hsz
  match l, hsz2, hf with
  | [v0, v1, v2], _, hf =>
    have hf : DataW.trod enc Tryz.prog W b0 (fun _ => true) true fuel 25 [v0, v1, v2] = some (d, p) := hf
    obtain ⟨ys, n', _, _, _, hyl, hf⟩ := DataW.trod_struct Tryz.underlying25 hf
    have f0 : DataW.trod enc Tryz.prog W b0 (fun _ => true) true n' 3 (([v0, v1, v2].drop 0).take (Tryz.prog.cellsOf 3)) = ys[0]? := hf 0 _ rfl
    have f1 : DataW.trod enc Tryz.prog W b0 (fun _ => true) true n' 22 (([v0, v1, v2].drop 1).take (Tryz.prog.cellsOf 22)) = ys[1]? := hf 1 _ rfl
    have f2 : DataW.trod enc Tryz.prog W b0 (fun _ => true) true n' 23 (([v0, v1, v2].drop 2).take (Tryz.prog.cellsOf 23)) = ys[2]? := hf 2 _ rfl
    rw [Tryz.cells3] at f0
    rw [Tryz.cells22] at f1
    rw [Tryz.cells23] at f2
    simp only [List.drop_zero, List.take_succ_cons, List.take_zero, List.drop_succ_cons] at f0 f1 f2
    have hy0 : ys[0]? = some (ys[0]'(by rw [hyl]; decide)) := List.getElem?_eq_getElem _
    have hy1 : ys[1]? = some (ys[1]'(by rw [hyl]; decide)) := List.getElem?_eq_getElem _
    have hy2 : ys[2]? = some (ys[2]'(by rw [hyl]; decide)) := List.getElem?_eq_getElem _
    rw [hy0] at f0
    rw [hy1] at f1
    rw [hy2] at f2
    obtain ⟨x, hx, _, _⟩ := DataW.trod_int Tryz.underlying3 f0
    obtain ⟨a, c, os, rfl, _, ho, hoc⟩ := rows_of_trod Tryz.underlying22 Tryz.underlying26 Tryz.cells26 f1
    obtain ⟨b, e, rs, rfl, _, hr, hrc⟩ := rows2_of_trod Tryz.underlying23 Tryz.underlying44 Tryz.underlying27 Tryz.cells44 Tryz.cells27 f2
    simp at hx
    subst hx
    refine ⟨x, os, rs, ⟨a, c, b, e, rfl, ho, hr⟩, fun d' a' lo c' b' lr e' he => ?_⟩
    simp only [Value.agg.injEq, Array.mk.injEq, List.cons.injEq, Value.int.injEq, Value.slice.injEq, and_true, true_and] at he
    obtain ⟨_, ⟨rfl, rfl, rfl⟩, rfl, rfl, rfl⟩ := he
    exact ⟨hoc, hrc⟩
end
end Go.Proofs.YtbejhkojdiadaaaGreat
