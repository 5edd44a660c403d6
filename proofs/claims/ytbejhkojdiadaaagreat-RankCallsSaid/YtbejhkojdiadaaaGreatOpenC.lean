/- Arguments read: lists of ints, and chains. -/
import Derived.Test.YtbejhkojdiadaaaGreatRankE
import Derived.Deep.Matrix
import Derived.Below
import Derived.ChangeSame
import Derived.Deep.Slices
import Derived.Deep.Fields
import Derived.OpenShut
set_option linter.unusedSimpArgs false
set_option linter.unusedVariables false
namespace Go.Proofs.YtbejhkojdiadaaaGreat
open Go.RowKit Go.WideShapes Go.ChangeShapes Go.Deep
theorem Tryz.cells3 : Tryz.prog.cellsOf 3 = 1 := by kernel_rfl
theorem Tryz.cells22 : Tryz.prog.cellsOf 22 = 1 := by kernel_rfl
theorem Tryz.cells23 : Tryz.prog.cellsOf 23 = 1 := by kernel_rfl
theorem Tryz.cells25 : Tryz.prog.cellsOf 25 = 3 := by kernel_rfl
theorem Tryz.cells26 : Tryz.prog.cellsOf 26 = 1 := by kernel_rfl
theorem Tryz.cells27 : Tryz.prog.cellsOf 27 = 1 := by kernel_rfl
theorem Tryz.cells44 : Tryz.prog.cellsOf 44 = 1 := by kernel_rfl
theorem list_choice {α β : Type} {P : α → β → Prop} : ∀ {us : List α}, (∀ u ∈ us, ∃ x, P u x) → ∃ xs : List β, us.length = xs.length ∧ ∀ (i : Nat) u x, us[i]? = some u → xs[i]? = some x → P u x
  | [], _ => ⟨[], rfl, fun i u x h => by simp at h⟩
  | u :: us, h => by
    obtain ⟨x, hx⟩ := h u (by simp)
    obtain ⟨xs, hl, hp⟩ := list_choice (us := us) (fun u' hu => h u' (by simp [hu]))
    refine ⟨x :: xs, by simp [hl], fun i u' x' hu hx' => ?_⟩
    match i, hu, hx' with
    | 0, hu, hx' => simp at hu hx'; subst hu; subst hx'; exact hx
    | i + 1, hu, hx' => exact hp i u' x' (by simpa using hu) (by simpa using hx')
section
variable {H : Type} {enc : TypeId × Value → H}
theorem spot_none {w : World} {a : Addr} {v : Value} (h : w.cell? (a.add 0) = some v) : ∃ b o, a = ⟨b, o, none⟩ := by
  obtain ⟨b, o, s⟩ := a
  have hs : s = none := by simpa [Addr.add] using World.cell?_spot h
  exact ⟨b, o, by rw [hs]⟩
set_option maxRecDepth 100000 in
theorem elems_of {t e : TypeId} (ht : Tryz.prog.underlying t = some (.slice e)) (he : Tryz.prog.cellsOf e = 1) {W : World} {b0 n : Nat} {v : Value} {y : DataW H × List MemPlace} {Q : Value → Prop}
    (hf : DataW.trod enc Tryz.prog W b0 (fun _ => true) true n t [v] = some y) (hQ : ∀ n' u y', DataW.trod enc Tryz.prog W b0 (fun _ => true) true n' e [u] = some y' → Q u) :
    ∃ a c us, v = .slice a (List.length us) c ∧ us.length ≤ c ∧ Row W a us ∧ ∀ u ∈ us, Q u := by
  rcases open_slice ht hf with ⟨hcs0, hx⟩ | ⟨a, len, cap, m, n, D, Pl, hcs0, hb, hl, hm, hmm, hx, hi⟩
  · simp at hcs0
    subst hcs0
    exact ⟨none, 0, [], rfl, Nat.le_refl _, Row.nil, by simp⟩
  · simp at hcs0
    subst hcs0
    simp only [if_true] at hmm
    subst hmm
    rw [he] at hi
    have each : ∀ i, ∃ u, i < len → W.cell? (a.add i) = some u ∧ Q u := fun i => by
      by_cases hlt : i < len
      · obtain ⟨cs, hc, ht'⟩ := hi i (by omega)
        obtain ⟨_, hcl, hat⟩ := World.cells?_some hc
        match cs, hcl, hat, ht' with
        | [u], _, hat, ht' =>
          refine ⟨u, fun _ => ⟨?_, hQ _ u _ ht'⟩⟩
          have := hat 0 (by decide)
          rw [add_of_add, Nat.mul_one, Nat.add_zero] at this
          exact this
      · exact ⟨.bool false, fun h => absurd h hlt⟩
    obtain ⟨f, hfe⟩ := Classical.axiomOfChoice each
    refine ⟨some a, m, (List.range len).map f, by simp, by simpa using hl, ⟨by simp; unfold maxLen at hm ⊢; omega, fun i u hu => ?_⟩, fun u hu => ?_⟩
    · have hlt : i < len := by have := (List.getElem?_eq_some_iff.1 hu).1; simpa using this
      rw [List.getElem?_map, List.getElem?_range hlt] at hu
      cases hu
      obtain ⟨c0, _⟩ := hfe i hlt
      obtain ⟨z0, _⟩ := hfe 0 (by omega)
      obtain ⟨b, o, rfl⟩ := spot_none z0
      rw [add_zero_addr] at c0
      exact ⟨b, o, rfl, block_lt_of_cell c0, c0⟩
    · obtain ⟨i, hi', rfl⟩ := List.mem_map.1 hu
      exact (hfe i (List.mem_range.1 hi')).2
set_option maxRecDepth 100000 in
theorem ints_of_trod {t : TypeId} (ht : Tryz.prog.underlying t = some (.slice 3)) {W : World} {b0 n : Nat} {v : Value} {y : DataW H × List MemPlace} (hf : DataW.trod enc Tryz.prog W b0 (fun _ => true) true n t [v] = some y) :
    ∃ a c l, v = .slice a (List.length l) c ∧ l.length ≤ c ∧ Ints W a l := by
  obtain ⟨a, c, us, rfl, hl, hr, hq⟩ := elems_of (Q := fun u => ∃ x : Int, u = .int .i64 x) ht Tryz.cells3 hf (fun n' u y' h => by
    obtain ⟨x, hx, _, _⟩ := DataW.trod_int Tryz.underlying3 h
    simp at hx
    exact ⟨x, hx⟩)
  obtain ⟨xs, hxl, hp⟩ := list_choice hq
  have he : us = xs.map (Value.int .i64) := by
    refine List.ext_getElem? fun i => ?_
    rw [List.getElem?_map]
    by_cases hi : i < us.length
    · rw [List.getElem?_eq_getElem hi, List.getElem?_eq_getElem (by omega : i < xs.length)]
      exact congrArg some (hp i _ _ (List.getElem?_eq_getElem hi) (List.getElem?_eq_getElem (by omega)))
    · rw [List.getElem?_eq_none (by omega), List.getElem?_eq_none (by omega)]; rfl
  refine ⟨a, c, xs, by rw [hxl], by omega, ?_⟩
  unfold Ints; rw [← he]; exact hr
theorem capR_of {W : World} {a : Option Addr} {us : List Value} (hr : Row W a us) (h : ∀ u ∈ us, ∀ x l k, u = .slice x l k → l ≤ k) : CapR W a us.length := fun ad ea i hi x l' k hc => by
  subst ea
  obtain ⟨b, o, he, _, hc'⟩ := hr.2 i us[i] (List.getElem?_eq_getElem hi)
  cases he
  rw [add_zero_addr, hc'] at hc
  exact h _ (List.getElem_mem hi) x l' k (Option.some.inj hc)
set_option maxRecDepth 100000 in
theorem rows_of_trod {t e : TypeId} (ht : Tryz.prog.underlying t = some (.slice e)) (he : Tryz.prog.underlying e = some (.slice 3)) (hce : Tryz.prog.cellsOf e = 1) {W : World} {b0 n : Nat} {v : Value} {y : DataW H × List MemPlace} (hf : DataW.trod enc Tryz.prog W b0 (fun _ => true) true n t [v] = some y) :
    ∃ a c ll, v = .slice a (List.length ll) c ∧ ll.length ≤ c ∧ Rows W a ll ∧ CapR W a ll.length := by
  obtain ⟨a, c, us, rfl, hl, hr, hq⟩ := elems_of (Q := fun u => ∃ l, IsInts W u l ∧ ∀ x l k, u = .slice x l k → l ≤ k) ht hce hf (fun n' u y' h => by
    obtain ⟨a, c, l, rfl, hlc, hi⟩ := ints_of_trod he h
    exact ⟨l, ⟨a, c, rfl, hi⟩, fun x l' k e => by injection e with _ e1 e2; omega⟩)
  have hcap := capR_of hr (fun u hu => by obtain ⟨l, _, h⟩ := hq u hu; exact h)
  obtain ⟨xs, hxl, hp⟩ := list_choice hq
  refine ⟨a, c, xs, by rw [hxl], by omega, ⟨us, hr, hxl, fun i u x hu hx => (hp i u x hu hx).1⟩, by rw [← hxl]; exact hcap⟩
set_option maxRecDepth 100000 in
theorem rows2_of_trod {t e e' : TypeId} (ht : Tryz.prog.underlying t = some (.slice e)) (he : Tryz.prog.underlying e = some (.slice e')) (he' : Tryz.prog.underlying e' = some (.slice 3)) (hce : Tryz.prog.cellsOf e = 1) (hce' : Tryz.prog.cellsOf e' = 1) {W : World} {b0 n : Nat} {v : Value} {y : DataW H × List MemPlace} (hf : DataW.trod enc Tryz.prog W b0 (fun _ => true) true n t [v] = some y) :
    ∃ a c ll, v = .slice a (List.length ll) c ∧ ll.length ≤ c ∧ Rows2 W a ll ∧ CapR W a ll.length := by
  obtain ⟨a, c, us, rfl, hl, hr, hq⟩ := elems_of (Q := fun u => ∃ ll, (∃ b c, u = .slice b (List.length ll) c ∧ Rows W b ll) ∧ ∀ x l k, u = .slice x l k → l ≤ k) ht hce hf (fun n' u y' h => by
    obtain ⟨a, c, l, rfl, hlc, hi, _⟩ := rows_of_trod he he' hce' h
    exact ⟨l, ⟨a, c, rfl, hi⟩, fun x l' k e => by injection e with _ e1 e2; omega⟩)
  have hcap := capR_of hr (fun u hu => by obtain ⟨l, _, h⟩ := hq u hu; exact h)
  obtain ⟨xs, hxl, hp⟩ := list_choice hq
  refine ⟨a, c, xs, by rw [hxl], by omega, ⟨us, hr, hxl, fun i u x hu hx => (hp i u x hu hx).1⟩, by rw [← hxl]; exact hcap⟩
set_option maxRecDepth 100000 in
theorem open_ints1 {t : TypeId} (ht : Tryz.prog.underlying t = some (.slice 3)) {W : World} {base b0 : Nat} {v : Value} {d : DataW H} {p : List MemPlace} (hv : Value.okWide Tryz.prog W .any base t v) (h : DataW.Trod enc Tryz.prog W b0 (fun _ => true) true t v d p) :
    ∃ a c l, v = .slice a (List.length l) c ∧ Ints W a l := by
  obtain ⟨a0, len, cap, rfl⟩ := okWide_slice ht hv
  obtain ⟨fuel, hf⟩ := h
  obtain ⟨a, c, l, h1, _, h2⟩ := ints_of_trod ht hf
  exact ⟨a, c, l, h1, h2⟩
set_option maxRecDepth 100000 in
theorem open_chain {W : World} {base b0 : Nat} {v : Value} {d : DataW H} {p : List MemPlace} (hv : Value.okWide Tryz.prog W .any base 25 v) (h : DataW.Trod enc Tryz.prog W b0 (fun _ => true) true 25 v d p) :
    ∃ d os rs, ChV W v d os rs ∧ CapV W v := by
  obtain ⟨cs, rfl, hsz⟩ := okWide_struct Tryz.underlying25 hv
  obtain ⟨fuel, hf⟩ := h
  obtain ⟨l⟩ := cs
  have hsz2 : l.length = 3 := by simpa [Tryz.cells25] using hsz
  match l, hsz2, hf with
  | [v0, v1, v2], _, hf =>
    have hf : DataW.trod enc Tryz.prog W b0 (fun _ => true) true fuel 25 [v0, v1, v2] = some (d, p) := hf
    obtain ⟨ys, n', _, _, _, hyl, hf⟩ := DataW.trod_struct Tryz.underlying25 hf
    have f0 : DataW.trod enc Tryz.prog W b0 (fun _ => true) true n' 3 (([v0, v1, v2].drop 0).take (Tryz.prog.cellsOf 3)) = ys[0]? := hf 0 _ rfl
    have f1 : DataW.trod enc Tryz.prog W b0 (fun _ => true) true n' 22 (([v0, v1, v2].drop 1).take (Tryz.prog.cellsOf 22)) = ys[1]? := hf 1 _ rfl
    have f2 : DataW.trod enc Tryz.prog W b0 (fun _ => true) true n' 23 (([v0, v1, v2].drop 2).take (Tryz.prog.cellsOf 23)) = ys[2]? := hf 2 _ rfl
    rw [Tryz.cells3] at f0
    rw [Tryz.cells22] at f1
    rw [Tryz.cells23] at f2
    simp only [List.drop_zero, List.take_succ_cons, List.take_zero, List.drop_succ_cons] at f0 f1 f2
    have hy0 : ys[0]? = some (ys[0]'(by rw [hyl]; decide)) := List.getElem?_eq_getElem _
    have hy1 : ys[1]? = some (ys[1]'(by rw [hyl]; decide)) := List.getElem?_eq_getElem _
    have hy2 : ys[2]? = some (ys[2]'(by rw [hyl]; decide)) := List.getElem?_eq_getElem _
    rw [hy0] at f0
    rw [hy1] at f1
    rw [hy2] at f2
    obtain ⟨x, hx, _, _⟩ := DataW.trod_int Tryz.underlying3 f0
    obtain ⟨a, c, os, rfl, _, ho, hoc⟩ := rows_of_trod Tryz.underlying22 Tryz.underlying26 Tryz.cells26 f1
    obtain ⟨b, e, rs, rfl, _, hr, hrc⟩ := rows2_of_trod Tryz.underlying23 Tryz.underlying44 Tryz.underlying27 Tryz.cells44 Tryz.cells27 f2
    simp at hx
    subst hx
    refine ⟨x, os, rs, ⟨a, c, b, e, rfl, ho, hr⟩, fun d' a' lo c' b' lr e' he => ?_⟩
    simp only [Value.agg.injEq, Array.mk.injEq, List.cons.injEq, Value.int.injEq, Value.slice.injEq, and_true, true_and] at he
    obtain ⟨_, ⟨rfl, rfl, rfl⟩, rfl, rfl, rfl⟩ := he
    exact ⟨hoc, hrc⟩
end
end Go.Proofs.YtbejhkojdiadaaaGreat
