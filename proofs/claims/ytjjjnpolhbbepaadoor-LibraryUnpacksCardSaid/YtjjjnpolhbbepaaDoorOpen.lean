/- An argument of type []Entry reads as entries, one of type []byte as bytes. -/
import Derived.Test.YtjjjnpolhbbepaaDoorEnts
import Derived.Deep.Matrix
import Derived.Deep.Slices
import Derived.Deep.Fields
import Derived.Below
import Derived.ChangeSame
set_option linter.unusedSimpArgs false
set_option linter.unusedVariables false
namespace Go.Proofs.YtjjjnpolhbbepaaDoor
open Go.RowKit Go.WideShapes Go.ChangeShapes Go.Deep
open Plain
theorem Tryd.cells57 : Tryd.prog.cellsOf 57 = 1 := by kernel_rfl
theorem Tryd.cells3 : Tryd.prog.cellsOf 3 = 1 := by kernel_rfl
theorem Tryd.cells5 : Tryd.prog.cellsOf 5 = 1 := by kernel_rfl
theorem Tryd.cells9 : Tryd.prog.cellsOf 9 = 1 := by kernel_rfl
theorem Tryd.cells42 : Tryd.prog.cellsOf 42 = 1 := by kernel_rfl
theorem Tryd.cells44 : Tryd.prog.cellsOf 44 = 2 := by kernel_rfl
theorem Tryd.cells46 : Tryd.prog.cellsOf 46 = 3 := by kernel_rfl
section
variable {H : Type} {enc : TypeId × Value → H}
theorem spot_none {w : World} {a : Addr} {v : Value} (h : w.cell? (a.add 0) = some v) : ∃ b o, a = ⟨b, o, none⟩ := by
  obtain ⟨b, o, s⟩ := a
  have hs : s = none := by simpa [Addr.add] using World.cell?_spot h
  exact ⟨b, o, by rw [hs]⟩
set_option maxRecDepth 100000 in
theorem rows_of_trod {W : World} {b0 n : Nat} {held : Bool} {v : Value} {y : DataW H × List MemPlace} (hf : DataW.trod enc Tryd.prog W b0 (fun _ => true) held n 42 [v] = some y) :
    ∃ a c l, v = .slice a (List.length l) c ∧ Rows W a l := by
  rcases open_int_rows Tryd.underlying42 Tryd.underlying57 Tryd.underlying3 Tryd.cells57 Tryd.cells3 hf with ⟨hcs0, hx⟩ | ⟨a, len, cap, A, L, C, Z, hcs0, _, hl, hm, hx, hrows⟩
  · simp at hcs0
    subst hcs0
    exact ⟨none, 0, [], rfl, [], Row.nil, rfl, fun i u xs h => by simp at h⟩
  · simp at hcs0
    subst hcs0
    refine ⟨some a, cap, (List.range len).map (fun r => (Z r).take (L r)), by simp, (List.range len).map (fun r => Value.slice (A r) (L r) (C r)), ?_, by simp, ?_⟩
    · refine ⟨by simp; omega, fun i u hu => ?_⟩
      have hi : i < len := by have := (List.getElem?_eq_some_iff.1 hu).1; simpa using this
      rw [List.getElem?_map, List.getElem?_range hi] at hu
      cases hu
      obtain ⟨b, o, rfl⟩ := spot_none (hrows 0 (by omega)).1
      have hc := (hrows i (by omega)).1
      rw [add_zero_addr] at hc
      exact ⟨b, o, rfl, block_lt_of_cell hc, hc⟩
    · intro i u xs hu hx
      have hi : i < len := by have := (List.getElem?_eq_some_iff.1 hu).1; simpa using this
      rw [List.getElem?_map, List.getElem?_range hi] at hu hx
      cases hu
      cases hx
      obtain ⟨_, h1, h2, h3, _, h5, h6⟩ := hrows i (by omega)
      have hlen : ((Z i).take (L i)).length = L i := by simp; omega
      refine ⟨A i, C i, by rw [hlen], ⟨by simp; omega, fun j u hu => ?_⟩, by rw [hlen]; exact h1⟩
      have hj : j < L i := by have := (List.getElem?_eq_some_iff.1 hu).1; simp at this; omega
      rw [List.getElem?_map, List.getElem?_take, if_pos hj, List.getElem?_eq_getElem (by omega)] at hu
      cases hu
      cases hA : A i with
      | none => have := h5 hA; omega
      | some a' =>
        obtain ⟨_, hcell⟩ := h6 a' hA
        obtain ⟨b, o, rfl⟩ := spot_none (hcell 0 (by omega))
        have hc := hcell j (by omega)
        rw [add_zero_addr] at hc
        have hz : (Z i).getD j 0 = (Z i)[j] := by simp [List.getD, List.getElem?_eq_getElem (show j < (Z i).length by omega)]
        rw [hz] at hc
        exact ⟨b, o, rfl, block_lt_of_cell hc, hc⟩
/-- One element. -/
def EntAt (W : World) (a : Addr) (i : Nat) (e : Ent) : Prop := ∃ g c, W.cell? (a.add (i * 3)) = some (.string e.name) ∧ W.cell? (a.add (i * 3 + 1)) = some (.int .i64 e.deg) ∧ W.cell? (a.add (i * 3 + 2)) = some (.slice g e.gens.length c) ∧ Rows W g e.gens ∧ e.name.size ≤ maxLen
set_option maxRecDepth 100000 in
theorem entAt_of_trod {W : World} {b0 n i : Nat} {held : Bool} {a : Addr} {cs : List Value} {y : DataW H × List MemPlace} (hc : W.cells? b0 (a.add (i * 3)) 3 = some cs) (ht : DataW.trod enc Tryd.prog W b0 (fun _ => true) held n 46 cs = some y) : ∃ e, EntAt W a i e := by
  obtain ⟨_, hcl, hat⟩ := World.cells?_some hc
  match cs, hcl, hat, ht with
  | [c0, c1, c2], _, hat, ht =>
    obtain ⟨ys, n', _, _, _, hyl, hf⟩ := DataW.trod_struct Tryd.underlying46 ht
    have f0 : DataW.trod enc Tryd.prog W b0 (fun _ => true) held n' 9 (([c0, c1, c2].drop 0).take (Tryd.prog.cellsOf 9)) = ys[0]? := hf 0 _ rfl
    have f1 : DataW.trod enc Tryd.prog W b0 (fun _ => true) held n' 44 (([c0, c1, c2].drop 1).take (Tryd.prog.cellsOf 44)) = ys[1]? := hf 1 _ rfl
    rw [Tryd.cells9] at f0
    rw [Tryd.cells44] at f1
    simp only [List.drop_zero, List.take_succ_cons, List.take_zero, List.drop_succ_cons] at f0 f1
    have hy0 : ys[0]? = some (ys[0]'(by rw [hyl]; decide)) := List.getElem?_eq_getElem _
    have hy1 : ys[1]? = some (ys[1]'(by rw [hyl]; decide)) := List.getElem?_eq_getElem _
    rw [hy0] at f0
    rw [hy1] at f1
    obtain ⟨s, hs, _, hsz⟩ := DataW.trod_string Tryd.underlying9 f0
    obtain ⟨zs, n2, _, _, _, hzl, hg⟩ := DataW.trod_struct Tryd.underlying44 f1
    have g0 : DataW.trod enc Tryd.prog W b0 (fun _ => true) held n2 3 (([c1, c2].drop 0).take (Tryd.prog.cellsOf 3)) = zs[0]? := hg 0 _ rfl
    have g1 : DataW.trod enc Tryd.prog W b0 (fun _ => true) held n2 42 (([c1, c2].drop 1).take (Tryd.prog.cellsOf 42)) = zs[1]? := hg 1 _ rfl
    rw [Tryd.cells3] at g0
    rw [Tryd.cells42] at g1
    simp only [List.drop_zero, List.take_succ_cons, List.take_zero, List.drop_succ_cons] at g0 g1
    have hz0 : zs[0]? = some (zs[0]'(by rw [hzl]; decide)) := List.getElem?_eq_getElem _
    have hz1 : zs[1]? = some (zs[1]'(by rw [hzl]; decide)) := List.getElem?_eq_getElem _
    rw [hz0] at g0
    rw [hz1] at g1
    obtain ⟨dg, hd, _, _⟩ := DataW.trod_int Tryd.underlying3 g0
    obtain ⟨g, c, gens, rfl, hr⟩ := rows_of_trod g1
    simp at hs hd
    subst hs; subst hd
    refine ⟨⟨s, dg, gens⟩, g, c, ?_, ?_, ?_, hr, hsz⟩
    · have := hat 0 (by decide); rw [add_of_add] at this; exact this
    · have := hat 1 (by decide); rw [add_of_add] at this; exact this
    · have := hat 2 (by decide); rw [add_of_add] at this; exact this
set_option maxRecDepth 100000 in
theorem open_ents {W : World} {base b0 : Nat} {v : Value} {d : DataW H} {p : List MemPlace} (hv : Value.okWide Tryd.prog W .any base 22 v) (h : DataW.Trod enc Tryd.prog W b0 (fun _ => true) true 22 v d p) :
    ∃ a c l, v = .slice a (List.length l) c ∧ Ents W a l := by
  obtain ⟨a0, len, cap, rfl⟩ := okWide_slice Tryd.underlying22 hv
  obtain ⟨fuel, hf⟩ := h
  rcases open_slice Tryd.underlying22 hf with ⟨hcs0, hx⟩ | ⟨a, len', cap', m, n, D, Pl, hcs0, hb, hl, hm, hmm, hx, hi⟩
  · simp [Value.cells] at hcs0
    obtain ⟨rfl, rfl, rfl⟩ := hcs0
    exact ⟨none, 0, [], rfl, by simp, by simp, fun i e he => by simp at he⟩
  · simp [Value.cells] at hcs0
    obtain ⟨rfl, rfl, rfl⟩ := hcs0
    simp only [if_true] at hmm
    subst hmm
    rw [Tryd.cells46] at hi
    have each : ∀ i, ∃ e, i < len → EntAt W a i e := fun i => by
      by_cases hlt : i < len
      · obtain ⟨cs, hc, ht⟩ := hi i (by omega)
        obtain ⟨e, he⟩ := entAt_of_trod hc ht
        exact ⟨e, fun _ => he⟩
      · exact ⟨⟨⟨#[]⟩, 0, []⟩, fun h => absurd h hlt⟩
    obtain ⟨f, hfe⟩ := Classical.axiomOfChoice each
    refine ⟨some a, m, (List.range len).map f, by simp, by simp; unfold maxLen at hm; omega, fun e he => ?_, fun i e he => ?_⟩
    · obtain ⟨i, hi', rfl⟩ := List.mem_map.1 he
      obtain ⟨_, _, _, _, _, _, hs⟩ := hfe i (by simpa using hi')
      unfold maxLen at hs; omega
    · have hlt : i < len := by have := (List.getElem?_eq_some_iff.1 he).1; simpa using this
      rw [List.getElem?_map, List.getElem?_range hlt] at he
      cases he
      obtain ⟨g, c, c0, c1, c2, hr, _⟩ := hfe i hlt
      obtain ⟨_, _, z0, _⟩ := hfe 0 (by omega)
      rw [Nat.zero_mul] at z0
      obtain ⟨b, o, rfl⟩ := spot_none z0
      rw [add_zero_addr] at c0 c1 c2
      rw [← Nat.add_assoc] at c1 c2
      exact ⟨b, o, g, c, rfl, block_lt_of_cell c0, c0, c1, c2, hr⟩
set_option maxRecDepth 100000 in
theorem open_byts {W : World} {base b0 : Nat} {v : Value} {d : DataW H} {p : List MemPlace} (hv : Value.okWide Tryd.prog W .any base 23 v) (h : DataW.Trod enc Tryd.prog W b0 (fun _ => true) true 23 v d p) :
    ∃ a c xs, v = .slice a (List.length xs) c ∧ Byts W a xs ∧ (∀ x ∈ xs, x < 256) ∧ xs.length ≤ c := by
  obtain ⟨a0, len, cap, rfl⟩ := okWide_slice Tryd.underlying23 hv
  obtain ⟨fuel, hf⟩ := h
  rcases open_slice Tryd.underlying23 hf with ⟨hcs0, hx⟩ | ⟨a, len', cap', m, n, D, Pl, hcs0, hb, hl, hm, hmm, hx, hi⟩
  · simp [Value.cells] at hcs0
    obtain ⟨rfl, rfl, rfl⟩ := hcs0
    exact ⟨none, 0, [], rfl, Row.nil, by simp, by simp⟩
  · simp [Value.cells] at hcs0
    obtain ⟨rfl, rfl, rfl⟩ := hcs0
    simp only [if_true] at hmm
    subst hmm
    rw [Tryd.cells5] at hi
    have each : ∀ i, ∃ x : Nat, i < len → W.cell? (a.add i) = some (.int .u8 (x : Int)) ∧ x < 256 := fun i => by
      by_cases hlt : i < len
      · obtain ⟨cs, hc, ht⟩ := hi i (by omega)
        obtain ⟨_, hcl, hat⟩ := World.cells?_some hc
        obtain ⟨x, rfl, _, hwf⟩ := DataW.trod_int Tryd.underlying5 ht
        have hx : 0 ≤ x ∧ x < 256 := by
          have h2 : IntKind.u8.min ≤ x ∧ x ≤ IntKind.u8.max := by simpa [Lit.wf] using hwf
          have h3 : IntKind.u8.min = 0 := by decide
          have h4 : IntKind.u8.max = 255 := by decide
          omega
        refine ⟨x.toNat, fun _ => ⟨?_, by omega⟩⟩
        have := hat 0 (by decide)
        rw [add_of_add, Nat.mul_one, Nat.add_zero] at this
        rw [this, show ((x.toNat : Nat) : Int) = x by omega]; rfl
      · exact ⟨0, fun h => absurd h hlt⟩
    obtain ⟨f, hfe⟩ := Classical.axiomOfChoice each
    refine ⟨some a, m, (List.range len).map f, by simp, ⟨by simp [byts]; omega, fun i u hu => ?_⟩, fun x hx => ?_, by simpa using hl⟩
    · have hlt : i < len := by have := (List.getElem?_eq_some_iff.1 hu).1; simpa [byts] using this
      simp [byts, List.getElem?_range hlt] at hu
      subst hu
      have hc := (hfe i hlt).1
      obtain ⟨b, o, rfl⟩ := spot_none (hfe 0 (by omega)).1
      rw [add_zero_addr] at hc
      exact ⟨b, o, rfl, block_lt_of_cell hc, hc⟩
    · obtain ⟨i, hi', rfl⟩ := List.mem_map.1 hx
      exact (hfe i (by simpa using hi')).2
end
end Go.Proofs.YtjjjnpolhbbepaaDoor
