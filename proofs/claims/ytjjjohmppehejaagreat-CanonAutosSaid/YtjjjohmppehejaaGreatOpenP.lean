/- Arguments read: []int. · Arguments read: [][2]int, a graph. -/
import Derived.Test.YtjjjohmppehejaaGreatBase
import Derived.Test.YtjjjohmppehejaaGreatProg
import Derived.Test.YtjjjohmppehejaaGreatVerts
import Derived.Deep.Matrix
import Derived.Below
import Derived.ChangeSame
import Derived.Deep.Slices
import Derived.Deep.Fields
import Derived.OpenShut
set_option linter.unusedSimpArgs false
set_option linter.unusedVariables false
namespace Go.Proofs.YtjjjohmppehejaaGreat
open Go.RowKit Go.WideShapes Go.ChangeShapes Go.Deep
theorem Tryz.cells3 : Tryz.prog.cellsOf 3 = 1 := by kernel_rfl
section
variable {H : Type} {enc : TypeId × Value → H}
theorem spot_none {w : World} {a : Addr} {v : Value} (h : w.cell? (a.add 0) = some v) : ∃ b o, a = ⟨b, o, none⟩ := by
  obtain ⟨b, o, s⟩ := a
  have hs : s = none := by simpa [Addr.add] using World.cell?_spot h
  exact ⟨b, o, by rw [hs]⟩
set_option maxRecDepth 100000 in
theorem open_ints1 {t : TypeId} (ht : Tryz.prog.underlying t = some (.slice 3)) {W : World} {base b0 : Nat} {v : Value} {d : DataW H} {p : List MemPlace} (hv : Value.okWide Tryz.prog W .any base t v) (h : DataW.Trod enc Tryz.prog W b0 (fun _ => true) true t v d p) :
    ∃ a c l, v = .slice a (List.length l) c ∧ Ints W a l := by
  obtain ⟨a0, len, cap, rfl⟩ := okWide_slice ht hv
  obtain ⟨fuel, hf⟩ := h
  rcases Go.ChangeShapes.open_ints ht Tryz.underlying3 Tryz.cells3 hf with ⟨hcs0, hx⟩ | ⟨a, len', cap', zs, hcs0, _, hl, hm, hzl, hx, hcell, hwf⟩
  · simp [Value.cells] at hcs0
    obtain ⟨rfl, rfl, rfl⟩ := hcs0
    exact ⟨none, 0, [], rfl, Row.nil⟩
  · simp [Value.cells] at hcs0
    obtain ⟨rfl, rfl, rfl⟩ := hcs0
    simp only [if_true] at hzl
    have hlen : (zs.take len).length = len := by simp; omega
    refine ⟨some a, cap, zs.take len, by rw [hlen], ⟨by simp; omega, fun i u hu => ?_⟩⟩
    have hi : i < len := by have := (List.getElem?_eq_some_iff.1 hu).1; simp at this; omega
    rw [List.getElem?_map, List.getElem?_take, if_pos hi, List.getElem?_eq_getElem (by omega)] at hu
    cases hu
    have hc := hcell i (by omega)
    obtain ⟨b, o, rfl⟩ := spot_none (hcell 0 (by omega))
    rw [add_zero_addr] at hc
    have hz : zs.getD i 0 = zs[i] := by simp [List.getD, List.getElem?_eq_getElem (show i < zs.length by omega)]
    rw [hz] at hc
    exact ⟨b, o, rfl, block_lt_of_cell hc, hc⟩
end
end Go.Proofs.YtjjjohmppehejaaGreat

namespace Go.Proofs.YtjjjohmppehejaaGreat
open Go.RowKit Go.WideShapes Go.ChangeShapes Go.Deep
theorem Tryz.cells58 : Tryz.prog.cellsOf 58 = 2 := by kernel_rfl
theorem Tryz.cells25 : Tryz.prog.cellsOf 25 = 3 := by kernel_rfl
theorem Tryz.cells22 : Tryz.prog.cellsOf 22 = 1 := by kernel_rfl
theorem Tryz.cells23 : Tryz.prog.cellsOf 23 = 1 := by kernel_rfl
section
variable {H : Type} {enc : TypeId × Value → H}
/-- One pair. -/
def PairAt (W : World) (a : Addr) (i : Nat) (x : Int × Int) : Prop := W.cell? (a.add (i * 2)) = some (.int .i64 x.1) ∧ W.cell? (a.add (i * 2 + 1)) = some (.int .i64 x.2)
set_option maxRecDepth 100000 in
theorem pairAt_of_trod {W : World} {b0 n i : Nat} {held : Bool} {a : Addr} {cs : List Value} {y : DataW H × List MemPlace} (hc : W.cells? b0 (a.add (i * 2)) 2 = some cs) (ht : DataW.trod enc Tryz.prog W b0 (fun _ => true) held n 58 cs = some y) : ∃ x, PairAt W a i x := by
  obtain ⟨_, hcl, hat⟩ := World.cells?_some hc
  match cs, hcl, hat, ht with
  | [c0, c1], _, hat, ht =>
    obtain ⟨ys, n', _, _, _, hyl, hf⟩ := DataW.trod_array Tryz.underlying58 ht
    have f0 := hf 0 (by decide)
    have f1 := hf 1 (by decide)
    rw [Tryz.cells3] at f0 f1
    simp only [Nat.zero_mul, Nat.one_mul, List.drop_zero, List.take_succ_cons, List.take_zero, List.drop_succ_cons] at f0 f1
    have hy0 : ys[0]? = some (ys[0]'(by rw [hyl]; decide)) := List.getElem?_eq_getElem _
    have hy1 : ys[1]? = some (ys[1]'(by rw [hyl]; decide)) := List.getElem?_eq_getElem _
    rw [hy0] at f0
    rw [hy1] at f1
    obtain ⟨x, hx, _, _⟩ := DataW.trod_int Tryz.underlying3 f0
    obtain ⟨y, hy, _, _⟩ := DataW.trod_int Tryz.underlying3 f1
    simp at hx hy
    subst hx; subst hy
    refine ⟨(x, y), ?_, ?_⟩
    · have := hat 0 (by decide); rw [add_of_add] at this; exact this
    · have := hat 1 (by decide); rw [add_of_add] at this; exact this
set_option maxRecDepth 100000 in
theorem edg_of_trod {W : World} {b0 n : Nat} {v : Value} {y : DataW H × List MemPlace} (hf : DataW.trod enc Tryz.prog W b0 (fun _ => true) true n 22 [v] = some y) :
    ∃ a c l, v = .slice a (List.length l) c ∧ Edg W a l := by
  rcases open_slice Tryz.underlying22 hf with ⟨hcs0, hx⟩ | ⟨a, len, cap, m, n, D, Pl, hcs0, hb, hl, hm, hmm, hx, hi⟩
  · simp at hcs0
    subst hcs0
    exact ⟨none, 0, [], rfl, by simp, by simp⟩
  · simp at hcs0
    subst hcs0
    simp only [if_true] at hmm
    subst hmm
    rw [Tryz.cells58] at hi
    have each : ∀ i, ∃ e, i < len → PairAt W a i e := fun i => by
      by_cases hlt : i < len
      · obtain ⟨cs, hc, ht⟩ := hi i (by omega)
        obtain ⟨e, he⟩ := pairAt_of_trod hc ht
        exact ⟨e, fun _ => he⟩
      · exact ⟨(0, 0), fun h => absurd h hlt⟩
    obtain ⟨f, hfe⟩ := Classical.axiomOfChoice each
    refine ⟨some a, m, (List.range len).map f, by simp, by simp; unfold maxLen at hm; omega, fun i e he => ?_⟩
    have hlt : i < len := by have := (List.getElem?_eq_some_iff.1 he).1; simpa using this
    rw [List.getElem?_map, List.getElem?_range hlt] at he
    cases he
    obtain ⟨c0, c1⟩ := hfe i hlt
    obtain ⟨z0, _⟩ := hfe 0 (by omega)
    rw [Nat.zero_mul] at z0
    obtain ⟨b, o, rfl⟩ := spot_none z0
    rw [add_zero_addr] at c0 c1
    rw [← Nat.add_assoc] at c1
    exact ⟨b, o, rfl, block_lt_of_cell c0, c0, c1⟩
set_option maxRecDepth 100000 in
theorem open_pairs {W : World} {base b0 : Nat} {v : Value} {d : DataW H} {p : List MemPlace} (hv : Value.okWide Tryz.prog W .any base 22 v) (h : DataW.Trod enc Tryz.prog W b0 (fun _ => true) true 22 v d p) :
    ∃ a c l, v = .slice a (List.length l) c ∧ Edg W a l := by
  obtain ⟨a0, len, cap, rfl⟩ := okWide_slice Tryz.underlying22 hv
  obtain ⟨fuel, hf⟩ := h
  exact edg_of_trod hf
set_option maxRecDepth 100000 in
theorem ints_of_trod {W : World} {b0 n : Nat} {v : Value} {y : DataW H × List MemPlace} (hf : DataW.trod enc Tryz.prog W b0 (fun _ => true) true n 23 [v] = some y) :
    ∃ a c l, v = .slice a (List.length l) c ∧ Ints W a l := by
  rcases Go.ChangeShapes.open_ints Tryz.underlying23 Tryz.underlying3 Tryz.cells3 hf with ⟨hcs0, hx⟩ | ⟨a, len', cap', zs, hcs0, _, hl, hm, hzl, hx, hcell, hwf⟩
  · simp at hcs0
    subst hcs0
    exact ⟨none, 0, [], rfl, Row.nil⟩
  · simp at hcs0
    subst hcs0
    simp only [if_true] at hzl
    have hlen : (zs.take len').length = len' := by simp; omega
    refine ⟨some a, cap', zs.take len', by rw [hlen], ⟨by simp; omega, fun i u hu => ?_⟩⟩
    have hi : i < len' := by have := (List.getElem?_eq_some_iff.1 hu).1; simp at this; omega
    rw [List.getElem?_map, List.getElem?_take, if_pos hi, List.getElem?_eq_getElem (by omega)] at hu
    cases hu
    have hc := hcell i (by omega)
    obtain ⟨b, o, rfl⟩ := spot_none (hcell 0 (by omega))
    rw [add_zero_addr] at hc
    have hz : zs.getD i 0 = zs[i] := by simp [List.getD, List.getElem?_eq_getElem (show i < zs.length by omega)]
    rw [hz] at hc
    exact ⟨b, o, rfl, block_lt_of_cell hc, hc⟩
set_option maxRecDepth 100000 in
theorem open_graph {W : World} {base b0 : Nat} {v : Value} {d : DataW H} {p : List MemPlace} (hv : Value.okWide Tryz.prog W .any base 25 v) (h : DataW.Trod enc Tryz.prog W b0 (fun _ => true) true 25 v d p) :
    ∃ a c b e, ∃ g : PlainG.Gr, v = .agg #[.int .i64 g.n, .slice a (List.length g.es) c, .slice b (List.length g.cs) e] ∧ Edg W a g.es ∧ Ints W b g.cs := by
  obtain ⟨cs, rfl, hsz⟩ := okWide_struct Tryz.underlying25 hv
  obtain ⟨fuel, hf⟩ := h
  obtain ⟨l⟩ := cs
  have hsz2 : l.length = 3 := by simpa [Tryz.cells25] using hsz
  match l, hsz2, hf with
  | [v0, v1, v2], _, hf =>
    have hf : DataW.trod enc Tryz.prog W b0 (fun _ => true) true fuel 25 [v0, v1, v2] = some (d, p) := hf
    obtain ⟨ys, n', _, _, _, hyl, hf⟩ := DataW.trod_struct Tryz.underlying25 hf
    have f0 : DataW.trod enc Tryz.prog W b0 (fun _ => true) true n' 3 (([v0, v1, v2].drop 0).take (Tryz.prog.cellsOf 3)) = ys[0]? := hf 0 _ rfl
    have f1 : DataW.trod enc Tryz.prog W b0 (fun _ => true) true n' 22 (([v0, v1, v2].drop 1).take (Tryz.prog.cellsOf 22)) = ys[1]? := hf 1 _ rfl
    have f2 : DataW.trod enc Tryz.prog W b0 (fun _ => true) true n' 23 (([v0, v1, v2].drop 2).take (Tryz.prog.cellsOf 23)) = ys[2]? := hf 2 _ rfl
    rw [Tryz.cells3] at f0
    rw [Tryz.cells22] at f1
    rw [Tryz.cells23] at f2
    simp only [List.drop_zero, List.take_succ_cons, List.take_zero, List.drop_succ_cons] at f0 f1 f2
    have hy0 : ys[0]? = some (ys[0]'(by rw [hyl]; decide)) := List.getElem?_eq_getElem _
    have hy1 : ys[1]? = some (ys[1]'(by rw [hyl]; decide)) := List.getElem?_eq_getElem _
    have hy2 : ys[2]? = some (ys[2]'(by rw [hyl]; decide)) := List.getElem?_eq_getElem _
    rw [hy0] at f0
    rw [hy1] at f1
    rw [hy2] at f2
    obtain ⟨x, hx, _, _⟩ := DataW.trod_int Tryz.underlying3 f0
    obtain ⟨a, c, es, rfl, he⟩ := edg_of_trod f1
    obtain ⟨b, e, ks, rfl, hk⟩ := ints_of_trod f2
    simp at hx
    subst hx
    exact ⟨a, c, b, e, ⟨x, es, ks⟩, rfl, he, hk⟩
end
end Go.Proofs.YtjjjohmppehejaaGreat
