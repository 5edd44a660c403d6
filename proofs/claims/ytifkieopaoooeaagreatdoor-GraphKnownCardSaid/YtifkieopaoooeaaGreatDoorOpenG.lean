/- Arguments read: []int. -/
import Derived.Test.YtifkieopaoooeaaGreatDoorBase
import Derived.Test.YtifkieopaoooeaaGreatDoorProg
import Derived.Deep.Matrix
import Derived.Below
import Derived.ChangeSame
set_option linter.unusedSimpArgs false
set_option linter.unusedVariables false
namespace Go.Proofs.YtifkieopaoooeaaGreatDoor
open Go.RowKit Go.WideShapes Go.ChangeShapes Go.Deep
theorem Tryz.cells3 : Tryz.prog.cellsOf 3 = 1 := by kernel_rfl
section
variable {H : Type} {enc : TypeId × Value → H}
theorem spot_none {w : World} {a : Addr} {v : Value} (h : w.cell? (a.add 0) = some v) : ∃ b o, a = ⟨b, o, none⟩ := by
  obtain ⟨b, o, s⟩ := a
  have hs : s = none := by simpa [Addr.add] using World.cell?_spot h
  exact ⟨b, o, by rw [hs]⟩
set_option maxRecDepth 100000 in
theorem open_ints1 {t : TypeId} (ht : Tryz.prog.underlying t = some (.slice 3)) {W : World} {base b0 : Nat} {v : Value} {d : DataW H} {p : List MemPlace} (hv : Value.okWide Tryz.prog W .any base t v) (h : DataW.Trod enc Tryz.prog W b0 (fun _ => true) true t v d p) :
    ∃ a c l, v = .slice a (List.length l) c ∧ Ints W a l := by
  obtain ⟨a0, len, cap, rfl⟩ := okWide_slice ht hv
  obtain ⟨fuel, hf⟩ := h
  rcases Go.ChangeShapes.open_ints ht Tryz.underlying3 Tryz.cells3 hf with ⟨hcs0, hx⟩ | ⟨a, len', cap', zs, hcs0, _, hl, hm, hzl, hx, hcell, hwf⟩
  · simp [Value.cells] at hcs0
    obtain ⟨rfl, rfl, rfl⟩ := hcs0
    exact ⟨none, 0, [], rfl, Row.nil⟩
  · simp [Value.cells] at hcs0
    obtain ⟨rfl, rfl, rfl⟩ := hcs0
    simp only [if_true] at hzl
    have hlen : (zs.take len).length = len := by simp; omega
    refine ⟨some a, cap, zs.take len, by rw [hlen], ⟨by simp; omega, fun i u hu => ?_⟩⟩
    have hi : i < len := by have := (List.getElem?_eq_some_iff.1 hu).1; simp at this; omega
    rw [List.getElem?_map, List.getElem?_take, if_pos hi, List.getElem?_eq_getElem (by omega)] at hu
    cases hu
    have hc := hcell i (by omega)
    obtain ⟨b, o, rfl⟩ := spot_none (hcell 0 (by omega))
    rw [add_zero_addr] at hc
    have hz : zs.getD i 0 = zs[i] := by simp [List.getD, List.getElem?_eq_getElem (show i < zs.length by omega)]
    rw [hz] at hc
    exact ⟨b, o, rfl, block_lt_of_cell hc, hc⟩
end
end Go.Proofs.YtifkieopaoooeaaGreatDoor
