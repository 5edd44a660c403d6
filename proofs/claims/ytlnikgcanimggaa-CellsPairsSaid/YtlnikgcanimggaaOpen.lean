/- An argument of type [][]int reads as rows; the row proof's last step. -/
import Derived.Test.YtlnikgcanimggaaBase
import Derived.Test.YtlnikgcanimggaaProg
import Derived.Deep.Matrix
import Derived.Below
import Derived.ChangeSame
set_option linter.unusedSimpArgs false
set_option linter.unusedVariables false
namespace Go.Proofs.Ytlnikgcanimggaa
open Go.RowKit Go.WideShapes Go.ChangeShapes Go.Deep
theorem Try.cells29 : Try.prog.cellsOf 29 = 1 := by kernel_rfl
theorem Try.cells3 : Try.prog.cellsOf 3 = 1 := by kernel_rfl

section
variable {H : Type} {enc : TypeId × Value → H}
theorem spot_none {w : World} {a : Addr} {v : Value} (h : w.cell? (a.add 0) = some v) : ∃ b o, a = ⟨b, o, none⟩ := by
  obtain ⟨b, o, s⟩ := a
  have hs : s = none := by simpa [Addr.add] using World.cell?_spot h
  exact ⟨b, o, by rw [hs]⟩
set_option maxRecDepth 100000 in
theorem open_rows {W : World} {base b0 : Nat} {v : Value} {d : DataW H} {p : List MemPlace} (hv : Value.okWide Try.prog W .any base 22 v) (h : DataW.Trod enc Try.prog W b0 (fun _ => true) true 22 v d p) :
    ∃ a c l, v = .slice a (List.length l) c ∧ Rows W a l := by
  obtain ⟨a0, len, cap, rfl⟩ := okWide_slice Try.underlying22 hv
  obtain ⟨fuel, hf⟩ := h
  rcases open_int_rows Try.underlying22 Try.underlying29 Try.underlying3 Try.cells29 Try.cells3 hf with ⟨hcs0, hx⟩ | ⟨a, len', cap', A, L, C, Z, hcs0, _, hl, hm, hx, hrows⟩
  · simp [Value.cells] at hcs0
    obtain ⟨rfl, rfl, rfl⟩ := hcs0
    exact ⟨none, 0, [], rfl, [], Row.nil, rfl, fun i u xs h => by simp at h⟩
  · simp [Value.cells] at hcs0
    obtain ⟨rfl, rfl, rfl⟩ := hcs0
    refine ⟨some a, cap, (List.range len).map (fun r => (Z r).take (L r)), by simp, (List.range len).map (fun r => Value.slice (A r) (L r) (C r)), ?_, by simp, ?_⟩
    · refine ⟨by simp; omega, fun i u hu => ?_⟩
      have hi : i < len := by have := (List.getElem?_eq_some_iff.1 hu).1; simpa using this
      rw [List.getElem?_map, List.getElem?_range hi] at hu
      cases hu
      obtain ⟨b, o, rfl⟩ := spot_none (hrows 0 (by omega)).1
      have hc := (hrows i (by omega)).1
      rw [add_zero_addr] at hc
      exact ⟨b, o, rfl, block_lt_of_cell hc, hc⟩
    · intro i u xs hu hx
      have hi : i < len := by have := (List.getElem?_eq_some_iff.1 hu).1; simpa using this
      rw [List.getElem?_map, List.getElem?_range hi] at hu hx
      cases hu
      cases hx
      obtain ⟨_, h1, h2, h3, _, h5, h6⟩ := hrows i (by omega)
      have hlen : ((Z i).take (L i)).length = L i := by simp; omega
      refine ⟨A i, C i, by rw [hlen], ⟨by simp; omega, fun j u hu => ?_⟩⟩
      have hj : j < L i := by have := (List.getElem?_eq_some_iff.1 hu).1; simp at this; omega
      rw [List.getElem?_map, List.getElem?_take, if_pos hj, List.getElem?_eq_getElem (by omega)] at hu
      cases hu
      cases hA : A i with
      | none => have := h5 hA; omega
      | some a' =>
        obtain ⟨_, hcell⟩ := h6 a' hA
        obtain ⟨b, o, rfl⟩ := spot_none (hcell 0 (by omega))
        have hc := hcell j (by omega)
        rw [add_zero_addr] at hc
        have hz : (Z i).getD j 0 = (Z i)[j] := by simp [List.getD, List.getElem?_eq_getElem (show j < (Z i).length by omega)]
        rw [hz] at hc
        exact ⟨b, o, rfl, block_lt_of_cell hc, hc⟩
end
end Go.Proofs.Ytlnikgcanimggaa
