/- A map of the call's own from points to distances. -/
import Derived.Test.YtifkieopaoooeaaGreatDoorPlainDist
import Derived.Test.YtifkieopaoooeaaGreatDoorFromR
import Derived.Maps.OwnSet
import Derived.Carry
set_option linter.unusedSimpArgs false
set_option linter.unusedVariables false
namespace Go.Proofs.YtifkieopaoooeaaGreatDoor
open Go.RowKit Plain PlainG Go.Maps
theorem law3 : Keyed Tryz.prog 3 := int_keyed Tryz.underlying3
theorem zero3 (w : World) : (zeroValue 3).run Tryz.prog w = .ok (.int .i64 0) w := by kernel_rfl
theorem wf_small {u : Nat} (h : u < 1000000) : (Lit.int .i64 (u : Int)).wf = true := by
  have : IntKind.i64.wrap (u : Int) = (u : Int) := IntWalk.i64_in _ (by omega)
  have hm : IntKind.i64.min = -9223372036854775808 := by rfl
  simp [Lit.wf, this, hm]
  omega
theorem key_small {u : Nat} (h : u < 1000000) : keyOf Tryz.prog 3 (.int .i64 (u : Int)) = some (.int .i64 (u : Int)) := keyOf_int_mk Tryz.underlying3 (wf_small h)
/-- Block b is a map that says how far the points of Q are. -/
def FarM (w : World) (b : Nat) (Q : List (Nat × Nat)) : Prop :=
  ∃ D : DataW Unit, w.ownsMap Tryz.prog 3 (plainElem Tryz.prog 3) b Q.length D ∧ ∀ u : Nat, Maps.has D (.int .i64 (u : Int)) = (farOf Q u).isSome ∧ ∀ d, farOf Q u = some d → ∀ z, D.atKey (.int .i64 (u : Int)) z = .lit (.int .i64 (d : Int))
theorem farOf_app {Q : List (Nat × Nat)} {u d v : Nat} (h : farOf Q u = none) : farOf (Q ++ [(u, d)]) v = if v = u then some d else farOf Q v := by
  unfold farOf at *
  rw [List.find?_append]
  by_cases e : v = u
  · subst e
    rw [if_pos rfl]
    cases hq : Q.find? (fun x => x.1 == v) with
    | none => simp
    | some y => rw [hq] at h; simp at h
  · rw [if_neg e]
    cases hq : Q.find? (fun x => x.1 == v) with
    | none =>
      have : (u == v) = false := by simp; exact fun e2 => e e2.symm
      simp [this]
    | some y => simp
theorem FarM.kept {w w' : World} {b : Nat} {Q : List (Nat × Nat)} {row : Option Nat} (h : FarM w b Q) (hg : w.grownBy w' row) (hne : some b ≠ row) : FarM w' b Q := by
  obtain ⟨D, h1, h2⟩ := h
  exact ⟨D, h1.kept hg hne, h2⟩
theorem FarM.lt {w : World} {b : Nat} {Q : List (Nat × Nat)} (h : FarM w b Q) : b < w.heap.size := by
  obtain ⟨D, h1, _⟩ := h
  exact h1.lt
/-- What a look-up says. -/
theorem FarM.look {w : World} {b : Nat} {Q : List (Nat × Nat)} (h : FarM w b Q) {u : Nat} (hu : u < 1000000) :
    ∃ c : Int, (Instr.lookup 112 (.map (some b)) (.int .i64 (u : Int)) true).run Tryz.prog w = .ok (.tuple #[.int .i64 c, .bool (farOf Q u).isSome]) w ∧ ∀ d, farOf Q u = some d → c = (d : Int) := by
  obtain ⟨D, h1, h2⟩ := h
  obtain ⟨v, ps, hrun, hv⟩ := h1.look_ok law3 Tryz.underlying112 (zero3 w) (plainElem_int Tryz.underlying3 (by decide)) (key_small hu)
  obtain ⟨c, rfl, hc, _⟩ := plainElem_int_inv Tryz.underlying3 hv
  simp only [Prod.mk.injEq] at hc
  refine ⟨c, by rw [hrun, (h2 u).1], fun d hd => ?_⟩
  have := (h2 u).2 d hd (.lit (.int .i64 0))
  rw [hc.1] at this
  simpa only [DataW.lit.injEq, Lit.int.injEq, true_and] using this
theorem FarM.get {w : World} {b : Nat} {Q : List (Nat × Nat)} (h : FarM w b Q) {u d : Nat} (hu : u < 1000000) (hd : farOf Q u = some d) :
    (Instr.lookup 112 (.map (some b)) (.int .i64 (u : Int)) false).run Tryz.prog w = .ok (.int .i64 (d : Int)) w := by
  obtain ⟨D, h1, h2⟩ := h
  obtain ⟨c, hrun, hc, _⟩ := h1.lookup_int law3 Tryz.underlying112 Tryz.underlying3 (zero3 w) (key_small hu)
  rw [hrun]
  have := (h2 u).2 d hd (.lit (.int .i64 0))
  rw [hc] at this
  simp only [DataW.lit.injEq, Lit.int.injEq, true_and] at this
  rw [this]
theorem put_far {D : DataW Unit} {Q : List (Nat × Nat)} {u d : Nat} (hm : IsMap D) (hq : farOf Q u = none) (h : ∀ u : Nat, Maps.has D (.int .i64 (u : Int)) = (farOf Q u).isSome ∧ ∀ d, farOf Q u = some d → ∀ z, D.atKey (.int .i64 (u : Int)) z = .lit (.int .i64 (d : Int))) :
    ∀ v : Nat, Maps.has (D.put (.int .i64 (u : Int)) (.lit (.int .i64 (d : Int)))) (.int .i64 (v : Int)) = (farOf (Q ++ [(u, d)]) v).isSome ∧ ∀ e, farOf (Q ++ [(u, d)]) v = some e → ∀ z, (D.put (.int .i64 (u : Int)) (.lit (.int .i64 (d : Int)))).atKey (.int .i64 (v : Int)) z = .lit (.int .i64 (e : Int)) := by
  intro v
  rw [farOf_app hq]
  by_cases e : v = u
  · subst e
    rw [if_pos rfl]
    refine ⟨has_put_same hm (show WideAt.IsKeyLit (Lit.int .i64 (v : Int)) from trivial) _, fun e he z => ?_⟩
    cases he
    exact atKey_put_same hm (show WideAt.IsKeyLit (Lit.int .i64 (v : Int)) from trivial) _ _
  · rw [if_neg e]
    have hne : (Lit.int .i64 (v : Int)) ≠ Lit.int .i64 (u : Int) := fun h9 => by
      injection h9 with _ h9
      omega
    refine ⟨(has_put_other hne _).trans (h v).1, fun e he z => ?_⟩
    rw [atKey_put_other hne]
    exact (h v).2 e he z
theorem FarM.put {w : World} {b : Nat} {Q : List (Nat × Nat)} (h : FarM w b Q) {u d : Nat} (hu : u < 1000000) (hd : d < 1000000) (hq : farOf Q u = none) (hl : Q.length < 1000000) :
    ∃ w', (Instr.mapUpdate 112 (.map (some b)) (.int .i64 (u : Int)) (.int .i64 (d : Int))).run Tryz.prog w = .ok () w' ∧ FarM w' b (Q ++ [(u, d)]) ∧ w.grownBy w' (some b) := by
  obtain ⟨D, h1, h2⟩ := h
  obtain ⟨w', hrun, hown, hg⟩ := h1.update law3 Tryz.underlying112 (by unfold maxLen; omega) (key_small hu) (plainElem_int Tryz.underlying3 (wf_small hd))
  exact ⟨w', hrun, ⟨_, by rw [List.length_append]; exact hown, put_far h1.isMap hq h2⟩, hg⟩
theorem FarM.made (w : World) : FarM (w.alloc (.map #[] 0)) w.heap.size [] := ⟨.map [], World.ownsMap_made _ _ _ _, fun u => ⟨rfl, fun d h => by cases h⟩⟩
end Go.Proofs.YtifkieopaoooeaaGreatDoor
