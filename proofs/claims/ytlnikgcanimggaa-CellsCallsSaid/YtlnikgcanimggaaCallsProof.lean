/- CellsCalls: the row, over its walk. -/
import Derived.Test.YtlnikgcanimggaaRows
import Derived.Test.YtlnikgcanimggaaOpenInts
import Derived.Test.YtlnikgcanimggaaLawCalls
import Derived.Carry
import Derived.RowKit
import Derived.RowKit2
import Derived.RowKit3
import Derived.ProofKit
import Derived.JoinedFifth
import Derived.OpenShut
set_option linter.unusedSimpArgs false
set_option linter.unusedVariables false
namespace Go.Proofs.Ytlnikgcanimggaa
open Go.ChangeShapes Go.WideShapes Go.ChangeAt Go.RowKit
namespace LawCellsCalls
theorem own : ownKnob Try.prog.godebug = none := by kernel_rfl
theorem laidOut : laidOutB Try.prog = true := by kernel_rfl
theorem params : Try.f6.params = #[3, 22, 29, 29, 3] := by kernel_rfl
theorem results : Try.f6.resultTypes = #[4] := by kernel_rfl

set_option maxRecDepth 100000 in
theorem lifted (os : Os) (started : os.Started) (H : Type) (enc : TypeId × Value → H) :
    ReturnsInHanded {} Try.checked os 6 .any (Rows.cellsCallsSpec.pre6 enc Try.prog Try.f6 Rows.cellsCallsRow.domain false) (Rows.cellsCallsSpec.post enc Try.prog Try.f6 false true false false) := by
  refine returnsInHanded_of_change (C := Try.checked) own started (by kernel_rfl) Try.func6
    (ChangeSpec.witness6 (enc := enc) (C := Try.checked) false ⟨#[], #[.int .i64 0, .slice none 0 0, .slice none 0 0, .slice none 0 0, .int .i64 0], []⟩ 8 (by kernel_rfl) (by kernel_rfl) (by kernel_rfl) (by kernel_rfl)) ?_
  intro W base args ds gs before hval0 hW hcnd _
  have hval : ∀ (j : Nat) t v, Try.f6.params[j]? = some t → args[j]? = some v → Value.okWide Try.prog W .any base t v := hval0
  have hW' := hW
  obtain ⟨p, q, hA0, hV, rfl, hfz, hnd⟩ := hW
  have hA : DataW.TrodAll enc Try.prog W 0 (fun _ => true) true Try.f6.params.toList args.toList ds p := hA0
  have hV0 : DataW.TrodVars enc Try.prog W (fun _ => true) [] gs q := hV
  obtain ⟨rfl, rfl⟩ := trodVars_none hV0
  rw [params] at hA hval
  obtain ⟨v0, v1, v2, v3, v4, d0, d1, d2, d3, d4, p0, p1, p2, p3, p4, rfl, rfl, rfl, h0, h1, h2, h3, h4⟩ := trodAll_five hA
  have hlt : ∀ x ∈ (p0 ++ p1 ++ p2 ++ p3 ++ p4) ++ [], x.block < W.heap.size := fun x hx => hW'.lt x hx
  obtain ⟨n0, rfl, rfl, rfl, wn0⟩ := open_int Try.underlying3 (hval 0 3 v0 rfl rfl) h0
  obtain ⟨a1, c1, l1, rfl, hr1⟩ := open_rows (hval 1 22 v1 rfl rfl) h1
  obtain ⟨a2, c2, l2, rfl, hr2⟩ := open_ints1 Try.underlying29 (hval 2 29 v2 rfl rfl) h2
  obtain ⟨a3, c3, l3, rfl, hr3⟩ := open_ints1 Try.underlying29 (hval 3 29 v3 rfl rfl) h3
  obtain ⟨n4, rfl, rfl, rfl, wn4⟩ := open_int Try.underlying3 (hval 4 3 v4 rfl rfl) h4
  refine (cellsCalls_calls n0 n4 a1 a2 a3 c1 c2 c3 l1 l2 l3 W hr1 hr2 hr3).mono fun e W' ⟨he, hb⟩ => ?_
  subst he
  refine ⟨_, rfl, _, _, _, [], [] ++ (p1 ++ (p2 ++ (p3 ++ ([])))), [], hW', ?_, ?_, ?_, ?_, fun h => by cases h⟩
  · rw [results]
    exact trodAll_mk1 (shut_bool Try.underlying4 _)
  · rw [params]
    exact ⟨_, _, (shut_int Try.underlying3 wn0), trodAll_mk4 (Below.trod laidOut (by kernel_rfl) (of_decide_eq_true (by kernel_rfl)) h1 hb (fun x hx => hlt x (by simp [hx]))) (Below.trod laidOut (by kernel_rfl) (of_decide_eq_true (by kernel_rfl)) h2 hb (fun x hx => hlt x (by simp [hx]))) (Below.trod laidOut (by kernel_rfl) (of_decide_eq_true (by kernel_rfl)) h3 hb (fun x hx => hlt x (by simp [hx]))) (shut_int Try.underlying3 wn4), rfl⟩
  · exact rfl
  · exact hb.frame _
end LawCellsCalls

theorem calls_true : Rows.CellsCallsSaid :=
  OpenClaim.holds_of_wide 6 Try.f6 rfl rfl rfl rfl rfl rfl rfl ⟨rfl, rfl, rfl, rfl, rfl⟩ rfl rfl rfl rfl rfl (by kernel_rfl) Try.func6 (by kernel_rfl)
    (of_decide_eq_true (by kernel_rfl)) (by unfold Func.isWrapper; first | (rw [if_pos (by decide +kernel)]; kernel_rfl) | (rw [if_neg (by decide +kernel)]; exact ⟨rfl, rfl⟩))
    (fun os started H enc _ => LawCellsCalls.lifted os started H enc)
#print axioms calls_true
end Go.Proofs.Ytlnikgcanimggaa
