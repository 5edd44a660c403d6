/- ClosureCores: the row, over its walk. -/
import Derived.Test.YtbejhkojdiadaaaGreatCo01
import Derived.Test.YtbejhkojdiadaaaGreatCo02
import Derived.Test.YtbejhkojdiadaaaGreatCo03
import Derived.Test.YtbejhkojdiadaaaGreatCo04
import Derived.Test.YtbejhkojdiadaaaGreatCo05
import Derived.Test.YtbejhkojdiadaaaGreatCo06
import Derived.Test.YtbejhkojdiadaaaGreatCo07
import Derived.Test.YtbejhkojdiadaaaGreatCo08
import Derived.Test.YtbejhkojdiadaaaGreatCo09
import Derived.Test.YtbejhkojdiadaaaGreatCo10
import Derived.Test.YtbejhkojdiadaaaGreatCo11
import Derived.Test.YtbejhkojdiadaaaGreatCo12
import Derived.Test.YtbejhkojdiadaaaGreatCo13
import Derived.Test.YtbejhkojdiadaaaGreatCo14
import Derived.Test.YtbejhkojdiadaaaGreatCo15
import Derived.Test.YtbejhkojdiadaaaGreatCo16
import Derived.Test.YtbejhkojdiadaaaGreatCo17
import Derived.Test.YtbejhkojdiadaaaGreatCo18
import Derived.Test.YtbejhkojdiadaaaGreatCo19
import Derived.Test.YtbejhkojdiadaaaGreatCo20
import Derived.Test.YtbejhkojdiadaaaGreatCo21
import Derived.Test.YtbejhkojdiadaaaGreatCo22
import Derived.Test.YtbejhkojdiadaaaGreatCo23
import Derived.Test.YtbejhkojdiadaaaGreatCo24
import Derived.Test.YtbejhkojdiadaaaGreatCo25
import Derived.Test.YtbejhkojdiadaaaGreatCo26
import Derived.Test.YtbejhkojdiadaaaGreatCo27
import Derived.Test.YtbejhkojdiadaaaGreatRows
import Derived.Test.YtbejhkojdiadaaaGreatProg
import Derived.Carry
import Derived.RowKit
import Derived.RowKit2
import Derived.RowKit3
import Derived.ProofKit
import Derived.JoinedFifth
import Derived.OpenShut
import Derived.WalkKit
import Derived.WalkSpells
import Derived.BigQuiet
import Derived.Deep.QuietTactic
import Derived.Deep.LoopGhost
import Derived.Lib.Hide
import Derived.Maps.AppendAt
import Derived.Deep.AppendLies
import Derived.StillTailTactics
import Derived.Laws.CopyOwn
import Derived.Deep.OwnRows
import Derived.Deep.DeepCutAuto
import Derived.Laws.Cover3
import Derived.Deep.RegionHeld3
import Derived.RangeFuncRecord
import Derived.Lib.SlicesSearch
import Derived.RangeFuncBox
import Derived.RangeFuncLeaves
import Derived.RangeFuncWrites
import Derived.RangeFuncFrom
import Derived.Shelf.Abstract
import Derived.OwnWalkIn
import Derived.TacticsInMore
import Derived.LoopNIn
import Derived.LoopIn
import Derived.Shelf.GgSortFunc.Insertion
import Derived.Shelf.SlIter.Collect
import Derived.Shelf.Sort.Plain
import Derived.Deep.RegionLaw
import Derived.ControlIn
import Derived.Deep.AppendSrc
import Derived.Laws.BytesArg
import Derived.Maps.OwnSet
import Derived.Maps.Range
import Derived.Deep.Matrix
import Derived.Below
import Derived.ChangeSame
import Derived.Deep.Slices
import Derived.Deep.Fields
set_option linter.unusedSimpArgs false
set_option linter.unusedVariables false
namespace Go.Proofs.YtbejhkojdiadaaaGreat
open Go.ChangeShapes Go.WideShapes Go.ChangeAt Go.RowKit
namespace LawClosureCores
theorem own : ownKnob Tryz.prog.godebug = none := by kernel_rfl
theorem laidOut : laidOutB Tryz.prog = true := by kernel_rfl
theorem params : Tryz.f9.params = #[26, 26, 3, 3] := by kernel_rfl
theorem results : Tryz.f9.resultTypes = #[4] := by kernel_rfl

set_option maxRecDepth 100000 in
theorem lifted (os : Os) (started : os.Started) (H : Type) (enc : TypeId × Value → H) :
    ReturnsInHanded {} Tryz.checked os 9 .any (Rows.closureCoresSpec.pre6 enc Tryz.prog Tryz.f9 Rows.closureCoresRow.domain false) (Rows.closureCoresSpec.post enc Tryz.prog Tryz.f9 false true false false) := by
  refine returnsInHanded_of_change (C := Tryz.checked) own started (by kernel_rfl) Tryz.func9
    (ChangeSpec.witness6 (enc := enc) (C := Tryz.checked) false ⟨#[], #[.slice none 0 0, .slice none 0 0, .int .i64 0, .int .i64 0], []⟩ 8 (by kernel_rfl) (by kernel_rfl) (by kernel_rfl) (by kernel_rfl)) ?_
  intro W base args ds gs before hval0 hW hcnd _
  have hval : ∀ (j : Nat) t v, Tryz.f9.params[j]? = some t → args[j]? = some v → Value.okWide Tryz.prog W .any base t v := hval0
  have hW' := hW
  obtain ⟨p, q, hA0, hV, rfl, hfz, hnd⟩ := hW
  have hA : DataW.TrodAll enc Tryz.prog W 0 (fun _ => true) true Tryz.f9.params.toList args.toList ds p := hA0
  have hV0 : DataW.TrodVars enc Tryz.prog W (fun _ => true) [] gs q := hV
  obtain ⟨rfl, rfl⟩ := trodVars_none hV0
  rw [params] at hA hval
  obtain ⟨v0, v1, v2, v3, d0, d1, d2, d3, p0, p1, p2, p3, rfl, rfl, rfl, h0, h1, h2, h3⟩ := trodAll_four hA
  have hlt : ∀ x ∈ (p0 ++ p1 ++ p2 ++ p3) ++ [], x.block < W.heap.size := fun x hx => hW'.lt x hx
  obtain ⟨a0, c0, l0, rfl, hr0⟩ := open_ints1 Tryz.underlying26 (hval 0 26 v0 rfl rfl) h0
  obtain ⟨a1, c1, l1, rfl, hr1⟩ := open_ints1 Tryz.underlying26 (hval 1 26 v1 rfl rfl) h1
  obtain ⟨n2, rfl, rfl, rfl, wn2⟩ := open_int Tryz.underlying3 (hval 2 3 v2 rfl rfl) h2
  obtain ⟨n3, rfl, rfl, rfl, wn3⟩ := open_int Tryz.underlying3 (hval 3 3 v3 rfl rfl) h3
  refine (closureCoresW (c1 := c0) (c2 := c1) hr0 hr1).mono fun e W' ⟨he, hb⟩ => ?_
  subst he
  refine ⟨_, rfl, _, _, _, [], p0 ++ (p1 ++ ([] ++ ([]))), [], hW', ?_, ?_, ?_, ?_, fun h => by cases h⟩
  · rw [results]
    exact trodAll_mk1 (shut_bool Tryz.underlying4 _)
  · rw [params]
    exact trodAll_mk4 (Below.trod laidOut (by kernel_rfl) (of_decide_eq_true (by kernel_rfl)) h0 hb (fun x hx => hlt x (by simp [hx]))) (Below.trod laidOut (by kernel_rfl) (of_decide_eq_true (by kernel_rfl)) h1 hb (fun x hx => hlt x (by simp [hx]))) (shut_int Tryz.underlying3 wn2) (shut_int Tryz.underlying3 wn3)
  · exact rfl
  · exact hb.frame _
end LawClosureCores

theorem cores_true : Rows.ClosureCoresSaid :=
  OpenClaim.holds_of_wide 9 Tryz.f9 rfl rfl rfl rfl rfl rfl rfl ⟨rfl, rfl, rfl, rfl, rfl⟩ rfl rfl rfl rfl rfl (by kernel_rfl) Tryz.func9 (by kernel_rfl)
    (of_decide_eq_true (by kernel_rfl)) (by unfold Func.isWrapper; first | (rw [if_pos (by decide +kernel)]; kernel_rfl) | (rw [if_neg (by decide +kernel)]; exact ⟨rfl, rfl⟩))
    (fun os started H enc _ => LawClosureCores.lifted os started H enc)
#print axioms cores_true
end Go.Proofs.YtbejhkojdiadaaaGreat
