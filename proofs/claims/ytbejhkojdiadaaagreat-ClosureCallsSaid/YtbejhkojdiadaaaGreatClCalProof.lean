/- ClosureCalls: the row, over its walk. -/
import Derived.Test.YtbejhkojdiadaaaGreatCl01
import Derived.Test.YtbejhkojdiadaaaGreatCl02
import Derived.Test.YtbejhkojdiadaaaGreatCl03
import Derived.Test.YtbejhkojdiadaaaGreatCl04
import Derived.Test.YtbejhkojdiadaaaGreatCl05
import Derived.Test.YtbejhkojdiadaaaGreatCl06
import Derived.Test.YtbejhkojdiadaaaGreatCl07
import Derived.Test.YtbejhkojdiadaaaGreatCl08
import Derived.Test.YtbejhkojdiadaaaGreatCl09
import Derived.Test.YtbejhkojdiadaaaGreatCl10
import Derived.Test.YtbejhkojdiadaaaGreatCl11
import Derived.Test.YtbejhkojdiadaaaGreatCl12
import Derived.Test.YtbejhkojdiadaaaGreatCl13
import Derived.Test.YtbejhkojdiadaaaGreatCl14
import Derived.Test.YtbejhkojdiadaaaGreatCl15
import Derived.Test.YtbejhkojdiadaaaGreatCl16
import Derived.Test.YtbejhkojdiadaaaGreatCl17
import Derived.Test.YtbejhkojdiadaaaGreatCl18
import Derived.Test.YtbejhkojdiadaaaGreatCl19
import Derived.Test.YtbejhkojdiadaaaGreatCl20
import Derived.Test.YtbejhkojdiadaaaGreatCl21
import Derived.Test.YtbejhkojdiadaaaGreatCl22
import Derived.Test.YtbejhkojdiadaaaGreatCl23
import Derived.Test.YtbejhkojdiadaaaGreatCl24
import Derived.Test.YtbejhkojdiadaaaGreatCl25
import Derived.Test.YtbejhkojdiadaaaGreatCl26
import Derived.Test.YtbejhkojdiadaaaGreatCl27
import Derived.Test.YtbejhkojdiadaaaGreatCl28
import Derived.Test.YtbejhkojdiadaaaGreatCl29
import Derived.Test.YtbejhkojdiadaaaGreatCl30
import Derived.Test.YtbejhkojdiadaaaGreatCl31
import Derived.Test.YtbejhkojdiadaaaGreatRows
import Derived.Test.YtbejhkojdiadaaaGreatProg
import Derived.Carry
import Derived.RowKit
import Derived.RowKit2
import Derived.RowKit3
import Derived.ProofKit
import Derived.JoinedFifth
import Derived.OpenShut
import Derived.WalkKit
import Derived.WalkSpells
import Derived.BigQuiet
import Derived.Deep.QuietTactic
import Derived.Deep.LoopGhost
import Derived.Lib.Hide
import Derived.Maps.AppendAt
import Derived.Deep.AppendLies
import Derived.StillTailTactics
import Derived.Laws.CopyOwn
import Derived.Deep.OwnRows
import Derived.Deep.DeepCutAuto
import Derived.Laws.Cover3
import Derived.Deep.RegionHeld3
import Derived.RangeFuncRecord
import Derived.Lib.SlicesSearch
import Derived.RangeFuncBox
import Derived.RangeFuncLeaves
import Derived.RangeFuncWrites
import Derived.RangeFuncFrom
import Derived.Shelf.Abstract
import Derived.OwnWalkIn
import Derived.TacticsInMore
import Derived.LoopNIn
import Derived.LoopIn
import Derived.Shelf.GgSortFunc.Insertion
import Derived.Shelf.SlIter.Collect
import Derived.Shelf.Sort.Plain
import Derived.Deep.RegionLaw
import Derived.ControlIn
import Derived.Deep.AppendSrc
import Derived.Laws.BytesArg
import Derived.Maps.OwnSet
import Derived.Maps.Range
import Derived.Deep.Matrix
import Derived.Below
import Derived.ChangeSame
import Derived.Deep.Slices
import Derived.Deep.Fields
set_option linter.unusedSimpArgs false
set_option linter.unusedVariables false
namespace Go.Proofs.YtbejhkojdiadaaaGreat
open Go.ChangeShapes Go.WideShapes Go.ChangeAt Go.RowKit
set_option maxRecDepth 100000 in
theorem open_rows44 {H : Type} {enc : TypeId × Value → H} {W : World} {b0 : Nat} {v : Value} {d : DataW H} {p : List MemPlace} {base : Nat} (hv : Value.okWide Tryz.prog W .any base 44 v) (h : DataW.Trod enc Tryz.prog W b0 (fun _ => true) true 44 v d p) : ∃ a c ll, v = .slice a (List.length ll) c ∧ Rows W a ll := by
  obtain ⟨a0, len, cap, rfl⟩ := okWide_slice Tryz.underlying44 hv
  obtain ⟨fuel, hf⟩ := h
  obtain ⟨a, c, ll, h1, _, h2, _⟩ := rows_of_trod Tryz.underlying44 Tryz.underlying27 Tryz.cells27 hf
  exact ⟨a, c, ll, h1, h2⟩
namespace LawClosureCalls
theorem own : ownKnob Tryz.prog.godebug = none := by kernel_rfl
theorem laidOut : laidOutB Tryz.prog = true := by kernel_rfl
theorem params : Tryz.f5.params = #[25, 44, 27, 4] := by kernel_rfl
theorem results : Tryz.f5.resultTypes = #[4] := by kernel_rfl

set_option maxRecDepth 100000 in
theorem lifted (os : Os) (started : os.Started) (H : Type) (enc : TypeId × Value → H) :
    ReturnsInHanded {} Tryz.checked os 5 .any (Rows.closureCallsSpec.pre6 enc Tryz.prog Tryz.f5 Rows.closureCallsRow.domain false) (Rows.closureCallsSpec.post enc Tryz.prog Tryz.f5 false true false false) := by
  refine returnsInHanded_of_change (C := Tryz.checked) own started (by kernel_rfl) Tryz.func5
    (ChangeSpec.witness6 (enc := enc) (C := Tryz.checked) false ⟨#[], #[.agg #[.int .i64 0, .slice none 0 0, .slice none 0 0], .slice none 0 0, .slice none 0 0, .bool false], []⟩ 8 (by kernel_rfl) (by kernel_rfl) (by kernel_rfl) (by kernel_rfl)) ?_
  intro W base args ds gs before hval0 hW hcnd _
  have hval : ∀ (j : Nat) t v, Tryz.f5.params[j]? = some t → args[j]? = some v → Value.okWide Tryz.prog W .any base t v := hval0
  have hW' := hW
  obtain ⟨p, q, hA0, hV, rfl, hfz, hnd⟩ := hW
  have hA : DataW.TrodAll enc Tryz.prog W 0 (fun _ => true) true Tryz.f5.params.toList args.toList ds p := hA0
  have hV0 : DataW.TrodVars enc Tryz.prog W (fun _ => true) [] gs q := hV
  obtain ⟨rfl, rfl⟩ := trodVars_none hV0
  rw [params] at hA hval
  obtain ⟨v0, v1, v2, v3, d0, d1, d2, d3, p0, p1, p2, p3, rfl, rfl, rfl, h0, h1, h2, h3⟩ := trodAll_four hA
  have hlt : ∀ x ∈ (p0 ++ p1 ++ p2 ++ p3) ++ [], x.block < W.heap.size := fun x hx => hW'.lt x hx
  obtain ⟨dd0, os0, rs0, hr0, hx0⟩ := open_chain (hval 0 25 v0 rfl rfl) h0
  obtain ⟨a1, c1, l1, rfl, hr1⟩ := open_rows44 (hval 1 44 v1 rfl rfl) h1
  obtain ⟨a2, c2, l2, rfl, hr2⟩ := open_ints1 Tryz.underlying27 (hval 2 27 v2 rfl rfl) h2
  obtain ⟨n3, rfl, rfl, rfl⟩ := open_bool Tryz.underlying4 (hval 3 4 v3 rfl rfl) h3
  refine (closureCallsW n3 hr0 hx0 (lc := c1) hr1 (xc := c2) hr2).mono fun e W' ⟨he, hb⟩ => ?_
  subst he
  refine ⟨_, rfl, _, _, _, [], p0 ++ (p1 ++ (p2 ++ ([]))), [], hW', ?_, ?_, ?_, ?_, fun h => by cases h⟩
  · rw [results]
    exact trodAll_mk1 (shut_bool Tryz.underlying4 _)
  · rw [params]
    exact trodAll_mk4 (Below.trod laidOut (by kernel_rfl) (of_decide_eq_true (by kernel_rfl)) h0 hb (fun x hx => hlt x (by simp [hx]))) (Below.trod laidOut (by kernel_rfl) (of_decide_eq_true (by kernel_rfl)) h1 hb (fun x hx => hlt x (by simp [hx]))) (Below.trod laidOut (by kernel_rfl) (of_decide_eq_true (by kernel_rfl)) h2 hb (fun x hx => hlt x (by simp [hx]))) (shut_bool Tryz.underlying4 n3)
  · exact rfl
  · exact hb.frame _
end LawClosureCalls

theorem calls_true : Rows.ClosureCallsSaid :=
  OpenClaim.holds_of_wide 5 Tryz.f5 rfl rfl rfl rfl rfl rfl rfl ⟨rfl, rfl, rfl, rfl, rfl⟩ rfl rfl rfl rfl rfl (by kernel_rfl) Tryz.func5 (by kernel_rfl)
    (of_decide_eq_true (by kernel_rfl)) (by unfold Func.isWrapper; first | (rw [if_pos (by decide +kernel)]; kernel_rfl) | (rw [if_neg (by decide +kernel)]; exact ⟨rfl, rfl⟩))
    (fun os started H enc _ => LawClosureCalls.lifted os started H enc)
#print axioms calls_true
end Go.Proofs.YtbejhkojdiadaaaGreat
