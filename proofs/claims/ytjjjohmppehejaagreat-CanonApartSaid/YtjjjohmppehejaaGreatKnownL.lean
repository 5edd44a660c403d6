/- The chapter's examples: what each call answers. -/
import Derived.Test.YtjjjohmppehejaaGreatLeavW
import Derived.Test.YtjjjohmppehejaaGreatMapP
set_option linter.unusedSimpArgs false
set_option linter.unusedVariables false
namespace Go.Proofs.YtjjjohmppehejaaGreat
open Go.RowKit Plain PlainG PlainX PlainT
/-- The path 0-1-2, the graph 0-2-1, no edges, a round of four, eleven vertices. -/
def gPath : Gr := ⟨3, [(0, 1), (1, 2)], [0, 0, 0]⟩
def gOther : Gr := ⟨3, [(0, 2), (1, 2)], [0, 0, 0]⟩
def gEmpty : Gr := ⟨3, [], [0, 0, 0]⟩
def gRound : Gr := ⟨4, [(0, 1), (0, 3), (1, 2), (2, 3)], [0, 0, 0, 0]⟩
def gEleven : Gr := ⟨11, [], [0, 0, 0, 0, 0, 0, 0, 0, 0, 0, 0]⟩
def gNeg : Gr := ⟨-1, [], []⟩
def gNull : Gr := ⟨0, [], []⟩
theorem kn_lab : labG gPath = ([0, 2, 1], 0) := by decide +kernel
theorem kn_many : manyA gPath = (2, 0) := by decide +kernel
theorem kn_leaves : leavG gEmpty = (6, 0) := by decide +kernel
theorem kn_leaves2 : leavG gPath = (2, 0) := by decide +kernel
theorem kn_leaves3 : leavG gRound = (8, 0) := by decide +kernel
theorem kn_many2 : manyA gEmpty = (6, 0) := by decide +kernel
theorem kn_many3 : manyA gRound = (8, 0) := by decide +kernel
theorem kn_many4 : manyA gNull = (1, 0) := by decide +kernel
theorem kn_map1 : mapA gPath gOther = ([0, 2, 1], 0) := by decide +kernel
theorem kn_map2 : mapA gPath gEmpty = ([], 18) := by decide +kernel
theorem kn_map3 : mapA gPath gRound = ([], 18) := by decide +kernel
theorem kn_map4 : mapA gPath gEleven = ([], 5) := by decide +kernel
theorem kn_map5 : mapA gEleven gNeg = ([], 2) := by decide +kernel
end Go.Proofs.YtjjjohmppehejaaGreat
namespace Go.Proofs.YtjjjohmppehejaaGreat
open Go.RowKit Plain PlainG PlainX PlainT
instance : DecidableEq Gr := fun x y => decidable_of_iff (x.n = y.n ∧ x.es = y.es ∧ x.cs = y.cs) ⟨fun ⟨a, b, c⟩ => by cases x; cases y; simp only at a b c; subst a; subst b; subst c; rfl, fun e => by rw [e]; exact ⟨rfl, rfl, rfl⟩⟩
instance : DecidableEq Chn := fun x y => decidable_of_iff (x.d = y.d ∧ x.orbs = y.orbs ∧ x.reps = y.reps) ⟨fun ⟨a, b, c⟩ => by cases x; cases y; simp only at a b c; subst a; subst b; subst c; rfl, fun e => by rw [e]; exact ⟨rfl, rfl, rfl⟩⟩
def cPath : Chn := ⟨3, [[0, 2], [1], [2]], [[[0, 1, 2], [2, 1, 0]], [[0, 1, 2]], [[0, 1, 2]]]⟩
theorem kn_grp : grpA gPath = (cPath, 0) := by decide +kernel
end Go.Proofs.YtjjjohmppehejaaGreat
