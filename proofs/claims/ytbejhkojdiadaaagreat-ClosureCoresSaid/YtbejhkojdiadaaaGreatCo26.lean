/- Chapter 11's examples: ClosureKnown walked. -/
import Derived.Test.YtbejhkojdiadaaaGreatCo01
import Derived.Test.YtbejhkojdiadaaaGreatCo02
import Derived.Test.YtbejhkojdiadaaaGreatCo03
import Derived.Test.YtbejhkojdiadaaaGreatCo04
import Derived.Test.YtbejhkojdiadaaaGreatCo05
import Derived.Test.YtbejhkojdiadaaaGreatCo06
import Derived.Test.YtbejhkojdiadaaaGreatCo07
import Derived.Test.YtbejhkojdiadaaaGreatCo08
import Derived.Test.YtbejhkojdiadaaaGreatCo09
import Derived.Test.YtbejhkojdiadaaaGreatCo10
import Derived.Test.YtbejhkojdiadaaaGreatCo11
import Derived.Test.YtbejhkojdiadaaaGreatCo12
import Derived.Test.YtbejhkojdiadaaaGreatCo13
import Derived.Test.YtbejhkojdiadaaaGreatCo14
import Derived.Test.YtbejhkojdiadaaaGreatCo15
import Derived.Test.YtbejhkojdiadaaaGreatCo16
import Derived.Test.YtbejhkojdiadaaaGreatCo17
import Derived.Test.YtbejhkojdiadaaaGreatCo18
import Derived.Test.YtbejhkojdiadaaaGreatCo19
import Derived.Test.YtbejhkojdiadaaaGreatCo20
import Derived.Test.YtbejhkojdiadaaaGreatCo21
import Derived.Test.YtbejhkojdiadaaaGreatCo22
import Derived.Test.YtbejhkojdiadaaaGreatCo23
import Derived.Test.YtbejhkojdiadaaaGreatCo24
import Derived.Test.YtbejhkojdiadaaaGreatCo25
import Derived.Test.YtbejhkojdiadaaaGreatProg
import Derived.WalkKit
import Derived.WalkSpells
import Derived.BigQuiet
import Derived.Deep.QuietTactic
import Derived.Deep.LoopGhost
import Derived.Lib.Hide
import Derived.Maps.AppendAt
import Derived.Deep.AppendLies
import Derived.StillTailTactics
import Derived.Laws.CopyOwn
import Derived.Deep.OwnRows
import Derived.Deep.DeepCutAuto
import Derived.Laws.Cover3
import Derived.Deep.RegionHeld3
import Derived.RangeFuncRecord
import Derived.Lib.SlicesSearch
import Derived.RangeFuncBox
import Derived.RangeFuncLeaves
import Derived.RangeFuncWrites
import Derived.RangeFuncFrom
import Derived.Shelf.Abstract
import Derived.OwnWalkIn
import Derived.TacticsInMore
import Derived.LoopNIn
import Derived.LoopIn
import Derived.Shelf.GgSortFunc.Insertion
import Derived.Shelf.SlIter.Collect
import Derived.Shelf.Sort.Plain
import Derived.Deep.RegionLaw
import Derived.ControlIn
import Derived.Deep.AppendSrc
import Derived.Laws.BytesArg
import Derived.Maps.OwnSet
import Derived.Carry
import Derived.Maps.Range
set_option linter.unusedSimpArgs false
set_option linter.unusedVariables false
namespace Go.Proofs.YtbejhkojdiadaaaGreat
open Go.RowKit PlainPm
theorem joinHZ (x : Pm 4) : Grp (fun x => Grp (· ∈ gV4) x ∨ Grp (· ∈ gZ2) x) x ↔ Grp (· ∈ gD4) x := by
  constructor
  · refine Grp.sub Grp.isG fun s hs => ?_
    rcases hs with h | h
    · exact Grp.sub Grp.isG (fun y hy => Grp.base (by simp [gV4] at hy; rcases hy with h | h <;> simp [gD4, h])) h
    · exact Grp.sub Grp.isG (fun y hy => Grp.base (by simp [gZ2] at hy; simp [gD4, hy])) h
  · refine Grp.sub Grp.isG fun s hs => ?_
    simp only [gD4, List.mem_cons, List.not_mem_nil, or_false] at hs
    rcases hs with h | h | h
    · exact Grp.base (.inl (Grp.base (by simp [gV4, h])))
    · exact Grp.base (.inl (Grp.base (by simp [gV4, h])))
    · exact Grp.base (.inr (Grp.base (by simp [gZ2, h])))
theorem ncI1 (x : Pm 4) : NcG (· ∈ ([] : List (Pm 4))) (Grp (· ∈ gS4)) x ↔ Grp (· ∈ gI1) x :=
  ⟨fun h => h _ Grp.isG (fun y hy => by cases hy) (nrm_of Grp.isG (fun _ => Iff.rfl) fun y hy => by cases hy), Grp.sub NcG.isG fun y hy => by cases hy⟩
section
variable {w : World} {v v' : Value}
abbrev Ret4 (f : Nat) (args : Array Value) (w : World) (G' : Pm 4 → Prop) : Prop :=
  Calls Tryz.prog f args w fun e w' => ∃ a c b d, e = .returned (.tuple #[.agg #[.int .i64 4, .slice a 4 c, .slice b 4 d], .int .i64 0]) ∧ Below w.heap.size w w' ∧ GrG w' (.agg #[.int .i64 4, .slice a 4 c, .slice b 4 d]) G'
theorem good4 {f : Nat} {args : Array Value} {G G' : Pm 4 → Prop} (h : Calls Tryz.prog f args w fun e w' => ∃ a c b d, e = .returned (.tuple #[.agg #[.int .i64 ((4 : Nat) : Int), .slice a 4 c, .slice b 4 d], .int .i64 0]) ∧ Below w.heap.size w w' ∧
      ∀ S, (∀ m ∈ S, m < w.heap.size) → GrS w' (.agg #[.int .i64 ((4 : Nat) : Int), .slice a 4 c, .slice b 4 d]) G S) (e : ∀ x, G x ↔ G' x) :
    Calls Tryz.prog f args w fun e w' => ∃ a c b d, e = .returned (.tuple #[.agg #[.int .i64 4, .slice a 4 c, .slice b 4 d], .int .i64 0]) ∧ Below w.heap.size w w' ∧ GrG w' (.agg #[.int .i64 4, .slice a 4 c, .slice b 4 d]) G' :=
  h.mono fun e' w' ⟨a, c, b, d, k1, k2, k3⟩ => ⟨a, c, b, d, k1, k2, (k3 [] (by simp)).now.congrG e⟩
theorem joinB (h : GrG w v (Grp (· ∈ gV4))) (h' : GrG w v' (Grp (· ∈ gZ2))) : Ret4 23 #[v, v'] w (Grp (· ∈ gD4)) := good4 (join23 (n := 4) (by omega) Grp.isG Grp.isG h h') joinHZ
theorem normB (h : GrG w v (Grp (· ∈ gZ2))) (h' : GrG w v' (Grp (· ∈ gS4))) : Calls Tryz.prog 25 #[v, v'] w fun e w' => e = .returned (.tuple #[.bool false, .int .i64 0]) ∧ Below w.heap.size w w' :=
  (norm25 (n := 4) (by omega) Grp.isG Grp.isG h h').mono fun e w' ⟨b, k1, k2, k3⟩ => ⟨by
    have hb : b = false := by cases b with | false => rfl | true => exact absurd (k2.1 rfl) not_nrmZ2
    rw [k1, hb], k3⟩
theorem closB (h : GrG w v (Grp (· ∈ gS4))) {a : Option Addr} {c : Nat} (hl : PmsV w [] (.slice a 1 c) [litP 4 [0, 1, 3, 2]]) : Ret4 32 #[v, .slice a 1 c] w (Grp (· ∈ gS4)) := good4 (clos32 (n := 4) (L := [litP 4 [0, 1, 3, 2]]) (m0 := 1) (by omega) Grp.isG h rfl (by omega) hl) (fun x => (NcG.grp x).trans (ncS4 x))
theorem closN (h : GrG w v (Grp (· ∈ gS4))) : Ret4 32 #[v, .slice none 0 0] w (Grp (· ∈ gI1)) := good4 (clos32 (n := 4) (L := ([] : List (Pm 4))) (a0 := none) (m0 := 0) (c0 := 0) (by omega) Grp.isG h rfl (by omega) ⟨none, 0, [], rfl, Row.nil, rfl, fun k s hs => by simp at hs⟩) ncI1
theorem commC (h : GrG w v (Grp (· ∈ gA4))) (h' : GrG w v' (Grp (· ∈ gA4))) : Ret4 27 #[v, v'] w (Grp (· ∈ gV4)) := good4 (comm27 (n := 4) (by omega) Grp.isG Grp.isG h h') cmV4
theorem commD (h : GrG w v (Grp (· ∈ gV4))) (h' : GrG w v' (Grp (· ∈ gZ2))) : Ret4 27 #[v, v'] w (Grp (· ∈ gC2)) := good4 (comm27 (n := 4) (by omega) Grp.isG Grp.isG h h') cmC2
theorem commE (h : GrG w v (Grp (· ∈ gY2))) (h' : GrG w v' (Grp (· ∈ gZ2))) : Ret4 27 #[v, v'] w (Grp (· ∈ gI1)) := good4 (comm27 (n := 4) (by omega) Grp.isG Grp.isG h h') cmI1
theorem cnjA (h : GrG w v (Grp (· ∈ gZ2))) (hx : PmV w [] v' (litP 4 [2, 3, 0, 1])) : Ret4 34 #[v, v'] w (Grp (· ∈ gY2)) := good4 (cnj34 (n := 4) (by omega) Grp.isG h hx) (fun z => by rw [← grp_cj (l := gZ2) (fun _ => Iff.rfl) Grp.isG, cjY2])
theorem ctrA (h : GrG w v (Grp (· ∈ gS4))) : Ret4 36 #[v] w (Grp (· ∈ gI1)) := good4 (ctr36 (n := 4) (by omega) Grp.isG h (fun O R hc => hc.sz7 (by omega))) ctI1
theorem ctrB (h : GrG w v (Grp (· ∈ gD4))) : Ret4 36 #[v] w (Grp (· ∈ gC2)) := good4 (ctr36 (n := 4) (by omega) Grp.isG h (fun O R hc => hc.sz7 (by omega))) ctC2
theorem coreA (h : GrG w v (Grp (· ∈ gZ2))) (h' : GrG w v' (Grp (· ∈ gS4))) : Ret4 29 #[v, v'] w (Grp (· ∈ gI1)) := good4 (core29 (n := 4) (by omega) Grp.isG Grp.isG h h' (fun O R hc => hc.sz7 (by omega))) coI1
theorem coreB (h : GrG w v (Grp (· ∈ gD4))) (h' : GrG w v' (Grp (· ∈ gS4))) : Ret4 29 #[v, v'] w (Grp (· ∈ gV4)) := good4 (core29 (n := 4) (by omega) Grp.isG Grp.isG h h' (fun O R hc => hc.sz7 (by omega))) coV4
theorem count8 (h : GrG w v (Grp (· ∈ gD4))) : Calls Tryz.prog 39 #[v, .int .i64 0, .int .i64 8] w fun e w' => e = .returned (.bool true) ∧ Below w.heap.size w w' :=
  counts39 (n := 4) (s := 8) (by omega) Grp.isG h tD4 nD4 (by omega)
theorem count1 (h : GrG w v (Grp (· ∈ gI1))) : Calls Tryz.prog 39 #[v, .int .i64 0, .int .i64 1] w fun e w' => e = .returned (.bool true) ∧ Below w.heap.size w w' :=
  counts39 (n := 4) (s := 1) (by omega) Grp.isG h tI1 nI1 (by omega)
theorem count2 (h : GrG w v (Grp (· ∈ gC2))) : Calls Tryz.prog 39 #[v, .int .i64 0, .int .i64 2] w fun e w' => e = .returned (.bool true) ∧ Below w.heap.size w w' :=
  counts39 (n := 4) (s := 2) (by omega) Grp.isG h tC2 nC2 (by omega)
theorem isA {G : Pm 4 → Prop} (hG : IsG G) (h : GrG w v G) (h' : GrG w v' G) : Calls Tryz.prog 40 #[v, .int .i64 0, v'] w fun e w' => e = .returned (.bool true) ∧ Below w.heap.size w w' := is40 hG h h' (fun _ => Iff.rfl)
end
set_option maxRecDepth 100000 in
set_option maxHeartbeats 16000000 in
theorem closureKnownW {w : World} : Calls Tryz.prog 6 #[] w fun e w' => e = .returned (.bool true) ∧ Below w.heap.size w w' := by
  go_enter Tryz.func6, Tryz.ntmps6
  go_wp2_with (first
    | (go_at_call 40; (with_reducible refine (isA (G := _) Grp.isG R22.out.2.2 (HG.out.2.2.1.below R22.out.1)).mono ?_)
       rintro e123 w123 ⟨rfl, k1⟩
       clear m22x300 m22x301 m22x302 m22x30 m22x31 m22x32
       have sx : Below w122.heap.size w122 w123 := k1
       have bt : Below W2.heap.size W2 w123 := below_trans R22.out.1 sx
       have R23 := Lib.hid bt
       clear sx bt k1)
    | (go_at_call 39; (with_reducible refine (count1 R21.out.2.2.1).mono ?_)
       rintro e122 w122 ⟨rfl, k1⟩
       clear m21x280 m21x281 m21x282
       have sx : Below w121.heap.size w121 w122 := k1
       have bt : Below W2.heap.size W2 w122 := below_trans R21.out.1 sx
       have z30 := (sx.block Y30 (Array.getElem?_eq_some_iff.1 R21.out.2.2.2.1).1).trans R21.out.2.2.2.1
       have g30 := R21.out.2.2.2.2.below sx
       have zz := z30
       obtain ⟨m22x300, m22x301, m22x302, _⟩ := box_cells zz; clear zz
       have zz := (bt.block (Q + 1 + 1) (Array.getElem?_eq_some_iff.1 HB.out.2.2.1).1).trans HB.out.2.2.1
       obtain ⟨m22x30, m22x31, m22x32, _⟩ := box_cells zz; clear zz
       have R22 := Lib.hid (And.intro bt (And.intro z30 g30))
       clear sx bt k1 z30 g30)
    | (go_at_call 39; (with_reducible refine (count2 R20.out.2.2.1).mono ?_)
       rintro e121 w121 ⟨rfl, k1⟩
       clear m20x260 m20x261 m20x262
       have sx : Below w120.heap.size w120 w121 := k1
       have bt : Below W2.heap.size W2 w121 := below_trans R20.out.1 sx
       have z28 := (sx.block Y28 (Array.getElem?_eq_some_iff.1 R20.out.2.2.2.1).1).trans R20.out.2.2.2.1
       have g28 := R20.out.2.2.2.2.1.below sx
       have z30 := (sx.block Y30 (Array.getElem?_eq_some_iff.1 R20.out.2.2.2.2.2.1).1).trans R20.out.2.2.2.2.2.1
       have g30 := R20.out.2.2.2.2.2.2.below sx
       have zz := z28
       obtain ⟨m21x280, m21x281, m21x282, _⟩ := box_cells zz; clear zz
       have R21 := Lib.hid (And.intro bt (And.intro z28 (And.intro g28 (And.intro z30 g30))))
       clear sx bt k1 z28 g28 z30 g30)
    | (go_at_call 39; (with_reducible refine (count1 R19.out.2.2.1).mono ?_)
       rintro e120 w120 ⟨rfl, k1⟩
       clear m19x240 m19x241 m19x242
       have sx : Below w119.heap.size w119 w120 := k1
       have bt : Below W2.heap.size W2 w120 := below_trans R19.out.1 sx
       have z26 := (sx.block Y26 (Array.getElem?_eq_some_iff.1 R19.out.2.2.2.1).1).trans R19.out.2.2.2.1
       have g26 := R19.out.2.2.2.2.1.below sx
       have z28 := (sx.block Y28 (Array.getElem?_eq_some_iff.1 R19.out.2.2.2.2.2.1).1).trans R19.out.2.2.2.2.2.1
       have g28 := R19.out.2.2.2.2.2.2.1.below sx
       have z30 := (sx.block Y30 (Array.getElem?_eq_some_iff.1 R19.out.2.2.2.2.2.2.2.1).1).trans R19.out.2.2.2.2.2.2.2.1
       have g30 := R19.out.2.2.2.2.2.2.2.2.below sx
       have zz := z26
       obtain ⟨m20x260, m20x261, m20x262, _⟩ := box_cells zz; clear zz
       have R20 := Lib.hid (And.intro bt (And.intro z26 (And.intro g26 (And.intro z28 (And.intro g28 (And.intro z30 g30))))))
       clear sx bt k1 z26 g26 z28 g28 z30 g30)
    | (go_at_call 40; (with_reducible refine (isA (G := _) Grp.isG R18.out.2.2.1 (HG.out.2.2.2.2.1.below R18.out.1)).mono ?_)
       rintro e119 w119 ⟨rfl, k1⟩
       clear m18x220 m18x221 m18x222 m18x50 m18x51 m18x52
       have sx : Below w118.heap.size w118 w119 := k1
       have bt : Below W2.heap.size W2 w119 := below_trans R18.out.1 sx
       have z24 := (sx.block Y24 (Array.getElem?_eq_some_iff.1 R18.out.2.2.2.1).1).trans R18.out.2.2.2.1
       have g24 := R18.out.2.2.2.2.1.below sx
       have z26 := (sx.block Y26 (Array.getElem?_eq_some_iff.1 R18.out.2.2.2.2.2.1).1).trans R18.out.2.2.2.2.2.1
       have g26 := R18.out.2.2.2.2.2.2.1.below sx
       have z28 := (sx.block Y28 (Array.getElem?_eq_some_iff.1 R18.out.2.2.2.2.2.2.2.1).1).trans R18.out.2.2.2.2.2.2.2.1
       have g28 := R18.out.2.2.2.2.2.2.2.2.1.below sx
       have z30 := (sx.block Y30 (Array.getElem?_eq_some_iff.1 R18.out.2.2.2.2.2.2.2.2.2.1).1).trans R18.out.2.2.2.2.2.2.2.2.2.1
       have g30 := R18.out.2.2.2.2.2.2.2.2.2.2.below sx
       have zz := z24
       obtain ⟨m19x240, m19x241, m19x242, _⟩ := box_cells zz; clear zz
       have R19 := Lib.hid (And.intro bt (And.intro z24 (And.intro g24 (And.intro z26 (And.intro g26 (And.intro z28 (And.intro g28 (And.intro z30 g30))))))))
       clear sx bt k1 z24 g24 z26 g26 z28 g28 z30 g30)
    | (go_at_call 22; (with_reducible refine (awake22).mono ?_)
       rintro e118 w118 ⟨rfl, k1⟩
       clear s0 s1 s2 s3 s4 s5
       have sx : Below V117.heap.size V117 w118 := k1
       have bt : Below W2.heap.size W2 w118 := below_trans R17.out.1 sx
       have z22 := (sx.block Y22 (Array.getElem?_eq_some_iff.1 R17.out.2.1).1).trans R17.out.2.1
       have g22 := R17.out.2.2.1.below sx
       have z24 := (sx.block Y24 (Array.getElem?_eq_some_iff.1 R17.out.2.2.2.1).1).trans R17.out.2.2.2.1
       have g24 := R17.out.2.2.2.2.1.below sx
       have z26 := (sx.block Y26 (Array.getElem?_eq_some_iff.1 R17.out.2.2.2.2.2.1).1).trans R17.out.2.2.2.2.2.1
       have g26 := R17.out.2.2.2.2.2.2.1.below sx
       have z28 := (sx.block Y28 (Array.getElem?_eq_some_iff.1 R17.out.2.2.2.2.2.2.2.1).1).trans R17.out.2.2.2.2.2.2.2.1
       have g28 := R17.out.2.2.2.2.2.2.2.2.1.below sx
       have z30 := (sx.block Y30 (Array.getElem?_eq_some_iff.1 R17.out.2.2.2.2.2.2.2.2.2.1).1).trans R17.out.2.2.2.2.2.2.2.2.2.1
       have g30 := R17.out.2.2.2.2.2.2.2.2.2.2.below sx
       have zz := z22
       obtain ⟨m18x220, m18x221, m18x222, _⟩ := box_cells zz; clear zz
       have zz := (bt.block (Q + 1 + 1 + 1 + 1) (Array.getElem?_eq_some_iff.1 HB.out.2.2.2.2).1).trans HB.out.2.2.2.2
       obtain ⟨m18x50, m18x51, m18x52, _⟩ := box_cells zz; clear zz
       have R18 := Lib.hid (And.intro bt (And.intro z22 (And.intro g22 (And.intro z24 (And.intro g24 (And.intro z26 (And.intro g26 (And.intro z28 (And.intro g28 (And.intro z30 g30))))))))))
       clear sx bt k1 z22 g22 z24 g24 z26 g26 z28 g28 z30 g30)
    | (go_at_call 29; (with_reducible refine (coreB R16.out.2.2.1 (HG.out.1.below R16.out.1)).mono ?_)
       rintro e117 w117 ⟨a30, c30, b30, d30, rfl, k1, k2⟩
       clear m16x60 m16x61 m16x62 m16x10 m16x11 m16x12 s0 s1 s2 s3 s4 s5
       obtain ⟨Y30, U30, V117, hY30, hU30, s0, s1, s2, s3, s4, s5, hV117, bw, z⟩ := stB (w := w117) (.int .i64 4) (.slice a30 4 c30) (.slice b30 4 d30)
       have sx : Below V116.heap.size V116 V117 := below_trans k1 bw
       have kg := k2.below bw
       have bt : Below W2.heap.size W2 V117 := below_trans R16.out.1 sx
       have z22 := (sx.block Y22 (Array.getElem?_eq_some_iff.1 R16.out.2.2.2.1).1).trans R16.out.2.2.2.1
       have g22 := R16.out.2.2.2.2.1.below sx
       have z24 := (sx.block Y24 (Array.getElem?_eq_some_iff.1 R16.out.2.2.2.2.2.1).1).trans R16.out.2.2.2.2.2.1
       have g24 := R16.out.2.2.2.2.2.2.1.below sx
       have z26 := (sx.block Y26 (Array.getElem?_eq_some_iff.1 R16.out.2.2.2.2.2.2.2.1).1).trans R16.out.2.2.2.2.2.2.2.1
       have g26 := R16.out.2.2.2.2.2.2.2.2.1.below sx
       have z28 := (sx.block Y28 (Array.getElem?_eq_some_iff.1 R16.out.2.2.2.2.2.2.2.2.2.1).1).trans R16.out.2.2.2.2.2.2.2.2.2.1
       have g28 := R16.out.2.2.2.2.2.2.2.2.2.2.below sx
       have R17 := Lib.hid (And.intro bt (And.intro z22 (And.intro g22 (And.intro z24 (And.intro g24 (And.intro z26 (And.intro g26 (And.intro z28 (And.intro g28 (And.intro z kg))))))))))
       unfold set3 at hV117
       clear sx bt k1 z22 g22 z24 g24 z26 g26 z28 g28 z kg bw k2)
    | (go_at_call 29; (with_reducible refine (coreA (HG.out.2.2.2.1.below R15.out.1) (HG.out.1.below R15.out.1)).mono ?_)
       rintro e116 w116 ⟨a28, c28, b28, d28, rfl, k1, k2⟩
       clear m15x40 m15x41 m15x42 m15x10 m15x11 m15x12 s0 s1 s2 s3 s4 s5
       obtain ⟨Y28, U28, V116, hY28, hU28, s0, s1, s2, s3, s4, s5, hV116, bw, z⟩ := stB (w := w116) (.int .i64 4) (.slice a28 4 c28) (.slice b28 4 d28)
       have sx : Below V115.heap.size V115 V116 := below_trans k1 bw
       have kg := k2.below bw
       have bt : Below W2.heap.size W2 V116 := below_trans R15.out.1 sx
       have z6 := (sx.block Y6 (Array.getElem?_eq_some_iff.1 R15.out.2.1).1).trans R15.out.2.1
       have g6 := R15.out.2.2.1.below sx
       have z22 := (sx.block Y22 (Array.getElem?_eq_some_iff.1 R15.out.2.2.2.1).1).trans R15.out.2.2.2.1
       have g22 := R15.out.2.2.2.2.1.below sx
       have z24 := (sx.block Y24 (Array.getElem?_eq_some_iff.1 R15.out.2.2.2.2.2.1).1).trans R15.out.2.2.2.2.2.1
       have g24 := R15.out.2.2.2.2.2.2.1.below sx
       have z26 := (sx.block Y26 (Array.getElem?_eq_some_iff.1 R15.out.2.2.2.2.2.2.2.1).1).trans R15.out.2.2.2.2.2.2.2.1
       have g26 := R15.out.2.2.2.2.2.2.2.2.below sx
       have zz := z6
       obtain ⟨m16x60, m16x61, m16x62, _⟩ := box_cells zz; clear zz
       have zz := (bt.block (Q) (Array.getElem?_eq_some_iff.1 HB.out.1).1).trans HB.out.1
       obtain ⟨m16x10, m16x11, m16x12, _⟩ := box_cells zz; clear zz
       have R16 := Lib.hid (And.intro bt (And.intro z6 (And.intro g6 (And.intro z22 (And.intro g22 (And.intro z24 (And.intro g24 (And.intro z26 (And.intro g26 (And.intro z kg))))))))))
       unfold set3 at hV116
       clear sx bt k1 z6 g6 z22 g22 z24 g24 z26 g26 z kg bw k2)
    | (go_at_call 36; (with_reducible refine (ctrB R14.out.2.2.1).mono ?_)
       rintro e115 w115 ⟨a26, c26, b26, d26, rfl, k1, k2⟩
       clear m14x60 m14x61 m14x62 s0 s1 s2 s3 s4 s5
       obtain ⟨Y26, U26, V115, hY26, hU26, s0, s1, s2, s3, s4, s5, hV115, bw, z⟩ := stB (w := w115) (.int .i64 4) (.slice a26 4 c26) (.slice b26 4 d26)
       have sx : Below V114.heap.size V114 V115 := below_trans k1 bw
       have kg := k2.below bw
       have bt : Below W2.heap.size W2 V115 := below_trans R14.out.1 sx
       have z6 := (sx.block Y6 (Array.getElem?_eq_some_iff.1 R14.out.2.1).1).trans R14.out.2.1
       have g6 := R14.out.2.2.1.below sx
       have z22 := (sx.block Y22 (Array.getElem?_eq_some_iff.1 R14.out.2.2.2.1).1).trans R14.out.2.2.2.1
       have g22 := R14.out.2.2.2.2.1.below sx
       have z24 := (sx.block Y24 (Array.getElem?_eq_some_iff.1 R14.out.2.2.2.2.2.1).1).trans R14.out.2.2.2.2.2.1
       have g24 := R14.out.2.2.2.2.2.2.below sx
       have zz := (bt.block (Q + 1 + 1 + 1) (Array.getElem?_eq_some_iff.1 HB.out.2.2.2.1).1).trans HB.out.2.2.2.1
       obtain ⟨m15x40, m15x41, m15x42, _⟩ := box_cells zz; clear zz
       have zz := (bt.block (Q) (Array.getElem?_eq_some_iff.1 HB.out.1).1).trans HB.out.1
       obtain ⟨m15x10, m15x11, m15x12, _⟩ := box_cells zz; clear zz
       have R15 := Lib.hid (And.intro bt (And.intro z6 (And.intro g6 (And.intro z22 (And.intro g22 (And.intro z24 (And.intro g24 (And.intro z kg))))))))
       unfold set3 at hV115
       clear sx bt k1 z6 g6 z22 g22 z24 g24 z kg bw k2)
    | (go_at_call 36; (with_reducible refine (ctrA (HG.out.1.below R13.out.1)).mono ?_)
       rintro e114 w114 ⟨a24, c24, b24, d24, rfl, k1, k2⟩
       clear m13x10 m13x11 m13x12 s0 s1 s2 s3 s4 s5
       obtain ⟨Y24, U24, V114, hY24, hU24, s0, s1, s2, s3, s4, s5, hV114, bw, z⟩ := stB (w := w114) (.int .i64 4) (.slice a24 4 c24) (.slice b24 4 d24)
       have sx : Below V113.heap.size V113 V114 := below_trans k1 bw
       have kg := k2.below bw
       have bt : Below W2.heap.size W2 V114 := below_trans R13.out.1 sx
       have z6 := (sx.block Y6 (Array.getElem?_eq_some_iff.1 R13.out.2.1).1).trans R13.out.2.1
       have g6 := R13.out.2.2.1.below sx
       have z22 := (sx.block Y22 (Array.getElem?_eq_some_iff.1 R13.out.2.2.2.1).1).trans R13.out.2.2.2.1
       have g22 := R13.out.2.2.2.2.below sx
       have zz := z6
       obtain ⟨m14x60, m14x61, m14x62, _⟩ := box_cells zz; clear zz
       have R14 := Lib.hid (And.intro bt (And.intro z6 (And.intro g6 (And.intro z22 (And.intro g22 (And.intro z kg))))))
       unfold set3 at hV114
       clear sx bt k1 z6 g6 z22 g22 z kg bw k2)
    | (go_at_call 34; have c34 : Calls Tryz.prog 34 #[.agg #[.int .i64 4, .slice a4 4 c4, .slice b4 4 d4], .slice (some ⟨w112.heap.size, 0, none⟩) 4 4] (w112.alloc (.cells #[.int .i64 2, .int .i64 3, .int .i64 0, .int .i64 1] 3)) _ := cnjA ((HG.out.2.2.2.1.below R12.out.1).below (alloc_b (Below.refl _ _) _)) (lit_pm rfl (lit_ints (by decide) rfl)); refine c34.mono ?_; clear c34
       rintro e113 w113 ⟨a22, c22, b22, d22, rfl, k1, k2⟩
       clear m12x40 m12x41 m12x42
       have k1 := below_trans (alloc_b (Below.refl _ _) _) k1
       obtain ⟨Y22, U22, V113, hY22, hU22, s0, s1, s2, s3, s4, s5, hV113, bw, z⟩ := stB (w := w113) (.int .i64 4) (.slice a22 4 c22) (.slice b22 4 d22)
       have sx : Below w112.heap.size w112 V113 := below_trans k1 bw
       have kg := k2.below bw
       have bt : Below W2.heap.size W2 V113 := below_trans R12.out.1 sx
       have z6 := (sx.block Y6 (Array.getElem?_eq_some_iff.1 R12.out.2.1).1).trans R12.out.2.1
       have g6 := R12.out.2.2.below sx
       have zz := (bt.block (Q) (Array.getElem?_eq_some_iff.1 HB.out.1).1).trans HB.out.1
       obtain ⟨m13x10, m13x11, m13x12, _⟩ := box_cells zz; clear zz
       have R13 := Lib.hid (And.intro bt (And.intro z6 (And.intro g6 (And.intro z kg))))
       unfold set3 at hV113
       clear sx bt k1 z6 g6 z kg bw k2)
    | (go_at_call 39; (with_reducible refine (count1 R11.out.2.2.2.2).mono ?_)
       rintro e112 w112 ⟨rfl, k1⟩
       clear m11x190 m11x191 m11x192
       have sx : Below w111.heap.size w111 w112 := k1
       have bt : Below W2.heap.size W2 w112 := below_trans R11.out.1 sx
       have z6 := (sx.block Y6 (Array.getElem?_eq_some_iff.1 R11.out.2.1).1).trans R11.out.2.1
       have g6 := R11.out.2.2.1.below sx
       have zz := (bt.block (Q + 1 + 1 + 1) (Array.getElem?_eq_some_iff.1 HB.out.2.2.2.1).1).trans HB.out.2.2.2.1
       obtain ⟨m12x40, m12x41, m12x42, _⟩ := box_cells zz; clear zz
       have R12 := Lib.hid (And.intro bt (And.intro z6 g6))
       clear sx bt k1 z6 g6)
    | (go_at_call 39; (with_reducible refine (count2 R10.out.2.2.2.2.1).mono ?_)
       rintro e111 w111 ⟨rfl, k1⟩
       clear m10x170 m10x171 m10x172
       have sx : Below w110.heap.size w110 w111 := k1
       have bt : Below W2.heap.size W2 w111 := below_trans R10.out.1 sx
       have z6 := (sx.block Y6 (Array.getElem?_eq_some_iff.1 R10.out.2.1).1).trans R10.out.2.1
       have g6 := R10.out.2.2.1.below sx
       have z19 := (sx.block Y19 (Array.getElem?_eq_some_iff.1 R10.out.2.2.2.2.2.1).1).trans R10.out.2.2.2.2.2.1
       have g19 := R10.out.2.2.2.2.2.2.below sx
       have zz := z19
       obtain ⟨m11x190, m11x191, m11x192, _⟩ := box_cells zz; clear zz
       have R11 := Lib.hid (And.intro bt (And.intro z6 (And.intro g6 (And.intro z19 g19))))
       clear sx bt k1 z6 g6 z19 g19)
    | (go_at_call 40; (with_reducible refine (isA (G := _) Grp.isG R9.out.2.2.2.2.1 (HG.out.2.2.1.below R9.out.1)).mono ?_)
       rintro e110 w110 ⟨rfl, k1⟩
       clear m9x150 m9x151 m9x152 m9x30 m9x31 m9x32 s0 s1 s2 s3 s4 s5
       have sx : Below V109.heap.size V109 w110 := k1
       have bt : Below W2.heap.size W2 w110 := below_trans R9.out.1 sx
       have z6 := (sx.block Y6 (Array.getElem?_eq_some_iff.1 R9.out.2.1).1).trans R9.out.2.1
       have g6 := R9.out.2.2.1.below sx
       have z17 := (sx.block Y17 (Array.getElem?_eq_some_iff.1 R9.out.2.2.2.2.2.1).1).trans R9.out.2.2.2.2.2.1
       have g17 := R9.out.2.2.2.2.2.2.1.below sx
       have z19 := (sx.block Y19 (Array.getElem?_eq_some_iff.1 R9.out.2.2.2.2.2.2.2.1).1).trans R9.out.2.2.2.2.2.2.2.1
       have g19 := R9.out.2.2.2.2.2.2.2.2.below sx
       have zz := z17
       obtain ⟨m10x170, m10x171, m10x172, _⟩ := box_cells zz; clear zz
       have R10 := Lib.hid (And.intro bt (And.intro z6 (And.intro g6 (And.intro z17 (And.intro g17 (And.intro z19 g19))))))
       clear sx bt k1 z6 g6 z17 g17 z19 g19)
    | (go_at_call 27; (with_reducible refine (commE (HG.out.2.2.2.2.1.below R8.out.1) (HG.out.2.2.2.1.below R8.out.1)).mono ?_)
       rintro e109 w109 ⟨a19, c19, b19, d19, rfl, k1, k2⟩
       clear m8x50 m8x51 m8x52 m8x40 m8x41 m8x42 s0 s1 s2 s3 s4 s5
       obtain ⟨Y19, U19, V109, hY19, hU19, s0, s1, s2, s3, s4, s5, hV109, bw, z⟩ := stB (w := w109) (.int .i64 4) (.slice a19 4 c19) (.slice b19 4 d19)
       have sx : Below V108.heap.size V108 V109 := below_trans k1 bw
       have kg := k2.below bw
       have bt : Below W2.heap.size W2 V109 := below_trans R8.out.1 sx
       have z6 := (sx.block Y6 (Array.getElem?_eq_some_iff.1 R8.out.2.1).1).trans R8.out.2.1
       have g6 := R8.out.2.2.1.below sx
       have z15 := (sx.block Y15 (Array.getElem?_eq_some_iff.1 R8.out.2.2.2.1).1).trans R8.out.2.2.2.1
       have g15 := R8.out.2.2.2.2.1.below sx
       have z17 := (sx.block Y17 (Array.getElem?_eq_some_iff.1 R8.out.2.2.2.2.2.1).1).trans R8.out.2.2.2.2.2.1
       have g17 := R8.out.2.2.2.2.2.2.below sx
       have zz := z15
       obtain ⟨m9x150, m9x151, m9x152, _⟩ := box_cells zz; clear zz
       have zz := (bt.block (Q + 1 + 1) (Array.getElem?_eq_some_iff.1 HB.out.2.2.1).1).trans HB.out.2.2.1
       obtain ⟨m9x30, m9x31, m9x32, _⟩ := box_cells zz; clear zz
       have R9 := Lib.hid (And.intro bt (And.intro z6 (And.intro g6 (And.intro z15 (And.intro g15 (And.intro z17 (And.intro g17 (And.intro z kg))))))))
       unfold set3 at hV109
       clear sx bt k1 z6 g6 z15 g15 z17 g17 z kg bw k2)
    | (go_at_call 27; (with_reducible refine (commD (HG.out.2.2.1.below R7.out.1) (HG.out.2.2.2.1.below R7.out.1)).mono ?_)
       rintro e108 w108 ⟨a17, c17, b17, d17, rfl, k1, k2⟩
       clear m7x30 m7x31 m7x32 m7x40 m7x41 m7x42 s0 s1 s2 s3 s4 s5
       obtain ⟨Y17, U17, V108, hY17, hU17, s0, s1, s2, s3, s4, s5, hV108, bw, z⟩ := stB (w := w108) (.int .i64 4) (.slice a17 4 c17) (.slice b17 4 d17)
       have sx : Below V107.heap.size V107 V108 := below_trans k1 bw
       have kg := k2.below bw
       have bt : Below W2.heap.size W2 V108 := below_trans R7.out.1 sx
       have z6 := (sx.block Y6 (Array.getElem?_eq_some_iff.1 R7.out.2.1).1).trans R7.out.2.1
       have g6 := R7.out.2.2.1.below sx
       have z15 := (sx.block Y15 (Array.getElem?_eq_some_iff.1 R7.out.2.2.2.1).1).trans R7.out.2.2.2.1
       have g15 := R7.out.2.2.2.2.below sx
       have zz := (bt.block (Q + 1 + 1 + 1 + 1) (Array.getElem?_eq_some_iff.1 HB.out.2.2.2.2).1).trans HB.out.2.2.2.2
       obtain ⟨m8x50, m8x51, m8x52, _⟩ := box_cells zz; clear zz
       have zz := (bt.block (Q + 1 + 1 + 1) (Array.getElem?_eq_some_iff.1 HB.out.2.2.2.1).1).trans HB.out.2.2.2.1
       obtain ⟨m8x40, m8x41, m8x42, _⟩ := box_cells zz; clear zz
       have R8 := Lib.hid (And.intro bt (And.intro z6 (And.intro g6 (And.intro z15 (And.intro g15 (And.intro z kg))))))
       unfold set3 at hV108
       clear sx bt k1 z6 g6 z15 g15 z kg bw k2)
    | (go_at_call 27; (with_reducible refine (commC (HG.out.2.1.below R6.out.1) (HG.out.2.1.below R6.out.1)).mono ?_)
       rintro e107 w107 ⟨a15, c15, b15, d15, rfl, k1, k2⟩
       clear m6x20 m6x21 m6x22
       obtain ⟨Y15, U15, V107, hY15, hU15, s0, s1, s2, s3, s4, s5, hV107, bw, z⟩ := stB (w := w107) (.int .i64 4) (.slice a15 4 c15) (.slice b15 4 d15)
       have sx : Below w106.heap.size w106 V107 := below_trans k1 bw
       have kg := k2.below bw
       have bt : Below W2.heap.size W2 V107 := below_trans R6.out.1 sx
       have z6 := (sx.block Y6 (Array.getElem?_eq_some_iff.1 R6.out.2.1).1).trans R6.out.2.1
       have g6 := R6.out.2.2.below sx
       have zz := (bt.block (Q + 1 + 1) (Array.getElem?_eq_some_iff.1 HB.out.2.2.1).1).trans HB.out.2.2.1
       obtain ⟨m7x30, m7x31, m7x32, _⟩ := box_cells zz; clear zz
       have zz := (bt.block (Q + 1 + 1 + 1) (Array.getElem?_eq_some_iff.1 HB.out.2.2.2.1).1).trans HB.out.2.2.2.1
       obtain ⟨m7x40, m7x41, m7x42, _⟩ := box_cells zz; clear zz
       have R7 := Lib.hid (And.intro bt (And.intro z6 (And.intro g6 (And.intro z kg))))
       unfold set3 at hV107
       clear sx bt k1 z6 g6 z kg bw k2)
    | (go_at_call 39; (with_reducible refine (count1 R5.out.2.2.2.2).mono ?_)
       rintro e106 w106 ⟨rfl, k1⟩
       clear m5x120 m5x121 m5x122
       have sx : Below w105.heap.size w105 w106 := k1
       have bt : Below W2.heap.size W2 w106 := below_trans R5.out.1 sx
       have z6 := (sx.block Y6 (Array.getElem?_eq_some_iff.1 R5.out.2.1).1).trans R5.out.2.1
       have g6 := R5.out.2.2.1.below sx
       have zz := (bt.block (Q + 1) (Array.getElem?_eq_some_iff.1 HB.out.2.1).1).trans HB.out.2.1
       obtain ⟨m6x20, m6x21, m6x22, _⟩ := box_cells zz; clear zz
       have R6 := Lib.hid (And.intro bt (And.intro z6 g6))
       clear sx bt k1 z6 g6)
    | (go_at_call 40; (with_reducible refine (isA (G := _) Grp.isG R4.out.2.2.2.2.1 (HG.out.1.below R4.out.1)).mono ?_)
       rintro e105 w105 ⟨rfl, k1⟩
       clear m4x100 m4x101 m4x102 m4x10 m4x11 m4x12
       have sx : Below w104.heap.size w104 w105 := k1
       have bt : Below W2.heap.size W2 w105 := below_trans R4.out.1 sx
       have z6 := (sx.block Y6 (Array.getElem?_eq_some_iff.1 R4.out.2.1).1).trans R4.out.2.1
       have g6 := R4.out.2.2.1.below sx
       have z12 := (sx.block Y12 (Array.getElem?_eq_some_iff.1 R4.out.2.2.2.2.2.1).1).trans R4.out.2.2.2.2.2.1
       have g12 := R4.out.2.2.2.2.2.2.below sx
       have zz := z12
       obtain ⟨m5x120, m5x121, m5x122, _⟩ := box_cells zz; clear zz
       have R5 := Lib.hid (And.intro bt (And.intro z6 (And.intro g6 (And.intro z12 g12))))
       clear sx bt k1 z6 g6 z12 g12)
    | (go_at_call 39; (with_reducible refine (count8 R3.out.2.2.1).mono ?_)
       rintro e104 w104 ⟨rfl, k1⟩
       clear m3x60 m3x61 m3x62 s0 s1 s2 s3 s4 s5
       have sx : Below V103.heap.size V103 w104 := k1
       have bt : Below W2.heap.size W2 w104 := below_trans R3.out.1 sx
       have z6 := (sx.block Y6 (Array.getElem?_eq_some_iff.1 R3.out.2.1).1).trans R3.out.2.1
       have g6 := R3.out.2.2.1.below sx
       have z10 := (sx.block Y10 (Array.getElem?_eq_some_iff.1 R3.out.2.2.2.1).1).trans R3.out.2.2.2.1
       have g10 := R3.out.2.2.2.2.1.below sx
       have z12 := (sx.block Y12 (Array.getElem?_eq_some_iff.1 R3.out.2.2.2.2.2.1).1).trans R3.out.2.2.2.2.2.1
       have g12 := R3.out.2.2.2.2.2.2.below sx
       have zz := z10
       obtain ⟨m4x100, m4x101, m4x102, _⟩ := box_cells zz; clear zz
       have zz := (bt.block (Q) (Array.getElem?_eq_some_iff.1 HB.out.1).1).trans HB.out.1
       obtain ⟨m4x10, m4x11, m4x12, _⟩ := box_cells zz; clear zz
       have R4 := Lib.hid (And.intro bt (And.intro z6 (And.intro g6 (And.intro z10 (And.intro g10 (And.intro z12 g12))))))
       clear sx bt k1 z6 g6 z10 g10 z12 g12)
    | (go_at_call 32; (with_reducible refine (closN (HG.out.1.below R2.out.1)).mono ?_)
       rintro e103 w103 ⟨a12, c12, b12, d12, rfl, k1, k2⟩
       clear m2x10 m2x11 m2x12 s0 s1 s2 s3 s4 s5
       obtain ⟨Y12, U12, V103, hY12, hU12, s0, s1, s2, s3, s4, s5, hV103, bw, z⟩ := stB (w := w103) (.int .i64 4) (.slice a12 4 c12) (.slice b12 4 d12)
       have sx : Below V102.heap.size V102 V103 := below_trans k1 bw
       have kg := k2.below bw
       have bt : Below W2.heap.size W2 V103 := below_trans R2.out.1 sx
       have z6 := (sx.block Y6 (Array.getElem?_eq_some_iff.1 R2.out.2.1).1).trans R2.out.2.1
       have g6 := R2.out.2.2.1.below sx
       have z10 := (sx.block Y10 (Array.getElem?_eq_some_iff.1 R2.out.2.2.2.1).1).trans R2.out.2.2.2.1
       have g10 := R2.out.2.2.2.2.below sx
       have zz := z6
       obtain ⟨m3x60, m3x61, m3x62, _⟩ := box_cells zz; clear zz
       have R3 := Lib.hid (And.intro bt (And.intro z6 (And.intro g6 (And.intro z10 (And.intro g10 (And.intro z kg))))))
       unfold set3 at hV103
       clear sx bt k1 z6 g6 z10 g10 z kg bw k2)
    | (go_at_call 32; have c32 : Calls Tryz.prog 32 #[.agg #[.int .i64 4, .slice a1 4 c1, .slice b1 4 d1], .slice (some ⟨w101.heap.size + 1, 0, none⟩) 1 1] ((w101.alloc (.cells #[.int .i64 0, .int .i64 1, .int .i64 3, .int .i64 2] 3)).alloc (.cells #[.slice (some ⟨w101.heap.size, 0, none⟩) 4 4] 27)) _ := closB ((HG.out.1.below R1.out.1).below (alloc_b (alloc_b (Below.refl _ _) _) _)) (lit_pms1 rfl (lit_ints (by decide) rfl)); refine c32.mono ?_; clear c32
       rintro e102 w102 ⟨a10, c10, b10, d10, rfl, k1, k2⟩
       clear m1x10 m1x11 m1x12
       have k1 := below_trans (alloc_b (alloc_b (Below.refl _ _) _) _) k1
       obtain ⟨Y10, U10, V102, hY10, hU10, s0, s1, s2, s3, s4, s5, hV102, bw, z⟩ := stB (w := w102) (.int .i64 4) (.slice a10 4 c10) (.slice b10 4 d10)
       have sx : Below w101.heap.size w101 V102 := below_trans k1 bw
       have kg := k2.below bw
       have bt : Below W2.heap.size W2 V102 := below_trans R1.out.1 sx
       have z6 := (sx.block Y6 (Array.getElem?_eq_some_iff.1 R1.out.2.1).1).trans R1.out.2.1
       have g6 := R1.out.2.2.below sx
       have zz := (bt.block (Q) (Array.getElem?_eq_some_iff.1 HB.out.1).1).trans HB.out.1
       obtain ⟨m2x10, m2x11, m2x12, _⟩ := box_cells zz; clear zz
       have R2 := Lib.hid (And.intro bt (And.intro z6 (And.intro g6 (And.intro z kg))))
       unfold set3 at hV102
       clear sx bt k1 z6 g6 z kg bw k2)
    | (go_at_call 25; (with_reducible refine (normB (HG.out.2.2.2.1.below R0.out.1) (HG.out.1.below R0.out.1)).mono ?_)
       rintro e101 w101 ⟨rfl, k1⟩
       clear m0x40 m0x41 m0x42 m0x10 m0x11 m0x12 s0 s1 s2 s3 s4 s5
       have sx : Below V100.heap.size V100 w101 := k1
       have bt : Below W2.heap.size W2 w101 := below_trans R0.out.1 sx
       have z6 := (sx.block Y6 (Array.getElem?_eq_some_iff.1 R0.out.2.1).1).trans R0.out.2.1
       have g6 := R0.out.2.2.below sx
       have zz := (bt.block (Q) (Array.getElem?_eq_some_iff.1 HB.out.1).1).trans HB.out.1
       obtain ⟨m1x10, m1x11, m1x12, _⟩ := box_cells zz; clear zz
       have R1 := Lib.hid (And.intro bt (And.intro z6 g6))
       clear sx bt k1 z6 g6)
    | (go_at_call 23; (with_reducible refine (joinB HG.out.2.2.1 HG.out.2.2.2.1).mono ?_)
       rintro e100 w100 ⟨a6, c6, b6, d6, rfl, k1, k2⟩
       obtain ⟨Y6, U6, V100, hY6, hU6, s0, s1, s2, s3, s4, s5, hV100, bw, z⟩ := stB (w := w100) (.int .i64 4) (.slice a6 4 c6) (.slice b6 4 d6)
       have sx : Below W2.heap.size W2 V100 := below_trans k1 bw
       have kg := k2.below bw
       have bt : Below W2.heap.size W2 V100 := sx
       have zz := (bt.block (Q + 1 + 1 + 1) (Array.getElem?_eq_some_iff.1 HB.out.2.2.2.1).1).trans HB.out.2.2.2.1
       obtain ⟨m0x40, m0x41, m0x42, _⟩ := box_cells zz; clear zz
       have zz := (bt.block (Q) (Array.getElem?_eq_some_iff.1 HB.out.1).1).trans HB.out.1
       obtain ⟨m0x10, m0x11, m0x12, _⟩ := box_cells zz; clear zz
       have R0 := Lib.hid (And.intro bt (And.intro z kg))
       unfold set3 at hV100
       clear sx bt k1 z kg bw k2)
    | (go_at_call 38; (with_reducible refine groups38.mono ?_)
       rintro e1 w1 ⟨v1, v2, v3, v4, v5, rfl, k1, k2, k3, k4, k5, kb⟩
       obtain ⟨a1, c1, b1, d1, rfl⟩ := k1.form
       obtain ⟨a2, c2, b2, d2, rfl⟩ := k2.form
       obtain ⟨a3, c3, b3, d3, rfl⟩ := k3.form
       obtain ⟨a4, c4, b4, d4, rfl⟩ := k4.form
       obtain ⟨a5, c5, b5, d5, rfl⟩ := k5.form
       have H1 := Lib.hid (And.intro k1 (And.intro k2 (And.intro k3 (And.intro k4 (And.intro k5 kb))))); clear k1 k2 k3 k4 k5 kb
       obtain ⟨Q, hQ⟩ : ∃ Q, w1.heap.size = Q := ⟨_, rfl⟩
       obtain ⟨W2, hW2⟩ : ∃ W2, (((((w1.alloc (.cells #[.int .i64 4, .slice a1 4 c1, .slice b1 4 d1] 25)).alloc (.cells #[.int .i64 4, .slice a2 4 c2, .slice b2 4 d2] 25)).alloc (.cells #[.int .i64 4, .slice a3 4 c3, .slice b3 4 d3] 25)).alloc (.cells #[.int .i64 4, .slice a4 4 c4, .slice b4 4 d4] 25)).alloc (.cells #[.int .i64 4, .slice a5 4 c5, .slice b5 4 d5] 25)) = W2 := ⟨_, rfl⟩
       have hb2 : Below w1.heap.size w1 W2 := hW2 ▸ alloc_b (alloc_b (alloc_b (alloc_b (alloc_b (Below.refl _ _) _) _) _) _) _
       have y0 : W2.heap[Q]? = some (.cells #[.int .i64 4, .slice a1 4 c1, .slice b1 4 d1] 25) := hW2 ▸ (((Below.heap_alloc _ _ _ (by simp [hQ] <;> omega)).trans (((Below.heap_alloc _ _ _ (by simp [hQ] <;> omega)).trans (((Below.heap_alloc _ _ _ (by simp [hQ] <;> omega)).trans (((Below.heap_alloc _ _ _ (by simp [hQ] <;> omega)).trans (box_al25 (by simp [hQ]) _ _ _)))))))))
       have y1 : W2.heap[Q + 1]? = some (.cells #[.int .i64 4, .slice a2 4 c2, .slice b2 4 d2] 25) := hW2 ▸ (((Below.heap_alloc _ _ _ (by simp [hQ] <;> omega)).trans (((Below.heap_alloc _ _ _ (by simp [hQ] <;> omega)).trans (((Below.heap_alloc _ _ _ (by simp [hQ] <;> omega)).trans (box_al25 (by simp [hQ]) _ _ _)))))))
       have y2 : W2.heap[Q + 1 + 1]? = some (.cells #[.int .i64 4, .slice a3 4 c3, .slice b3 4 d3] 25) := hW2 ▸ (((Below.heap_alloc _ _ _ (by simp [hQ] <;> omega)).trans (((Below.heap_alloc _ _ _ (by simp [hQ] <;> omega)).trans (box_al25 (by simp [hQ]) _ _ _)))))
       have y3 : W2.heap[Q + 1 + 1 + 1]? = some (.cells #[.int .i64 4, .slice a4 4 c4, .slice b4 4 d4] 25) := hW2 ▸ (((Below.heap_alloc _ _ _ (by simp [hQ] <;> omega)).trans (box_al25 (by simp [hQ]) _ _ _)))
       have y4 : W2.heap[Q + 1 + 1 + 1 + 1]? = some (.cells #[.int .i64 4, .slice a5 4 c5, .slice b5 4 d5] 25) := hW2 ▸ (box_al25 (by simp [hQ]) _ _ _)
       obtain ⟨m100, m101, m102, _⟩ := box_cells y0
       obtain ⟨m110, m111, m112, _⟩ := box_cells y1
       obtain ⟨m120, m121, m122, _⟩ := box_cells y2
       obtain ⟨m130, m131, m132, _⟩ := box_cells y3
       obtain ⟨m140, m141, m142, _⟩ := box_cells y4
       have HB := Lib.hid (And.intro y0 (And.intro y1 (And.intro y2 (And.intro y3 y4))))
       have HG := Lib.hid (And.intro (show GrG W2 (.agg #[.int .i64 4, .slice a1 4 c1, .slice b1 4 d1]) (Grp (· ∈ gS4)) from H1.out.1.below hb2) (And.intro (show GrG W2 (.agg #[.int .i64 4, .slice a2 4 c2, .slice b2 4 d2]) (Grp (· ∈ gA4)) from H1.out.2.1.below hb2) (And.intro (show GrG W2 (.agg #[.int .i64 4, .slice a3 4 c3, .slice b3 4 d3]) (Grp (· ∈ gV4)) from H1.out.2.2.1.below hb2) (And.intro (show GrG W2 (.agg #[.int .i64 4, .slice a4 4 c4, .slice b4 4 d4]) (Grp (· ∈ gZ2)) from H1.out.2.2.2.1.below hb2) (And.intro (show GrG W2 (.agg #[.int .i64 4, .slice a5 4 c5, .slice b5 4 d5]) (Grp (· ∈ gY2)) from H1.out.2.2.2.2.1.below hb2) (below_trans H1.out.2.2.2.2.2 hb2))))))
       clear hb2 y0 y1 y2 y3 y4)
    )
  go_ret
  exact ⟨rfl, below_trans HG.out.2.2.2.2.2 R23.out⟩
end Go.Proofs.YtbejhkojdiadaaaGreat
