/- The program's perm.Inv, Mul, Conj, Comm and the reference's conj and Comm, for permutations of one degree. · Chains of groups that last while some blocks are written; the program's Make. · A chain's representatives but the first ones generate its group; the levels of a chain of any group: plain and in memory. · The builder's has, strong; the reference's in. · closure's strong, from, with; the reference's chain. · closure's pair and the reference's both: the checks of two chains. -/
import Derived.Test.YtbejhkojdiadaaaGreatCo01
import Derived.Test.YtbejhkojdiadaaaGreatCo02
import Derived.Test.YtbejhkojdiadaaaGreatCo03
import Derived.Test.YtbejhkojdiadaaaGreatCo04
import Derived.Test.YtbejhkojdiadaaaGreatCo05
import Derived.Test.YtbejhkojdiadaaaGreatCo06
import Derived.Test.YtbejhkojdiadaaaGreatCo07
import Derived.Test.YtbejhkojdiadaaaGreatCo08
import Derived.Test.YtbejhkojdiadaaaGreatCo09
import Derived.Test.YtbejhkojdiadaaaGreatCo10
import Derived.Test.YtbejhkojdiadaaaGreatCo11
import Derived.Test.YtbejhkojdiadaaaGreatCo12
import Derived.Test.YtbejhkojdiadaaaGreatCo13
import Derived.Test.YtbejhkojdiadaaaGreatProg
import Derived.WalkKit
import Derived.WalkSpells
import Derived.BigQuiet
import Derived.Deep.QuietTactic
import Derived.Deep.LoopGhost
import Derived.Lib.Hide
import Derived.Maps.AppendAt
import Derived.Deep.AppendLies
import Derived.StillTailTactics
import Derived.Laws.CopyOwn
import Derived.Deep.OwnRows
import Derived.Deep.DeepCutAuto
import Derived.Laws.Cover3
import Derived.Deep.RegionHeld3
import Derived.RangeFuncRecord
import Derived.Lib.SlicesSearch
import Derived.RangeFuncBox
import Derived.RangeFuncLeaves
import Derived.RangeFuncWrites
import Derived.RangeFuncFrom
import Derived.Shelf.Abstract
import Derived.OwnWalkIn
import Derived.TacticsInMore
import Derived.LoopNIn
import Derived.LoopIn
import Derived.Shelf.GgSortFunc.Insertion
import Derived.Shelf.SlIter.Collect
import Derived.Shelf.Sort.Plain
import Derived.Deep.RegionLaw
import Derived.ControlIn
set_option linter.unusedSimpArgs false
set_option linter.unusedVariables false
namespace Go.Proofs.YtbejhkojdiadaaaGreat
open Go.RowKit PlainPm
theorem pms_lit1 {n : Nat} {w : World} {va : Value} {x : Pm n} (h : PmV w [] va x) : PmsV (w.alloc (.cells #[va] 27)) [] (.slice (some ⟨w.heap.size, 0, none⟩) 1 1) [x] := by
  refine ⟨_, 1, [va], rfl, lit_row (m := 1) rfl rfl (by omega), rfl, fun k s hs => ?_⟩
  match k, hs with
  | 0, hs => simp at hs; subst hs; exact ⟨_, rfl, h.al _⟩
  | k + 1, hs => simp at hs
theorem pms_lit2 {n : Nat} {w : World} {va vb : Value} {x y : Pm n} (h : PmV w [] va x) (h' : PmV w [] vb y) : PmsV (w.alloc (.cells #[va, vb] 27)) [] (.slice (some ⟨w.heap.size, 0, none⟩) 2 2) [x, y] := by
  refine ⟨_, 2, [va, vb], rfl, lit_row (m := 2) rfl rfl (by omega), rfl, fun k s hs => ?_⟩
  match k, hs with
  | 0, hs => simp at hs; subst hs; exact ⟨_, rfl, h.al _⟩
  | 1, hs => simp at hs; subst hs; exact ⟨_, rfl, h'.al _⟩
  | k + 2, hs => simp at hs
set_option maxRecDepth 100000 in
set_option maxHeartbeats 1000000 in
theorem first120 {n : Nat} (hn : 0 < n ∧ n ≤ 64) {w : World} {v : Value} {L : List (Pm n)} (hv : PmsV w [] v L) (hl : L.length ≤ 1000) :
    Calls Tryz.prog 120 #[v] w fun e w' => e = .returned (.int .i64 0) ∧ Below w.heap.size w w' := by
  obtain ⟨a, c, vs, rfl, hr, hp⟩ := hv
  obtain ⟨m, hm⟩ : ∃ m, L.length = m := ⟨_, rfl⟩
  have H := Lib.hid (And.intro hr (And.intro hp hm))
  rw [hm] at hl ⊢
  clear hr hp hm
  go_enter Tryz.func120, Tryz.ntmps120
  go_wp2_with fail
  go_loopw [4, 5, 10] (fun _ _ i wr => ∃ (k : Nat), k ≤ m ∧ i = .int .i64 (k : Int) ∧ Below w.heap.size w wr) (fun _ _ i _ => m - (intOf i).toNat)
  case atStart => exact ⟨0, by omega, rfl, Below.refl _ _⟩
  case round =>
    obtain ⟨k, hk, rfl, hb⟩ := hrel
    have HB := Lib.hid hb
    clear hb
    by_cases hkm : k < m
    · obtain ⟨x, hx⟩ : ∃ x, L[k]? = some x := ⟨_, List.getElem?_eq_getElem (by rw [H.out.2.2]; exact hkm)⟩
      obtain ⟨u, hu, hpm⟩ := H.out.2.1.2 k x hx
      obtain ⟨ab, ao, hae, _, hac⟩ := (H.out.1.below HB.out).2 k u hu
      subst hae
      obtain ⟨ua, uc, rfl, hui⟩ := (hpm.below HB.out).ints (by omega)
      have hck : chkPerm x.l = 0 := (chk_iff x.ok.1 hn.1 hn.2).2 x.ok
      have hpc := perm_calls (c := uc) hui
      rw [hck] at hpc
      have hxl := x.ok.1
      rw [hxl] at hpc hac
      have HC := Lib.hid hpc
      have hk1 : (k : Int) < m := by omega
      clear hpc hck hui hx hu hpm hxl
      go_wp2_with (go_at_call 92; (with_reducible refine HC.out.mono ?_); rintro e w2 ⟨rfl, k1⟩; have H2 := Lib.hid k1; clear k1)
      exact ⟨⟨k + 1, by omega, by go_num, below_trans HB.out H2.out⟩, by simp [intOf]; omega⟩
    · obtain rfl : k = m := by omega
      have hk1 : ¬ (k : Int) < k := by omega
      go_wp2_with fail
      obtain ⟨wo, rfl⟩ : ∃ wo : World, wo = wr := ⟨_, rfl⟩
      go_loopw [7, 22] (fun _ i wr => ∃ (q : Nat), q ≤ k ∧ i = .int .i64 (q : Int) ∧ wr = wo) (fun _ i _ => k - (intOf i).toNat)
      case atStart => exact ⟨0, by omega, rfl, rfl⟩
      case round =>
        obtain ⟨q, hq, rfl, rfl⟩ := hrel
        by_cases hqk : q < k
        · obtain ⟨x, hx⟩ : ∃ x, L[q]? = some x := ⟨_, List.getElem?_eq_getElem (by rw [H.out.2.2]; exact hqk)⟩
          obtain ⟨u, hu, hpm⟩ := H.out.2.1.2 q x hx
          obtain ⟨ab, ao, hae, _, hac⟩ := (H.out.1.below HB.out).2 q u hu
          subst hae
          obtain ⟨x0, hx0⟩ : ∃ x, L[0]? = some x := ⟨_, List.getElem?_eq_getElem (by rw [H.out.2.2]; omega)⟩
          obtain ⟨u0, hu0, hpm0⟩ := H.out.2.1.2 0 x0 hx0
          obtain ⟨ab0, ao0, hae0, _, hac0⟩ := (H.out.1.below HB.out).2 0 u0 hu0
          cases hae0
          obtain ⟨b1, o1, c1, rfl, _⟩ := hpm
          obtain ⟨b2, o2, c2, rfl, _⟩ := hpm0
          have g1 : ((n : Int) != (n : Int)) = false := by simp
          have hq1 : (q : Int) < k := by omega
          have hk0 : 0 < k := by omega
          rw [Nat.add_zero] at hac0
          clear hx hu hx0 hu0
          go_wp2_with fail
          exact ⟨⟨q + 1, by omega, by go_num, trivial⟩, by simp [intOf]; omega⟩
        · obtain rfl : q = k := by omega
          have hq1 : ¬ (q : Int) < q := by omega
          go_wp2_with fail
          go_ret
          exact ⟨rfl, HB.out⟩
--GEN
set_option maxRecDepth 100000 in
set_option maxHeartbeats 1000000 in
theorem px118 {n : Nat} (hn : 0 < n ∧ n ≤ 64) {x : Pm n} {va : Value} {w : World} (ha : PmV w [] va x) :
    Calls Tryz.prog 118 #[va] w fun e w' => ∃ v, e = .returned (.tuple #[v, .int .i64 0]) ∧ NewPm w w' v x.inv ∧ Below w.heap.size w w' := by
  have HA := Lib.hid ha
  obtain ⟨ba, oa, ca, rfl, _⟩ := id ha
  clear ha
  go_enter Tryz.func118, Tryz.ntmps118
  go_wp2_with (first
    | (go_at_call 122; (with_reducible refine (inv122 hn.2 (HA.out.below HK1.out)).mono ?_); rintro e2 w2 ⟨t2, rfl, n2, k2⟩; have HN2 := Lib.hid n2; have K2 := Lib.hid k2; have HK2 := Lib.hid (below_trans HK1.out k2); obtain ⟨bt2, ct2, rfl, _⟩ := id n2; clear n2 k2)
    | (go_at_call 120; refine (first120 hn (pms_lit1 HA.out) (by simp)).mono ?_; rintro e1 w1 ⟨rfl, k1⟩; have HK1 := Lib.hid (below_trans (alloc_b (Below.refl _ _) _) k1); clear k1))
  refine bodyPost_ret (v := .tuple #[.slice (some ⟨bt2, 0, none⟩) n ct2, .int .i64 0]) (by simp [results, Tryz.results118, go_sem]) rfl ?_
  exact ⟨_, rfl, HN2.out.from HK1.out.size, HK2.out⟩
set_option maxRecDepth 100000 in
set_option maxHeartbeats 1000000 in
theorem px119 {n : Nat} (hn : 0 < n ∧ n ≤ 64) {x y : Pm n} {va vb : Value} {w : World} (ha : PmV w [] va x) (hb : PmV w [] vb y) :
    Calls Tryz.prog 119 #[va, vb] w fun e w' => ∃ v, e = .returned (.tuple #[v, .int .i64 0]) ∧ NewPm w w' v (x.mul y) ∧ Below w.heap.size w w' := by
  have HA := Lib.hid ha
  have HB := Lib.hid hb
  obtain ⟨ba, oa, ca, rfl, _⟩ := id ha
  obtain ⟨bb, ob, cb, rfl, _⟩ := id hb
  clear ha hb
  go_enter Tryz.func119, Tryz.ntmps119
  go_wp2_with (first
    | (go_at_call 121; (with_reducible refine (mul121 hn.2 (HA.out.below HK1.out) (HB.out.below HK1.out)).mono ?_); rintro e2 w2 ⟨t2, rfl, n2, k2⟩; have HN2 := Lib.hid n2; have K2 := Lib.hid k2; have HK2 := Lib.hid (below_trans HK1.out k2); obtain ⟨bt2, ct2, rfl, _⟩ := id n2; clear n2 k2)
    | (go_at_call 120; refine (first120 hn (pms_lit2 HA.out HB.out) (by simp)).mono ?_; rintro e1 w1 ⟨rfl, k1⟩; have HK1 := Lib.hid (below_trans (alloc_b (Below.refl _ _) _) k1); clear k1))
  refine bodyPost_ret (v := .tuple #[.slice (some ⟨bt2, 0, none⟩) n ct2, .int .i64 0]) (by simp [results, Tryz.results119, go_sem]) rfl ?_
  exact ⟨_, rfl, HN2.out.from HK1.out.size, HK2.out⟩
set_option maxRecDepth 100000 in
set_option maxHeartbeats 1000000 in
theorem px84 {n : Nat} (hn : 0 < n ∧ n ≤ 64) {x y : Pm n} {va vb : Value} {w : World} (ha : PmV w [] va x) (hb : PmV w [] vb y) :
    Calls Tryz.prog 84 #[va, vb] w fun e w' => ∃ v, e = .returned (.tuple #[v, .int .i64 0]) ∧ NewPm w w' v ((y.inv.mul x).mul y) ∧ Below w.heap.size w w' := by
  have HA := Lib.hid ha
  have HB := Lib.hid hb
  obtain ⟨ba, oa, ca, rfl, _⟩ := id ha
  obtain ⟨bb, ob, cb, rfl, _⟩ := id hb
  clear ha hb
  go_enter Tryz.func84, Tryz.ntmps84
  go_wp2_with (first
    | (go_at_call 121; (with_reducible refine (mul121 hn.2 (HN3.out.pm (M := []) (by simp)) (HB.out.below HK3.out)).mono ?_); rintro e4 w4 ⟨t4, rfl, n4, k4⟩; have HN4 := Lib.hid n4; have K4 := Lib.hid k4; have HK4 := Lib.hid (below_trans HK3.out k4); obtain ⟨bt4, ct4, rfl, _⟩ := id n4; clear n4 k4)
    | (go_at_call 121; (with_reducible refine (mul121 hn.2 (HN2.out.pm (M := []) (by simp)) (HA.out.below HK2.out)).mono ?_); rintro e3 w3 ⟨t3, rfl, n3, k3⟩; have HN3 := Lib.hid n3; have K3 := Lib.hid k3; have HK3 := Lib.hid (below_trans HK2.out k3); obtain ⟨bt3, ct3, rfl, _⟩ := id n3; clear n3 k3)
    | (go_at_call 122; (with_reducible refine (inv122 hn.2 (HB.out.below HK1.out)).mono ?_); rintro e2 w2 ⟨t2, rfl, n2, k2⟩; have HN2 := Lib.hid n2; have K2 := Lib.hid k2; have HK2 := Lib.hid (below_trans HK1.out k2); obtain ⟨bt2, ct2, rfl, _⟩ := id n2; clear n2 k2)
    | (go_at_call 120; refine (first120 hn (pms_lit2 HA.out HB.out) (by simp)).mono ?_; rintro e1 w1 ⟨rfl, k1⟩; have HK1 := Lib.hid (below_trans (alloc_b (Below.refl _ _) _) k1); clear k1))
  refine bodyPost_ret (v := .tuple #[.slice (some ⟨bt4, 0, none⟩) n ct4, .int .i64 0]) (by simp [results, Tryz.results84, go_sem]) rfl ?_
  exact ⟨_, rfl, HN4.out.from HK3.out.size, HK4.out⟩
set_option maxRecDepth 100000 in
set_option maxHeartbeats 1000000 in
theorem px79 {n : Nat} (hn : 0 < n ∧ n ≤ 64) {x y : Pm n} {va vb : Value} {w : World} (ha : PmV w [] va x) (hb : PmV w [] vb y) :
    Calls Tryz.prog 79 #[va, vb] w fun e w' => ∃ v, e = .returned (.tuple #[v, .int .i64 0]) ∧ NewPm w w' v ((x.inv.mul y.inv).mul (x.mul y)) ∧ Below w.heap.size w w' := by
  have HA := Lib.hid ha
  have HB := Lib.hid hb
  obtain ⟨ba, oa, ca, rfl, _⟩ := id ha
  obtain ⟨bb, ob, cb, rfl, _⟩ := id hb
  clear ha hb
  go_enter Tryz.func79, Tryz.ntmps79
  go_wp2_with (first
    | (go_at_call 121; (with_reducible refine (mul121 hn.2 ((HN4.out.pm (M := []) (by simp)).below K5.out) (HN5.out.pm (M := []) (by simp))).mono ?_); rintro e6 w6 ⟨t6, rfl, n6, k6⟩; have HN6 := Lib.hid n6; have K6 := Lib.hid k6; have HK6 := Lib.hid (below_trans HK5.out k6); obtain ⟨bt6, ct6, rfl, _⟩ := id n6; clear n6 k6)
    | (go_at_call 121; (with_reducible refine (mul121 hn.2 (HA.out.below HK4.out) (HB.out.below HK4.out)).mono ?_); rintro e5 w5 ⟨t5, rfl, n5, k5⟩; have HN5 := Lib.hid n5; have K5 := Lib.hid k5; have HK5 := Lib.hid (below_trans HK4.out k5); obtain ⟨bt5, ct5, rfl, _⟩ := id n5; clear n5 k5)
    | (go_at_call 121; (with_reducible refine (mul121 hn.2 ((HN2.out.pm (M := []) (by simp)).below K3.out) (HN3.out.pm (M := []) (by simp))).mono ?_); rintro e4 w4 ⟨t4, rfl, n4, k4⟩; have HN4 := Lib.hid n4; have K4 := Lib.hid k4; have HK4 := Lib.hid (below_trans HK3.out k4); obtain ⟨bt4, ct4, rfl, _⟩ := id n4; clear n4 k4)
    | (go_at_call 122; (with_reducible refine (inv122 hn.2 (HB.out.below HK2.out)).mono ?_); rintro e3 w3 ⟨t3, rfl, n3, k3⟩; have HN3 := Lib.hid n3; have K3 := Lib.hid k3; have HK3 := Lib.hid (below_trans HK2.out k3); obtain ⟨bt3, ct3, rfl, _⟩ := id n3; clear n3 k3)
    | (go_at_call 122; (with_reducible refine (inv122 hn.2 (HA.out.below HK1.out)).mono ?_); rintro e2 w2 ⟨t2, rfl, n2, k2⟩; have HN2 := Lib.hid n2; have K2 := Lib.hid k2; have HK2 := Lib.hid (below_trans HK1.out k2); obtain ⟨bt2, ct2, rfl, _⟩ := id n2; clear n2 k2)
    | (go_at_call 120; refine (first120 hn (pms_lit2 HA.out HB.out) (by simp)).mono ?_; rintro e1 w1 ⟨rfl, k1⟩; have HK1 := Lib.hid (below_trans (alloc_b (Below.refl _ _) _) k1); clear k1))
  refine bodyPost_ret (v := .tuple #[.slice (some ⟨bt6, 0, none⟩) n ct6, .int .i64 0]) (by simp [results, Tryz.results79, go_sem]) rfl ?_
  exact ⟨_, rfl, HN6.out.from HK5.out.size, HK6.out⟩
set_option maxRecDepth 100000 in
set_option maxHeartbeats 1000000 in
theorem px42 {n : Nat} (hn : 0 < n ∧ n ≤ 64) {x y : Pm n} {va vb : Value} {w : World} (ha : PmV w [] va x) (hb : PmV w [] vb y) :
    Calls Tryz.prog 42 #[va, vb] w fun e w' => ∃ v, e = .returned (v) ∧ NewPm w w' v ((y.inv.mul x).mul y) ∧ Below w.heap.size w w' := by
  have HA := Lib.hid ha
  have HB := Lib.hid hb
  obtain ⟨ba, oa, ca, rfl, _⟩ := id ha
  obtain ⟨bb, ob, cb, rfl, _⟩ := id hb
  clear ha hb
  have HK0 := Lib.hid (Below.refl w.heap.size w)
  go_enter Tryz.func42, Tryz.ntmps42
  go_wp2_with (first
    | (go_at_call 49; (with_reducible refine (mul49 hn.2 hn.1 (HN2.out.pm (M := []) (by simp)) (HB.out.below HK2.out)).mono ?_); rintro e3 w3 ⟨t3, rfl, n3, k3⟩; have HN3 := Lib.hid n3; have K3 := Lib.hid k3; have HK3 := Lib.hid (below_trans HK2.out k3); obtain ⟨bt3, ct3, rfl, _⟩ := id n3; clear n3 k3)
    | (go_at_call 49; (with_reducible refine (mul49 hn.2 hn.1 (HN1.out.pm (M := []) (by simp)) (HA.out.below HK1.out)).mono ?_); rintro e2 w2 ⟨t2, rfl, n2, k2⟩; have HN2 := Lib.hid n2; have K2 := Lib.hid k2; have HK2 := Lib.hid (below_trans HK1.out k2); obtain ⟨bt2, ct2, rfl, _⟩ := id n2; clear n2 k2)
    | (go_at_call 50; (with_reducible refine (inv50 hn.2 (HB.out.below HK0.out)).mono ?_); rintro e1 w1 ⟨t1, rfl, n1, k1⟩; have HN1 := Lib.hid n1; have K1 := Lib.hid k1; have HK1 := Lib.hid (below_trans HK0.out k1); obtain ⟨bt1, ct1, rfl, _⟩ := id n1; clear n1 k1))
  go_ret
  exact ⟨_, rfl, HN3.out.from HK2.out.size, HK3.out⟩
end Go.Proofs.YtbejhkojdiadaaaGreat
namespace Go.Proofs.YtbejhkojdiadaaaGreat
open Go.RowKit PlainPm
def GrG {n : Nat} (w : World) (v : Value) (G : Pm n → Prop) : Prop :=
  ∃ T a c b d, Of G T ∧ v = .agg #[.int .i64 (n : Int), .slice a n c, .slice b n d] ∧ Rows w a (orbI T n) ∧ Rows2 w b (repI T n) ∧ CapR w a n ∧ CapR w b n
def GrS {n : Nat} (w : World) (v : Value) (G : Pm n → Prop) (S : List Nat) : Prop := ∀ W', Kept w W' S → GrG W' v G
section
variable {n : Nat} {w w' : World} {v : Value} {G : Pm n → Prop} {S S' : List Nat}
theorem GrS.now (h : GrS w v G S) : GrG w v G := h w (Kept.refl _ _)
theorem GrS.kept (h : GrS w v G S) (k : Kept w w' S) : GrS w' v G S := fun W' h' => h W' (k.trans h')
theorem GrS.below (h : GrS w v G S) (k : Below w.heap.size w w') : GrS w' v G S := h.kept (Kept.ofBelow k)
theorem GrS.ext (h : GrS w v G S) (hS : ∀ m ∈ S', m ∈ S ∨ w.heap.size ≤ m) : GrS w v G S' := fun W' k => h W' ((Kept.refl w S).transW k hS)
theorem GrS.congr {G' : Pm n → Prop} (h : GrS w v G S) (e : ∀ x, G x ↔ G' x) : GrS w v G' S := fun W' k => by
  obtain ⟨T, a, c, b, d, h1, h2⟩ := h W' k
  exact ⟨T, a, c, b, d, h1.congr e, h2⟩
theorem GrG.form (h : GrG w v G) : ∃ a c b d, v = .agg #[.int .i64 (n : Int), .slice a n c, .slice b n d] := by
  obtain ⟨T, a, c, b, d, _, h2, _⟩ := h
  exact ⟨a, c, b, d, h2⟩
theorem GrG.ch (h : GrG w v G) : ∃ T, Of G T ∧ ChV w v n (orbI T n) (repI T n) ∧ CapV w v := by
  obtain ⟨T, a, c, b, d, h1, rfl, h3, h4, h5, h6⟩ := h
  refine ⟨T, h1, ⟨a, c, b, d, by simp [orbI, repI], h3, h4⟩, fun d' a' lo c' b' lr e' he => ?_⟩
  simp only [Value.agg.injEq, Array.mk.injEq, List.cons.injEq, Value.int.injEq, Value.slice.injEq, and_true, true_and] at he
  obtain ⟨_, ⟨rfl, rfl, rfl⟩, rfl, rfl, rfl⟩ := he
  exact ⟨h5, h6⟩
theorem GrG.same (hG : IsG G) {v' : Value} {G' : Pm n → Prop} (h : GrG w v G) (h' : GrG w v' G') (e : ∀ x, G' x ↔ G x) : Calls Tryz.prog 31 #[v, v'] w fun e w' => e = .returned (.bool true) ∧ Below w.heap.size w w' := by
  obtain ⟨T, h1, h2, _⟩ := h.ch
  obtain ⟨T', k1, k2, _⟩ := h'.ch
  obtain ⟨e1, e2⟩ := of_same_I hG h1 (k1.congr e)
  refine (same31 h2 k2).mono fun e w' ⟨he, hb⟩ => ⟨by rw [he, e1, e2]; simp, hb⟩
end
theorem GrS.of_own {n : Nat} (hn : n ≤ 64) {w : World} {B : Nat} {G : Pm n → Prop} {T : Tw n} {a b : Option Addr} {c d : Nat} {csO csR : List Value} {S : List Nat} (hT : Of G T)
    (hO : Own w B (.slice a n c) 26 csO) (hOO : OwnRows w B 3 csO (orbI T n)) (hR : Own w B (.slice b n d) 44 csR) (hRR : OwnR2 w B csR (repI T n)) (hS : ∀ m ∈ S, m < B) : GrS w (.agg #[.int .i64 (n : Int), .slice a n c, .slice b n d]) G S := fun W' k => by
  have keep : ∀ {u : Value} {e : TypeId} {xs : List Value}, Own w B u e xs → Own W' B u e xs := fun {u e xs} ho =>
    ownsRow_block ho (fun g hg => k.block g (ho.block_lt hg).1 (fun hm => by have h1 := hS g hm; have h2 := (ho.block_lt hg).2; omega))
  have kO := keep hO
  have kR := keep hR
  have kOO : OwnRows W' B 3 csO (orbI T n) := ⟨hOO.1, fun i u xs hu hx => keep (hOO.2 i u xs hu hx)⟩
  have kRR : OwnR2 W' B csR (repI T n) := ⟨hRR.1, fun i u xss hu hx => by
    obtain ⟨us, h1, h2⟩ := hRR.2 i u xss hu hx
    exact ⟨us, keep h1, h2.1, fun i' u' xs' hu' hx' => keep (h2.2 i' u' xs' hu' hx')⟩⟩
  obtain ⟨aO', cO', hvO, hrO⟩ := kOO.rows kO (by rw [kOO.1]; simp [orbI]; unfold maxLen; omega) (pts_len T hn n)
  obtain ⟨aR', cR', hvR, hrR⟩ := kRR.rows2 kR (by rw [kRR.1]; simp [repI]; omega) (pms_len T hn n)
  rw [show (orbI T n).length = n by simp [orbI]] at hvO
  rw [show (repI T n).length = n by simp [repI]] at hvR
  cases hvO
  cases hvR
  have cO := own_cap kO (fun u hu => by
    obtain ⟨i, hi⟩ := List.mem_iff_getElem?.1 hu
    have hil : i < (orbI T n).length := by rw [← kOO.1]; exact (List.getElem?_eq_some_iff.1 hi).1
    exact ⟨_, _, kOO.2 i u _ hi (List.getElem?_eq_getElem hil)⟩)
  have cR := own_cap kR (fun u hu => by
    obtain ⟨i, hi⟩ := List.mem_iff_getElem?.1 hu
    have hil : i < (repI T n).length := by rw [← kRR.1]; exact (List.getElem?_eq_some_iff.1 hi).1
    obtain ⟨us, h1, _⟩ := kRR.2 i u _ hi (List.getElem?_eq_getElem hil)
    exact ⟨_, _, h1⟩)
  exact ⟨T, _, _, _, _, hT, rfl, hrO, hrR, cO, cR⟩
theorem mk96 {n : Nat} (hn : 0 < n ∧ n ≤ 64) {w : World} {v : Value} {L : List (Pm n)} (hl : L.length ≤ 4096) (hv : PmsV w [] v L) :
    Calls Tryz.prog 96 #[.int .i64 (n : Int), v] w fun e w' => ∃ a c b d, e = .returned (.tuple #[.agg #[.int .i64 (n : Int), .slice a n c, .slice b n d], .int .i64 0]) ∧ Below w.heap.size w w' ∧
      ∀ S, (∀ m ∈ S, m < w.heap.size) → GrS w' (.agg #[.int .i64 (n : Int), .slice a n c, .slice b n d]) (Grp (· ∈ L)) S :=
  (make96c hn hl hv).mono fun _ w' ⟨T, a, c0, b, d, h1, h2, h3, h4⟩ => ⟨a, c0, b, d, h2, h3, fun S hS W' k => by
    obtain ⟨k3, k4, k5, k6⟩ := h4 W' k.size (fun q hq hq' => k.block q hq' (fun hm => by have := hS q hm; omega))
    exact ⟨T, a, c0, b, d, h1, rfl, k3, k4, k5, k6⟩⟩
theorem box_al25 {w : World} {X : Nat} (hX : w.heap.size = X) (u0 u1 u2 : Value) : (w.alloc (.cells #[u0, u1, u2] 25)).heap[X]? = some (.cells #[u0, u1, u2] 25) := by subst hX; exact World.alloc_heap_new w _
set_option maxRecDepth 100000 in
set_option maxHeartbeats 2000000 in
theorem mk90 {n : Nat} (hn : 0 < n ∧ n ≤ 64) {w : World} {v : Value} {L : List (Pm n)} (hl : L.length ≤ 4096) (hv : PmsV w [] v L) :
    Calls Tryz.prog 90 #[.int .i64 (n : Int), v] w fun e w' => ∃ a c b d, e = .returned (.tuple #[.agg #[.int .i64 (n : Int), .slice a n c, .slice b n d], .int .i64 0]) ∧ Below w.heap.size w w' ∧
      ∀ S, (∀ m ∈ S, m < w.heap.size) → GrS w' (.agg #[.int .i64 (n : Int), .slice a n c, .slice b n d]) (Grp (· ∈ L)) S := by
  have hv0 := hv
  obtain ⟨a, c, vs, rfl, hr, hp⟩ := hv
  obtain ⟨X, hX⟩ : ∃ X, w.heap.size = X := ⟨_, rfl⟩
  obtain ⟨W1, hW1⟩ : ∃ W1, w.alloc (.cells #[.int .i64 0, .slice none 0 0, .slice none 0 0] 25) = W1 := ⟨_, rfl⟩
  have hbw : Below w.heap.size w W1 := hW1 ▸ alloc_b (Below.refl _ _) _
  have hc1 : W1.heap[X]? = some (.cells #[.int .i64 0, .slice none 0 0, .slice none 0 0] 25) := hW1 ▸ box_al25 hX _ _ _
  obtain ⟨m, hm⟩ : ∃ m, L.length = m := ⟨_, rfl⟩
  have H := Lib.hid (And.intro hr (And.intro hp (And.intro hm (And.intro hbw (And.intro hc1 hv0)))))
  rw [hm] at hl ⊢
  have hn1 : decide ((n : Int) < 1) = false := by simp; omega
  have hn2 : decide ((64 : Int) < n) = false := by simp; omega
  have hl1 : decide ((4096 : Int) < m) = false := by simp; omega
  have hl2 : decide (4096 < m) = false := by simp; omega
  clear hr hp hm hbw hc1 hv0
  go_enter Tryz.func90, Tryz.ntmps90
  try rw [hX]
  go_wp2_with fail
  clear hW1
  go_loopw [7, 8, 22] (fun _ _ i wr => ∃ (k : Nat), k ≤ m ∧ i = .int .i64 (k : Int) ∧ Below W1.heap.size W1 wr) (fun _ _ i _ => m - (intOf i).toNat)
  case atStart => exact ⟨0, by omega, rfl, Below.refl _ _⟩
  case round =>
    obtain ⟨k, hk, rfl, hb⟩ := hrel
    have hbw := below_trans H.out.2.2.2.1 hb
    have HB := Lib.hid (And.intro hb hbw)
    clear hb hbw
    by_cases hkm : k < m
    · obtain ⟨x, hx⟩ : ∃ x, L[k]? = some x := ⟨_, List.getElem?_eq_getElem (by rw [H.out.2.2.1]; exact hkm)⟩
      obtain ⟨u, hu, hpm⟩ := H.out.2.1.2 k x hx
      obtain ⟨ab, ao, hae, _, hac⟩ := (H.out.1.below HB.out.2).2 k u hu
      subst hae
      obtain ⟨ua, uc, rfl, hui⟩ := (hpm.below HB.out.2).ints (by omega)
      have hck : chkPerm x.l = 0 := (chk_iff x.ok.1 hn.1 hn.2).2 x.ok
      have hpc := perm_calls (c := uc) hui
      rw [hck] at hpc
      have hxl := x.ok.1
      rw [hxl] at hpc hac
      have HC := Lib.hid hpc
      have g1 : ((n : Int) != (n : Int)) = false := by simp
      have hk1 : (k : Int) < m := by omega
      clear hpc hck hui hx hu hpm hxl
      go_wp2_with (go_at_call 92; (with_reducible refine HC.out.mono ?_); rintro e w2 ⟨rfl, k1⟩; have H2 := Lib.hid k1; clear k1)
      exact ⟨⟨k + 1, by omega, by go_num, below_trans HB.out.1 H2.out⟩, by simp [intOf]; omega⟩
    · obtain rfl : k = m := by omega
      have hk1 : ¬ (k : Int) < k := by omega
      have hbc := build_calls (n := n) (w := wr) hn (by rw [H.out.2.2.1]; omega) (H.out.2.2.2.2.2.below HB.out.2)
      rw [H.out.2.2.1] at hbc
      have HBC := Lib.hid hbc
      clear hbc
      go_wp2_with (first
        | (go_at_call 104; refine (chain_calls H3.out.1 H3.out.2.1.inv.wf).mono ?_; rintro e4 w4 ⟨ra, rc, rb, rd, rfl, _, _, k3, csO, csR, o1, o2, o3, o4⟩; have b4 := below_trans HB.out.1 (below_trans H3.out.2.2 k3); have y4 := (b4.block X (Array.getElem?_eq_some_iff.1 H.out.2.2.2.2.1).1).trans H.out.2.2.2.2.1; obtain ⟨i0, i1, i2, i3, i4, i5⟩ := box_cells y4; have H4 := Lib.hid (And.intro b4 (And.intro y4 (And.intro k3 (And.intro o1 (And.intro o2 (And.intro o3 o4)))))); clear b4 y4 k3 o1 o2 o3 o4)
        | (go_at_call 103; (with_reducible refine HBC.out.mono ?_); rintro e3 w3 ⟨t, G, M, T, F, rfl, k1, k2, k3⟩; have H3 := Lib.hid (And.intro k1 (And.intro k2 k3)); clear k1 k2 k3))
      obtain ⟨WF, hWF⟩ : ∃ WF, WF = set3 w4 X (.int .i64 (n : Int)) (.slice ra n rc) (.slice rb n rd) := ⟨_, rfl⟩
      have hF : WF.heap[X]? = some (.cells #[.int .i64 (n : Int), .slice ra n rc, .slice rb n rd] 25) := by rw [hWF]; exact set3_box H4.out.2.1
      have gF : w4.grownBy WF (some X) := by rw [hWF]; exact ((grown_put 0 _).trans (grown_put 1 _)).trans (grown_put 2 _)
      unfold set3 at hWF
      rw [← hWF]
      clear hWF i0 i1 i2 i3 i4 i5
      obtain ⟨f0, f1, f2, _, _, _⟩ := box_cells hF
      have h3 : X < w3.heap.size := by
        have h1 := (Array.getElem?_eq_some_iff.1 H.out.2.2.2.2.1).1
        have h2 := (below_trans HB.out.1 H3.out.2.2).size
        omega
      have hO9 := H4.out.2.2.2.1.off gF h3
      have hOO9 := H4.out.2.2.2.2.1.off gF h3
      have hR9 := H4.out.2.2.2.2.2.1.off gF h3
      have hRR9 := H4.out.2.2.2.2.2.2.off gF h3
      have hbF : Below X w WF := by
        have h1 := below_trans H.out.2.2.2.1 H4.out.1
        have := h1.grown gF h1.size (fun g hg => by cases hg; omega)
        rwa [hX] at this
      refine bodyPost_ret (v := .tuple #[.agg #[.int .i64 (n : Int), .slice ra n rc, .slice rb n rd], .int .i64 0]) (by simp [results, Tryz.results90, go_sem, f0, f1, f2]) rfl ?_
      exact ⟨ra, rc, rb, rd, rfl, hbF, fun S hS => GrS.of_own hn.2 H3.out.2.1.of hO9 hOO9 hR9 hRR9 (fun q hq => by have := hS q hq; omega)⟩
end Go.Proofs.YtbejhkojdiadaaaGreat
namespace Go.Proofs.YtbejhkojdiadaaaGreat
open Go.RowKit PlainPm
namespace PlainPm
section
variable {n : Nat} {G : Pm n → Prop} {T : Tw n}
theorem orbO_lt (i : Nat) : (orbO T i).Pairwise (· < ·) := (List.pairwise_lt_range (n := n)).sublist List.filter_sublist
theorem one_least (y : Pm n) : lexLe (PlainPm.one n) y := by
  by_cases h : ∀ i, i < n → y.at i = i
  · exact .inl (Pm.ext fun i hi => by rw [one_at hi, h i hi])
  · have hex : ∃ k, k < n ∧ y.at k ≠ k := by
      have := Classical.not_forall.1 h
      obtain ⟨k, hk⟩ := this
      exact ⟨k, Classical.byContradiction fun hk' => hk (fun h' => absurd h' hk'), fun e => hk (fun _ => e)⟩
    have key : ∀ m, (∃ k, k < m ∧ k < n ∧ y.at k ≠ k) → ∃ k, k < n ∧ y.at k ≠ k ∧ ∀ j, j < k → y.at j = j := by
      intro m
      induction m with
      | zero => rintro ⟨k, hk, _⟩; omega
      | succ m ih =>
        rintro ⟨k, hk, hkn, hky⟩
        by_cases hlow : ∃ k, k < m ∧ k < n ∧ y.at k ≠ k
        · exact ih hlow
        · have hkm : k = m := by
            rcases Nat.lt_or_ge k m with h1 | h1
            · exact absurd ⟨k, h1, hkn, hky⟩ hlow
            · omega
          subst hkm
          refine ⟨k, hkn, hky, fun j hj => Classical.byContradiction fun hjy => hlow ⟨j, hj, by omega, hjy⟩⟩
    obtain ⟨k, hk, hky⟩ := hex
    obtain ⟨k, hk, hky, hlow⟩ := key n ⟨k, hk, hk, hky⟩
    refine .inr ⟨k, hk, fun j hj => by rw [one_at (by omega), hlow j hj], ?_⟩
    rw [one_at hk]
    rcases Nat.lt_trichotomy (y.at k) k with h1 | h1 | h1
    · have h2 := hlow _ h1
      exact absurd (y.inj (y.lt hk) hk h2) (by omega)
    · exact absurd h1 hky
    · exact h1
theorem rep_one (hG : IsG G) (h : Of G T) {i : Nat} (hi : i < n) : PlainPm.repT T i i = PlainPm.one n := by
  have hm : i ∈ (T i).orb := (h.orb hi i).2 ⟨PlainPm.one n, hG.one, Fx.one (by omega), one_at hi⟩
  exact (h.repT hG hi hm).uniq ⟨hG.one, Fx.one (by omega), one_at hi, fun y _ _ _ => one_least y⟩
theorem orbO_head (hG : IsG G) (h : Of G T) {i : Nat} (hi : i < n) : ∃ r, orbO T i = i :: r := by
  have hc := h.chG hG
  have hm : i ∈ orbO T i := hc.base hi
  have hge : ∀ p ∈ orbO T i, i ≤ p := fun p hp => by
    obtain ⟨y, _, h2, h3⟩ := (hc.mem i hi p).1 hp
    rcases Nat.lt_or_ge p i with hlt | hge
    · have := h2 p hlt
      exact absurd (y.inj (by omega) hi (this.trans h3.symm)) (by omega)
    · exact hge
  have hs := orbO_lt (T := T) i
  cases ho : orbO T i with
  | nil => rw [ho] at hm; cases hm
  | cons a r =>
    rw [ho] at hm hge hs
    rcases List.mem_cons.1 hm with e | hmr
    · exact ⟨r, by rw [e]⟩
    · have h1 := List.rel_of_pairwise_cons hs hmr
      have h2 := hge a (by simp)
      omega
def sgen (n : Nat) (O : Nat → List Nat) (R : Nat → Nat → Pm n) (k : Nat) : List (Pm n) := (List.range k).flatMap fun i => ((O i).drop 1).map (R i)
theorem sgen_succ (O : Nat → List Nat) (R : Nat → Nat → Pm n) (k : Nat) : sgen n O R (k + 1) = sgen n O R k ++ ((O k).drop 1).map (R k) := by
  unfold sgen; rw [List.range_succ, List.flatMap_append]; simp
theorem sgen_grp (hG : IsG G) (h : Of G T) (x : Pm n) : Grp (· ∈ sgen n (orbO T) (PlainPm.repT T) n) x ↔ G x := by
  have hc := h.chG hG
  constructor
  · refine Grp.sub hG fun s hs => ?_
    obtain ⟨i, hi, hs⟩ := List.mem_flatMap.1 hs
    obtain ⟨p, hp, rfl⟩ := List.mem_map.1 hs
    exact (hc.rep i (List.mem_range.1 hi) p (List.mem_of_mem_drop hp)).1
  · intro hx
    have h1 := hc.gen (M := fun y => y ∈ sgen n (orbO T) (PlainPm.repT T) n ∨ y = PlainPm.one n) (fun i hi p hp => by
      obtain ⟨r, hr⟩ := orbO_head hG h hi
      have hp : p ∈ orbO T i := hp
      rw [hr] at hp
      rcases List.mem_cons.1 hp with e | hpr
      · right; rw [e]; exact rep_one hG h hi
      · left
        refine List.mem_flatMap.2 ⟨i, List.mem_range.2 hi, List.mem_map.2 ⟨p, ?_, rfl⟩⟩
        rw [hr]; exact hpr) (f := n) (i := 0) (by omega) (fun j hj => by omega) hx
    refine Grp.sub Grp.isG (fun s hs => ?_) h1
    rcases hs with hs | rfl
    · exact Grp.base hs
    · exact .one
end
end PlainPm
theorem valid_ofG {n : Nat} {G : Pm n → Prop} {T : Tw n} (hG : IsG G) (h : Of G T) : Valid n (orbI T n) (repI T n) :=
  valid_of (L := sgen n (orbO T) (PlainPm.repT T) n) (h.congr fun x => (sgen_grp hG h x).symm)
theorem LvW.congr {n ab ao bb bo : Nat} {w : World} {O O' : Nat → List Nat} {R R' : Nat → Nat → Pm n} (h : LvW n w O R ab ao bb bo) (e : ∀ i, i < n → O i = O' i) (e' : ∀ i, i < n → ∀ p ∈ O i, R i p = R' i p) : LvW n w O' R' ab ao bb bo :=
  ⟨fun i hi => by rw [← e i hi]; exact h.orb i hi, fun i hi => by
    have : (O' i).map (R' i) = (O i).map (R i) := by rw [← e i hi]; exact List.map_congr_left fun p hp => (e' i hi p hp).symm
    rw [this]; exact h.rep i hi⟩
theorem GrG.lev {n : Nat} {w : World} {v : Value} {G : Pm n → Prop} (hG : IsG G) (hn : 1 ≤ n ∧ n ≤ 64) (h : GrG w v G) :
    ∃ T, Of G T ∧ ∃ ab ao c bb bo e, v = cv n ab ao c bb bo e ∧ LvW n w (orbO T) (PlainPm.repT T) ab ao bb bo := by
  obtain ⟨T, h1, h2, h3⟩ := h.ch
  obtain ⟨ab, ao, c, bb, bo, e, he, hl⟩ := lev_of h2 h3 (valid_ofG hG h1) hn.1 hn.2
  have hv := fun {i} (hi : i < n) => vals_of (L := sgen n (orbO T) (PlainPm.repT T) n) (h1.congr fun x => (sgen_grp hG h1 x).symm) hi
  exact ⟨T, h1, ab, ao, c, bb, bo, e, he, hl.congr (fun i hi => (hv hi).1) (fun i hi p hp => (hv hi).2 p (by rw [← (hv hi).1]; exact hp))⟩
end Go.Proofs.YtbejhkojdiadaaaGreat
namespace Go.Proofs.YtbejhkojdiadaaaGreat
open Go.RowKit PlainPm
set_option maxRecDepth 100000 in
set_option maxHeartbeats 4000000 in
theorem bs60o {g o c : Nat} {zs : List Int} {x : Int} {w : World} (hn : zs.length ≤ 64) (hc : ∀ j, j < zs.length → w.cell? ⟨g, o + j, none⟩ = some (.int .i64 (zs.getD j 0))) (hs : zs.Pairwise (· ≤ ·)) :
    Calls Tryz.prog 60 #[.slice (some ⟨g, o, none⟩) zs.length c, .int .i64 x] w fun e w' => e = .returned (.tuple #[.int .i64 (zs.countP (· < x) : Nat), .bool (zs.contains x)]) ∧ ∃ q, w' = w.drewN q := by
  have S0 := Lib.sorted_at zs zs.length (Nat.le_refl _) (by rw [List.take_length]; exact hs)
  have E0 := fun hi h1 h2 h3 => Lib.search_end zs zs.length hi x (Nat.le_refl _) h1 h2 h3 S0
  simp only [List.take_length] at E0
  obtain ⟨n, hn'⟩ : ∃ n, zs.length = n := ⟨_, rfl⟩
  rw [hn'] at hn hc S0 E0 ⊢
  have S := Lib.hid (And.intro S0 (And.intro E0 hn'))
  clear hs S0 E0 hn'
  go_enter Tryz.func60, Tryz.ntmps60
  go_wp2_with fail
  go_loopw [7, 8, 9] (fun s7 s8 _ wr => ∃ lo hi q : Nat, s7 = .int .i64 lo ∧ s8 = .int .i64 hi ∧ lo ≤ hi ∧ hi ≤ n ∧ wr = w.drewN q ∧ (∀ t, t < lo → zs.getD t 0 < x) ∧ (∀ t, hi ≤ t → t < n → x ≤ zs.getD t 0)) (fun s7 s8 _ _ => (intOf s8 - intOf s7).toNat)
  case atStart => exact ⟨0, n, 0, rfl, rfl, Nat.zero_le _, Nat.le_refl _, rfl, fun t ht => absurd ht (Nat.not_lt_zero _), fun t h1 h2 => by omega⟩
  case round =>
    obtain ⟨lo, hi, q, rfl, rfl, hlh, hin, rfl, h1, h2⟩ := hrel
    have I := Lib.hid (And.intro h1 h2)
    clear h1 h2
    by_cases hlt : lo < hi
    · have cm : w.cell? ⟨g, o + (lo + hi) / 2, none⟩ = some (.int .i64 (zs.getD ((lo + hi) / 2) 0)) := hc _ (by omega)
      obtain ⟨y, hy⟩ : ∃ y, zs.getD ((lo + hi) / 2) 0 = y := ⟨_, rfl⟩
      rw [hy] at cm
      have Y := Lib.hid (And.intro hc hy)
      clear hc hy
      by_cases hyx : y < x
      · go_wp2_with (first | (go_at_call 105; with_reducible refine (less105 _ _ _).mono ?_; rintro e w' ⟨rfl, rfl⟩) | (go_at_call 106; with_reducible refine (nan106 _ _).mono ?_; rintro e w' ⟨rfl, rfl⟩))
        refine ⟨⟨(lo + hi) / 2 + 1, hi, _, by rw [show ((lo : Int) + (hi : Int)) / 2 + 1 = (((lo + hi) / 2 + 1 : Nat) : Int) by omega], rfl, by omega, hin, rfl, fun t ht => ?_, I.out.2⟩, by simp [intOf]; omega⟩
        have := S.out.1 t ((lo + hi) / 2) (by omega) (by omega)
        rw [Y.out.2] at this
        omega
      · go_wp2_with (first | (go_at_call 105; with_reducible refine (less105 _ _ _).mono ?_; rintro e w' ⟨rfl, rfl⟩) | (go_at_call 106; with_reducible refine (nan106 _ _).mono ?_; rintro e w' ⟨rfl, rfl⟩))
        refine ⟨⟨lo, (lo + hi) / 2, _, rfl, by rw [show ((lo : Int) + (hi : Int)) / 2 = (((lo + hi) / 2 : Nat) : Int) by omega], by omega, by omega, rfl, I.out.1, fun t ht htn => ?_⟩, by simp [intOf]; omega⟩
        have := S.out.1 ((lo + hi) / 2) t ht htn
        rw [Y.out.2] at this
        omega
    · obtain rfl : hi = lo := by omega
      obtain ⟨e1, e2⟩ := S.out.2.1 hi hin I.out.1 I.out.2
      have hnn := S.out.2.2
      have E := Lib.hid (And.intro e1 (And.intro e2 hnn))
      clear e1 e2 hnn
      by_cases hn : hi < n
      · have cl : w.cell? ⟨g, o + hi, none⟩ = some (.int .i64 (zs.getD hi 0)) := hc _ (by omega)
        obtain ⟨y, hy⟩ : ∃ y, zs.getD hi 0 = y := ⟨_, rfl⟩
        rw [hy] at cl
        have Y := Lib.hid (And.intro hc hy)
        clear hc hy
        by_cases hyx : y = x
        · go_wp2_with (first | (go_at_call 105; with_reducible refine (less105 _ _ _).mono ?_; rintro e w' ⟨rfl, rfl⟩) | (go_at_call 106; with_reducible refine (nan106 _ _).mono ?_; rintro e w' ⟨rfl, rfl⟩))
          refine bodyPost_ret (v := .tuple #[.int .i64 (hi : Int), .bool true]) (by simp [results, Tryz.results60, go_sem]) rfl ?_
          refine ⟨?_, _, rfl⟩
          rw [E.out.1, E.out.2.1, Y.out.2, decide_eq_true (show hi < n ∧ y = x from ⟨hn, hyx⟩)]
        · go_wp2_with (first | (go_at_call 105; with_reducible refine (less105 _ _ _).mono ?_; rintro e w' ⟨rfl, rfl⟩) | (go_at_call 106; with_reducible refine (nan106 _ _).mono ?_; rintro e w' ⟨rfl, rfl⟩))
          refine bodyPost_ret (v := .tuple #[.int .i64 (hi : Int), .bool false]) (by simp [results, Tryz.results60, go_sem, hyx]) rfl ?_
          refine ⟨?_, _, rfl⟩
          rw [E.out.1, E.out.2.1, Y.out.2, decide_eq_false (show ¬ (hi < n ∧ y = x) from fun h => hyx h.2)]
      · clear hc
        go_wp2_with (first | (go_at_call 105; with_reducible refine (less105 _ _ _).mono ?_; rintro e w' ⟨rfl, rfl⟩) | (go_at_call 106; with_reducible refine (nan106 _ _).mono ?_; rintro e w' ⟨rfl, rfl⟩))
        refine bodyPost_ret (v := .tuple #[.int .i64 (hi : Int), .bool false]) (by simp [results, Tryz.results60, go_sem]) rfl ?_
        refine ⟨?_, _, rfl⟩
        rw [E.out.1, E.out.2.1, decide_eq_false (show ¬ (hi < n ∧ zs.getD hi 0 = x) from fun h => hn h.1)]
def BoolIs (e : Ending) (Q : Prop) : Prop := ∃ B, e = .returned (.bool B) ∧ (B = true ↔ Q)
theorem BoolIs.yes {Q : Prop} (h : Q) : BoolIs (.returned (.bool true)) Q := ⟨true, rfl, ⟨fun _ => h, fun _ => rfl⟩⟩
theorem BoolIs.no {Q : Prop} (h : ¬ Q) : BoolIs (.returned (.bool false)) Q := ⟨false, rfl, ⟨fun h' => (by cases h'), fun h' => absurd h' h⟩⟩
theorem pos_sorted {l : List Nat} (hs : l.Pairwise (· < ·)) {t : Nat} (ht : t ∈ l) : l[(nts l).countP (fun v => decide (v < (t : Int)))]? = some t := by
  obtain ⟨s, hs'⟩ := List.mem_iff_getElem?.1 ht
  have hsl := (List.getElem?_eq_some_iff.1 hs').1
  have h1 : (nts l).Pairwise (· < ·) := by
    unfold nts
    exact List.pairwise_map.2 (hs.imp (fun h => by omega))
  have h2 := countP_sorted h1 (s := s) (by rw [nts_len]; exact hsl)
  have h3 : (nts l)[s]'(by rw [nts_len]; exact hsl) = (t : Int) := by
    have := (List.getElem?_eq_some_iff.1 hs').2
    simp [nts, this]
  rw [h3] at h2
  rw [h2]; exact hs'
theorem bs_orb {l : List Nat} (hs : l.Pairwise (· < ·)) (h64 : l.length ≤ 64) (t : Nat) : ∃ P : Nat, (t ∈ l → l[P]? = some t) ∧ ∀ (W : World) (g o c : Nat), (∀ (k q : Nat), l[k]? = some q → W.cell? ⟨g, o + k, none⟩ = some (.int .i64 (q : Int))) →
    Calls Tryz.prog 60 #[.slice (some ⟨g, o, none⟩) l.length c, .int .i64 (t : Int)] W fun e w' => e = .returned (.tuple #[.int .i64 (P : Int), .bool (decide (t ∈ l))]) ∧ ∃ q, w' = W.drewN q := by
  refine ⟨(nts l).countP (fun v => decide (v < (t : Int))), fun ht => pos_sorted hs ht, fun W g o c hc => ?_⟩
  have hl : (nts l).length = l.length := nts_len l
  have := bs60o (c := c) (g := g) (o := o) (zs := nts l) (x := (t : Int)) (w := W) (by rw [hl]; exact h64) (fun j hj => by
    rw [hl] at hj
    rw [hc j l[j] (List.getElem?_eq_getElem hj)]
    simp [nts, List.getD, List.getElem?_eq_getElem hj]) (by
    unfold nts
    exact List.pairwise_map.2 (hs.imp (fun h => by omega)))
  rw [hl] at this
  have hm : (nts l).contains (t : Int) = decide (t ∈ l) := by
    rw [Bool.eq_iff_iff, decide_eq_true_iff, List.contains_iff_mem]
    unfold nts
    rw [List.mem_map]
    constructor
    · rintro ⟨q, hq, he⟩
      have : q = t := by omega
      rw [← this]; exact hq
    · intro h; exact ⟨t, h, rfl⟩
  rw [hm] at this
  exact this
set_option maxRecDepth 100000 in
set_option maxHeartbeats 2000000 in
theorem has77c {n : Nat} (hn : 0 < n ∧ n ≤ 64) {G : Pm n → Prop} (hG : IsG G) {T : Tw n} (hT : Of G T) {w : World} {bk ab ao c bb bo e : Nat}
    (b0 : w.cell? ⟨bk, 0, none⟩ = some (.int .i64 (n : Int))) (b1 : w.cell? ⟨bk, 1, none⟩ = some (.slice (some ⟨ab, ao, none⟩) n c)) (b2 : w.cell? ⟨bk, 2, none⟩ = some (.slice (some ⟨bb, bo, none⟩) n e)) (h : LvW n w (orbO T) (PlainPm.repT T) ab ao bb bo) {x : Pm n} {va : Value} (hx : PmV w [] va x) :
    Calls Tryz.prog 77 #[.pointer (some ⟨bk, 0, none⟩), va] w fun e w' => BoolIs e (G x) ∧ Below w.heap.size w w' := by
  have hC := hT.chG hG
  have hsf := hC.sf_iff (f := n) (i := 0) (x := x) (by omega) (fun j hj => by omega)
  obtain ⟨O, hO⟩ : ∃ O, orbO T = O := ⟨_, rfl⟩
  obtain ⟨R, hR⟩ : ∃ R, PlainPm.repT T = R := ⟨_, rfl⟩
  have hsrt : ∀ i, (O i).Pairwise (· < ·) := fun i => by rw [← hO]; exact orbO_lt i
  have hC' : ChG G O R := by rw [← hO, ← hR]; exact hC
  have hsf' : sfG O R n 0 x = n ↔ G x := by rw [← hO, ← hR]; exact hsf
  rw [hO, hR] at h
  have H := Lib.hid (And.intro h (And.intro hx (And.intro b1 (And.intro hsrt (And.intro hC' hsf')))))
  obtain ⟨xb, xo, xc, rfl, _⟩ := id hx
  clear h hx hsrt hC' hsf' hC hsf hO hR
  go_enter Tryz.func77, Tryz.ntmps77
  go_wp2_with fail
  clear b0 b1 b2
  go_loopw [1, 5, 6, 7, 8, 9, 10, 17] (fun v _ _ _ _ _ _ i wr => ∃ (k : Nat) (z : Pm n), k ≤ n ∧ i = .int .i64 (k : Int) ∧ PmV wr [] v z ∧ Below w.heap.size w wr ∧ sfG O R (n - k) k z = sfG O R n 0 x) (fun _ _ _ _ _ _ _ i _ => n - (intOf i).toNat)
  case atStart => exact ⟨0, x, by omega, rfl, H.out.2.1, Below.refl _ _, rfl⟩
  case round =>
    obtain ⟨k, z, hk, rfl, hz, hb, he⟩ := hrel
    by_cases hkn : k < n
    · obtain ⟨go, oo, oc, gr, ro, rc, y1, y2, y3⟩ := H.out.1.at_ hb hkn
      have p1 : wr.cell? ⟨bk, 1, none⟩ = some (.slice (some ⟨ab, ao, none⟩) n c) := (hb.cell (block_lt_of_cell H.out.2.2.1)).trans H.out.2.2.1
      obtain ⟨zb, zo, zc, hze, _, hzb, hzc⟩ := id hz
      subst hze
      have y4 := hzc k hkn
      obtain ⟨t, ht⟩ : ∃ t, z.at k = t := ⟨_, rfl⟩
      rw [ht] at y4
      have hsh := H.out.2.2.2.2.1.short hkn
      obtain ⟨P, hP, hbs⟩ := bs_orb (H.out.2.2.2.1 k) (Nat.le_trans hsh hn.2) t
      have hbs' := fun q => hbs (wr.drewN q) go oo oc (fun j p hp => (y3 wr hb j p hp).1)
      obtain ⟨L, hL⟩ : ∃ L, (O k).length = L := ⟨_, rfl⟩
      rw [hL] at y1 y2 hbs'
      have hL64 : L ≤ 64 := by omega
      have hk1 : (k : Int) < n := by omega
      by_cases hm : t ∈ O k
      · have hPt := hP hm
        have hPL : P < L := by rw [← hL]; exact (List.getElem?_eq_some_iff.1 hPt).1
        obtain ⟨_, u, y5, hu⟩ := y3 wr hb P t hPt
        rw [decide_eq_true hm] at hbs'
        obtain ⟨ub, uo, uc, rfl, _⟩ := id hu
        have hinv := fun (V : World) (hv : Below wr.heap.size wr V) => px118 hn (hu.below hv)
        have hmul := fun (V V' : World) (v : Value) (hv : Below wr.heap.size wr V) (hv' : Below V.heap.size V V') (h : NewPm V V' v (R k t).inv) => px119 hn (hz.below (below_trans hv hv')) (h.pm (M := []) (by simp))
        have HC := Lib.hid (And.intro hbs' (And.intro hinv (And.intro hmul (And.intro hb (And.intro he (And.intro ht hm))))))
        clear hbs' hinv hmul hb he ht hm hbs hP hPt hu hz hzc y3 hL hsh
        go_wp2_with fail
        go_quiet ((go_at_call 60; exact Calls.quiet_of (HC.out.1 _)))
        go_wp2_with (first
          | (go_at_call 119; refine (HC.out.2.2.1 _ _ _ (below_self_drewN _ _) H6.out.2 H6.out.1).mono ?_; rintro e1 w7 ⟨v7, rfl, k1, k2⟩; have H7 := Lib.hid (And.intro k1 k2); clear k1 k2)
          | (go_at_call 118; refine (HC.out.2.1 _ (below_self_drewN _ _)).mono ?_; rintro e1 w6 ⟨v6, rfl, k1, k2⟩; have H6 := Lib.hid (And.intro k1 k2); clear k1 k2))
        have hb7 : Below w.heap.size w w7 := below_trans (below_trans HC.out.2.2.2.1 (below_self_drewN wr nq)) (below_trans H6.out.2 H7.out.2)
        refine ⟨⟨k + 1, z.mul (R k t).inv, by omega, by go_num, H7.out.1.pm (by simp), hb7, ?_⟩, by simp [intOf]; omega⟩
        rw [← HC.out.2.2.2.2.1, show n - k = n - (k + 1) + 1 by omega, sfG, HC.out.2.2.2.2.2.1, if_pos HC.out.2.2.2.2.2.2]
      · rw [decide_eq_false hm] at hbs'
        have HC := Lib.hid (And.intro hbs' (And.intro hb (And.intro he (And.intro ht hm))))
        clear hbs' hb he ht hm hbs hP hz hzc y3 hL hsh
        go_wp2_with fail
        go_quiet ((go_at_call 60; exact Calls.quiet_of (HC.out.1 _)))
        go_wp2_with fail
        refine bodyPost_ret (v := .bool false) (by simp [results, Tryz.results77, go_sem]) rfl ?_
        refine ⟨BoolIs.no fun hg => ?_, below_trans HC.out.2.1 (below_self_drewN wr nq)⟩
        have h1 := H.out.2.2.2.2.2.2 hg
        rw [← HC.out.2.2.1, show n - k = n - (k + 1) + 1 by omega, sfG, HC.out.2.2.2.1, if_neg HC.out.2.2.2.2] at h1
        omega
    · obtain rfl : k = n := by omega
      have hk1 : ¬ (k : Int) < k := by omega
      rw [Nat.sub_self] at he
      have HC := Lib.hid (And.intro hb he)
      clear hb he hz
      go_wp2_with fail
      refine bodyPost_ret (v := .bool true) (by simp [results, Tryz.results77, go_sem]) rfl ?_
      exact ⟨BoolIs.yes (H.out.2.2.2.2.2.1 HC.out.2.symm), HC.out.1⟩
--IN
theorem has77 {n : Nat} (hn : 0 < n ∧ n ≤ 64) {G : Pm n → Prop} (hG : IsG G) {T : Tw n} (hT : Of G T) {w : World} {bk ab ao c bb bo e : Nat}
    (hbk : w.heap[bk]? = some (.cells #[.int .i64 (n : Int), .slice (some ⟨ab, ao, none⟩) n c, .slice (some ⟨bb, bo, none⟩) n e] 81 (0, 0))) (h : LvW n w (orbO T) (PlainPm.repT T) ab ao bb bo) {x : Pm n} {va : Value} (hx : PmV w [] va x) :
    Calls Tryz.prog 77 #[.pointer (some ⟨bk, 0, none⟩), va] w fun e w' => BoolIs e (G x) ∧ Below w.heap.size w w' :=
  has77c (c := c) (e := e) hn hG hT (by simp [World.cell?, hbk]) (by simp [World.cell?, hbk]) (by simp [World.cell?, hbk]) h hx
end Go.Proofs.YtbejhkojdiadaaaGreat
namespace Go.Proofs.YtbejhkojdiadaaaGreat
open Go.RowKit PlainPm
theorem reps_vals {n : Nat} {w : World} {v : Value} {l : List (Pm n)} (h : RepsW w v l) : ∃ g o c qs, v = .slice (some ⟨g, o, none⟩) l.length c ∧ l.length ≤ c ∧ l.length ≤ 64 ∧ g < w.heap.size ∧ PmL w [] qs l ∧ ∀ (j : Nat) y, qs[j]? = some y → w.cell? ⟨g, o + j, none⟩ = some y := by
  obtain ⟨g, o, c, rfl, h1, h2, h3, h4⟩ := h
  have each : ∀ j : Fin l.length, ∃ u, w.cell? ⟨g, o + j.val, none⟩ = some u ∧ PmV w [] u l[j.val] := fun j => h4 j.val _ (List.getElem?_eq_getElem j.isLt)
  obtain ⟨f, hf⟩ := Classical.axiomOfChoice each
  refine ⟨g, o, c, List.ofFn f, rfl, h3, h2, h1, ⟨by simp, fun k x hx => ?_⟩, fun j y hy => ?_⟩
  · have hk := (List.getElem?_eq_some_iff.1 hx).1
    refine ⟨f ⟨k, hk⟩, by simp [hk], ?_⟩
    have := (hf ⟨k, hk⟩).2
    rwa [(List.getElem?_eq_some_iff.1 hx).2] at this
  · have hj : j < l.length := by have := (List.getElem?_eq_some_iff.1 hy).1; simpa using this
    have h5 := (hf ⟨j, hj⟩).1
    simp [hj] at hy
    rw [← hy]; exact h5
theorem PmL.drop1 {n : Nat} {w : World} {us : List Value} {l : List (Pm n)} (h : PmL w [] us l) : PmL w [] (us.drop 1) (l.drop 1) := by
  refine ⟨by simp [h.1], fun k x hx => ?_⟩
  rw [List.getElem?_drop] at hx
  obtain ⟨u, hu, hp⟩ := h.2 _ x hx
  exact ⟨u, by rw [List.getElem?_drop]; exact hu, hp⟩
theorem PmL.below {n : Nat} {w w' : World} {us : List Value} {l : List (Pm n)} (h : PmL w [] us l) (k : Below w.heap.size w w') : PmL w' [] us l :=
  ⟨h.1, fun i x hx => by obtain ⟨u, hu, hp⟩ := h.2 i x hx; exact ⟨u, hu, hp.below k⟩⟩
set_option maxRecDepth 100000 in
set_option maxHeartbeats 2000000 in
theorem strong73 {n ab ao c bb bo e : Nat} {G : Pm n → Prop} {O : Nat → List Nat} {R : Nat → Nat → Pm n} (hn : 0 < n ∧ n ≤ 64) (hG : ChG G O R) {w w0 : World} (h : LvW n w0 O R ab ao bb bo) (h0 : Below w0.heap.size w0 w) :
    Calls Tryz.prog 73 #[cv n ab ao c bb bo e] w fun e w' => ∃ v us, e = .returned v ∧ Own w' w.heap.size v 27 us ∧ PmL w0 [] us (sgen n O R n) ∧ us.length ≤ 4096 ∧ Below w.heap.size w w' := by
  obtain ⟨i27, hi27, hz27, hs27, hb27⟩ := info_parts Tryz.info27
  have I27 := Lib.hid (And.intro hi27 (And.intro hz27 (And.intro hs27 hb27)))
  clear hi27 hz27 hs27 hb27
  obtain ⟨X, hX⟩ : ∃ X, w.heap.size = X := ⟨_, rfl⟩
  have hB0 := BoxW.start w X n ab ao c bb bo e hX
  obtain ⟨W1, hW1⟩ : ∃ W1, W1 = w.alloc (.cells #[.int .i64 (n : Int), .slice (some ⟨ab, ao, none⟩) n c, .slice (some ⟨bb, bo, none⟩) n e] 25) := ⟨_, rfl⟩
  rw [← hW1] at hB0
  have hwW : Below w.heap.size w W1 := by rw [hX]; exact hB0.bel
  have H := Lib.hid (And.intro h (And.intro hG (And.intro hB0 (And.intro hX (And.intro hwW (below_trans h0 hwW))))))
  clear h hwW hG hB0 h0
  go_enter Tryz.func73, Tryz.ntmps73
  try rw [hX]
  go_wp2_with fail
  try rw [← hW1]
  clear hW1
  go_loopw [3, 5, 9] (fun v _ i wr => ∃ (k : Nat) (us : List Value), k ≤ n ∧ i = .int .i64 (k : Int) ∧ Own wr W1.heap.size v 27 us ∧ PmL w0 [] us (sgen n O R k) ∧ us.length ≤ k * 64 ∧ Below W1.heap.size W1 wr) (fun _ _ i _ => n - (intOf i).toNat)
  case atStart => exact ⟨0, [], by omega, rfl, Own.nil _ _ _, ⟨rfl, fun k x hx => by simp [sgen] at hx⟩, by simp, Below.refl _ _⟩
  case round =>
    obtain ⟨k, us, hk, rfl, ho, hp, hul, hb⟩ := hrel
    have hbw := below_trans H.out.2.2.2.2.1 hb
    have hbv := below_trans H.out.2.2.2.2.2 hb
    have hsz := hb.size
    by_cases hkn : k < n
    · obtain ⟨vr, y2w, hpr⟩ := H.out.1.rep k hkn
      obtain ⟨g, o, rc, qs, rfl, hcap, h64, hg, hql, hqc⟩ := reps_vals hpr
      have y2 := (hbv.cell (block_lt_of_cell y2w)).trans y2w
      rw [List.length_map] at y2 hcap h64
      have hpos := H.out.2.1.pos hkn
      obtain ⟨m, hm⟩ : ∃ m, (O k).length = m + 1 := ⟨(O k).length - 1, by omega⟩
      rw [hm] at y2 hcap h64
      have hqm : (qs.drop 1).length = m := by rw [List.length_drop, hql.1, List.length_map, hm]; rfl
      have hsrc : ∀ j y, (qs.drop 1)[j]? = some y → wr.cell? ⟨g, o + 1 + j, none⟩ = some y := fun j y hy => by
        rw [List.getElem?_drop] at hy
        have := (hbv.cell (p := ⟨g, o + (1 + j), none⟩) hg).trans (hqc _ _ hy)
        rwa [show o + (1 + j) = o + 1 + j by omega] at this
      have hq1 := hql.drop1
      have hone := hq1.one_
      have hk64 : k * 64 ≤ 64 * 64 := Nat.mul_le_mul (by omega) (Nat.le_refl _)
      have hul2 : us.length + m < 1099511627776 := by omega
      have HP := Lib.hid (And.intro ho (And.intro hp (And.intro hul (And.intro hb (And.intro hq1 (And.intro hsrc (And.intro hone hqm)))))))
      have hk1 : (k : Int) < n := by omega
      clear ho hp hul hb hq1 hsrc hone hqm hql hqc hpr hpos hm y2w
      by_cases hrc : rc = 1
      · subst hrc
        obtain rfl : m = 0 := by omega
        go_wp2_with (at_builtin; refine appN rfl (.tmp 13) (.tmp 15) 44 27 rfl i27 (.slice none 0 0) 24 Tryz.underlying44 I27.out.1 I27.out.2.1 I27.out.2.2.1 I27.out.2.2.2 rfl (by omega) W1.heap.size _ us (qs.drop 1) rfl HP.out.1 g (o) 0 0 rfl HP.out.2.2.2.2.2.2.2 (fun j y hy => by have h0 := HP.out.2.2.2.2.2.2.2; have h1 := (List.getElem?_eq_some_iff.1 hy).1; omega) HP.out.2.2.2.2.2.2.1 hul2 hsz ?_; intro v8 w8 k1 k2 k3; have H8 := Lib.hid (And.intro k1 (And.intro k2 k3)); clear k1 k2 k3)
        refine ⟨⟨k + 1, us ++ qs.drop 1, by omega, by go_num, H8.out.1, ?_, ?_, HP.out.2.2.2.1.grown H8.out.2.1 hsz (fun g hg => (HP.out.1.block_lt hg).2)⟩, by simp [intOf]; omega⟩
        · rw [sgen_succ, List.map_drop]; exact HP.out.2.1.app HP.out.2.2.2.2.1
        · rw [List.length_append, HP.out.2.2.2.2.2.2.2]; have := HP.out.2.2.1; omega
      · go_wp2_with (at_builtin; refine appN rfl (.tmp 13) (.tmp 15) 44 27 rfl i27 (.slice none 0 0) 24 Tryz.underlying44 I27.out.1 I27.out.2.1 I27.out.2.2.1 I27.out.2.2.2 rfl (by omega) W1.heap.size _ us (qs.drop 1) rfl HP.out.1 g (o + 1) m (rc - 1) rfl HP.out.2.2.2.2.2.2.2 HP.out.2.2.2.2.2.1 HP.out.2.2.2.2.2.2.1 hul2 hsz ?_; intro v8 w8 k1 k2 k3; have H8 := Lib.hid (And.intro k1 (And.intro k2 k3)); clear k1 k2 k3)
        refine ⟨⟨k + 1, us ++ qs.drop 1, by omega, by go_num, H8.out.1, ?_, ?_, HP.out.2.2.2.1.grown H8.out.2.1 hsz (fun g hg => (HP.out.1.block_lt hg).2)⟩, by simp [intOf]; omega⟩
        · rw [sgen_succ, List.map_drop]; exact HP.out.2.1.app HP.out.2.2.2.2.1
        · rw [List.length_append, HP.out.2.2.2.2.2.2.2]; have := HP.out.2.2.1; omega
    · obtain rfl : k = n := by omega
      have hk1 : ¬ (k : Int) < k := by omega
      have HP := Lib.hid (And.intro ho (And.intro hp (And.intro hul hbw)))
      clear ho hp hul hb hbw
      go_wp2_with fail
      go_ret
      have hsz1 := H.out.2.2.2.2.1.size
      have h64 : k * 64 ≤ 64 * 64 := Nat.mul_le_mul hn.2 (Nat.le_refl _)
      have hb9 := HP.out.2.2.2
      have hu9 := HP.out.2.2.1
      rw [H.out.2.2.2.1] at hb9 hsz1
      exact ⟨_, rfl, us, HP.out.1.mono hsz1, HP.out.2.1, by omega, hb9⟩
end Go.Proofs.YtbejhkojdiadaaaGreat
namespace Go.Proofs.YtbejhkojdiadaaaGreat
open Go.RowKit PlainPm
noncomputable def pairE (d1 : Int) (os1 : List (List Int)) (rs1 : List (List (List Int))) (d2 : Int) (os2 : List (List Int)) (rs2 : List (List (List Int))) : Int :=
  if chkE d1 os1 rs1 ≠ 0 then chkE d1 os1 rs1 else if chkE d2 os2 rs2 ≠ 0 then chkE d2 os2 rs2 else if d1 ≠ d2 then 10 else 0
set_option maxRecDepth 100000 in
set_option maxHeartbeats 2000000 in
theorem pair70 {w : World} {v1 v2 : Value} {d1 d2 : Int} {os1 os2 : List (List Int)} {rs1 rs2 : List (List (List Int))} (h1 : ChV w v1 d1 os1 rs1) (h2 : ChV w v2 d2 os2 rs2) :
    Calls Tryz.prog 70 #[v1, v2] w fun e w' => e = .returned (.int .i64 (pairE d1 os1 rs1 d2 os2 rs2)) ∧ Below w.heap.size w w' := by
  have hc1 := fun (V : World) (hV : Below w.heap.size w V) => chk54 (h1.below hV)
  have hc2 := fun (V : World) (hV : Below w.heap.size w V) => chk54 (h2.below hV)
  obtain ⟨a1, b1, c1, e1, rfl, _⟩ := h1
  obtain ⟨a2, b2, c2, e2, rfl, _⟩ := h2
  obtain ⟨E1, hE1⟩ : ∃ E, chkE d1 os1 rs1 = E := ⟨_, rfl⟩
  obtain ⟨E2, hE2⟩ : ∃ E, chkE d2 os2 rs2 = E := ⟨_, rfl⟩
  obtain ⟨r, hr⟩ : ∃ r, pairE d1 os1 rs1 d2 os2 rs2 = r := ⟨_, rfl⟩
  have hre : r = if E1 ≠ 0 then E1 else if E2 ≠ 0 then E2 else if d1 ≠ d2 then 10 else 0 := by rw [← hr, ← hE1, ← hE2]; rfl
  rw [hE1] at hc1
  rw [hE2] at hc2
  rw [hr]
  obtain ⟨X, hX⟩ : ∃ X, w.heap.size = X := ⟨_, rfl⟩
  obtain ⟨u1, hu1⟩ : ∃ u, (.slice a1 os1.length b1 : Value) = u := ⟨_, rfl⟩
  obtain ⟨W1, hW1⟩ : ∃ W1, (w.alloc (.cells #[.int .i64 d1, .slice a1 os1.length b1, .slice c1 rs1.length e1] 25)).alloc (.cells #[.int .i64 d2, .slice a2 os2.length b2, .slice c2 rs2.length e2] 25) = W1 := ⟨_, rfl⟩
  have hb1 : Below w.heap.size w W1 := hW1 ▸ alloc_b (alloc_b (Below.refl _ _) _) _
  have hk1 : W1.heap[X]? = some (.cells #[.int .i64 d1, .slice a1 os1.length b1, .slice c1 rs1.length e1] 25) := by
    rw [← hW1]
    exact ((alloc_b (Below.refl _ _) _).block X (by simp; omega)).trans (box_al25 hX _ _ _)
  have hk2 : W1.heap[X + 1]? = some (.cells #[.int .i64 d2, .slice a2 os2.length b2, .slice c2 rs2.length e2] 25) := by
    rw [← hW1]
    exact box_al25 (by simp [hX]) _ _ _
  obtain ⟨x0, x1, x2, _⟩ := box_cells hk1
  have HC := Lib.hid (And.intro hc1 (And.intro hc2 (And.intro hb1 (And.intro hk1 (And.intro hk2 hre)))))
  clear hc1 hc2 hb1 hk1 hk2 hE1 hE2 hr hu1 u1 hre
  have HX := Lib.hid hX
  by_cases z1 : E1 = 0
  · have n1 : (E1 != 0) = false := by simp [z1]
    have Z1 := Lib.hid z1
    clear z1
    by_cases z2 : E2 = 0
    · have n2 : (E2 != 0) = false := by simp [z2]
      have Z2 := Lib.hid z2
      clear z2
      by_cases zd : d1 = d2
      · have n3 : (d1 != d2) = false := by simp [zd]
        have Zd := Lib.hid zd
        clear zd
        go_enter Tryz.func70, Tryz.ntmps70
        try rw [hX]
        go_wp2_with (first
          | (go_at_call 54; (with_reducible refine (HC.out.2.1 _ (below_trans HC.out.2.2.1 H2.out)).mono ?_); rintro e w3 ⟨rfl, k1⟩; have k2 := (k1.block X (Nat.lt_of_lt_of_le (Array.getElem?_eq_some_iff.1 HC.out.2.2.2.1).1 H2.out.size)).trans ((H2.out.block X (Array.getElem?_eq_some_iff.1 HC.out.2.2.2.1).1).trans HC.out.2.2.2.1); have k3 := (k1.block (X + 1) (Nat.lt_of_lt_of_le (Array.getElem?_eq_some_iff.1 HC.out.2.2.2.2.1).1 H2.out.size)).trans ((H2.out.block (X + 1) (Array.getElem?_eq_some_iff.1 HC.out.2.2.2.2.1).1).trans HC.out.2.2.2.2.1); obtain ⟨t0, _⟩ := box_cells k2; obtain ⟨s0, _⟩ := box_cells k3; have H3 := Lib.hid k1; clear k1 k2 k3)
          | (go_at_call 54; (with_reducible refine (HC.out.1 _ HC.out.2.2.1).mono ?_); rintro e w2 ⟨rfl, k1⟩; have k3 := (k1.block (X + 1) (Array.getElem?_eq_some_iff.1 HC.out.2.2.2.2.1).1).trans HC.out.2.2.2.2.1; obtain ⟨y0, y1, y2, _⟩ := box_cells k3; have H2 := Lib.hid k1; clear k1 k3))
        go_ret
        have hv := HC.out.2.2.2.2.2
        rw [if_neg (by simp [Z1.out]), if_neg (by simp [Z2.out]), if_neg (by simp [Zd.out])] at hv
        have hb := below_trans HC.out.2.2.1 (below_trans H2.out H3.out)
        rw [HX.out] at hb
        exact ⟨by rw [hv]; rfl, hb⟩
      · have n3 : (d1 != d2) = true := by simp [zd]
        have Zd := Lib.hid zd
        clear zd
        go_enter Tryz.func70, Tryz.ntmps70
        try rw [hX]
        go_wp2_with (first
          | (go_at_call 54; (with_reducible refine (HC.out.2.1 _ (below_trans HC.out.2.2.1 H2.out)).mono ?_); rintro e w3 ⟨rfl, k1⟩; have k2 := (k1.block X (Nat.lt_of_lt_of_le (Array.getElem?_eq_some_iff.1 HC.out.2.2.2.1).1 H2.out.size)).trans ((H2.out.block X (Array.getElem?_eq_some_iff.1 HC.out.2.2.2.1).1).trans HC.out.2.2.2.1); have k3 := (k1.block (X + 1) (Nat.lt_of_lt_of_le (Array.getElem?_eq_some_iff.1 HC.out.2.2.2.2.1).1 H2.out.size)).trans ((H2.out.block (X + 1) (Array.getElem?_eq_some_iff.1 HC.out.2.2.2.2.1).1).trans HC.out.2.2.2.2.1); obtain ⟨t0, _⟩ := box_cells k2; obtain ⟨s0, _⟩ := box_cells k3; have H3 := Lib.hid k1; clear k1 k2 k3)
          | (go_at_call 54; (with_reducible refine (HC.out.1 _ HC.out.2.2.1).mono ?_); rintro e w2 ⟨rfl, k1⟩; have k3 := (k1.block (X + 1) (Array.getElem?_eq_some_iff.1 HC.out.2.2.2.2.1).1).trans HC.out.2.2.2.2.1; obtain ⟨y0, y1, y2, _⟩ := box_cells k3; have H2 := Lib.hid k1; clear k1 k3))
        go_ret
        have hv := HC.out.2.2.2.2.2
        rw [if_neg (by simp [Z1.out]), if_neg (by simp [Z2.out]), if_pos Zd.out] at hv
        have hb := below_trans HC.out.2.2.1 (below_trans H2.out H3.out)
        rw [HX.out] at hb
        exact ⟨by rw [hv]; rfl, hb⟩
    · have n2 : (E2 != 0) = true := by simp [z2]
      have Z2 := Lib.hid z2
      clear z2
      go_enter Tryz.func70, Tryz.ntmps70
      try rw [hX]
      go_wp2_with (first
        | (go_at_call 54; (with_reducible refine (HC.out.2.1 _ (below_trans HC.out.2.2.1 H2.out)).mono ?_); rintro e w3 ⟨rfl, k1⟩; have k2 := (k1.block X (Nat.lt_of_lt_of_le (Array.getElem?_eq_some_iff.1 HC.out.2.2.2.1).1 H2.out.size)).trans ((H2.out.block X (Array.getElem?_eq_some_iff.1 HC.out.2.2.2.1).1).trans HC.out.2.2.2.1); have k3 := (k1.block (X + 1) (Nat.lt_of_lt_of_le (Array.getElem?_eq_some_iff.1 HC.out.2.2.2.2.1).1 H2.out.size)).trans ((H2.out.block (X + 1) (Array.getElem?_eq_some_iff.1 HC.out.2.2.2.2.1).1).trans HC.out.2.2.2.2.1); obtain ⟨t0, _⟩ := box_cells k2; obtain ⟨s0, _⟩ := box_cells k3; have H3 := Lib.hid k1; clear k1 k2 k3)
        | (go_at_call 54; (with_reducible refine (HC.out.1 _ HC.out.2.2.1).mono ?_); rintro e w2 ⟨rfl, k1⟩; have k3 := (k1.block (X + 1) (Array.getElem?_eq_some_iff.1 HC.out.2.2.2.2.1).1).trans HC.out.2.2.2.2.1; obtain ⟨y0, y1, y2, _⟩ := box_cells k3; have H2 := Lib.hid k1; clear k1 k3))
      go_ret
      have hv := HC.out.2.2.2.2.2
      rw [if_neg (by simp [Z1.out]), if_pos Z2.out] at hv
      have hb := below_trans HC.out.2.2.1 (below_trans H2.out H3.out)
      rw [HX.out] at hb
      exact ⟨by rw [hv]; rfl, hb⟩
  · have n1 : (E1 != 0) = true := by simp [z1]
    have Z1 := Lib.hid z1
    clear z1
    go_enter Tryz.func70, Tryz.ntmps70
    try rw [hX]
    go_wp2_with (first
      | (go_at_call 54; (with_reducible refine (HC.out.2.1 _ (below_trans HC.out.2.2.1 H2.out)).mono ?_); rintro e w3 ⟨rfl, k1⟩; have k2 := (k1.block X (Nat.lt_of_lt_of_le (Array.getElem?_eq_some_iff.1 HC.out.2.2.2.1).1 H2.out.size)).trans ((H2.out.block X (Array.getElem?_eq_some_iff.1 HC.out.2.2.2.1).1).trans HC.out.2.2.2.1); have k3 := (k1.block (X + 1) (Nat.lt_of_lt_of_le (Array.getElem?_eq_some_iff.1 HC.out.2.2.2.2.1).1 H2.out.size)).trans ((H2.out.block (X + 1) (Array.getElem?_eq_some_iff.1 HC.out.2.2.2.2.1).1).trans HC.out.2.2.2.2.1); obtain ⟨t0, _⟩ := box_cells k2; obtain ⟨s0, _⟩ := box_cells k3; have H3 := Lib.hid k1; clear k1 k2 k3)
      | (go_at_call 54; (with_reducible refine (HC.out.1 _ HC.out.2.2.1).mono ?_); rintro e w2 ⟨rfl, k1⟩; have k3 := (k1.block (X + 1) (Array.getElem?_eq_some_iff.1 HC.out.2.2.2.2.1).1).trans HC.out.2.2.2.2.1; obtain ⟨y0, y1, y2, _⟩ := box_cells k3; have H2 := Lib.hid k1; clear k1 k3))
    go_ret
    have hv := HC.out.2.2.2.2.2
    rw [if_pos Z1.out] at hv
    have hb := below_trans HC.out.2.2.1 H2.out
    rw [HX.out] at hb
    exact ⟨by rw [hv]; rfl, hb⟩

end Go.Proofs.YtbejhkojdiadaaaGreat
