/- Chapter 11's counts, is and awake. · Centre: the reference's. · Centre: the program's. -/
import Derived.Test.YtbejhkojdiadaaaGreatCo01
import Derived.Test.YtbejhkojdiadaaaGreatCo02
import Derived.Test.YtbejhkojdiadaaaGreatCo03
import Derived.Test.YtbejhkojdiadaaaGreatCo04
import Derived.Test.YtbejhkojdiadaaaGreatCo05
import Derived.Test.YtbejhkojdiadaaaGreatCo06
import Derived.Test.YtbejhkojdiadaaaGreatCo07
import Derived.Test.YtbejhkojdiadaaaGreatCo08
import Derived.Test.YtbejhkojdiadaaaGreatCo09
import Derived.Test.YtbejhkojdiadaaaGreatCo10
import Derived.Test.YtbejhkojdiadaaaGreatCo11
import Derived.Test.YtbejhkojdiadaaaGreatCo12
import Derived.Test.YtbejhkojdiadaaaGreatCo13
import Derived.Test.YtbejhkojdiadaaaGreatCo14
import Derived.Test.YtbejhkojdiadaaaGreatCo15
import Derived.Test.YtbejhkojdiadaaaGreatCo16
import Derived.Test.YtbejhkojdiadaaaGreatCo17
import Derived.Test.YtbejhkojdiadaaaGreatCo18
import Derived.Test.YtbejhkojdiadaaaGreatCo19
import Derived.Test.YtbejhkojdiadaaaGreatCo20
import Derived.Test.YtbejhkojdiadaaaGreatCo21
import Derived.Test.YtbejhkojdiadaaaGreatCo22
import Derived.Test.YtbejhkojdiadaaaGreatCo23
import Derived.Test.YtbejhkojdiadaaaGreatCo24
import Derived.Test.YtbejhkojdiadaaaGreatProg
import Derived.WalkKit
import Derived.WalkSpells
import Derived.BigQuiet
import Derived.Deep.QuietTactic
import Derived.Deep.LoopGhost
import Derived.Lib.Hide
import Derived.Maps.AppendAt
import Derived.Deep.AppendLies
import Derived.StillTailTactics
import Derived.Laws.CopyOwn
import Derived.Deep.OwnRows
import Derived.Deep.DeepCutAuto
import Derived.Laws.Cover3
import Derived.Deep.RegionHeld3
import Derived.RangeFuncRecord
import Derived.Lib.SlicesSearch
import Derived.RangeFuncBox
import Derived.RangeFuncLeaves
import Derived.RangeFuncWrites
import Derived.RangeFuncFrom
import Derived.Shelf.Abstract
import Derived.OwnWalkIn
import Derived.TacticsInMore
import Derived.LoopNIn
import Derived.LoopIn
import Derived.Shelf.GgSortFunc.Insertion
import Derived.Shelf.SlIter.Collect
import Derived.Shelf.Sort.Plain
import Derived.Deep.RegionLaw
import Derived.ControlIn
import Derived.Deep.AppendSrc
import Derived.Laws.BytesArg
import Derived.Maps.OwnSet
import Derived.Carry
import Derived.Maps.Range
set_option linter.unusedSimpArgs false
set_option linter.unusedVariables false
namespace Go.Proofs.YtbejhkojdiadaaaGreat
open Go.RowKit PlainPm
theorem GrG.chT {n : Nat} {w : World} {v : Value} {G : Pm n → Prop} (hG : IsG G) (h : GrG w v G) {T : Tw n} (hT : Of G T) : ChV w v n (orbI T n) (repI T n) := by
  obtain ⟨T', h1, h2, _⟩ := h.ch
  obtain ⟨e1, e2⟩ := of_same_I hG h1 hT
  rwa [e1, e2] at h2
set_option maxRecDepth 100000 in
set_option maxHeartbeats 2000000 in
theorem counts39 {n : Nat} (hn : 0 < n ∧ n ≤ 8) {w : World} {v : Value} {G : Pm n → Prop} (hG : IsG G) (h : GrG w v G) {T : Tw n} (hT : Of G T) {s : Nat} (hs : szF (orbO T) n 0 = s) (hs2 : s ≤ 1000000) :
    Calls Tryz.prog 39 #[v, .int .i64 0, .int .i64 (s : Int)] w fun e w' => e = .returned (.bool true) ∧ Below w.heap.size w w' := by
  have hc := hT.chG hG
  obtain ⟨a, c, b, e, rfl, h1, _⟩ := h.chT hG hT
  have hlo : (orbI T n).length = n := by simp [orbI]
  have hlr : (repI T n).length = n := by simp [repI]
  rw [hlo, hlr]
  obtain ⟨X, hX⟩ : ∃ X, w.heap.size = X := ⟨_, rfl⟩
  obtain ⟨W1, hW1⟩ : ∃ W1, w.alloc (.cells #[.int .i64 (n : Int), .slice a n c, .slice b n e] 25) = W1 := ⟨_, rfl⟩
  have hwW : Below w.heap.size w W1 := hW1 ▸ alloc_b (Below.refl _ _) _
  have k0 : W1.heap[X]? = some (.cells #[.int .i64 (n : Int), .slice a n c, .slice b n e] 25) := hW1 ▸ box_al25 hX _ _ _
  obtain ⟨x0, x1, x2, _⟩ := box_cells k0
  have H := Lib.hid (And.intro h1 (And.intro hc (And.intro hs (And.intro hwW hX))))
  have hn0 : ((n : Int) == 0) = false := by simp; omega
  have hn1 : decide (n = 0) = false := by simp; omega
  clear h1 hc hs hwW k0 h
  go_enter Tryz.func39, Tryz.ntmps39
  try simp only [hX]
  go_wp2_with fail
  go_loopw [7, 8] (fun v i wr => ∃ (k A : Nat), k ≤ n ∧ i = .int .i64 (k : Int) ∧ v = .int .i64 (A : Int) ∧ A * szF (orbO T) (n - k) k = s ∧ wr = W1) (fun _ i _ => n - (intOf i).toNat)
  case atStart => exact ⟨0, 1, by omega, rfl, rfl, by rw [Nat.one_mul]; exact H.out.2.2.1, rfl⟩
  case round =>
    obtain ⟨k, A, hk, rfl, rfl, hA, rfl⟩ := hrel
    by_cases hkn : k < n
    · obtain ⟨ag, ao, ab, ac, hae, _, hac, _⟩ := (H.out.1.below H.out.2.2.2.1).at_ (k := k) (by rw [hlo]; exact hkn)
      subst hae
      have hl : ((orbI T n)[k]?.getD []).length = (orbO T k).length := by simp [orbI, hkn, orbO, nts]
      rw [hl] at hac
      have hpos := H.out.2.1.sz_pos (f := n - (k + 1)) (i := k + 1) (by omega)
      rw [show n - k = n - (k + 1) + 1 by omega, szF] at hA
      obtain ⟨l, hll⟩ : ∃ l, (orbO T k).length = l := ⟨_, rfl⟩
      have hA1 : A * l * szF (orbO T) (n - (k + 1)) (k + 1) = s := by rw [← hll, Nat.mul_assoc]; exact hA
      have hle : A * l ≤ s := by rw [← hA1]; exact Nat.le_mul_of_pos_right _ hpos
      rw [hll] at hac
      obtain ⟨Q, hQ⟩ : ∃ Q, A * l = Q := ⟨_, rfl⟩
      rw [hQ] at hA1 hle
      have hm : (A : Int) * (l : Int) = (Q : Int) := by rw [← hQ]; simp
      have hw1 : IntKind.i64.wrap ((A : Int) * (l : Int)) = (Q : Int) := by rw [hm]; exact IntWalk.i64_in _ (by omega)
      have hk1 : (k : Int) < n := by omega
      have HK := Lib.hid (And.intro hA1 hle)
      clear hA hA1 hle hpos hl hll hQ hm
      go_wp2_with fail
      exact ⟨⟨k + 1, Q, by omega, by go_num, by go_num, HK.out.1, trivial⟩, by simp [intOf]; omega⟩
    · obtain rfl : k = n := by omega
      have hAs : A = s := by rw [Nat.sub_self, szF, Nat.mul_one] at hA; exact hA
      subst hAs
      have hk1 : ¬ (k : Int) < k := by omega
      have HK := Lib.hid hA
      clear hA
      go_wp2_with fail
      refine bodyPost_ret (v := .bool true) (by simp [results, Tryz.results39, go_sem]) rfl ?_
      exact ⟨rfl, by have h := H.out.2.2.2.1; rwa [H.out.2.2.2.2] at h⟩
set_option maxRecDepth 100000 in
set_option maxHeartbeats 2000000 in
theorem is40 {n : Nat} {w : World} {v v' : Value} {G G' : Pm n → Prop} (hG : IsG G) (h : GrG w v G) (h' : GrG w v' G') (he : ∀ x, G' x ↔ G x) :
    Calls Tryz.prog 40 #[v, .int .i64 0, v'] w fun e w' => e = .returned (.bool true) ∧ Below w.heap.size w w' := by
  have h31 := fun (V : World) (hV : Below w.heap.size w V) => GrG.same hG (h.below hV) (h'.below hV) he
  obtain ⟨a1, c1, b1, e1, rfl⟩ := h.form
  obtain ⟨a2, c2, b2, e2, rfl⟩ := h'.form
  obtain ⟨X, hX⟩ : ∃ X, w.heap.size = X := ⟨_, rfl⟩
  obtain ⟨W1, hW1⟩ : ∃ W1, (w.alloc (.cells #[.int .i64 (n : Int), .slice a1 n c1, .slice b1 n e1] 25)).alloc (.cells #[.int .i64 (n : Int), .slice a2 n c2, .slice b2 n e2] 25) = W1 := ⟨_, rfl⟩
  have hwW : Below w.heap.size w W1 := hW1 ▸ alloc_b (alloc_b (Below.refl _ _) _) _
  have k0 : W1.heap[X]? = some (.cells #[.int .i64 (n : Int), .slice a1 n c1, .slice b1 n e1] 25) := by
    rw [← hW1]
    exact ((alloc_b (Below.refl _ _) _).block X (by simp; omega)).trans (box_al25 hX _ _ _)
  have k1 : W1.heap[X + 1]? = some (.cells #[.int .i64 (n : Int), .slice a2 n c2, .slice b2 n e2] 25) := by
    rw [← hW1]
    exact box_al25 (by simp [hX]) _ _ _
  obtain ⟨x0, x1, x2, _⟩ := box_cells k0
  obtain ⟨y0, y1, y2, _⟩ := box_cells k1
  have H := Lib.hid (And.intro h31 (And.intro hwW hX))
  clear h31 hwW k0 k1 h h'
  go_enter Tryz.func40, Tryz.ntmps40
  try simp only [hX]
  go_wp2_with (go_at_call 31; (with_reducible refine (H.out.1 _ H.out.2.1).mono ?_); rintro e2 w2 ⟨rfl, k⟩; have H2 := Lib.hid (below_trans H.out.2.1 k); clear k)
  refine bodyPost_ret (v := .bool true) (by simp [results, Tryz.results40, go_sem]) rfl ?_
  exact ⟨rfl, by have h := H2.out; rwa [H.out.2.2] at h⟩
theorem joinYZ (x : Pm 4) : Grp (fun x => Grp (· ∈ gY2) x ∨ Grp (· ∈ gZ2) x) x ↔ Grp (· ∈ gYZ) x := by
  constructor
  · refine Grp.sub Grp.isG fun s hs => ?_
    rcases hs with h | h
    · exact Grp.sub Grp.isG (fun y hy => Grp.base (by simp [gY2] at hy; simp [gYZ, hy])) h
    · exact Grp.sub Grp.isG (fun y hy => Grp.base (by simp [gZ2] at hy; simp [gYZ, hy])) h
  · refine Grp.sub Grp.isG fun s hs => ?_
    simp only [gYZ, List.mem_cons, List.not_mem_nil, or_false] at hs
    rcases hs with h | h
    · exact Grp.base (.inl (Grp.base (by simp [gY2, h])))
    · exact Grp.base (.inr (Grp.base (by simp [gZ2, h])))
theorem GrG.congrG {n : Nat} {w : World} {v : Value} {G G' : Pm n → Prop} (h : GrG w v G) (e : ∀ x, G x ↔ G' x) : GrG w v G' := by
  obtain ⟨T, a, c, b, d, h1, h2⟩ := h
  exact ⟨T, a, c, b, d, h1.congr e, h2⟩
section
variable {w : World} {v v' : Value}
theorem joinA (h : GrG w v (Grp (· ∈ gY2))) (h' : GrG w v' (Grp (· ∈ gZ2))) : Calls Tryz.prog 23 #[v, v'] w fun e w' => ∃ a c b d, e = .returned (.tuple #[.agg #[.int .i64 4, .slice a 4 c, .slice b 4 d], .int .i64 0]) ∧ Below w.heap.size w w' ∧ GrG w' (.agg #[.int .i64 4, .slice a 4 c, .slice b 4 d]) (Grp (· ∈ gYZ)) :=
  (join23 (n := 4) (by omega) Grp.isG Grp.isG h h').mono fun e w' ⟨a, c, b, d, k1, k2, k3⟩ => ⟨a, c, b, d, k1, k2, (k3 [] (by simp)).now.congrG joinYZ⟩
theorem closA (h : GrG w v (Grp (· ∈ gS4))) {a : Option Addr} {c : Nat} (hl : PmsV w [] (.slice a 1 c) [litP 4 [1, 0, 3, 2]]) : Calls Tryz.prog 32 #[v, .slice a 1 c] w fun e w' => ∃ a c b d, e = .returned (.tuple #[.agg #[.int .i64 4, .slice a 4 c, .slice b 4 d], .int .i64 0]) ∧ Below w.heap.size w w' ∧ GrG w' (.agg #[.int .i64 4, .slice a 4 c, .slice b 4 d]) (Grp (· ∈ gV4)) :=
  (clos32 (n := 4) (L := [litP 4 [1, 0, 3, 2]]) (m0 := 1) (by omega) Grp.isG h rfl (by omega) hl).mono fun e w' ⟨a, c, b, d, k1, k2, k3⟩ => ⟨a, c, b, d, k1, k2, (k3 [] (by simp)).now.congrG fun x => (NcG.grp x).trans (ncV4 x)⟩
theorem commA (h : GrG w v (Grp (· ∈ gS4))) (h' : GrG w v' (Grp (· ∈ gS4))) : Calls Tryz.prog 27 #[v, v'] w fun e w' => ∃ a c b d, e = .returned (.tuple #[.agg #[.int .i64 4, .slice a 4 c, .slice b 4 d], .int .i64 0]) ∧ Below w.heap.size w w' ∧ GrG w' (.agg #[.int .i64 4, .slice a 4 c, .slice b 4 d]) (Grp (· ∈ gA4)) :=
  (comm27 (n := 4) (by omega) Grp.isG Grp.isG h h').mono fun e w' ⟨a, c, b, d, k1, k2, k3⟩ => ⟨a, c, b, d, k1, k2, (k3 [] (by simp)).now.congrG cmA4⟩
theorem normA (h : GrG w v (Grp (· ∈ gV4))) (h' : GrG w v' (Grp (· ∈ gS4))) : Calls Tryz.prog 25 #[v, v'] w fun e w' => e = .returned (.tuple #[.bool true, .int .i64 0]) ∧ Below w.heap.size w w' :=
  (norm25 (n := 4) (by omega) Grp.isG Grp.isG h h').mono fun e w' ⟨b, k1, k2, k3⟩ => ⟨by rw [k1, k2.2 nrmV4], k3⟩
theorem countA (h : GrG w v (Grp (· ∈ gYZ))) : Calls Tryz.prog 39 #[v, .int .i64 0, .int .i64 4] w fun e w' => e = .returned (.bool true) ∧ Below w.heap.size w w' :=
  counts39 (n := 4) (s := 4) (by omega) Grp.isG h tYZ nYZ (by omega)
end
set_option maxRecDepth 100000 in
set_option maxHeartbeats 8000000 in
theorem awake22 {w : World} : Calls Tryz.prog 22 #[] w fun e w' => e = .returned (.bool true) ∧ Below w.heap.size w w' := by
  go_enter Tryz.func22, Tryz.ntmps22
  go_wp2_with (first
    | (go_at_call 40; (with_reducible refine (is40 (n := 4) Grp.isG (H14.out.2.2.2.2.below (below_trans H15.out.2 H16.out.2)) (HG.out.2.1.below H16.out.1) (fun x => Iff.rfl)).mono ?_)
       rintro e17 w17 ⟨rfl, k1⟩
       have H17 := Lib.hid (below_trans H16.out.1 k1)
       clear k1)
    | (go_at_call 40; (with_reducible refine (is40 (n := 4) Grp.isG (H14.out.2.2.2.1.below H15.out.2) (HG.out.2.2.1.below H15.out.1) (fun x => Iff.rfl)).mono ?_)
       rintro e16 w16 ⟨rfl, k1⟩
       have bt : Below W2.heap.size W2 w16 := below_trans H15.out.1 k1
       have zz := (bt.block (Q) (Array.getElem?_eq_some_iff.1 HB.out.1).1).trans HB.out.1
       obtain ⟨m1600, m1601, m1602, _⟩ := box_cells zz; clear zz
       have zz := (bt.block (Q + 1) (Array.getElem?_eq_some_iff.1 HB.out.2.1).1).trans HB.out.2.1
       obtain ⟨m1610, m1611, m1612, _⟩ := box_cells zz; clear zz
       have zz := (bt.block (Q + 1 + 1) (Array.getElem?_eq_some_iff.1 HB.out.2.2.1).1).trans HB.out.2.2.1
       obtain ⟨m1620, m1621, m1622, _⟩ := box_cells zz; clear zz
       have zz := (bt.block (Q + 1 + 1 + 1) (Array.getElem?_eq_some_iff.1 HB.out.2.2.2.1).1).trans HB.out.2.2.2.1
       obtain ⟨m1630, m1631, m1632, _⟩ := box_cells zz; clear zz
       have zz := (bt.block (Q + 1 + 1 + 1 + 1) (Array.getElem?_eq_some_iff.1 HB.out.2.2.2.2).1).trans HB.out.2.2.2.2
       obtain ⟨m1640, m1641, m1642, _⟩ := box_cells zz; clear zz
       have zz := (((below_trans (below_trans H14.out.2.1 H15.out.2) k1)).block Y13 (Array.getElem?_eq_some_iff.1 H13.out.2.1).1).trans H13.out.2.1
       obtain ⟨r130, r131, r132, _⟩ := box_cells zz; clear zz
       have H16 := Lib.hid (And.intro bt k1)
       clear bt k1)
    | (go_at_call 39; (with_reducible refine (countA H14.out.2.2.1).mono ?_)
       rintro e15 w15 ⟨rfl, k1⟩
       have bt : Below W2.heap.size W2 w15 := below_trans H14.out.1 k1
       have zz := (bt.block (Q) (Array.getElem?_eq_some_iff.1 HB.out.1).1).trans HB.out.1
       obtain ⟨m1500, m1501, m1502, _⟩ := box_cells zz; clear zz
       have zz := (bt.block (Q + 1) (Array.getElem?_eq_some_iff.1 HB.out.2.1).1).trans HB.out.2.1
       obtain ⟨m1510, m1511, m1512, _⟩ := box_cells zz; clear zz
       have zz := (bt.block (Q + 1 + 1) (Array.getElem?_eq_some_iff.1 HB.out.2.2.1).1).trans HB.out.2.2.1
       obtain ⟨m1520, m1521, m1522, _⟩ := box_cells zz; clear zz
       have zz := (bt.block (Q + 1 + 1 + 1) (Array.getElem?_eq_some_iff.1 HB.out.2.2.2.1).1).trans HB.out.2.2.2.1
       obtain ⟨m1530, m1531, m1532, _⟩ := box_cells zz; clear zz
       have zz := (bt.block (Q + 1 + 1 + 1 + 1) (Array.getElem?_eq_some_iff.1 HB.out.2.2.2.2).1).trans HB.out.2.2.2.2
       obtain ⟨m1540, m1541, m1542, _⟩ := box_cells zz; clear zz
       have zz := (((below_trans (below_trans H13.out.2.2.2 H14.out.2.1) k1)).block Y12 (Array.getElem?_eq_some_iff.1 H12.out.2.1).1).trans H12.out.2.1
       obtain ⟨u120, u121, u122, _⟩ := box_cells zz; clear zz
       have zz := (((below_trans H14.out.2.1 k1)).block Y13 (Array.getElem?_eq_some_iff.1 H13.out.2.1).1).trans H13.out.2.1
       obtain ⟨u130, u131, u132, _⟩ := box_cells zz; clear zz
       have H15 := Lib.hid (And.intro bt k1)
       clear bt k1)
    | (go_at_call 25; (with_reducible refine (normA (HG.out.2.2.1.below H13.out.1) (HG.out.1.below H13.out.1)).mono ?_)
       rintro e14 w14 ⟨rfl, k1⟩
       have bt : Below W2.heap.size W2 w14 := below_trans H13.out.1 k1
       have zz := (bt.block (Q) (Array.getElem?_eq_some_iff.1 HB.out.1).1).trans HB.out.1
       obtain ⟨m1400, m1401, m1402, _⟩ := box_cells zz; clear zz
       have zz := (bt.block (Q + 1) (Array.getElem?_eq_some_iff.1 HB.out.2.1).1).trans HB.out.2.1
       obtain ⟨m1410, m1411, m1412, _⟩ := box_cells zz; clear zz
       have zz := (bt.block (Q + 1 + 1) (Array.getElem?_eq_some_iff.1 HB.out.2.2.1).1).trans HB.out.2.2.1
       obtain ⟨m1420, m1421, m1422, _⟩ := box_cells zz; clear zz
       have zz := (bt.block (Q + 1 + 1 + 1) (Array.getElem?_eq_some_iff.1 HB.out.2.2.2.1).1).trans HB.out.2.2.2.1
       obtain ⟨m1430, m1431, m1432, _⟩ := box_cells zz; clear zz
       have zz := (bt.block (Q + 1 + 1 + 1 + 1) (Array.getElem?_eq_some_iff.1 HB.out.2.2.2.2).1).trans HB.out.2.2.2.2
       obtain ⟨m1440, m1441, m1442, _⟩ := box_cells zz; clear zz
       have zz := (((below_trans (below_trans H12.out.2.2.2 H13.out.2.2.2) k1)).block Y11 (Array.getElem?_eq_some_iff.1 H11.out.2.1).1).trans H11.out.2.1
       obtain ⟨t110, t111, t112, _⟩ := box_cells zz; clear zz
       have zz := (((below_trans H13.out.2.2.2 k1)).block Y12 (Array.getElem?_eq_some_iff.1 H12.out.2.1).1).trans H12.out.2.1
       obtain ⟨t120, t121, t122, _⟩ := box_cells zz; clear zz
       have zz := ((k1).block Y13 (Array.getElem?_eq_some_iff.1 H13.out.2.1).1).trans H13.out.2.1
       obtain ⟨t130, t131, t132, _⟩ := box_cells zz; clear zz
       have H14 := Lib.hid (And.intro bt (And.intro k1 (And.intro (H11.out.2.2.1.below (below_trans (below_trans H12.out.2.2.2 H13.out.2.2.2) k1)) (And.intro (H12.out.2.2.1.below (below_trans H13.out.2.2.2 k1)) (H13.out.2.2.1.below k1)))))
       clear k1 bt)
    | (go_at_call 27; (with_reducible refine (commA (HG.out.1.below H12.out.1) (HG.out.1.below H12.out.1)).mono ?_)
       rintro e13 w13 ⟨a13, c13, b13, d13, rfl, k1, k2⟩
       obtain ⟨Y13, U13, V13, hY13, hU13, s0, s1, s2, s3, s4, s5, hV13, bw, z⟩ := stB (w := w13) (.int .i64 4) (.slice a13 4 c13) (.slice b13 4 d13)
       have st : Below V12.heap.size V12 V13 := below_trans k1 bw
       have bt : Below W2.heap.size W2 V13 := below_trans (H12.out.1) st
       have kg := (k2).below bw
       have zz := (bt.block (Q) (Array.getElem?_eq_some_iff.1 HB.out.1).1).trans HB.out.1
       obtain ⟨m1300, m1301, m1302, _⟩ := box_cells zz; clear zz
       have zz := (bt.block (Q + 1) (Array.getElem?_eq_some_iff.1 HB.out.2.1).1).trans HB.out.2.1
       obtain ⟨m1310, m1311, m1312, _⟩ := box_cells zz; clear zz
       have zz := (bt.block (Q + 1 + 1) (Array.getElem?_eq_some_iff.1 HB.out.2.2.1).1).trans HB.out.2.2.1
       obtain ⟨m1320, m1321, m1322, _⟩ := box_cells zz; clear zz
       have zz := (bt.block (Q + 1 + 1 + 1) (Array.getElem?_eq_some_iff.1 HB.out.2.2.2.1).1).trans HB.out.2.2.2.1
       obtain ⟨m1330, m1331, m1332, _⟩ := box_cells zz; clear zz
       have zz := (bt.block (Q + 1 + 1 + 1 + 1) (Array.getElem?_eq_some_iff.1 HB.out.2.2.2.2).1).trans HB.out.2.2.2.2
       obtain ⟨m1340, m1341, m1342, _⟩ := box_cells zz; clear zz
       have H13 := Lib.hid (And.intro bt (And.intro z (And.intro kg st)))
       unfold set3 at hV13
       clear bw z st bt kg k1 k2)
    | (go_at_call 32; have c32 : Calls Tryz.prog 32 #[.agg #[.int .i64 4, .slice a1 4 c1, .slice b1 4 d1], .slice (some ⟨V11.heap.size + 1, 0, none⟩) 1 1] ((V11.alloc (.cells #[.int .i64 1, .int .i64 0, .int .i64 3, .int .i64 2] 3)).alloc (.cells #[.slice (some ⟨V11.heap.size, 0, none⟩) 4 4] 27)) _ := closA (((HG.out.1.below H11.out.1)).below (alloc_b (alloc_b (Below.refl _ _) _) _)) (lit_pms1 rfl (lit_ints (by decide) rfl)); refine c32.mono ?_; clear c32
       rintro e12 w12 ⟨a12, c12, b12, d12, rfl, k1, k2⟩
       have k1 := below_trans (alloc_b (alloc_b (Below.refl _ _) _) _) k1
       obtain ⟨Y12, U12, V12, hY12, hU12, s0, s1, s2, s3, s4, s5, hV12, bw, z⟩ := stB (w := w12) (.int .i64 4) (.slice a12 4 c12) (.slice b12 4 d12)
       have st : Below V11.heap.size V11 V12 := below_trans k1 bw
       have bt : Below W2.heap.size W2 V12 := below_trans (H11.out.1) st
       have kg := (k2).below bw
       have zz := (bt.block (Q) (Array.getElem?_eq_some_iff.1 HB.out.1).1).trans HB.out.1
       obtain ⟨m1200, m1201, m1202, _⟩ := box_cells zz; clear zz
       have zz := (bt.block (Q + 1) (Array.getElem?_eq_some_iff.1 HB.out.2.1).1).trans HB.out.2.1
       obtain ⟨m1210, m1211, m1212, _⟩ := box_cells zz; clear zz
       have zz := (bt.block (Q + 1 + 1) (Array.getElem?_eq_some_iff.1 HB.out.2.2.1).1).trans HB.out.2.2.1
       obtain ⟨m1220, m1221, m1222, _⟩ := box_cells zz; clear zz
       have zz := (bt.block (Q + 1 + 1 + 1) (Array.getElem?_eq_some_iff.1 HB.out.2.2.2.1).1).trans HB.out.2.2.2.1
       obtain ⟨m1230, m1231, m1232, _⟩ := box_cells zz; clear zz
       have zz := (bt.block (Q + 1 + 1 + 1 + 1) (Array.getElem?_eq_some_iff.1 HB.out.2.2.2.2).1).trans HB.out.2.2.2.2
       obtain ⟨m1240, m1241, m1242, _⟩ := box_cells zz; clear zz
       have H12 := Lib.hid (And.intro bt (And.intro z (And.intro kg st)))
       unfold set3 at hV12
       clear bw z st bt kg k1 k2)
    | (go_at_call 23; (with_reducible refine (joinA HG.out.2.2.2.2.1 HG.out.2.2.2.1).mono ?_)
       rintro e11 w11 ⟨a11, c11, b11, d11, rfl, k1, k2⟩
       obtain ⟨Y11, U11, V11, hY11, hU11, s0, s1, s2, s3, s4, s5, hV11, bw, z⟩ := stB (w := w11) (.int .i64 4) (.slice a11 4 c11) (.slice b11 4 d11)
       have st : Below W2.heap.size W2 V11 := below_trans k1 bw
       have bt : Below W2.heap.size W2 V11 := below_trans (Below.refl W2.heap.size W2) st
       have kg := (k2).below bw
       have zz := (bt.block (Q) (Array.getElem?_eq_some_iff.1 HB.out.1).1).trans HB.out.1
       obtain ⟨m1100, m1101, m1102, _⟩ := box_cells zz; clear zz
       have zz := (bt.block (Q + 1) (Array.getElem?_eq_some_iff.1 HB.out.2.1).1).trans HB.out.2.1
       obtain ⟨m1110, m1111, m1112, _⟩ := box_cells zz; clear zz
       have zz := (bt.block (Q + 1 + 1) (Array.getElem?_eq_some_iff.1 HB.out.2.2.1).1).trans HB.out.2.2.1
       obtain ⟨m1120, m1121, m1122, _⟩ := box_cells zz; clear zz
       have zz := (bt.block (Q + 1 + 1 + 1) (Array.getElem?_eq_some_iff.1 HB.out.2.2.2.1).1).trans HB.out.2.2.2.1
       obtain ⟨m1130, m1131, m1132, _⟩ := box_cells zz; clear zz
       have zz := (bt.block (Q + 1 + 1 + 1 + 1) (Array.getElem?_eq_some_iff.1 HB.out.2.2.2.2).1).trans HB.out.2.2.2.2
       obtain ⟨m1140, m1141, m1142, _⟩ := box_cells zz; clear zz
       have H11 := Lib.hid (And.intro bt (And.intro z (And.intro kg st)))
       unfold set3 at hV11
       clear bw z st bt kg k1 k2)
    | (go_at_call 38; (with_reducible refine groups38.mono ?_)
       rintro e1 w1 ⟨v1, v2, v3, v4, v5, rfl, k1, k2, k3, k4, k5, kb⟩
       obtain ⟨a1, c1, b1, d1, rfl⟩ := k1.form
       obtain ⟨a2, c2, b2, d2, rfl⟩ := k2.form
       obtain ⟨a3, c3, b3, d3, rfl⟩ := k3.form
       obtain ⟨a4, c4, b4, d4, rfl⟩ := k4.form
       obtain ⟨a5, c5, b5, d5, rfl⟩ := k5.form
       have H1 := Lib.hid (And.intro k1 (And.intro k2 (And.intro k3 (And.intro k4 (And.intro k5 kb))))); clear k1 k2 k3 k4 k5 kb
       obtain ⟨Q, hQ⟩ : ∃ Q, w1.heap.size = Q := ⟨_, rfl⟩
       obtain ⟨W2, hW2⟩ : ∃ W2, (((((w1.alloc (.cells #[.int .i64 4, .slice a1 4 c1, .slice b1 4 d1] 25)).alloc (.cells #[.int .i64 4, .slice a2 4 c2, .slice b2 4 d2] 25)).alloc (.cells #[.int .i64 4, .slice a3 4 c3, .slice b3 4 d3] 25)).alloc (.cells #[.int .i64 4, .slice a4 4 c4, .slice b4 4 d4] 25)).alloc (.cells #[.int .i64 4, .slice a5 4 c5, .slice b5 4 d5] 25)) = W2 := ⟨_, rfl⟩
       have hb2 : Below w1.heap.size w1 W2 := hW2 ▸ alloc_b (alloc_b (alloc_b (alloc_b (alloc_b (Below.refl _ _) _) _) _) _) _
       have y0 : W2.heap[Q]? = some (.cells #[.int .i64 4, .slice a1 4 c1, .slice b1 4 d1] 25) := hW2 ▸ (((Below.heap_alloc _ _ _ (by simp [hQ] <;> omega)).trans (((Below.heap_alloc _ _ _ (by simp [hQ] <;> omega)).trans (((Below.heap_alloc _ _ _ (by simp [hQ] <;> omega)).trans (((Below.heap_alloc _ _ _ (by simp [hQ] <;> omega)).trans (box_al25 (by simp [hQ]) _ _ _)))))))))
       have y1 : W2.heap[Q + 1]? = some (.cells #[.int .i64 4, .slice a2 4 c2, .slice b2 4 d2] 25) := hW2 ▸ (((Below.heap_alloc _ _ _ (by simp [hQ] <;> omega)).trans (((Below.heap_alloc _ _ _ (by simp [hQ] <;> omega)).trans (((Below.heap_alloc _ _ _ (by simp [hQ] <;> omega)).trans (box_al25 (by simp [hQ]) _ _ _)))))))
       have y2 : W2.heap[Q + 1 + 1]? = some (.cells #[.int .i64 4, .slice a3 4 c3, .slice b3 4 d3] 25) := hW2 ▸ (((Below.heap_alloc _ _ _ (by simp [hQ] <;> omega)).trans (((Below.heap_alloc _ _ _ (by simp [hQ] <;> omega)).trans (box_al25 (by simp [hQ]) _ _ _)))))
       have y3 : W2.heap[Q + 1 + 1 + 1]? = some (.cells #[.int .i64 4, .slice a4 4 c4, .slice b4 4 d4] 25) := hW2 ▸ (((Below.heap_alloc _ _ _ (by simp [hQ] <;> omega)).trans (box_al25 (by simp [hQ]) _ _ _)))
       have y4 : W2.heap[Q + 1 + 1 + 1 + 1]? = some (.cells #[.int .i64 4, .slice a5 4 c5, .slice b5 4 d5] 25) := hW2 ▸ (box_al25 (by simp [hQ]) _ _ _)
       obtain ⟨m100, m101, m102, _⟩ := box_cells y0
       obtain ⟨m110, m111, m112, _⟩ := box_cells y1
       obtain ⟨m120, m121, m122, _⟩ := box_cells y2
       obtain ⟨m130, m131, m132, _⟩ := box_cells y3
       obtain ⟨m140, m141, m142, _⟩ := box_cells y4
       have HB := Lib.hid (And.intro y0 (And.intro y1 (And.intro y2 (And.intro y3 y4))))
       have HG := Lib.hid (And.intro (show GrG W2 (.agg #[.int .i64 4, .slice a1 4 c1, .slice b1 4 d1]) (Grp (· ∈ gS4)) from H1.out.1.below hb2) (And.intro (show GrG W2 (.agg #[.int .i64 4, .slice a2 4 c2, .slice b2 4 d2]) (Grp (· ∈ gA4)) from H1.out.2.1.below hb2) (And.intro (show GrG W2 (.agg #[.int .i64 4, .slice a3 4 c3, .slice b3 4 d3]) (Grp (· ∈ gV4)) from H1.out.2.2.1.below hb2) (And.intro (show GrG W2 (.agg #[.int .i64 4, .slice a4 4 c4, .slice b4 4 d4]) (Grp (· ∈ gZ2)) from H1.out.2.2.2.1.below hb2) (And.intro (show GrG W2 (.agg #[.int .i64 4, .slice a5 4 c5, .slice b5 4 d5]) (Grp (· ∈ gY2)) from H1.out.2.2.2.2.1.below hb2) (below_trans H1.out.2.2.2.2.2 hb2))))))
       clear hb2 y0 y1 y2 y3 y4))
  
  go_ret
  exact ⟨rfl, below_trans HG.out.2.2.2.2.2 H17.out⟩
end Go.Proofs.YtbejhkojdiadaaaGreat
namespace Go.Proofs.YtbejhkojdiadaaaGreat
open Go.RowKit PlainPm
section
variable {n : Nat}
theorem grp_isG {G P : Pm n → Prop} (hG : IsG G) (h : ∀ x, P x ↔ G x) (x : Pm n) : Grp P x ↔ G x :=
  ⟨Grp.sub hG fun s hs => (h s).1 hs, fun hx => Grp.base ((h x).2 hx)⟩
theorem same20p (hn : n ≤ 64) {w : World} {va vb : Value} {x y : Pm n} (ha : PmV w [] va x) (hb : PmV w [] vb y) : Calls Tryz.prog 20 #[va, vb] w fun e w' => e = .returned (.bool (decide (x = y))) ∧ Below w.heap.size w w' := by
  obtain ⟨a, c, rfl, h1⟩ := ha.ints (by omega)
  obtain ⟨b, d, rfl, h2⟩ := hb.ints (by omega)
  refine (same20 _ _ c d _ _ w h1 h2).mono ?_
  rintro e w' ⟨rfl, q, rfl⟩
  refine ⟨?_, below_self_drewN _ _⟩
  by_cases e : x = y
  · subst e; simp
  · rw [decide_eq_false e, decide_eq_false fun h => e (Pm.ext' h)]
end
end Go.Proofs.YtbejhkojdiadaaaGreat
namespace Go.Proofs.YtbejhkojdiadaaaGreat
open Go.RowKit PlainPm
section
variable {n : Nat}
theorem equal95p (hn : n ≤ 64) {w : World} {va vb : Value} {x y : Pm n} (ha : PmV w [] va x) (hb : PmV w [] vb y) : Calls Tryz.prog 95 #[va, vb] w fun e w' => e = .returned (.bool (decide (x = y))) ∧ Below w.heap.size w w' := by
  obtain ⟨a, c, rfl, h1⟩ := ha.ints (by omega)
  obtain ⟨b, d, rfl, h2⟩ := hb.ints (by omega)
  refine (equal95 _ _ c d _ _ w h1 h2).mono ?_
  rintro e w' ⟨rfl, q, rfl⟩
  refine ⟨?_, below_self_drewN _ _⟩
  by_cases e : x = y
  · subst e; simp
  · rw [decide_eq_false e, decide_eq_false fun h => e (Pm.ext' h)]
set_option maxRecDepth 100000 in
set_option maxHeartbeats 2000000 in
theorem pred94 (hn : 0 < n ∧ n ≤ 64) {x y : Pm n} {vx vy : Value} {p : Nat} {w : World} (hc : w.cell? ⟨p, 0, none⟩ = some vx) (hp : p < w.heap.size) (hx : PmV w [] vx x) (hy : PmV w [] vy y) :
    Calls Tryz.prog 94 #[vy, .pointer (some ⟨p, 0, none⟩)] w fun e w' => ∃ t : Bool, e = .returned (.bool t) ∧ (t = true ↔ ¬ x.mul y = y.mul x) ∧ Below w.heap.size w w' := by
  have h84 := px84 hn hx hy
  obtain ⟨b, o, c, rfl, _⟩ := id hx
  have H := Lib.hid (And.intro h84 (And.intro hx hp))
  clear h84 hx hy
  go_enter Tryz.func94, Tryz.ntmps94
  go_wp2_with (first
    | (go_at_call 95; (with_reducible refine (equal95p hn.2 (H.out.2.1.below H2.out.2) H2.out.1).mono ?_); rintro e3 w3 ⟨rfl, k⟩; have H3 := Lib.hid (below_trans H2.out.2 k); clear k)
    | (go_at_call 84; (with_reducible refine H.out.1.mono ?_); rintro e2 w2 ⟨v2, rfl, k1, k2⟩
       have c2 := (k2.cell (p := ⟨p, 0, none⟩) H.out.2.2).trans hc
       have H2 := Lib.hid (And.intro (show PmV w2 [] v2 (cj x y) from k1.pm (by simp)) k2); clear k1 k2))
  refine bodyPost_ret (v := .bool (!decide (x = cj x y))) (by simp [results, Tryz.results94, go_sem]) rfl ?_
  refine ⟨_, rfl, ?_, H3.out⟩
  rw [← cj_comm]
  simp
  exact ⟨fun h e => h e.symm, fun h e => h e.symm⟩
set_option maxRecDepth 100000 in
set_option maxHeartbeats 2000000 in
theorem idx127 (hn : 0 < n ∧ n ≤ 64) {x : Pm n} {vx : Value} {p NB c : Nat} {a : Option Addr} {B : List (Pm n)} {w : World} (hB : PmsV w [] (.slice a NB c) B) (hNB : B.length = NB) (hc : w.cell? ⟨p, 0, none⟩ = some vx) (hp : p < w.heap.size) (hx : PmV w [] vx x) :
    Calls Tryz.prog 127 #[.slice a NB c, .func (.func 94) #[] #[.pointer (some ⟨p, 0, none⟩)]] w fun e w' => ∃ r : Int, e = .returned (.int .i64 r) ∧ ((0 ≤ r ∧ ∃ y ∈ B, ¬ x.mul y = y.mul x) ∨ (r = -1 ∧ ∀ y ∈ B, x.mul y = y.mul x)) ∧ Below w.heap.size w w' := by
  obtain ⟨_, _, q4, hB63, hat⟩ := pms_at hB
  rw [hNB] at q4 hB63
  simp only [Value.slice.injEq, true_and] at q4
  obtain ⟨rfl, rfl⟩ := q4
  have H := Lib.hid (And.intro hat (And.intro hx (And.intro hc (And.intro hp hNB))))
  clear hat hx hc hNB hB
  go_enter Tryz.func127, Tryz.ntmps127
  go_wp2_with fail
  go_loopw [5, 8] (fun _ i wr => ∃ (k : Nat), k ≤ NB ∧ i = .int .i64 (k : Int) ∧ Below w.heap.size w wr ∧ ∀ j y, j < k → B[j]? = some y → x.mul y = y.mul x) (fun _ i _ => NB - (intOf i).toNat)
  case atStart => exact ⟨0, by omega, rfl, Below.refl _ _, fun j y hj => by omega⟩
  case round =>
    obtain ⟨k, hk, rfl, hb, hno⟩ := hrel
    by_cases hkl : k < NB
    · obtain ⟨y, hy⟩ : ∃ y, B[k]? = some y := ⟨_, List.getElem?_eq_getElem (by rw [H.out.2.2.2.2]; exact hkl)⟩
      obtain ⟨g6, o6, u6, rfl, hc6, hp6⟩ := H.out.1 k y hy
      have hc6r := (hb.cell (block_lt_of_cell hc6)).trans hc6
      have hcall := pred94 hn ((hb.cell (p := ⟨p, 0, none⟩) H.out.2.2.2.1).trans H.out.2.2.1) (Nat.lt_of_lt_of_le H.out.2.2.2.1 hb.size) (H.out.2.1.below hb) (hp6.below hb)
      obtain ⟨yb, yo, yc, rfl, _⟩ := id hp6
      have HC := Lib.hid (And.intro hcall (And.intro hno (And.intro hy hb)))
      have hk1 : (k : Int) < NB := by omega
      clear hcall hno hy hb hp6
      by_cases e : x.mul y = y.mul x
      · have He := Lib.hid e
        clear e
        go_wp2_with (go_at_call 94; (with_reducible refine HC.out.1.mono ?_); rintro e1 w1 ⟨t, rfl, ht, kk⟩
                     have ht2 : t = false := by cases t with | false => rfl | true => exact absurd He.out (ht.1 rfl)
                     subst ht2
                     have H1 := Lib.hid kk; clear kk ht)
        refine ⟨⟨k + 1, by omega, by go_num, below_trans HC.out.2.2.2 H1.out, fun j y' hj hy' => ?_⟩, by simp [intOf]; omega⟩
        by_cases ej : j = k
        · subst ej; rw [HC.out.2.2.1] at hy'; cases hy'; exact He.out
        · exact HC.out.2.1 j y' (by omega) hy'
      · have He := Lib.hid e
        clear e
        go_wp2_with (go_at_call 94; (with_reducible refine HC.out.1.mono ?_); rintro e1 w1 ⟨t, rfl, ht, kk⟩
                     have ht2 : t = true := ht.2 He.out
                     subst ht2
                     have H1 := Lib.hid kk; clear kk ht)
        refine bodyPost_ret (v := .int .i64 (k : Int)) (by simp [results, Tryz.results127, go_sem]) rfl ?_
        exact ⟨k, rfl, .inl ⟨by omega, y, List.mem_of_getElem? HC.out.2.2.1, He.out⟩, below_trans HC.out.2.2.2 H1.out⟩
    · have hk1 : ¬ (k : Int) < NB := by omega
      have HC := Lib.hid (And.intro hno hb)
      clear hno hb
      go_wp2_with fail
      refine bodyPost_ret (v := .int .i64 (-1)) (by simp [results, Tryz.results127, go_sem]) rfl ?_
      refine ⟨-1, rfl, .inr ⟨rfl, fun y hy => ?_⟩, HC.out.2⟩
      obtain ⟨i, hi⟩ := List.mem_iff_getElem?.1 hy
      exact HC.out.1 i y (by have h1 := (List.getElem?_eq_some_iff.1 hi).1; have h2 := H.out.2.2.2.2; omega) hi
set_option maxRecDepth 100000 in
set_option maxHeartbeats 2000000 in
theorem con93 (hn : 0 < n ∧ n ≤ 64) {x : Pm n} {vx : Value} {p NB c : Nat} {a : Option Addr} {B : List (Pm n)} {w : World} (hB : PmsV w [] (.slice a NB c) B) (hNB : B.length = NB) (hc : w.cell? ⟨p, 0, none⟩ = some vx) (hp : p < w.heap.size) (hx : PmV w [] vx x) :
    Calls Tryz.prog 93 #[.slice a NB c, .func (.func 94) #[] #[.pointer (some ⟨p, 0, none⟩)]] w fun e w' => ∃ t : Bool, e = .returned (.bool t) ∧ (t = true ↔ ∃ y ∈ B, ¬ x.mul y = y.mul x) ∧ Below w.heap.size w w' := by
  have h127 := idx127 hn hB hNB hc hp hx
  have H := Lib.hid h127
  clear h127 hB hNB hc hx
  go_enter Tryz.func93, Tryz.ntmps93
  go_wp2_with (go_at_call 127; (with_reducible refine H.out.mono ?_); rintro e1 w1 ⟨r, rfl, hr, k⟩; have H1 := Lib.hid (And.intro hr k); clear hr k)
  refine bodyPost_ret (v := .bool (decide (0 ≤ r))) (by simp [results, Tryz.results93, go_sem]) rfl ?_
  refine ⟨_, rfl, ?_, H1.out.2⟩
  rcases H1.out.1 with ⟨h1, h2⟩ | ⟨h1, h2⟩
  · simp [h1]; exact h2
  · subst h1; simp
    exact fun y hy => h2 y hy
theorem PmsV.upx {w w' : World} {v : Value} {l : List (Pm n)} (h : PmsV w [] v l) (k : Up w w') : PmsV w' [] v l := by
  obtain ⟨a, c, vs, rfl, h1, h2⟩ := h
  exact ⟨a, c, vs, rfl, h1.up k, h2.up k⟩
set_option maxRecDepth 100000 in
set_option maxHeartbeats 4000000 in
theorem ctr36 (hn' : 0 < n ∧ n ≤ 8) {w : World} {v1 : Value} {G : Pm n → Prop} (hG : IsG G) (h1 : GrG w v1 G) (hsz : ∀ O R, ChG G O R → szF O n 0 ≤ 5040) :
    Calls Tryz.prog 36 #[v1] w fun e w' => ∃ a c b2 d, e = .returned (.tuple #[.agg #[.int .i64 (n : Int), .slice a n c, .slice b2 n d], .int .i64 0]) ∧ Below w.heap.size w w' ∧
      ∀ S, (∀ m ∈ S, m < w.heap.size) → GrS w' (.agg #[.int .i64 (n : Int), .slice a n c, .slice b2 n d]) (CtG G) S := by
  have hn : 0 < n ∧ n ≤ 64 := ⟨hn'.1, by omega⟩
  obtain ⟨T1, t1, ab, ao, c, bb, bo, e, hv1, hlv⟩ := h1.lev hG ⟨hn.1, hn.2⟩
  have hst2 := fun (V : World) (hV : Below w.heap.size w V) => strong73 (O := orbO T1) (R := PlainPm.repT T1) (c := c) (e := e) hn (t1.chG hG) hlv hV
  have hs2 := sgen_grp hG t1
  have h83 := fun (V : World) (hV : Below w.heap.size w V) => elems83 (w := V) hn' hG (h1.below hV) hsz
  subst hv1
  obtain ⟨X, hX⟩ : ∃ X, w.heap.size = X := ⟨_, rfl⟩
  obtain ⟨W1, hW1⟩ : ∃ W1, (w.alloc (.cells #[.int .i64 (n : Int), .slice (some ⟨ab, ao, none⟩) n c, .slice (some ⟨bb, bo, none⟩) n e] 25)).alloc (.cells #[.int .i64 0, .slice none 0 0, .slice none 0 0] 25) = W1 := ⟨_, rfl⟩
  have hszw : W1.heap.size = X + 2 := by rw [← hW1]; simp [hX]
  have hwW : Below w.heap.size w W1 := hW1 ▸ alloc_b (alloc_b (Below.refl _ _) _) _
  have k0 : W1.heap[X]? = some (.cells #[.int .i64 (n : Int), .slice (some ⟨ab, ao, none⟩) n c, .slice (some ⟨bb, bo, none⟩) n e] 25) := by
    rw [← hW1]
    exact ((alloc_b (Below.refl _ _) _).block X (by simp; omega)).trans (box_al25 hX _ _ _)
  have k1 : W1.heap[X + 1]? = some (.cells #[.int .i64 0, .slice none 0 0, .slice none 0 0] 25) := by
    rw [← hW1]
    exact box_al25 (by simp [hX]) _ _ _
  obtain ⟨x0, x1, x2, _⟩ := box_cells k0
  have HB := Lib.hid (And.intro k0 (And.intro k1 (And.intro hszw hwW)))
  have HC := Lib.hid (And.intro hst2 (And.intro hs2 h83))
  have hx0 := And.intro x0 (And.intro x1 (And.intro x2 (Below.refl W1.heap.size W1)))
  clear hst2 hs2 h83 hlv h1 k0 k1 hszw hwW
  go_enter Tryz.func36, Tryz.ntmps36
  try simp only [hX]
  go_wp2_with (first
    | (go_at_call 73; (with_reducible refine (HC.out.1 _ (below_trans HB.out.2.2.2 H3.out.2.2)).mono ?_); rintro e4 w4 ⟨v4, us4, rfl, k1, k2, k3, k4⟩
       obtain ⟨a4, c4, rfl, k5⟩ := k1.row (by unfold maxLen; omega)
       obtain ⟨w5, c5, hr5, hE5, hb5, hs5⟩ := (H3.out.2.1.below k4).range
       have H4 := Lib.hid (And.intro k1 (And.intro k2 (And.intro k3 (And.intro k4 (And.intro hE5 (And.intro hb5 hs5))))))
       clear k1 k2 k3 k4 k5 hE5 hb5 hs5)
    | (go_at_call 83; (with_reducible refine (HC.out.2.2 _ HB.out.2.2.2).mono ?_); rintro e3 w3 ⟨b, rfl, k1, k2, k3⟩
       obtain ⟨i0, i1, i2, _⟩ := keep3b hx0 k3
       have H3 := Lib.hid (And.intro k1 (And.intro k2 k3)); clear k1 k2 k3))
  obtain ⟨r, hr⟩ : ∃ r, w4.heap.size = r := ⟨_, rfl⟩
  try simp only [hr]
  obtain ⟨B, hB⟩ : ∃ B, sgen n (orbO T1) (PlainPm.repT T1) n = B := ⟨_, rfl⟩
  rw [hB] at H4 HC
  have b14 : Below W1.heap.size W1 w4 := below_trans H3.out.2.2 H4.out.2.2.2.1
  have b15 : Below W1.heap.size W1 w5 := below_trans b14 H4.out.2.2.2.2.2.1
  have hbl : us4.length = B.length := H4.out.2.1.1
  obtain ⟨nb, hnb⟩ : ∃ nb, us4.length = nb := ⟨_, rfl⟩
  have hnb6 : nb ≤ 4096 := by have := H4.out.2.2.1; omega
  have hpB : PmsV w5 [] (.slice a4 nb c4) B := by
    have := pms_ownB (H4.out.1.below H4.out.2.2.2.2.2.1) (H4.out.2.1.below (below_trans HB.out.2.2.2 b15)) (by omega)
    rwa [hnb] at this
  rw [hnb]
  have hbW0 : W1.heap.size ≤ b := by have h8 := H3.out.1; omega
  have hrW0 : W1.heap.size ≤ r := by rw [← hr]; exact b14.size
  have hEr := H4.out.2.2.2.2.1
  rw [hr] at hEr
  have HD := Lib.hid (And.intro hpB (And.intro b15 (And.intro (hbl.symm.trans hnb) hEr)))
  clear hpB b14 b15 hbl hnb hEr hr
  go_loopw [7, 8] (fun _ _ wr => ∃ (A L : Pm n → Prop) (ct : Nat), ElR wr [] b r 5040 A L ct ∧ (∀ x, A x → G x) ∧ (∀ x, CtG G x → A x) ∧ (∀ x, A x → ¬ L x → ∀ y ∈ B, x.mul y = y.mul x) ∧ Up w5 wr ∧ Below W1.heap.size W1 wr) (fun _ _ wr => wr.rangeLeft b r)
  case atStart => exact ⟨G, G, c5, HD.out.2.2.2, fun x h => h, fun x h => h.1, fun x h1 h2 => absurd h1 h2, Up.refl _, HD.out.2.1⟩
  case round =>
    obtain ⟨A, L, ct, hE, hAG, hkp, hcm, hup, hb⟩ := hrel
    have hleft := hE.left
    rcases hE.next hn.2 0 with ⟨hno, hrun⟩ | ⟨x, v, w6, c6, hLx, hpm, hrun, hE6, hc6, hg6, hs6, hen⟩
    · have HP := Lib.hid (And.intro hE.owns (And.intro (fun x => (⟨fun h => (ct_gens HC.out.2.1 x).2 ⟨hAG x h, fun y hy => hcm x h (hno x) y hy⟩, fun h => hkp x h⟩ : A x ↔ CtG G x)) hb))
      obtain ⟨q0, q1, q2, _⟩ := keep3b hx0 hb
      have hXr := (hb.block (X + 1) (by have := HB.out.2.2.1; omega)).trans HB.out.2.1
      have HX := Lib.hid hXr
      clear hE hAG hkp hcm hup hb hleft hno hXr
      go_wp2_with (go_at_call 86; (with_reducible refine (gath86 hn HP.out.1).mono ?_); rintro e6 w6 ⟨a6, c6, b6, d6, rfl, k1, k2⟩
                   have hX6 := (k1.block (X + 1) (Array.getElem?_eq_some_iff.1 HX.out).1).trans HX.out
                   obtain ⟨z0', z1', z2', zf1, zf2, zf0⟩ := box_cells hX6
                   have H6 := Lib.hid (And.intro k1 (And.intro k2 hX6)); clear k1 k2 hX6)
      have hfin : (set3 w6 (X + 1) (.int .i64 (n : Int)) (.slice a6 n c6) (.slice b6 n d6)).heap[X + 1]? = some (.cells #[.int .i64 (n : Int), .slice a6 n c6, .slice b6 n d6] 25) := set3_box H6.out.2.2
      obtain ⟨V, hV⟩ : ∃ V, set3 w6 (X + 1) (.int .i64 (n : Int)) (.slice a6 n c6) (.slice b6 n d6) = V := ⟨_, rfl⟩
      have hKp : Kept w6 V [X + 1] := hV ▸ set3_kept (by simp)
      rw [hV] at hfin
      unfold set3 at hV
      rw [hV]
      obtain ⟨f0, f1, f2, _⟩ := box_cells hfin
      refine bodyPost_ret (v := .tuple #[.agg #[.int .i64 (n : Int), .slice a6 n c6, .slice b6 n d6], .int .i64 0]) (by simp [results, Tryz.results36, go_sem, f0, f1, f2]) rfl ?_
      have hw6 : Below w.heap.size w w6 := below_trans (below_trans HB.out.2.2.2 HP.out.2.2) H6.out.1
      refine ⟨a6, c6, b6, d6, rfl, ?_, fun S hS => ?_⟩
      · have := hw6.trans (hKp.below hw6.size (fun m hm => by rw [List.mem_singleton.1 hm]; omega))
        rwa [hX] at this
      · have hlt := HP.out.2.2.size
        have hlt2 := HB.out.2.2.1
        refine (((H6.out.2.1 ((X + 1) :: S) (fun m hm => ?_)).kept (hKp.mono (fun q hq => by rw [List.mem_singleton.1 hq]; exact List.mem_cons_self ..))).congr (grp_isG (CtG.isG hG) HP.out.2.1)).ext (fun q hq => .inl (List.mem_cons_of_mem _ hq))
        rcases List.mem_cons.1 hm with h | h
        · omega
        · have := hS m h; omega
    · have htn : Turn wr w6 (some r) := ⟨hg6, fun q e9 => by cases e9; obtain ⟨_, a0, s0, d0, e0, h0⟩ := hE.blk; exact ⟨_, h0, rfl⟩⟩
      obtain ⟨yb, yo, yc, rfl, _⟩ := id hpm
      obtain ⟨P, hP⟩ : ∃ P, w6.heap.size = P := ⟨_, rfl⟩
      have hb6 := hb.grown hg6 hb.size (fun q e9 => by cases e9; exact hrW0)
      have hup6 := hup.trans htn.up
      obtain ⟨W7, hW7⟩ : ∃ W7, (w6.alloc (.cells #[.slice none 0 0] 27)).setCell ⟨P, 0, none⟩ (.slice (some ⟨yb, yo, none⟩) n yc) = W7 := ⟨_, rfl⟩
      have z6 : (w6.alloc (.cells #[.slice none 0 0] 27)).heap[P]? = some (.cells #[.slice none 0 0] 27) := al_at hP _
      have hz7 : W7.heap[P]? = some (.cells #[.slice (some ⟨yb, yo, none⟩) n yc] 27) := hW7 ▸ box1_set z6
      have k7 : Kept (w6.alloc (.cells #[.slice none 0 0] 27)) W7 [P] := hW7 ▸ Kept.ofGrown (grown_put 0 _) (fun k e => by cases e; exact List.mem_singleton.2 rfl)
      have b67 : Below w6.heap.size w6 W7 := (alloc_b (Below.refl _ _) _).trans (k7.below1 (by simp) (by omega))
      obtain ⟨c70, _⟩ := box1_cells hz7
      have hcon := con93 hn ((HD.out.1.upx hup6).below b67) HD.out.2.2.1 c70 (by have h9 := (Array.getElem?_eq_some_iff.1 hz7).1; exact h9) (hpm.below b67)
      have HQ := Lib.hid (And.intro (hE6.below b67) (And.intro hAG (And.intro hkp (And.intro hcm (And.intro hleft (And.intro hc6 (And.intro hcon (And.intro (hup6.trans (Up.below b67)) (And.intro (below_trans hb6 b67) hLx)))))))))
      obtain ⟨z60, z61⟩ := box1_cells z6
      clear hE hAG hkp hcm hleft hup hb hLx hpm hc6 hg6 hs6 htn hE6 hb6 hup6 hz7 k7 b67 hcon c70 z6
      by_cases he : ∃ y ∈ B, ¬ x.mul y = y.mul x
      · have He := Lib.hid he
        clear he
        go_wp2_with (go_at_call 93; (try simp only [hP]); (try simp only [hW7]); (with_reducible refine HQ.out.2.2.2.2.2.2.1.mono ?_); rintro e8 w8 ⟨t, rfl, ht, kk⟩
                     have ht2 : t = true := ht.2 He.out
                     subst ht2
                     obtain ⟨w9, c9, hrun9, hE9, hc9, hg9⟩ := (HQ.out.1.below kk).drop hn.2 x 0
                     have hmb := (HQ.out.1.below kk).owns.blk
                     have H8 := Lib.hid (And.intro kk (And.intro hE9 (And.intro hc9 (And.intro hg9 hmb))))
                     clear kk ht hE9 hc9 hg9 hmb)
        obtain ⟨es, cl, hmb⟩ := H8.out.2.2.2.2
        have htn : Turn w8 w9 (some b) := ⟨H8.out.2.2.2.1, fun q9 e9 => by cases e9; exact ⟨_, hmb, rfl⟩⟩
        have hb8 := below_trans HQ.out.2.2.2.2.2.2.2.2.1 H8.out.1
        refine ⟨⟨_, _, c9, H8.out.2.1, fun z hz => HQ.out.2.1 z hz.1, fun z hz => ⟨HQ.out.2.2.1 z hz, fun e9 => ?_⟩, fun z hz hnl y hy => ?_, (HQ.out.2.2.2.2.2.2.2.1.trans (Up.below H8.out.1)).trans htn.up, hb8.grown H8.out.2.2.2.1 hb8.size (fun q9 e9 => by cases e9; exact hbW0)⟩, ?_⟩
        · obtain ⟨y, hy, hne⟩ := He.out
          rw [e9] at hz
          exact hne (((ct_gens HC.out.2.1 x).1 hz).2 y hy)
        · exact HQ.out.2.2.2.1 z hz.1 (fun hl => hnl ⟨⟨hl, hz.2⟩, hz.2⟩) y hy
        · rw [H8.out.2.1.left, HQ.out.2.2.2.2.1]
          exact Nat.lt_of_le_of_lt H8.out.2.2.1 HQ.out.2.2.2.2.2.1
      · have He := Lib.hid he
        clear he
        go_wp2_with (go_at_call 93; (try simp only [hP]); (try simp only [hW7]); (with_reducible refine HQ.out.2.2.2.2.2.2.1.mono ?_); rintro e8 w8 ⟨t, rfl, ht, kk⟩
                     have ht2 : t = false := by cases t with | false => rfl | true => exact absurd (ht.1 rfl) He.out
                     subst ht2
                     have H8 := Lib.hid kk
                     clear kk ht)
        have hE8 := HQ.out.1.below H8.out
        refine ⟨⟨_, _, _, hE8, HQ.out.2.1, HQ.out.2.2.1, fun z hz hnl y hy => ?_, HQ.out.2.2.2.2.2.2.2.1.trans (Up.below H8.out), below_trans HQ.out.2.2.2.2.2.2.2.2.1 H8.out⟩, ?_⟩
        · by_cases e9 : z = x
          · rw [e9]
            exact Classical.byContradiction fun hne => He.out ⟨y, hy, hne⟩
          · exact HQ.out.2.2.2.1 z hz (fun hl => hnl ⟨hl, e9⟩) y hy
        · rw [hE8.left, HQ.out.2.2.2.2.1]
          exact HQ.out.2.2.2.2.2.1
end
end Go.Proofs.YtbejhkojdiadaaaGreat
