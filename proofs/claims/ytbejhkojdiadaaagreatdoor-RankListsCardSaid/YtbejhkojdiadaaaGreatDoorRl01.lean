/- A chain in memory, level by level; the sizes of its levels. · Lists are compared: the kit, the library, the program. · The reference's sifting, least elements and elements by rank. · The reference's Make of a list of permutations. · The kit's SameChain. · The kit's Strong: a chain's representatives in one list. · The reference's check of a chain. · Size, Least and In: the chain's levels out of its value. · closure's pair and the reference's both: the checks of two chains. · closure.Join. · All representatives of a chain generate its group; the kit's Strong as a list of them. · closure: the reference's. · closure.Commutator. -/
import Derived.Test.YtbejhkojdiadaaaGreatDoorRk01
import Derived.Test.YtbejhkojdiadaaaGreatDoorRk02
import Derived.Test.YtbejhkojdiadaaaGreatDoorRk03
import Derived.Test.YtbejhkojdiadaaaGreatDoorRk04
import Derived.Test.YtbejhkojdiadaaaGreatDoorRk05
import Derived.Test.YtbejhkojdiadaaaGreatDoorRk06
import Derived.Test.YtbejhkojdiadaaaGreatDoorRk07
import Derived.Test.YtbejhkojdiadaaaGreatDoorRk08
import Derived.Test.YtbejhkojdiadaaaGreatDoorRk09
import Derived.Test.YtbejhkojdiadaaaGreatDoorRk10
import Derived.Test.YtbejhkojdiadaaaGreatDoorRk11
import Derived.Test.YtbejhkojdiadaaaGreatDoorRk12
import Derived.Test.YtbejhkojdiadaaaGreatDoorRk13
import Derived.Test.YtbejhkojdiadaaaGreatDoorRk14
import Derived.Test.YtbejhkojdiadaaaGreatDoorRk15
import Derived.Test.YtbejhkojdiadaaaGreatDoorRk16
import Derived.Test.YtbejhkojdiadaaaGreatDoorRk17
import Derived.Test.YtbejhkojdiadaaaGreatDoorRk18
import Derived.Test.YtbejhkojdiadaaaGreatDoorRk19
import Derived.Test.YtbejhkojdiadaaaGreatDoorRk20
import Derived.Test.YtbejhkojdiadaaaGreatDoorProg
import Derived.WalkKit
import Derived.WalkSpells
import Derived.BigQuiet
import Derived.Deep.QuietTactic
import Derived.Deep.LoopGhost
import Derived.Lib.Hide
import Derived.Maps.AppendAt
import Derived.Deep.AppendLies
import Derived.StillTailTactics
import Derived.Laws.CopyOwn
import Derived.Deep.OwnRows
import Derived.Deep.DeepCutAuto
import Derived.Laws.Cover3
import Derived.Deep.RegionHeld3
import Derived.RangeFuncRecord
import Derived.RangeFuncBox
import Derived.RangeFuncLeaves
import Derived.RangeFuncWrites
import Derived.RangeFuncFrom
import Derived.Shelf.Abstract
import Derived.OwnWalkIn
import Derived.TacticsInMore
import Derived.LoopNIn
import Derived.LoopIn
import Derived.Shelf.GgSortFunc.Insertion
import Derived.Shelf.SlIter.Collect
import Derived.Shelf.Sort.Plain
import Derived.Deep.RegionLaw
import Derived.Lib.SlicesSearch
import Derived.ControlIn
import Derived.Deep.AppendSrc
set_option linter.unusedSimpArgs false
set_option linter.unusedVariables false
namespace Go.Proofs.YtbejhkojdiadaaaGreatDoor
open Go.RowKit PlainPm
section
variable {n ab ao bb bo : Nat} {w w' : World} {O : Nat → List Nat} {R : Nat → Nat → Pm n}
end
set_option maxRecDepth 100000 in
set_option maxHeartbeats 1000000 in
theorem sizes57 {n ab ao c bb bo e : Nat} (hn0 : 0 < n) (hn : n ≤ 8) {G : Pm n → Prop} {O : Nat → List Nat} {R : Nat → Nat → Pm n} (hG : ChG G O R) {w : World} (h : LvW n w O R ab ao bb bo) :
    Calls Tryz.prog 42 #[cv n ab ao c bb bo e] w fun e w' => ∃ v, e = .returned (.tuple #[v, .bool true]) ∧ Own w' w.heap.size v 3 (ints (szP O n 0)) ∧ Below w.heap.size w w' := by
  obtain ⟨i3, hi3, hz3, hs3, hb3⟩ := info_parts Tryz.info3
  have I3 := Lib.hid (And.intro hi3 (And.intro hz3 (And.intro hs3 hb3)))
  clear hi3 hz3 hs3 hb3
  obtain ⟨X, hX⟩ : ∃ X, w.heap.size = X := ⟨_, rfl⟩
  have hB0 := BoxW.start w X n ab ao c bb bo e hX
  obtain ⟨W1, hW1⟩ : ∃ W1, W1 = w.alloc (.cells #[.int .i64 (n : Int), .slice (some ⟨ab, ao, none⟩) n c, .slice (some ⟨bb, bo, none⟩) n e] 25) := ⟨_, rfl⟩
  rw [← hW1] at hB0
  have hs1 : W1.heap.size = X + 1 := by rw [hW1, ← hX]; simp
  have H := Lib.hid (And.intro h (And.intro hG (And.intro hB0 (And.intro hs1 hX))))
  obtain ⟨z0, z1, z2⟩ : W1.cell? ⟨X, 0, none⟩ = some (.int .i64 (n : Int)) ∧ W1.cell? ⟨X, 1, none⟩ = some (.slice (some ⟨ab, ao, none⟩) n c) ∧ W1.cell? ⟨X, 2, none⟩ = some (.slice (some ⟨bb, bo, none⟩) n e) := ⟨hB0.c0, hB0.c1, hB0.c2⟩
  clear h hG hB0 hs1
  go_enter Tryz.func42, Tryz.ntmps42
  try rw [hX]
  go_wp2_with (at_make; (try rw [← hW1]); refine mk1 rfl _ _ 40 3 rfl i3 (.int .i64 0) 8 Tryz.underlying40 I3.out.1 I3.out.2.1 I3.out.2.2.1 I3.out.2.2.2 rfl (by omega) W1.heap.size (n + 1) rfl rfl (by omega) (Nat.le_refl _) ?_; intro w1 hd hg hz1; rw [H.out.2.2.2.1] at hd hz1 ⊢; have hB1 := H.out.2.2.1.below (Below.refl _ _ |>.grown hg (by have := H.out.2.2.2.1; omega) (by simp)); have b0 := hB1.c0; have b1 := hB1.c1; have b2 := hB1.c2; have f1 := hd.frozen n; have d1 := hd.cell n (by simp); rw [List.getElem?_replicate, if_pos (by omega)] at d1; have H1 := Lib.hid (And.intro hd (And.intro hB1 hz1)); clear hd hg hz1 hB1)
  obtain ⟨W2, hW2⟩ : ∃ W2, W2 = w1.setCell ⟨X + 1, n, none⟩ (.int .i64 1) := ⟨_, rfl⟩
  have hO2 : Own W2 (X + 1) (.slice (some ⟨X + 1, 0, none⟩) (n + 1) (n + 1)) 3 (ints (szP O n n)) := by
    have := H1.out.1.put n (.int .i64 1)
    rw [hW2, ← szP_zero]
    rw [ints_zero, ints_set] at this
    exact this
  have hB2 : BoxW w X n ab ao c bb bo e W2 := by rw [hW2]; exact H1.out.2.1.below ((Below.refl _ _).setCell (p := ⟨X + 1, n, none⟩) (Nat.le_refl _) _)
  have H2 := Lib.hid (And.intro hO2 hB2)
  try rw [← hW2]
  clear hO2 hB2 hW2 z0 z1 z2 hW1
  go_loopw [5] (fun i wr => ∃ (m : Nat), m ≤ n ∧ i = .int .i64 ((m : Int) - 1) ∧ Own wr (X + 1) (.slice (some ⟨X + 1, 0, none⟩) (n + 1) (n + 1)) 3 (ints (szP O n m)) ∧ BoxW w X n ab ao c bb bo e wr) (fun i _ => (intOf i + 1).toNat)
  case atStart => exact ⟨n, Nat.le_refl _, rfl, H2.out.1, H2.out.2⟩
  case round =>
    obtain ⟨m, hm, rfl, ho, hb⟩ := hrel
    match m, hm, ho with
    | 0, hm, ho =>
      have HP := Lib.hid (And.intro ho hb)
      clear ho hb
      go_wp2_with fail
      refine bodyPost_ret (v := .tuple #[.slice (some ⟨X + 1, 0, none⟩) (n + 1) (n + 1), .bool true]) (by simp [results, Tryz.results42, go_sem]) rfl ?_
      exact ⟨_, rfl, HP.out.1.mono (by have := H.out.2.2.2.2; omega), HP.out.2.bel⟩
    | m + 1, hm, ho =>
      have hmn : m < n := by omega
      have hmm : (((m + 1 : Nat) : Int)) - 1 = (m : Int) := by omega
      rw [hmm]
      obtain ⟨Z, hZ⟩ : ∃ Z, szF O (n - (m + 1)) (m + 1) = Z := ⟨_, rfl⟩
      obtain ⟨N, hN⟩ : ∃ N, (O m).length = N := ⟨_, rfl⟩
      have hNZ : szF O (n - m) m = N * Z := by rw [show n - m = n - (m + 1) + 1 by omega, szF, hN, hZ]
      have hZle : Z ≤ 16777216 := by
        have h1 := H.out.2.1.sz_le (m := 8) hn (f := n - (m + 1)) (i := m + 1) (by omega)
        rw [hZ] at h1
        exact Nat.le_trans h1 (Nat.le_trans (Nat.pow_le_pow_right (by omega) (show n - (m + 1) ≤ 8 by omega)) (by decide))
      have hN0 : 0 < N := by rw [← hN]; exact H.out.2.1.pos hmn
      have hN8 : N ≤ 8 := by rw [← hN]; exact Nat.le_trans (H.out.2.1.short hmn) hn
      have hW : Below w.heap.size w wr := by rw [H.out.2.2.2.2]; exact hb.bel
      obtain ⟨vo, y1, gp, go, gc, rfl, _, _, _, _⟩ := (H.out.1.below hW).orb m hmn
      rw [hN] at y1
      have d1 := (ho.cell (m + 1) (by rw [ints_len, szP_len]; omega)).trans (ints_get (by rw [szP_len]; omega))
      rw [szP_get (by omega) (Nat.le_refl _), hZ] at d1
      have f1 := ho.frozen m
      have d2 := (ho.cell m (by rw [ints_len, szP_len]; omega)).trans (ints_get (by rw [szP_len]; omega))
      have x0 := hb.c0
      have x1 := hb.c1
      have hq : (Z : Int) ≤ 1000000000000000000 / (N : Int) := by
        refine (Int.le_ediv_iff_mul_le (by omega)).2 ?_
        have : (Z : Int) * N ≤ 16777216 * 8 := Int.mul_le_mul (by omega) (by omega) (by omega) (by omega)
        omega
      have hq2 : ¬ (1000000000000000000 / (N : Int) < (Z : Int)) := by omega
      have hq3 : decide (1000000000000000000 / (N : Int) < (Z : Int)) = false := by simp; omega
      have hNn : ¬ (N : Int) = 0 := by omega
      have hmul : (Z : Int) * N ≤ 16777216 * 8 := Int.mul_le_mul (by omega) (by omega) (by omega) (by omega)
      have hmul0 : 0 ≤ (Z : Int) * N := by rw [← Int.natCast_mul]; omega
      have hmul' : (N : Int) * Z ≤ 16777216 * 8 := by rw [Int.mul_comm]; exact hmul
      have hmul0' : 0 ≤ (N : Int) * Z := by rw [Int.mul_comm]; exact hmul0
      have hw1 : IntKind.i64.wrap ((N : Int) * (Z : Int)) = (N : Int) * (Z : Int) := IntWalk.i64_in _ (by omega)
      have hw2 : IntKind.i64.wrap ((Z : Int) * (N : Int)) = (Z : Int) * (N : Int) := IntWalk.i64_in _ (by omega)
      have HP := Lib.hid (And.intro ho (And.intro hb hNZ))
      clear ho hb hNZ hZ hN hq hW hmul hmul0 hmul' hmul0' hN8 hZle
      go_wp2_with fail
      go_quiet (fail)
      go_wp2_with fail
      go_region
      go_wp2_with fail
      have hval : (Z : Int) * (N : Int) = (szF O (n - m) m : Int) := by rw [HP.out.2.2, Int.natCast_mul, Int.mul_comm (N : Int)]
      have ho9 := (HP.out.1.drewN (nq + 1)).put m (.int .i64 ((Z : Int) * (N : Int)))
      rw [ints_set] at ho9
      have he : (szP O n (m + 1)).set m ((Z : Int) * (N : Int)) = szP O n m := by rw [hval]; exact szP_set
      rw [he] at ho9
      have hbd : Below (X + 1) wr ((wr.drewN (nq + 1)).setCell ⟨X + 1, m, none⟩ (.int .i64 ((Z : Int) * (N : Int)))) := (below_self_drewN wr (nq + 1)).setCell (p := ⟨X + 1, m, none⟩) (Nat.le_refl _) _
      exact ⟨⟨m, by omega, rfl, ho9, HP.out.2.1.below hbd⟩, by simp [intOf]⟩
end Go.Proofs.YtbejhkojdiadaaaGreatDoor
namespace Go.Proofs.YtbejhkojdiadaaaGreatDoor
open Go.RowKit PlainPm
set_option maxHeartbeats 400000 in
theorem same89 (a b : Option Addr) (c d : Nat) (xs ys : List (List Int)) (w : World) (ha : Rows w a xs) (hb : Rows w b ys) :
    Calls Tryz.prog 114 #[.slice a xs.length c, .slice b ys.length d] w fun e w' => e = .returned (.bool (decide (xs = ys))) ∧ ∃ q, w' = w.drewN q := by
  have hA := Lib.hid ha
  have hB := Lib.hid hb
  have hmx := ha.len
  clear ha hb
  obtain ⟨n, hn⟩ : ∃ n, n = xs.length := ⟨_, rfl⟩
  obtain ⟨m, hm⟩ : ∃ m, m = ys.length := ⟨_, rfl⟩
  rw [← hn, ← hm]
  rw [← hn] at hmx
  by_cases h : n = m
  · subst h
    have Hn := Lib.hid hn
    have Hm := Lib.hid hm
    clear hn hm
    go_enter Tryz.func114, Tryz.ntmps114
    go_wp2
    go_loopw [5] (fun i wr => ∃ k q : Nat, k ≤ n ∧ i = .int .i64 k ∧ wr = w.drewN q ∧ agreeTo xs ys k) (fun i _ => n - (intOf i).toNat)
    case atStart => exact ⟨0, 0, Nat.zero_le _, rfl, rfl, fun i hi => by omega⟩
    case round =>
      obtain ⟨k, q, hk, rfl, rfl, he⟩ := hrel
      have He := Lib.hid he
      clear he
      by_cases hlt : k < n
      · obtain ⟨a', oa, a2, ac, rfl, _, hca, hia⟩ := hA.out.at_ (k := k) (by have := Hn.out; omega)
        obtain ⟨b', ob, b2, bc, rfl, _, hcb, hib⟩ := hB.out.at_ (k := k) (by have := Hm.out; omega)
        have hxl : k < xs.length := by have := Hn.out; omega
        have hyl : k < ys.length := by have := Hm.out; omega
        obtain ⟨x, hx⟩ : ∃ x, xs[k]?.getD [] = x := ⟨_, rfl⟩
        obtain ⟨y, hy⟩ : ∃ y, ys[k]?.getD [] = y := ⟨_, rfl⟩
        rw [hx] at hca hia
        rw [hy] at hcb hib
        have Hc := Lib.hid (fun n => same20 a2 b2 ac bc x y (w.drewN n) hia hib)
        have Hx := Lib.hid hx
        have Hy := Lib.hid hy
        obtain ⟨r, hr⟩ : ∃ r, decide (x = y) = r := ⟨_, rfl⟩
        rw [hr] at Hc
        have Hr := Lib.hid hr
        clear hia hib hx hy hr hxl hyl
        go_wp2
        go_quiet ((go_at_call 20; exact quiet_add (Hc.out _)))
        go_wp2
        · rename_i hr0
          go_ret
          refine ⟨ret_bool ?_, _, World.drewN_drewN _ _ _⟩
          symm; rw [decide_eq_false_iff_not]
          rintro rfl
          have := Hr.out
          rw [← Hx.out, ← Hy.out] at this
          simp at this hr0
          simp_all
        · rename_i hr0
          refine ⟨⟨k + 1, q + nq, by omega, by go_num, rfl, agreeTo_succ He.out ?_⟩, by simp [intOf]; omega⟩
          have h1 : x = y := by have := Hr.out; simp at hr0; simp_all
          rw [← Hx.out, ← Hy.out] at h1
          exact (getD_eq_iff (by have := Hn.out; omega) (by have := Hm.out; omega)).1 h1
      · go_wp2
        go_ret
        refine ⟨ret_bool ?_, _, rfl⟩
        symm; rw [decide_eq_true_iff]
        exact agreeTo_all (by rw [← Hn.out, ← Hm.out]) k (by have := Hn.out; omega) He.out
  · have hne' : ((n : Int) != m) = true := by simp; omega
    have H := Lib.hid hn
    have H' := Lib.hid hm
    clear hn hm
    go_enter Tryz.func114, Tryz.ntmps114
    go_wp2
    go_ret
    refine ⟨ret_bool ?_, 0, rfl⟩
    symm; rw [decide_eq_false_iff_not]
    rintro rfl
    exact h (by rw [H.out, H'.out])
end Go.Proofs.YtbejhkojdiadaaaGreatDoor
namespace Go.Proofs.YtbejhkojdiadaaaGreatDoor
open Go.RowKit PlainPm
theorem keep1 {V A B : World} {p1 : Addr} {u1 : Value} (h : A.cell? p1 = some u1 ∧ Below V.heap.size V A) (k : Below A.heap.size A B) : B.cell? p1 = some u1 ∧ Below V.heap.size V B :=
  ⟨(k.cell (block_lt_of_cell h.1)).trans h.1, below_trans h.2 k⟩
set_option maxRecDepth 100000 in
set_option maxHeartbeats 2000000 in
theorem sift112 {n ab ao c bb bo e : Nat} {G : Pm n → Prop} {O : Nat → List Nat} {R : Nat → Nat → Pm n} (hn0 : 0 < n) (hn : n ≤ 64) (hG : ChG G O R) {x : Pm n} {va : Value} {w : World} (h : LvW n w O R ab ao bb bo) (hx : PmV w [] va x) :
    Calls Tryz.prog 84 #[cv n ab ao c bb bo e, va] w fun e w' => ∃ v, e = .returned (.tuple #[v, .int .i64 (sfG O R n 0 x : Int)]) ∧ Below w.heap.size w w' := by
  obtain ⟨X, hX⟩ : ∃ X, w.heap.size = X := ⟨_, rfl⟩
  have hB0 := BoxW.start w X n ab ao c bb bo e hX
  obtain ⟨W1, hW1⟩ : ∃ W1, W1 = w.alloc (.cells #[.int .i64 (n : Int), .slice (some ⟨ab, ao, none⟩) n c, .slice (some ⟨bb, bo, none⟩) n e] 25) := ⟨_, rfl⟩
  rw [← hW1] at hB0
  have hwW : Below w.heap.size w W1 := by rw [hX]; exact hB0.bel
  have H := Lib.hid (And.intro h (And.intro (hx.below hwW) (And.intro hB0 (And.intro hX (And.intro hwW hG)))))
  clear h hx hwW hG hB0
  obtain ⟨b, o, c', rfl, _⟩ := id H.out.2.1
  go_enter Tryz.func84, Tryz.ntmps84
  try rw [hX]
  go_wp2_with fail
  try rw [← hW1]
  clear hW1
  go_loopw [1, 6, 7] (fun v i _ wr => ∃ (k : Nat) (z : Pm n), k ≤ n ∧ i = .int .i64 (k : Int) ∧ BoxW w X n ab ao c bb bo e wr ∧ PmV wr [] v z ∧ sfG O R (n - k) k z = sfG O R n 0 x) (fun _ i _ _ => n - (intOf i).toNat)
  case atStart => exact ⟨0, x, by omega, rfl, H.out.2.2.1, H.out.2.1, rfl⟩
  case round =>
    obtain ⟨k, z, hk, rfl, hb, hz, he⟩ := hrel
    have x0 := hb.c0
    have x1 := hb.c1
    have x2 := hb.c2
    have hwr : Below w.heap.size w wr := by rw [hX]; exact hb.bel
    obtain ⟨zb, zo, zc, hu1, _, hzb, hzc⟩ := id hz
    subst hu1
    obtain ⟨zi, zic, hzi1, hzi2⟩ := hz.ints (by omega)
    have hzl := z.ok.1
    rw [hzl] at hzi1
    cases hzi1
    have hown := fun (V : World) (hv : Below wr.heap.size wr V) => own115 (c := zc) (hzi2.below hv) hzl hn
    by_cases hkn : k < n
    · obtain ⟨go, oo, oc, gr, ro, rc, y1, y2, y3⟩ := H.out.1.at_ hwr hkn
      have y4 := hzc k hkn
      have hlt := H.out.2.2.2.2.2.lt k hkn
      obtain ⟨L, hL⟩ : ∃ L, (O k).length = L := ⟨_, rfl⟩
      have hL64 : L ≤ 64 := by rw [← hL]; exact Nat.le_trans (H.out.2.2.2.2.2.short hkn) hn
      rw [hL] at y1 y2
      have HC := Lib.hid (And.intro hb (And.intro hz (And.intro he (And.intro hwr (And.intro y3 (And.intro hown (And.intro hlt hL)))))))
      obtain ⟨t, ht⟩ : ∃ t, z.at k = t := ⟨_, rfl⟩
      rw [ht] at y4
      have HT := Lib.hid ht
      have hk1 : (k : Int) < n := by omega
      clear hb hz he hwr y3 hown hlt hL ht hzc hzi2
      go_wp2_with fail
      obtain ⟨wo, rfl⟩ : ∃ wo : World, wo = wr := ⟨_, rfl⟩
      go_loopw [7] (fun j wi => ∃ (q m : Nat), q ≤ L ∧ j = .int .i64 (q : Int) ∧ wi = wo.drewN m ∧ ∀ (s p : Nat), s < q → (O k)[s]? = some p → p ≠ t) (fun j _ => L - (intOf j).toNat)
      case atStart => exact ⟨0, 0, by omega, rfl, rfl, fun s p hs => by omega⟩
      case round =>
        obtain ⟨q, m, hq, rfl, rfl, hno⟩ := hrel
        by_cases hqL : q < L
        · obtain ⟨p, hp⟩ : ∃ p, (O k)[q]? = some p := ⟨_, List.getElem?_eq_getElem (by rw [HC.out.2.2.2.2.2.2.2]; exact hqL)⟩
          obtain ⟨z5, u, z6, hu⟩ := HC.out.2.2.2.2.1 wo HC.out.2.2.2.1 q p hp
          have HN := Lib.hid (And.intro hno (And.intro hp hu))
          have g1 : decide (q < L) = true := by simp [hqL]
          have g2 : decide ((q : Int) < (L : Int)) = true := by simp; omega
          clear hno hp hu
          by_cases hpt : p = t
          · subst hpt
            have g3 : ((p : Int) != (p : Int)) = false := by simp
            have g4 : ((q : Int) == (L : Int)) = false := by simp; omega
            have hu := HN.out.2.2
            obtain ⟨ub, uo, uc, rfl, _⟩ := id hu
            have hinv := fun (V : World) (hv : Below wo.heap.size wo V) => inv50 hn (hu.below hv)
            have hmul := fun (V V' : World) (v : Value) (hv : Below wo.heap.size wo V) (hv' : Below V.heap.size V V') (h : NewPm V V' v (R k p).inv) => mul49 hn hn0 (HC.out.2.1.below (below_trans hv hv')) (h.pm (M := []) (by simp))
            have HM := Lib.hid (And.intro hinv (And.intro hmul hqL))
            clear hinv hmul hu
            go_wp2_with fail
            go_quiet (fail)
            go_wp2_with (first
              | (go_at_call 28; refine (HM.out.2.1 _ _ _ (below_self_drewN _ _) H6.out.2 H6.out.1).mono ?_; rintro e1 w7 ⟨v7, rfl, k1, k2⟩; have H7 := Lib.hid (And.intro k1 k2); clear k1 k2)
              | (go_at_call 96; refine (HM.out.1 _ (below_self_drewN _ _)).mono ?_; rintro e1 w6 ⟨v6, rfl, k1, k2⟩; have H6 := Lib.hid (And.intro k1 k2); clear k1 k2))
            have hb7 : Below wo.heap.size wo w7 := below_trans (below_trans (below_self_drewN wo (m + nq)) H6.out.2) H7.out.2
            have hlt := HC.out.1.lt
            refine ⟨⟨k + 1, z.mul (R k p).inv, by omega, by go_num, HC.out.1.below (hb7.mono (by omega)), H7.out.1.pm (by simp), ?_⟩, by simp [intOf]; omega⟩
            rw [← HC.out.2.2.1, show n - k = n - (k + 1) + 1 by omega, sfG, HT.out, if_pos (List.mem_of_getElem? HN.out.2.1)]
          · have g3 : ((p : Int) != (t : Int)) = true := by simp; omega
            have Hpt := Lib.hid hpt
            clear hpt
            go_wp2_with fail
            go_quiet (fail)
            go_wp2_with fail
            refine ⟨⟨q + 1, m + nq, by omega, by go_num, rfl, fun s p' hs hp' => ?_⟩, by simp [intOf]; omega⟩
            by_cases es : s = q
            · subst es; rw [HN.out.2.1] at hp'; cases hp'; exact Hpt.out
            · exact HN.out.1 s p' (by omega) hp'
        · obtain rfl : q = L := by omega
          have g1 : decide (q < q) = false := by simp
          have g2 : decide ((q : Int) < (q : Int)) = false := by simp
          have g4 : ((q : Int) == (q : Int)) = true := by simp
          go_wp2_with fail
          go_quiet (fail)
          have HO := Lib.hid (HC.out.2.2.2.2.2.1 _ (below_self_drewN wo (m + nq)))
          have HN := Lib.hid hno
          clear hno
          go_wp2_with (go_at_call 58; (with_reducible refine HO.out.mono ?_); rintro e w6 ⟨v6, rfl, k1, k2⟩; have H6 := Lib.hid (And.intro k1 k2); clear k1 k2)
          refine bodyPost_ret (v := .tuple #[v6, .int .i64 (k : Int)]) (by simp [results, Tryz.results84, go_sem]) rfl ?_
          have hno' : ¬ z.at k ∈ O k := fun hm => by
            obtain ⟨s, hs⟩ := List.mem_iff_getElem?.1 hm
            have hsl := (List.getElem?_eq_some_iff.1 hs).1
            exact HN.out s _ (by rw [← HC.out.2.2.2.2.2.2.2]; exact hsl) hs HT.out
          have hk9 : sfG O R n 0 x = k := by rw [← HC.out.2.2.1, show n - k = n - (k + 1) + 1 by omega, sfG, if_neg hno']
          rw [hk9]
          have hb9 := below_trans (below_trans HC.out.2.2.2.1 (below_self_drewN wo (m + nq))) H6.out.2
          rw [H.out.2.2.2.1] at hb9
          exact ⟨v6, rfl, hb9⟩
    · obtain rfl : k = n := by omega
      have hk1 : ¬ (k : Int) < k := by omega
      rw [Nat.sub_self] at he
      have HC := Lib.hid (And.intro hb (And.intro hwr (And.intro hown he)))
      clear hb hwr hown he hz hzc hzi2
      go_wp2_with fail
      go_region_held3 (fun V => V.cell? ⟨X, 0, none⟩ = some (.int .i64 (k : Int)) ∧ Below wr.heap.size wr V)
        (first
          | assumption
          | exact ⟨x0, Below.refl _ _⟩
          | exact ⟨x0, below_drew (Below.refl _ _)⟩
          | exact ⟨x0, below_self_drewN _ _⟩
          | exact keep1 (by first | assumption | exact ⟨x0, Below.refl _ _⟩ | exact ⟨x0, below_drew (Below.refl _ _)⟩ | exact ⟨x0, below_self_drewN _ _⟩) (by assumption))
        (first
          | (go_at_call 58; (with_reducible refine (HC.out.2.2.1 _ (by first | exact Below.refl _ _ | exact below_drew (Below.refl _ _) | exact below_self_drewN _ _ | assumption)).mono ?_); rintro e w6 ⟨v6, rfl, k1, k2⟩; have H6 := Lib.hid (And.intro k1 k2); clear k1))
      go_wp2_with fail
      refine bodyPost_ret (v := .tuple #[v6, .int .i64 (k : Int)]) (by simp [results, Tryz.results84, go_sem]) rfl ?_
      have hk9 : sfG O R k 0 x = k := HC.out.2.2.2.symm
      rw [hk9]
      have hb9 := below_trans (below_trans HC.out.2.1 (below_drew (Below.refl _ _))) H6.out.2
      rw [H.out.2.2.2.1] at hb9
      exact ⟨v6, rfl, hb9⟩
theorem cnt_snoc {n : Nat} (y : Pm n) (l : List Nat) (q v : Nat) : cnt y (l ++ [q]) v = if y.at q < v then cnt y l v + 1 else cnt y l v := by
  unfold cnt
  rw [List.countP_append]
  by_cases h : y.at q < v
  · rw [if_pos h]; simp [h]
  · rw [if_neg h]; simp [h]
end Go.Proofs.YtbejhkojdiadaaaGreatDoor
namespace Go.Proofs.YtbejhkojdiadaaaGreatDoor
open Go.RowKit PlainPm
theorem make96 {n : Nat} (hn : 0 < n ∧ n ≤ 64) {w : World} {v : Value} {l : List (Pm n)} (hl : l.length ≤ 4096) (hv : PmsV w [] v l) :
    Calls Tryz.prog 31 #[.int .i64 (n : Int), v] w fun e w' => ∃ T a c0 b d, Of (Grp (· ∈ l)) T ∧ e = .returned (.tuple #[.agg #[.int .i64 (n : Int), .slice a n c0, .slice b n d], .int .i64 0]) ∧ Rows w' a (orbI T n) ∧ Rows2 w' b (repI T n) ∧ Below w.heap.size w w' :=
  (make96c hn hl hv).mono fun _ w' ⟨T, a, c0, b, d, h1, h2, h3, h4⟩ => by
    obtain ⟨k1, k2, _⟩ := h4 w' (Nat.le_refl _) (fun _ _ _ => rfl)
    exact ⟨T, a, c0, b, d, h1, h2, k1, k2, h3⟩
end Go.Proofs.YtbejhkojdiadaaaGreatDoor
namespace Go.Proofs.YtbejhkojdiadaaaGreatDoor
open Go.RowKit PlainPm
set_option maxRecDepth 100000 in
set_option maxHeartbeats 2000000 in
theorem same31 {w : World} {v v' : Value} {d d' : Int} {os os' : List (List Int)} {rs rs' : List (List (List Int))} (h : ChV w v d os rs) (h' : ChV w v' d' os' rs') :
    Calls Tryz.prog 78 #[v, v'] w fun e w' => e = .returned (.bool (decide (d = d' ∧ os = os' ∧ rs = rs'))) ∧ Below w.heap.size w w' := by
  obtain ⟨a, c, b, e, rfl, h1, h2⟩ := h
  obtain ⟨a', c', b', e', rfl, h1', h2'⟩ := h'
  obtain ⟨W, hW⟩ : ∃ W, (w.alloc (.cells #[.int .i64 d, .slice a os.length c, .slice b rs.length e] 25)).alloc (.cells #[.int .i64 d', .slice a' os'.length c', .slice b' rs'.length e'] 25) = W := ⟨_, rfl⟩
  have hb : Below w.heap.size w W := by rw [← hW]; exact alloc_b (alloc_b (Below.refl _ _) _) _
  have HO := Lib.hid (fun q => same89 a a' c c' os os' (W.drewN q) (h1.below (below_drewN hb q)) (h1'.below (below_drewN hb q)))
  have hb' : ∀ q, Below w.heap.size w (W.drewN q) := fun q => below_drewN hb q
  have HB := Lib.hid hb'
  obtain ⟨l1, hl1⟩ : ∃ l, os.length = l := ⟨_, rfl⟩
  obtain ⟨l2, hl2⟩ : ∃ l, rs.length = l := ⟨_, rfl⟩
  obtain ⟨l1', hl1'⟩ : ∃ l, os'.length = l := ⟨_, rfl⟩
  obtain ⟨l2', hl2'⟩ : ∃ l, rs'.length = l := ⟨_, rfl⟩
  rw [hl1, hl2, hl1', hl2'] at hW
  rw [hl1, hl1'] at HO
  rw [hl1, hl2, hl1', hl2']
  obtain ⟨B2, hB2⟩ : ∃ B, decide (os = os') = B := ⟨_, rfl⟩
  obtain ⟨B3, hB3⟩ : ∃ B, decide (rs = rs') = B := ⟨_, rfl⟩
  obtain ⟨R, hR⟩ : ∃ R, decide (d = d' ∧ os = os' ∧ rs = rs') = R := ⟨_, rfl⟩
  rw [hB2] at HO
  have hres : R = (decide (d = d') && B2 && B3) := by rw [← hR, ← hB2, ← hB3]; simp [Bool.decide_and, Bool.and_assoc]
  rw [hR, hres]
  have e0 : W.heap[w.heap.size]? = some (.cells #[.int .i64 d, .slice a l1 c, .slice b l2 e] 25) := by
    rw [← hW, Below.heap_alloc _ _ _ (by rw [heap_new0]; omega)]; exact heap_new _ _
  have e1 : W.heap[w.heap.size + 1]? = some (.cells #[.int .i64 d', .slice a' l1' c', .slice b' l2' e'] 25) := by
    rw [← hW, ← heap_new0 w (.cells #[.int .i64 d, .slice a l1 c, .slice b l2 e] 25)]; exact heap_new _ _
  obtain ⟨x0, x1, x2, _, _, _⟩ := box_cells e0
  obtain ⟨x3, x4, x5, _, _, _⟩ := box_cells e1
  clear e0 e1
  have hmx : l2 ≤ 9223372036854775807 := by
    obtain ⟨vs, r1, r2, _⟩ := h2
    have h3 := r1.1
    unfold maxLen at h3
    omega
  have H2 := Lib.hid (And.intro h2 (And.intro h2' (And.intro hl2 (And.intro hl2' (And.intro hB3 hb)))))
  clear h1 h2 h1' h2' hb hb' hl1 hl2 hl1' hl2' hB2 hB3 hR hres
  by_cases hd : d = d'
  · subst hd
    have hdd : (d != d) = false := by simp
    cases B2 with
    | false =>
      go_enter Tryz.func78, Tryz.ntmps78
      go_wp2_with (go_at_call 114; refine (HO.out 0).mono ?_; rintro e1 w1 ⟨rfl, q1, rfl⟩)
      go_ret
      exact ⟨by simp, HB.out _⟩
    | true =>
      by_cases hll : l2 = l2'
      · subst hll
        have hlb : ((l2 : Int) != (l2 : Int)) = false := by simp
        go_enter Tryz.func78, Tryz.ntmps78
        go_wp2_with (go_at_call 114; refine (HO.out 0).mono ?_; rintro e1 w1 ⟨rfl, q1, rfl⟩)
        go_loopw [5] (fun i wr => ∃ (k q : Nat), k ≤ l2 ∧ i = .int .i64 (k : Int) ∧ wr = W.drewN q ∧ rs.take k = rs'.take k) (fun i _ => l2 - (intOf i).toNat)
        case atStart => exact ⟨0, _, by omega, rfl, rfl, by simp⟩
        case round =>
          obtain ⟨k, q, hk, rfl, rfl, htk⟩ := hrel
          have HT := Lib.hid htk
          clear htk
          by_cases hkl : k < l2
          · obtain ⟨xs, hxs⟩ : ∃ x, rs[k]? = some x := ⟨_, List.getElem?_eq_getElem (by rw [H2.out.2.2.1]; exact hkl)⟩
            obtain ⟨ys, hys⟩ : ∃ x, rs'[k]? = some x := ⟨_, List.getElem?_eq_getElem (by rw [H2.out.2.2.2.1]; exact hkl)⟩
            obtain ⟨vs, r1, r2, r3⟩ := H2.out.1
            obtain ⟨vs', s1, s2, s3⟩ := H2.out.2.1
            obtain ⟨u, hu⟩ : ∃ x, vs[k]? = some x := ⟨_, List.getElem?_eq_getElem (by rw [r2, H2.out.2.2.1]; exact hkl)⟩
            obtain ⟨u', hu'⟩ : ∃ x, vs'[k]? = some x := ⟨_, List.getElem?_eq_getElem (by rw [s2, H2.out.2.2.2.1]; exact hkl)⟩
            obtain ⟨ba, ca, rfl, hra⟩ := r3 k u xs hu hxs
            obtain ⟨bb, cb, rfl, hrb⟩ := s3 k u' ys hu' hys
            obtain ⟨ab, ao, hae, _, hac⟩ := (r1.below H2.out.2.2.2.2.2).2 k _ hu
            obtain ⟨ab', ao', hae', _, hac'⟩ := (s1.below H2.out.2.2.2.2.2).2 k _ hu'
            subst hae
            subst hae'
            have hcall := fun q => same47 ba bb ca cb xs ys (W.drewN q) (hra.below (HB.out q)) (hrb.below (HB.out q))
            obtain ⟨r, hr⟩ : ∃ r, decide (xs = ys) = r := ⟨_, rfl⟩
            obtain ⟨lx, hlx⟩ : ∃ r, xs.length = r := ⟨_, rfl⟩
            obtain ⟨ly, hly⟩ : ∃ r, ys.length = r := ⟨_, rfl⟩
            rw [hlx] at hcall hac
            rw [hly] at hcall hac'
            rw [hr] at hcall
            have HC := Lib.hid hcall
            have HV := Lib.hid (And.intro hxs (And.intro hys hr))
            have hk1 : (k : Int) < l2 := by omega
            clear hcall hxs hys hr hlx hly hra hrb hu hu' r1 r2 r3 s1 s2 s3
            cases r with
            | false =>
              go_wp2_with fail
              go_quiet ((go_at_call 16; exact quiet_add (HC.out _)))
              go_wp2_with fail
              go_ret
              have hne : B3 = false := by
                rw [← H2.out.2.2.2.2.1]
                refine decide_eq_false fun h => ?_
                have h1 := HV.out.1
                rw [h, HV.out.2.1] at h1
                exact of_decide_eq_false HV.out.2.2 (Option.some.inj h1).symm
              exact ⟨by rw [hne]; simp, by rw [World.drewN_drewN]; exact HB.out _⟩
            | true =>
              go_wp2_with fail
              go_quiet ((go_at_call 16; exact quiet_add (HC.out _)))
              go_wp2_with fail
              exact ⟨⟨k + 1, q + nq, by omega, by go_num, rfl, by rw [List.take_add_one, List.take_add_one, HT.out, HV.out.1, HV.out.2.1, of_decide_eq_true HV.out.2.2]⟩, by simp [intOf]; omega⟩
          · obtain rfl : k = l2 := by omega
            have hk1 : ¬ (k : Int) < k := by omega
            go_wp2_with fail
            go_ret
            have hne : B3 = true := by
              rw [← H2.out.2.2.2.2.1]
              refine decide_eq_true ?_
              have h1 := HT.out
              rw [List.take_of_length_le (by rw [H2.out.2.2.1]; omega), List.take_of_length_le (by rw [H2.out.2.2.2.1]; omega)] at h1
              exact h1
            exact ⟨by rw [hne]; simp, HB.out _⟩
      · have hlb : ((l2 : Int) != (l2' : Int)) = true := by simp; omega
        have hne : B3 = false := by
          rw [← H2.out.2.2.2.2.1]
          refine decide_eq_false fun h => hll ?_
          rw [← H2.out.2.2.1, ← H2.out.2.2.2.1, h]
        have HN := Lib.hid hne
        clear hne hll
        go_enter Tryz.func78, Tryz.ntmps78
        go_wp2_with (go_at_call 114; refine (HO.out 0).mono ?_; rintro e1 w1 ⟨rfl, q1, rfl⟩)
        go_ret
        exact ⟨by rw [HN.out]; simp, HB.out _⟩
  · have hdd : (d != d') = true := by simp [hd]
    have Hd := Lib.hid hd
    clear hd
    go_enter Tryz.func78, Tryz.ntmps78
    go_wp2_with fail
    go_ret
    exact ⟨by simp [Hd.out], HB.out 0⟩
end Go.Proofs.YtbejhkojdiadaaaGreatDoor
namespace Go.Proofs.YtbejhkojdiadaaaGreatDoor
open Go.RowKit PlainPm
def RV (w : World) (us : List Value) (xss : List (List Int)) : Prop :=
  us.length = xss.length ∧ ∀ (i : Nat) u xs, us[i]? = some u → xss[i]? = some xs → ∃ b c, u = .slice b xs.length c ∧ Ints w b xs
theorem RV.below {w w' : World} {us : List Value} {xss : List (List Int)} (h : RV w us xss) (k : Below w.heap.size w w') : RV w' us xss :=
  ⟨h.1, fun i u xs hu hx => by obtain ⟨b, c, e, h2⟩ := h.2 i u xs hu hx; exact ⟨b, c, e, h2.below k⟩⟩
theorem RV.app {w : World} {us us' : List Value} {xss xss' : List (List Int)} (h : RV w us xss) (h' : RV w us' xss') : RV w (us ++ us') (xss ++ xss') := by
  refine ⟨by simp [h.1, h'.1], fun i u xs hu hx => ?_⟩
  by_cases hi : i < us.length
  · rw [List.getElem?_append_left hi] at hu
    rw [List.getElem?_append_left (by rw [← h.1]; exact hi)] at hx
    exact h.2 i u xs hu hx
  · rw [List.getElem?_append_right (by omega)] at hu
    rw [List.getElem?_append_right (by rw [← h.1]; omega), ← h.1] at hx
    exact h'.2 _ u xs hu hx
theorem RV.one_ {w : World} {us : List Value} {xss : List (List Int)} (h : RV w us xss) : ∀ y ∈ us, y.oneCell' = true := fun y hy => by
  obtain ⟨k, hk⟩ := List.mem_iff_getElem?.1 hy
  have hkl : k < xss.length := by rw [← h.1]; exact (List.getElem?_eq_some_iff.1 hk).1
  obtain ⟨b, c, rfl, _⟩ := h.2 k y _ hk (List.getElem?_eq_getElem hkl)
  rfl
end Go.Proofs.YtbejhkojdiadaaaGreatDoor
namespace Go.Proofs.YtbejhkojdiadaaaGreatDoor
open Go.RowKit PlainPm
def OkE (n i : Nat) (os : List (List Int)) (rs : List (List (List Int))) : Prop :=
  ∃ o r, os[i]? = some o ∧ rs[i]? = some r ∧ r.length = o.length ∧ r.length ≤ n ∧ ∀ x ∈ r, x.length = n ∧ chkPerm x = 0
theorem Valid.okE {n i : Nat} {os : List (List Int)} {rs : List (List (List Int))} (h : Valid n os rs) (h0 : 1 ≤ n) (h64 : n ≤ 64) (hi : i < n) : OkE n i os rs := by
  obtain ⟨o, r, h1, h2, h3, h4, h5⟩ := h.lv h0 h64 hi
  exact ⟨o, r, h1, h2, h3, by omega, h5⟩
theorem pms_rv {n : Nat} (hn : 0 < n) {w : World} {D : Nat} {v : Value} {us : List Value} {L : List (Pm n)} {xss : List (List Int)} (ho : Own w D v 41 us) (hr : RV w us xss) (hL : L.map (·.l) = xss) (hl : us.length ≤ 1000000) : PmsV w [] v L := by
  obtain ⟨la, lc, hle, hlr⟩ := ho.row (by unfold maxLen; omega)
  have hLl : L.length = us.length := by rw [hr.1, ← hL, List.length_map]
  refine ⟨la, lc, us, by rw [hle, hLl], hlr, hLl.symm, fun k s hs => ?_⟩
  have hk : k < us.length := by rw [← hLl]; exact (List.getElem?_eq_some_iff.1 hs).1
  refine ⟨us[k], List.getElem?_eq_getElem hk, ?_⟩
  have hf : xss[k]? = some s.l := by rw [← hL, List.getElem?_map, hs]; rfl
  obtain ⟨xa, xc, hxe, hxi⟩ := hr.2 k us[k] s.l (List.getElem?_eq_getElem hk) hf
  have hxl := s.ok.1
  obtain ⟨gb, go, hae, hgl, _⟩ := hxi.at_ (k := 0) (by omega)
  subst hae
  refine ⟨gb, go, xc, by rw [hxe, hxl], by simp, hgl, fun i hi => ?_⟩
  obtain ⟨gb2, go2, hae2, hgl2, hce2⟩ := hxi.at_ (k := i) (by omega)
  cases hae2
  rw [hce2, s.get hi]; rfl
theorem RV.snoc {w : World} {us : List Value} {xss : List (List Int)} {a : Option Addr} {c : Nat} {x : List Int} (h : RV w us xss) (hx : Ints w a x) : RV w (us ++ [.slice a x.length c]) (xss ++ [x]) :=
  h.app ⟨rfl, fun i u xs hu hx' => by
    match i, hu, hx' with
    | 0, hu, hx' => simp at hu hx'; subst hu; subst hx'; exact ⟨a, c, rfl, hx⟩
    | i + 1, hu, hx' => simp at hu⟩
set_option maxRecDepth 100000 in
set_option maxHeartbeats 4000000 in
theorem loop56 {w : World} {a b : Option Addr} {c e n : Nat} {os : List (List Int)} {rs : List (List (List Int))} (h1 : Rows w a os) (h2 : Rows2 w b rs) (hn : os.length = n) (hm : rs.length = n) (hn0 : 1 ≤ n) (hn64 : n ≤ 64) :
    Calls Tryz.prog 41 #[.agg #[.int .i64 (n : Int), .slice a n c, .slice b n e]] w fun e w' => (∃ E : Int, e = .returned (.int .i64 E) ∧ ((E = 3 ∧ ¬ Valid n os rs) ∨ (E = 0 ∧ Valid n os rs))) ∧ Below w.heap.size w w' := by
  obtain ⟨i27, hi27, hz27, hs27, hb27⟩ := info_parts Tryz.info41
  have I27 := Lib.hid (And.intro hi27 (And.intro hz27 (And.intro hs27 hb27)))
  clear hi27 hz27 hs27 hb27
  obtain ⟨X, hX⟩ : ∃ X, w.heap.size = X := ⟨_, rfl⟩
  obtain ⟨W1, hW1⟩ : ∃ W1, W1 = w.alloc (.cells #[.int .i64 (n : Int), .slice a n c, .slice b n e] 25) := ⟨_, rfl⟩
  have hbw : Below w.heap.size w W1 := by rw [hW1]; exact alloc_b (Below.refl _ _) _
  have hc1 : W1.heap[X]? = some (.cells #[.int .i64 (n : Int), .slice a n c, .slice b n e] 25) := by rw [hW1, ← hX]; exact World.alloc_heap_new w _
  have hs1 : W1.heap.size = X + 1 := by rw [hW1, ← hX]; simp
  have hbad : ∀ i, i < n → ¬ OkE n i os rs → ¬ Valid n os rs := fun i hi hb hv => hb (hv.okE hn0 hn64 hi)
  have H := Lib.hid (And.intro h1 (And.intro h2 (And.intro hn (And.intro hm (And.intro hbw (And.intro hc1 (And.intro hs1 (And.intro hX hbad))))))))
  have hd1 : decide ((n : Int) < 1) = false := by simp; omega
  have hd2 : decide ((64 : Int) < n) = false := by simp; omega
  have hd3 : ((n : Int) != (n : Int)) = false := by simp
  obtain ⟨z0, z1, z2, _, _, _⟩ := box_cells hc1
  clear h1 h2 hn hm hbw hc1 hs1 hbad
  go_enter Tryz.func41, Tryz.ntmps41
  try rw [hX]
  go_wp2_with fail
  try rw [← hW1]
  clear hW1 z0 z1 z2 hX
  go_loopw [4, 5, 6] (fun v i _ wr => ∃ (m : Nat) (us : List Value), m ≤ n ∧ i = .int .i64 (m : Int) ∧ Own wr W1.heap.size v 41 us ∧ RV w us (rs.take m).flatten ∧ us.length ≤ m * 64 ∧ Below W1.heap.size W1 wr ∧ ∀ j, j < m → OkE n j os rs) (fun _ i _ _ => n - (intOf i).toNat)
  case atStart => exact ⟨0, [], by omega, rfl, Own.nil _ _ _, ⟨rfl, fun i u xs h => by simp at h⟩, by simp, Below.refl _ _, fun j hj => by omega⟩
  case round =>
    obtain ⟨m, us, hmn, rfl, ho, hp, hul, hb, hok⟩ := hrel
    have hXW : X < W1.heap.size := by have := H.out.2.2.2.2.2.2.1; omega
    obtain ⟨x0, x1, x2, _, _, _⟩ := box_cells ((hb.block _ hXW).trans H.out.2.2.2.2.2.1)
    have hsz := hb.size
    have hbw := below_trans H.out.2.2.2.2.1 hb
    by_cases hmk : m < n
    · obtain ⟨oo, ho1⟩ : ∃ x, os[m]? = some x := ⟨_, List.getElem?_eq_getElem (by rw [H.out.2.2.1]; exact hmk)⟩
      obtain ⟨rr, hr1⟩ : ∃ x, rs[m]? = some x := ⟨_, List.getElem?_eq_getElem (by rw [H.out.2.2.2.1]; exact hmk)⟩
      obtain ⟨ag, ao, ab, ac, hae, hagl, hac0, hoi⟩ := H.out.1.at_ (k := m) (by rw [H.out.2.2.1]; exact hmk)
      obtain ⟨bg, bo, bb, bc, hbe, hbgl, hbc0, hri⟩ := H.out.2.1.at_ (k := m) (by rw [H.out.2.2.2.1]; exact hmk)
      subst hae
      subst hbe
      have hac := (hbw.cell (p := ⟨ag, ao + m, none⟩) hagl).trans hac0
      have hbc := (hbw.cell (p := ⟨bg, bo + m, none⟩) hbgl).trans hbc0
      have hbcw : ∀ V, Below w.heap.size w V → V.cell? ⟨bg, bo + m, none⟩ = some (.slice bb rr.length bc) := fun V hV => by
        have := (hV.cell (p := ⟨bg, bo + m, none⟩) hbgl).trans hbc0
        rwa [hr1, Option.getD_some] at this
      clear hac0 hbc0
      rw [ho1, Option.getD_some] at hac hoi
      rw [hr1, Option.getD_some] at hbc hri
      obtain ⟨O, hO⟩ : ∃ l, oo.length = l := ⟨_, rfl⟩
      obtain ⟨R, hR⟩ : ∃ l, rr.length = l := ⟨_, rfl⟩
      rw [hO] at hac
      rw [hR] at hbc
      have hno : ¬ (R = O ∧ R ≤ n ∧ ∀ x ∈ rr, x.length = n ∧ chkPerm x = 0) → ¬ Valid n os rs := fun hq => H.out.2.2.2.2.2.2.2.2 m hmk (fun hk => by
        obtain ⟨o', r', k1, k2, k3, k4, k5⟩ := hk
        rw [ho1] at k1; cases k1
        rw [hr1] at k2; cases k2
        exact hq ⟨by omega, by omega, k5⟩)
      have HP := Lib.hid (And.intro ho (And.intro hp (And.intro hul (And.intro hb (And.intro hok (And.intro hbw (And.intro hno (And.intro ho1 (And.intro hr1 (And.intro hri (And.intro hO (And.intro hR hbcw))))))))))))
      clear ho hp hul hb hok hbw hno ho1 hr1 hri hO hR hoi hbcw
      have hk1 : (m : Int) < n := by omega
      by_cases hOn : n < O
      · have g1 : decide ((n : Int) < (O : Int)) = true := by simp; omega
        have g2 : decide (n < O) = true := by simp; omega
        have HB := Lib.hid (HP.out.2.2.2.2.2.2.1 (fun h => by omega))
        clear hOn
        go_wp2_with fail
        go_quiet (fail)
        go_wp2_with fail
        go_ret
        exact ⟨⟨3, rfl, .inl ⟨rfl, HB.out⟩⟩, by have := below_drewN HP.out.2.2.2.2.2.1 nq; rwa [H.out.2.2.2.2.2.2.2.1] at this⟩
      · by_cases hOR : O = R
        · subst hOR
          have g1 : decide ((n : Int) < (O : Int)) = false := by simp; omega
          have g2 : decide (n < O) = false := by simp; omega
          have g3 : ((O : Int) != (O : Int)) = false := by simp
          have HOn := Lib.hid hOn
          have hO64 : O ≤ 64 := by omega
          clear hOn
          go_wp2_with fail
          go_quiet (fail)
          go_wp2_with fail
          obtain ⟨vs2, q1, q2, q3⟩ := HP.out.2.2.2.2.2.2.2.2.2.1
          have HQ := Lib.hid (And.intro q1 (And.intro q2 q3))
          clear q1 q2 q3
          obtain ⟨W5, hW5⟩ : ∃ W5, W5 = wr.drewN nq := ⟨_, rfl⟩
          have hb5 : Below wr.heap.size wr W5 := by rw [hW5]; exact below_self_drewN _ _
          have ho5 : Own W5 W1.heap.size u4 41 us := by rw [hW5]; exact HP.out.1.drewN _
          have HV := Lib.hid (And.intro hb5 ho5)
          try rw [← hW5]
          clear hb5 ho5 hW5
          obtain ⟨wo, rfl⟩ : ∃ wo : World, wo = wr := ⟨_, rfl⟩
          go_loopw [4, 6] (fun v k wi => ∃ (q : Nat) (us2 : List Value), q ≤ O ∧ k = .int .i64 (q : Int) ∧ Own wi W1.heap.size v 41 us2 ∧ RV w us2 ((rs.take m).flatten ++ rr.take q) ∧ us2.length ≤ m * 64 + q ∧ Below W1.heap.size W1 wi ∧ ∀ x ∈ rr.take q, x.length = n ∧ chkPerm x = 0) (fun _ k _ => O - (intOf k).toNat)
          case atStart => exact ⟨0, us, by omega, rfl, HV.out.2, by simpa using HP.out.2.1, by have := HP.out.2.2.1; omega, below_trans HP.out.2.2.2.1 HV.out.1, fun x hx => by simp at hx⟩
          case round =>
            obtain ⟨q, us2, hq, rfl, ho2, hp2, hul2, hb2, hch⟩ := hrel
            have hbwi := below_trans H.out.2.2.2.2.1 hb2
            obtain ⟨x0, x1, x2, _, _, _⟩ := box_cells ((hb2.block _ hXW).trans H.out.2.2.2.2.2.1)
            have y2 := HP.out.2.2.2.2.2.2.2.2.2.2.2.2 wr hbwi
            rw [HP.out.2.2.2.2.2.2.2.2.2.2.2.1] at y2
            have hszi := hb2.size
            by_cases hqO : q < O
            · obtain ⟨x, hx⟩ : ∃ x, rr[q]? = some x := ⟨_, List.getElem?_eq_getElem (by rw [HP.out.2.2.2.2.2.2.2.2.2.2.2.1]; exact hqO)⟩
              obtain ⟨u, hu⟩ : ∃ x, vs2[q]? = some x := ⟨_, List.getElem?_eq_getElem (by rw [HQ.out.2.1, HP.out.2.2.2.2.2.2.2.2.2.2.2.1]; exact hqO)⟩
              obtain ⟨xa, xc, rfl, hxi⟩ := HQ.out.2.2 q u x hu hx
              obtain ⟨pb, po, hpe, _, hpc⟩ := (HQ.out.1.below hbwi).2 q _ hu
              subst hpe
              obtain ⟨XL, hXL⟩ : ∃ l, x.length = l := ⟨_, rfl⟩
              have hck := rperm_calls (c := xc) (hxi.below hbwi)
              have hRVx := fun (h : RV w us2 ((rs.take m).flatten ++ rr.take q)) => h.snoc (c := xc) hxi
              rw [hXL] at hpc hck hRVx
              obtain ⟨E, hE⟩ : ∃ E, chkPerm x = E := ⟨_, rfl⟩
              rw [hE] at hck
              have hbadx : ¬ (XL = n ∧ E = 0) → ¬ Valid n os rs := fun hk => HP.out.2.2.2.2.2.2.1 (fun h => hk (by
                have := h.2.2 x (List.mem_of_getElem? hx)
                exact ⟨by omega, by rw [← hE]; exact this.2⟩))
              have HI := Lib.hid (And.intro ho2 (And.intro hp2 (And.intro hul2 (And.intro hb2 (And.intro hch (And.intro hbwi (And.intro hx (And.intro hck (And.intro hRVx (And.intro hE (And.intro hXL hbadx)))))))))))
              clear ho2 hp2 hul2 hb2 hch hbwi hx hu hck hRVx hE hXL hbadx hxi
              have hq1 : (q : Int) < O := by omega
              by_cases hXn : XL = n
              · subst hXn
                have g5 : ((XL : Int) != (XL : Int)) = false := by simp
                by_cases hE0 : E = 0
                · subst hE0
                  go_wp2_with (first
                    | (go_at_call 67; (with_reducible refine HI.out.2.2.2.2.2.2.2.1.mono ?_); rintro e1 w6 ⟨rfl, k1⟩; have x2' := (k1.cell (block_lt_of_cell x2)).trans x2; have y2' := (k1.cell (block_lt_of_cell y2)).trans y2; have p2' := (k1.cell (block_lt_of_cell hpc)).trans hpc; have ho6 := HI.out.1.below k1; have hs6 := Nat.le_trans hszi k1.size; have H6 := Lib.hid (And.intro k1 ho6); clear k1 ho6)
                    | (at_builtin; refine app1 rfl (.tmp 90) (.tmp 99) 28 41 rfl i27 (.slice none 0 0) 24 Tryz.underlying28 I27.out.1 I27.out.2.1 I27.out.2.2.1 I27.out.2.2.2 rfl (by omega) W1.heap.size (.slice xa XL xc) _ us2 rfl H6.out.2 rfl rfl (by have := HI.out.2.2.1; have := HOn.out; have : m * 64 ≤ 64 * 64 := Nat.mul_le_mul (by omega) (Nat.le_refl _); omega) hs6 ?_; intro v8 w8 k1 k2 k3; have H8 := Lib.hid (And.intro k1 (And.intro k2 k3)); clear k1 k2 k3))
                  have htk : rr.take (q + 1) = rr.take q ++ [x] := by rw [List.take_add_one, HI.out.2.2.2.2.2.2.1]; rfl
                  refine ⟨⟨q + 1, _, by omega, by go_num, H8.out.1, ?_, ?_, ?_, ?_⟩, by simp [intOf]; omega⟩
                  · rw [htk, ← List.append_assoc]; exact HI.out.2.2.2.2.2.2.2.2.1 HI.out.2.1
                  · rw [List.length_append]; have := HI.out.2.2.1; simp; omega
                  · exact (below_trans HI.out.2.2.2.1 H6.out.1).grown H8.out.2.1 hs6 (fun g hg => (H6.out.2.block_lt hg).2)
                  · intro x' hx'
                    rw [htk] at hx'
                    rcases List.mem_append.1 hx' with h | h
                    · exact HI.out.2.2.2.2.1 x' h
                    · rw [List.mem_singleton] at h; subst h
                      exact ⟨HI.out.2.2.2.2.2.2.2.2.2.2.1, HI.out.2.2.2.2.2.2.2.2.2.1⟩
                · have g6 : (E != 0) = true := by simp [hE0]
                  have HB := Lib.hid (HI.out.2.2.2.2.2.2.2.2.2.2.2 (fun h => hE0 h.2))
                  clear hE0
                  go_wp2_with (go_at_call 67; (with_reducible refine HI.out.2.2.2.2.2.2.2.1.mono ?_); rintro e1 w6 ⟨rfl, k1⟩; have H6 := Lib.hid k1; clear k1)
                  go_ret
                  exact ⟨⟨3, rfl, .inl ⟨rfl, HB.out⟩⟩, by have := below_trans HI.out.2.2.2.2.2.1 H6.out; rwa [H.out.2.2.2.2.2.2.2.1] at this⟩
              · have g5 : ((XL : Int) != (n : Int)) = true := by simp; omega
                have HB := Lib.hid (HI.out.2.2.2.2.2.2.2.2.2.2.2 (fun h => hXn h.1))
                clear hXn
                go_wp2_with fail
                go_ret
                exact ⟨⟨3, rfl, .inl ⟨rfl, HB.out⟩⟩, by have := HI.out.2.2.2.2.2.1; rwa [H.out.2.2.2.2.2.2.2.1] at this⟩
            · obtain rfl : q = O := by omega
              have hq1 : ¬ (q : Int) < q := by omega
              have HI := Lib.hid (And.intro ho2 (And.intro hp2 (And.intro hul2 (And.intro hb2 hch))))
              clear ho2 hp2 hul2 hb2 hch
              go_wp2_with fail
              have htk : rr.take q = rr := List.take_of_length_le (by rw [HP.out.2.2.2.2.2.2.2.2.2.2.2.1]; exact Nat.le_refl _)
              have hp3 := HI.out.2.1
              have hc3 := HI.out.2.2.2.2
              rw [htk] at hp3 hc3
              refine ⟨⟨m + 1, us2, by omega, by go_num, HI.out.1, ?_, by have := HI.out.2.2.1; have := HOn.out; omega, HI.out.2.2.2.1, fun j hj => ?_⟩, by simp [intOf]; omega⟩
              · rw [List.take_add_one, HP.out.2.2.2.2.2.2.2.2.1, Option.toList_some, List.flatten_append]
                simpa using hp3
              · by_cases ej : j = m
                · subst ej
                  exact ⟨oo, rr, HP.out.2.2.2.2.2.2.2.1, HP.out.2.2.2.2.2.2.2.2.1, by rw [HP.out.2.2.2.2.2.2.2.2.2.2.1, HP.out.2.2.2.2.2.2.2.2.2.2.2.1], by rw [HP.out.2.2.2.2.2.2.2.2.2.2.2.1]; have := HOn.out; omega, hc3⟩
                · exact HP.out.2.2.2.2.1 j (by omega)
        · have g1 : decide ((n : Int) < (O : Int)) = false := by simp; omega
          have g2 : decide (n < O) = false := by simp; omega
          have g3 : ((O : Int) != (R : Int)) = true := by simp; omega
          have HB := Lib.hid (HP.out.2.2.2.2.2.2.1 (fun h => by omega))
          clear hOn hOR
          go_wp2_with fail
          go_quiet (fail)
          go_wp2_with fail
          go_ret
          exact ⟨⟨3, rfl, .inl ⟨rfl, HB.out⟩⟩, by have := below_drewN HP.out.2.2.2.2.2.1 nq; rwa [H.out.2.2.2.2.2.2.2.1] at this⟩
    · obtain rfl : m = n := by omega
      have hk1 : ¬ (m : Int) < m := by omega
      rw [List.take_of_length_le (by rw [H.out.2.2.2.1]; exact Nat.le_refl _)] at hp
      obtain ⟨L, hL⟩ := perms_of (n := m) hn0 hn64 (l := rs.flatten) (fun x hx => by
        obtain ⟨r, hr, hxr⟩ := List.mem_flatten.1 hx
        obtain ⟨i, hi⟩ := List.mem_iff_getElem?.1 hr
        have hil := (List.getElem?_eq_some_iff.1 hi).1
        obtain ⟨_, r', _, e2, _, _, e5⟩ := hok i (by rw [H.out.2.2.2.1] at hil; exact hil)
        rw [hi] at e2; cases e2
        exact e5 x hxr)
      have hul64 : us.length ≤ 4096 := Nat.le_trans hul (Nat.le_trans (Nat.mul_le_mul_right 64 hn64) (by omega))
      have hpms := pms_rv (by omega) ho (hp.below hbw) hL (by omega)
      have hLl : L.length = us.length := by rw [hp.1, ← hL, List.length_map]
      have hmk := make96 (n := m) ⟨hn0, hn64⟩ (by omega) hpms
      obtain ⟨la, lc, hle, _⟩ := ho.row (by unfold maxLen; omega)
      obtain ⟨lu, hlu⟩ : ∃ l, us.length = l := ⟨_, rfl⟩
      rw [hlu] at hle
      subst hle
      have hlu1 : decide ((4096 : Int) < (lu : Int)) = false := by simp; omega
      have hlu2 : decide (4096 < lu) = false := by simp; omega
      have HP := Lib.hid (And.intro hmk (And.intro hL (And.intro hb hbw)))
      clear hmk hL hb hbw ho hp hul hok hul64 hpms hLl hlu
      go_wp2_with (first
        | (go_at_call 31; (with_reducible refine HP.out.1.mono ?_); rintro e1 w6 ⟨T, a6, c6, b6, d6, hT, rfl, k1, k2, k3⟩; have x0' := cell_al_old w6 (.cells #[.int .i64 (m : Int), .slice a6 m c6, .slice b6 m d6] 25) ((k3.cell (block_lt_of_cell x0)).trans x0); have x1' := cell_al_old w6 (.cells #[.int .i64 (m : Int), .slice a6 m c6, .slice b6 m d6] 25) ((k3.cell (block_lt_of_cell x1)).trans x1); have x2' := cell_al_old w6 (.cells #[.int .i64 (m : Int), .slice a6 m c6, .slice b6 m d6] 25) ((k3.cell (block_lt_of_cell x2)).trans x2); have hBg : Below w.heap.size w (w6.alloc (.cells #[.int .i64 (m : Int), .slice a6 m c6, .slice b6 m d6] 25)) := alloc_b (below_trans HP.out.2.2.2 k3) _ (by have := (below_trans HP.out.2.2.2 k3).size; omega); have hS := same31 (w := w6.alloc (.cells #[.int .i64 (m : Int), .slice a6 m c6, .slice b6 m d6] 25)) (v := .agg #[.int .i64 (m : Int), .slice a m c, .slice b m e]) (v' := .agg #[.int .i64 (m : Int), .slice a6 m c6, .slice b6 m d6]) (d := m) (d' := m) (os := os) (os' := orbI T m) (rs := rs) (rs' := repI T m) ⟨a, c, b, e, by rw [H.out.2.2.1, H.out.2.2.2.1], H.out.1.below hBg, H.out.2.1.below hBg⟩ ⟨a6, c6, b6, d6, by simp [orbI, repI], k1.below (alloc_b (Below.refl _ _) _), k2.below (alloc_b (Below.refl _ _) _)⟩; obtain ⟨B, hB⟩ : ∃ B, decide ((m : Int) = m ∧ os = orbI T m ∧ rs = repI T m) = B := ⟨_, rfl⟩; rw [hB] at hS; have H6 := Lib.hid (And.intro hT (And.intro hS (And.intro hBg hB))); clear hT k1 k2 k3 hS hBg hB)
        | (go_at_call 78; refine H6.out.2.1.mono ?_; rintro e1 w8 ⟨rfl, k8⟩; have H8 := Lib.hid k8; clear k8))
      all_goals
        have hv := valid_iff (os := os) (rs := rs) H6.out.1 HP.out.2.1
        have hbb := below_trans H6.out.2.2.1 H8.out
        rw [H.out.2.2.2.2.2.2.2.1] at hbb
        have hdB := H6.out.2.2.2
        rename_i hB1
        first
          | (have hBt : B = false := by simpa using hB1
             rw [hBt] at hdB
             refine bodyPost_ret (v := .int .i64 3) (by simp [results, Tryz.results41, go_sem]) rfl ⟨⟨3, rfl, .inl ⟨rfl, fun hV => ?_⟩⟩, hbb⟩
             exact of_decide_eq_false hdB ⟨by trivial, hv.1 hV⟩)
          | (have hBt : B = true := by simpa using hB1
             rw [hBt] at hdB
             refine bodyPost_ret (v := .int .i64 0) (by simp [results, Tryz.results41, go_sem]) rfl ⟨⟨0, rfl, .inr ⟨rfl, hv.2 (of_decide_eq_true hdB).2⟩⟩, hbb⟩)
set_option maxRecDepth 100000 in
set_option maxHeartbeats 1000000 in
theorem check56 {w : World} {v : Value} {d : Int} {os : List (List Int)} {rs : List (List (List Int))} (h : ChV w v d os rs) :
    Calls Tryz.prog 41 #[v] w fun e w' => (∃ E : Int, e = .returned (.int .i64 E) ∧ ChkR d os rs E) ∧ Below w.heap.size w w' := by
  obtain ⟨a, c, b, e, rfl, h1, h2⟩ := h
  obtain ⟨lo, hlo⟩ : ∃ l, os.length = l := ⟨_, rfl⟩
  obtain ⟨lr, hlr⟩ : ∃ l, rs.length = l := ⟨_, rfl⟩
  by_cases hd1 : d < 1
  · rw [hlo, hlr]
    clear h1 h2 hlo hlr
    have hdd : decide (d < 1) = true := by simp [hd1]
    go_enter Tryz.func41, Tryz.ntmps41
    go_wp2_with fail
    refine bodyPost_ret (v := .int .i64 2) (by simp [results, Tryz.results41, go_sem]) rfl ?_
    exact ⟨⟨2, rfl, .inl ⟨.inl hd1, rfl⟩⟩, alloc_b (Below.refl _ _) _⟩
  by_cases hd2 : 64 < d
  · rw [hlo, hlr]
    clear h1 h2 hlo hlr
    have hd3 := Lib.hid hd2
    have hdd : decide (d < 1) = false := by simp; omega
    have hd4 : decide (64 < d) = true := by simp [hd2]
    clear hd1 hd2
    go_enter Tryz.func41, Tryz.ntmps41
    go_wp2_with fail
    refine bodyPost_ret (v := .int .i64 2) (by simp [results, Tryz.results41, go_sem]) rfl ?_
    exact ⟨⟨2, rfl, .inl ⟨.inr hd3.out, rfl⟩⟩, alloc_b (Below.refl _ _) _⟩
  obtain ⟨n, rfl⟩ : ∃ n : Nat, d = n := ⟨d.toNat, by omega⟩
  by_cases hn : lo = n ∧ lr = n
  · obtain ⟨rfl, rfl⟩ := hn
    have := loop56 (c := c) (e := e) h1 h2 hlo hlr (by omega) (by omega)
    rw [hlo, hlr]
    refine this.mono ?_
    rintro e1 w1 ⟨⟨E, rfl, hE⟩, hb⟩
    exact ⟨⟨E, rfl, .inr ⟨by omega, by omega, by simpa using hE⟩⟩, hb⟩
  · have hres : ChkR (n : Int) os rs 3 := .inr ⟨by omega, by omega, .inl ⟨rfl, fun hv => by
      obtain ⟨e1, e2⟩ := hv.len
      simp at e1 e2
      exact hn ⟨by omega, by omega⟩⟩⟩
    have HR := Lib.hid hres
    rw [hlo, hlr]
    have hd3 : decide ((n : Int) < 1) = false := by simp; omega
    have hd4 : decide ((64 : Int) < n) = false := by simp; omega
    clear hres h1 h2 hlo hlr hd1 hd2
    by_cases h1 : lo = n
    · have g1 : ((lo : Int) != (n : Int)) = false := by simp [h1]
      have g2 : ((lr : Int) != (n : Int)) = true := by simp; omega
      clear hn h1
      go_enter Tryz.func41, Tryz.ntmps41
      go_wp2_with fail
      refine bodyPost_ret (v := .int .i64 3) (by simp [results, Tryz.results41, go_sem]) rfl ?_
      exact ⟨⟨3, rfl, HR.out⟩, alloc_b (Below.refl _ _) _⟩
    · have g1 : ((lo : Int) != (n : Int)) = true := by simp; omega
      clear hn h1
      go_enter Tryz.func41, Tryz.ntmps41
      go_wp2_with fail
      refine bodyPost_ret (v := .int .i64 3) (by simp [results, Tryz.results41, go_sem]) rfl ?_
      exact ⟨⟨3, rfl, HR.out⟩, alloc_b (Below.refl _ _) _⟩
end Go.Proofs.YtbejhkojdiadaaaGreatDoor
namespace Go.Proofs.YtbejhkojdiadaaaGreatDoor
open Go.RowKit PlainPm
theorem chk56 {w : World} {v : Value} {d : Int} {os : List (List Int)} {rs : List (List (List Int))} (h : ChV w v d os rs) : Calls Tryz.prog 41 #[v] w fun e w' => e = .returned (.int .i64 (chkE d os rs)) ∧ Below w.heap.size w w' :=
  (check56 h).mono fun _ _ ⟨⟨E, he, hr⟩, hb⟩ => ⟨by rw [he, chkR_iff.1 hr], hb⟩
section
variable {w : World} {v : Value} {d : Int} {os : List (List Int)} {rs : List (List (List Int))} {a : Option Addr} {c : Nat} {p : List Int}
end
section
variable {n ab ao c bb bo e : Nat} {G : Pm n → Prop} {O : Nat → List Nat} {R : Nat → Nat → Pm n} {w : World}
theorem siz57 (hn0 : 0 < n) (hn : n ≤ 8) (hG : ChG G O R) (h : LvW n w O R ab ao bb bo) : Calls Tryz.prog 42 #[cv n ab ao c bb bo e] w fun e w' => ∃ g cap, e = .returned (.tuple #[.slice (some ⟨g, 0, none⟩) (n + 1) cap, .bool true]) ∧ SzW w' g n O ∧ Below w.heap.size w w' :=
  (sizes57 hn0 hn hG h).mono fun _ _ ⟨v, he, ho, hb⟩ => by
    obtain ⟨g, cap, rfl, hs⟩ := szw_of ho
    exact ⟨g, cap, he, hs, hb⟩
end
--WALKS
end Go.Proofs.YtbejhkojdiadaaaGreatDoor
namespace Go.Proofs.YtbejhkojdiadaaaGreatDoor
open Go.RowKit PlainPm
noncomputable def pairE (d1 : Int) (os1 : List (List Int)) (rs1 : List (List (List Int))) (d2 : Int) (os2 : List (List Int)) (rs2 : List (List (List Int))) : Int :=
  if chkE d1 os1 rs1 ≠ 0 then chkE d1 os1 rs1 else if chkE d2 os2 rs2 ≠ 0 then chkE d2 os2 rs2 else if d1 ≠ d2 then 10 else 0
end Go.Proofs.YtbejhkojdiadaaaGreatDoor
namespace Go.Proofs.YtbejhkojdiadaaaGreatDoor
open Go.RowKit PlainPm
theorem grg_of {n : Nat} {w : World} {v : Value} {os : List (List Int)} {rs : List (List (List Int))} (h : ChV w v n os rs) (hc : CapV w v) (hv : Valid n os rs) : GrG w v (Grp (n := n) (· ∈ grpV n os rs)) := by
  obtain ⟨h1, h2, h3⟩ := valid_tw hv
  obtain ⟨a, c, b, e, rfl, h4, h5⟩ := h
  have l1 : os.length = n := by rw [h2]; simp [orbI]
  have l2 : rs.length = n := by rw [h3]; simp [repI]
  obtain ⟨k1, k2⟩ := hc _ _ _ _ _ _ _ rfl
  rw [l1] at k1 ⊢
  rw [l2] at k2 ⊢
  exact ⟨_, a, c, b, e, h1, rfl, h2 ▸ h4, h3 ▸ h5, k1, k2⟩
end Go.Proofs.YtbejhkojdiadaaaGreatDoor
namespace Go.Proofs.YtbejhkojdiadaaaGreatDoor
open Go.RowKit PlainPm
namespace PlainPm
section
variable {n : Nat} {G : Pm n → Prop} {T : Tw n}
theorem agen_len (hG : IsG G) (h : Of G T) : (agen T).length ≤ n * n := by
  have hc := h.chG hG
  have key : ∀ k, k ≤ n → ((List.range k).flatMap fun i => (orbO T i).map (PlainPm.repT T i)).length ≤ k * n := by
    intro k
    induction k with
    | zero => intro _; simp
    | succ k ih =>
      intro hk
      have h1 := ih (by omega)
      have h2 := hc.short (i := k) (by omega)
      rw [List.range_succ, List.flatMap_append, List.length_append, Nat.succ_mul]
      simp only [List.flatMap_cons, List.flatMap_nil, List.append_nil, List.length_map]
      have h2 : (orbO T k).length ≤ n := h2
      omega
  exact key n (Nat.le_refl _)
end
end PlainPm
set_option maxRecDepth 100000 in
set_option maxHeartbeats 1000000 in
theorem strong46o {w w0 : World} {d : Int} {a b : Option Addr} {lo lr c e : Nat} {rs : List (List (List Int))} (h0 : Below w0.heap.size w0 w) (h : Rows2 w0 b rs) (hlr : rs.length = lr) (hl : lr ≤ 64) (hs : ∀ xss ∈ rs, 0 < xss.length ∧ xss.length ≤ 64) :
    Calls Tryz.prog 83 #[.agg #[.int .i64 d, .slice a lo c, .slice b lr e]] w fun e w' => ∃ v us, e = .returned v ∧ Own w' w.heap.size v 41 us ∧ RV w0 us rs.flatten ∧ Below w.heap.size w w' := by
  obtain ⟨i27, hi27, hz27, hs27, hb27⟩ := info_parts Tryz.info41
  have I27 := Lib.hid (And.intro hi27 (And.intro hz27 (And.intro hs27 hb27)))
  clear hi27 hz27 hs27 hb27
  obtain ⟨vs, h1, h2, h3⟩ := h
  obtain ⟨W1, hW1⟩ : ∃ W1, W1 = w.alloc (.cells #[.int .i64 d, .slice a lo c, .slice b lr e] 25) := ⟨_, rfl⟩
  have hbw : Below w.heap.size w W1 := by rw [hW1]; exact alloc_b (Below.refl _ _) _
  have hc1 : W1.heap[w.heap.size]? = some (.cells #[.int .i64 d, .slice a lo c, .slice b lr e] 25) := by rw [hW1]; exact World.alloc_heap_new w _
  have hlt : w.heap.size < W1.heap.size := by rw [hW1]; simp
  have H := Lib.hid (And.intro h1 (And.intro h2 (And.intro h3 (And.intro hlr (And.intro hs (And.intro hbw (And.intro hc1 (And.intro hlt (below_trans h0 hbw)))))))))
  clear h1 h2 h3 hlr hs hbw hc1 hlt h0
  go_enter Tryz.func83, Tryz.ntmps83
  go_wp2_with fail
  try rw [← hW1]
  clear hW1
  go_loopw [3, 4] (fun v i wr => ∃ (k : Nat) (us : List Value), k ≤ lr ∧ i = .int .i64 (k : Int) ∧ Own wr W1.heap.size v 41 us ∧ RV w0 us (rs.take k).flatten ∧ us.length ≤ k * 64 ∧ Below W1.heap.size W1 wr) (fun _ i _ => lr - (intOf i).toNat)
  case atStart => exact ⟨0, [], by omega, rfl, Own.nil _ _ _, ⟨rfl, fun i u xs h => by simp at h⟩, by simp, Below.refl _ _⟩
  case round =>
    obtain ⟨k, us, hk, rfl, ho, hp, hul, hb⟩ := hrel
    obtain ⟨x0, x1, x2, _, _, _⟩ := box_cells ((hb.block _ H.out.2.2.2.2.2.2.2.1).trans H.out.2.2.2.2.2.2.1)
    have hsz := hb.size
    have HP := Lib.hid (And.intro ho (And.intro hp (And.intro hul hb)))
    clear ho hp hul hb
    by_cases hkl : k < lr
    · obtain ⟨xss, hx⟩ : ∃ x, rs[k]? = some x := ⟨_, List.getElem?_eq_getElem (by rw [H.out.2.2.2.1]; exact hkl)⟩
      obtain ⟨u, hu⟩ : ∃ x, vs[k]? = some x := ⟨_, List.getElem?_eq_getElem (by rw [H.out.2.1, H.out.2.2.2.1]; exact hkl)⟩
      obtain ⟨ra, rc, rfl, qs, r1, r2, r3⟩ := H.out.2.2.1 k u xss hu hx
      obtain ⟨hl0, hl64⟩ := H.out.2.2.2.2.1 xss (List.mem_of_getElem? hx)
      have hbw := below_trans H.out.2.2.2.2.2.2.2.2 HP.out.2.2.2
      obtain ⟨ab, ao, hae, _, hac⟩ := (H.out.1.below hbw).2 k _ hu
      subst hae
      have r1' := r1.below hbw
      obtain ⟨fb, fo, hra, _, _⟩ := r1'.2 0 _ (List.getElem?_eq_getElem (by rw [r2]; exact hl0))
      subst hra
      obtain ⟨m, hm⟩ : ∃ m, xss.length = m := ⟨_, rfl⟩
      rw [hm] at hac
      have hsrc : ∀ j y, qs[j]? = some y → wr.cell? ⟨fb, fo + j, none⟩ = some y := fun j y hy => by
        obtain ⟨b', o', e1, _, h⟩ := r1'.2 j y hy
        cases e1; exact h
      have hRV : RV w0 qs xss := ⟨r2, r3⟩
      have HQ := Lib.hid (And.intro hx (And.intro hRV (And.intro hsrc (And.intro (r2.trans hm) hRV.one_))))
      have hk1 : (k : Int) < lr := by omega
      have hm64 : m ≤ 64 := by omega
      have hul : us.length + m < 1099511627776 := by
        have := HP.out.2.2.1
        have : k * 64 ≤ 64 * 64 := Nat.mul_le_mul (by omega) (Nat.le_refl _)
        omega
      clear hx hu hsrc hRV hm hl64
      go_wp2_with (at_builtin; refine appN rfl (.tmp 12) (.tmp 17) 28 41 rfl i27 (.slice none 0 0) 24 Tryz.underlying28 I27.out.1 I27.out.2.1 I27.out.2.2.1 I27.out.2.2.2 rfl (by omega) W1.heap.size _ us qs rfl HP.out.1 fb fo m rc rfl HQ.out.2.2.2.1 HQ.out.2.2.1 HQ.out.2.2.2.2 hul hsz ?_; intro v8 w8 k1 k2 k3; have H8 := Lib.hid (And.intro k1 (And.intro k2 k3)); clear k1 k2 k3)
      refine ⟨⟨k + 1, us ++ qs, by omega, by go_num, H8.out.1, ?_, ?_, HP.out.2.2.2.grown H8.out.2.1 (by omega) (fun g hg => (HP.out.1.block_lt hg).2)⟩, by simp [intOf]; omega⟩
      · rw [List.take_add_one, HQ.out.1, Option.toList_some, List.flatten_append]
        simpa using HP.out.2.1.app HQ.out.2.1
      · rw [List.length_append, HQ.out.2.2.2.1]; have := HP.out.2.2.1; omega
    · obtain rfl : k = lr := by omega
      have hk1 : ¬ (k : Int) < k := by omega
      go_wp2_with fail
      go_ret
      have h5 := HP.out.2.1
      rw [List.take_of_length_le (by rw [H.out.2.2.2.1]; omega)] at h5
      exact ⟨_, rfl, us, HP.out.1.mono (by have := H.out.2.2.2.2.2.2.2.1; omega), h5, below_trans H.out.2.2.2.2.2.1 HP.out.2.2.2⟩
theorem strong46g {n : Nat} (hn : 0 < n ∧ n ≤ 64) {w w0 : World} {v : Value} {G : Pm n → Prop} {T : Tw n} (hG : IsG G) (hT : Of G T) (h : ChV w0 v n (orbI T n) (repI T n)) (h0 : Below w0.heap.size w0 w) :
    Calls Tryz.prog 83 #[v] w fun e w' => ∃ v us, e = .returned v ∧ Own w' w.heap.size v 41 us ∧ RV w0 us ((PlainPm.agen T).map (·.l)) ∧ us.length ≤ n * n ∧ Below w.heap.size w w' := by
  obtain ⟨a, c, b, e, rfl, h1, h2⟩ := h
  have hc := hT.chG hG
  refine (strong46o h0 h2 rfl (by simp [repI]; omega) (fun xss hx => ?_)).mono fun e' w' ⟨v, us, k1, k2, k3, k4⟩ => ?_
  · obtain ⟨i, hi, rfl⟩ := List.mem_map.1 hx
    have hi := List.mem_range.1 hi
    obtain ⟨r, hr⟩ := orbO_head hG hT hi
    have hs : (PlainPm.orbO T i).length ≤ n := hc.short hi
    have hr' : (ptsOf n (T i).orb) = i :: r := hr
    rw [List.length_map]
    have hs' : (ptsOf n (T i).orb).length ≤ n := hs
    refine ⟨by rw [hr']; simp, by omega⟩
  · rw [← PlainPm.agen_flat] at k3
    exact ⟨v, us, k1, k2, k3, by rw [k3.1, List.length_map]; exact PlainPm.agen_len hG hT, k4⟩
end Go.Proofs.YtbejhkojdiadaaaGreatDoor
namespace Go.Proofs.YtbejhkojdiadaaaGreatDoor
open Go.RowKit PlainPm
section
variable {n : Nat}
theorem pml_rv (hn : 0 < n) {w : World} {us : List Value} {A : List (Pm n)} (h : RV w us (A.map (·.l))) : PmL w [] us A := by
  refine ⟨by rw [h.1, List.length_map], fun i x hx => ?_⟩
  have hi : i < us.length := by rw [h.1, List.length_map]; exact (List.getElem?_eq_some_iff.1 hx).1
  obtain ⟨b, c, e, hints⟩ := h.2 i us[i] x.l (List.getElem?_eq_getElem hi) (by rw [List.getElem?_map, hx]; rfl)
  refine ⟨us[i], List.getElem?_eq_getElem hi, ?_⟩
  rw [e, x.ok.1]
  exact pm_of_ints hn hints
section
variable {N : List Nat} {W W' W0 : World} {D : Nat} {v v' u : Value} {us : List Value} {l : List (Pm n)} {z : Pm n}
end
end
end Go.Proofs.YtbejhkojdiadaaaGreatDoor
namespace Go.Proofs.YtbejhkojdiadaaaGreatDoor
open Go.RowKit PlainPm
section
variable {n : Nat}
theorem cap8 {m1 m2 : Nat} (hn : n ≤ 8) (h1 : 2 * m1 ≤ n * (n + 1)) (h2 : 2 * m2 ≤ n * (n + 1)) : m1 ≤ 36 ∧ m2 ≤ 36 ∧ m1 * m2 ≤ 4096 := by
  have h : n * (n + 1) ≤ 8 * 9 := Nat.mul_le_mul hn (by omega)
  have := Nat.mul_le_mul (show m1 ≤ 36 by omega) (show m2 ≤ 36 by omega)
  omega
end
end Go.Proofs.YtbejhkojdiadaaaGreatDoor
