/- Core: the program's. · Chapter 11: what both sides return for any two chains. · Chapter 11's elements of a chain, and the kit's strong generators as a list. · Plain: the laws of chapter 11's drawn groups. · Plain: the law ClosureCores. · Two boxes made and stored to. · Closure: both sides. · Chapter 11's groups of examples. -/
import Derived.Test.YtbejhkojdiadaaaGreatCo01
import Derived.Test.YtbejhkojdiadaaaGreatCo02
import Derived.Test.YtbejhkojdiadaaaGreatCo03
import Derived.Test.YtbejhkojdiadaaaGreatCo04
import Derived.Test.YtbejhkojdiadaaaGreatCo05
import Derived.Test.YtbejhkojdiadaaaGreatCo06
import Derived.Test.YtbejhkojdiadaaaGreatCo07
import Derived.Test.YtbejhkojdiadaaaGreatCo08
import Derived.Test.YtbejhkojdiadaaaGreatCo09
import Derived.Test.YtbejhkojdiadaaaGreatCo10
import Derived.Test.YtbejhkojdiadaaaGreatCo11
import Derived.Test.YtbejhkojdiadaaaGreatCo12
import Derived.Test.YtbejhkojdiadaaaGreatCo13
import Derived.Test.YtbejhkojdiadaaaGreatCo14
import Derived.Test.YtbejhkojdiadaaaGreatCo15
import Derived.Test.YtbejhkojdiadaaaGreatCo16
import Derived.Test.YtbejhkojdiadaaaGreatCo17
import Derived.Test.YtbejhkojdiadaaaGreatCo18
import Derived.Test.YtbejhkojdiadaaaGreatCo19
import Derived.Test.YtbejhkojdiadaaaGreatCo20
import Derived.Test.YtbejhkojdiadaaaGreatCo21
import Derived.Test.YtbejhkojdiadaaaGreatCo22
import Derived.Test.YtbejhkojdiadaaaGreatProg
import Derived.WalkKit
import Derived.WalkSpells
import Derived.BigQuiet
import Derived.Deep.QuietTactic
import Derived.Deep.LoopGhost
import Derived.Lib.Hide
import Derived.Maps.AppendAt
import Derived.Deep.AppendLies
import Derived.StillTailTactics
import Derived.Laws.CopyOwn
import Derived.Deep.OwnRows
import Derived.Deep.DeepCutAuto
import Derived.Laws.Cover3
import Derived.Deep.RegionHeld3
import Derived.RangeFuncRecord
import Derived.Lib.SlicesSearch
import Derived.RangeFuncBox
import Derived.RangeFuncLeaves
import Derived.RangeFuncWrites
import Derived.RangeFuncFrom
import Derived.Shelf.Abstract
import Derived.OwnWalkIn
import Derived.TacticsInMore
import Derived.LoopNIn
import Derived.LoopIn
import Derived.Shelf.GgSortFunc.Insertion
import Derived.Shelf.SlIter.Collect
import Derived.Shelf.Sort.Plain
import Derived.Deep.RegionLaw
import Derived.ControlIn
import Derived.Deep.AppendSrc
import Derived.Laws.BytesArg
import Derived.Maps.OwnSet
import Derived.Carry
import Derived.Maps.Range
set_option linter.unusedSimpArgs false
set_option linter.unusedVariables false
namespace Go.Proofs.YtbejhkojdiadaaaGreat
open Go.RowKit PlainPm
section
variable {n : Nat}
def mapP (w : World) (b : Nat) (x : Pm n) : Prop := ∃ v, (Instr.lookup 94 (.map (some b)) (.string (wordB x)) true).run Tryz.prog w = .ok (.tuple #[v, .bool true]) w
theorem ElM.mapP (hn : n ≤ 64) {w : World} {M : List Nat} {b N : Nat} {A : Pm n → Prop} (h : ElM w M b N A) (x : Pm n) : mapP w b x ↔ A x := by
  obtain ⟨v, t, hrun, ht⟩ := h.look hn x
  constructor
  · rintro ⟨u, hu⟩
    rw [hrun] at hu
    apply ht.1
    simp only [Result.ok.injEq, Value.tuple.injEq, Array.mk.injEq, List.cons.injEq, Value.bool.injEq, and_true] at hu
    first
      | exact hu.2
      | exact hu.2.1
      | exact hu.1.2
  · intro hA
    rw [ht.2 hA] at hrun
    exact ⟨v, hrun⟩
def boolN : Value → Nat
  | .bool true => 1
  | _ => 0
theorem Up.refl (w : World) : Up w w := ⟨Nat.le_refl _, fun _ _ h => h⟩
theorem Up.trans {a b c : World} (h : Up a b) (k : Up b c) : Up a c := ⟨Nat.le_trans h.size k.size, fun p u hp => k.cell p u (h.cell p u hp)⟩
theorem Up.below {a b : World} (k : Below a.heap.size a b) : Up a b := ⟨k.size, fun p u hp => (k.cell (block_lt_of_cell hp)).trans hp⟩
theorem cardP_congr {F : List (Pm n)} {A B : Pm n → Prop} (h : ∀ x, A x ↔ B x) : cardP F A = cardP F B :=
  Nat.le_antisymm (cardP_le fun x hx => (h x).1 hx) (cardP_le fun x hx => (h x).2 hx)
set_option maxRecDepth 100000 in
set_option maxHeartbeats 4000000 in
theorem core29 (hn' : 0 < n ∧ n ≤ 8) {w : World} {v1 v2 : Value} {G1 G2 : Pm n → Prop} (g1 : IsG G1) (g2 : IsG G2) (h1 : GrG w v1 G1) (h2 : GrG w v2 G2) (hsz : ∀ O R, ChG G1 O R → szF O n 0 ≤ 5040) :
    Calls Tryz.prog 29 #[v1, v2] w fun e w' => ∃ a c b2 d, e = .returned (.tuple #[.agg #[.int .i64 (n : Int), .slice a n c, .slice b2 n d], .int .i64 0]) ∧ Below w.heap.size w w' ∧
      ∀ S, (∀ m ∈ S, m < w.heap.size) → GrS w' (.agg #[.int .i64 (n : Int), .slice a n c, .slice b2 n d]) (CoG G1 G2) S := by
  have hn : 0 < n ∧ n ≤ 64 := ⟨hn'.1, by omega⟩
  obtain ⟨T1, t1, ab, ao, c, bb, bo, e, hv1, hlv⟩ := h1.lev g1 ⟨hn.1, hn.2⟩
  obtain ⟨T2, t2, ab', ao', c', bb', bo', e', hv2, hlv2⟩ := h2.lev g2 ⟨hn.1, hn.2⟩
  obtain ⟨os1, rs1, os2, rs2, p1, p2, p3⟩ := GrG.pair0 hn g1 g2 h1 h2
  have hpr := fun (V : World) (hV : Below w.heap.size w V) => pair70 (p1.below hV) (p2.below hV)
  rw [p3] at hpr
  have hst2 := fun (V : World) (hV : Below w.heap.size w V) => strong73 (O := orbO T2) (R := PlainPm.repT T2) (c := c') (e := e') hn (t2.chG g2) hlv2 hV
  have hs2 := sgen_grp g2 t2
  have h83 := fun (V : World) (hV : Below w.heap.size w V) => elems83 (w := V) hn' g1 (h1.below hV) hsz
  subst hv1
  subst hv2
  obtain ⟨X, hX⟩ : ∃ X, w.heap.size = X := ⟨_, rfl⟩
  obtain ⟨W1, hW1⟩ : ∃ W1, (((w.alloc (.cells #[.int .i64 (n : Int), .slice (some ⟨ab, ao, none⟩) n c, .slice (some ⟨bb, bo, none⟩) n e] 25)).alloc (.cells #[.int .i64 (n : Int), .slice (some ⟨ab', ao', none⟩) n c', .slice (some ⟨bb', bo', none⟩) n e'] 25)).alloc (.cells #[.int .i64 0, .slice none 0 0, .slice none 0 0] 25)) = W1 := ⟨_, rfl⟩
  have hszw : W1.heap.size = X + 3 := by rw [← hW1]; simp [hX]
  have hwW : Below w.heap.size w W1 := hW1 ▸ alloc_b (alloc_b (alloc_b (Below.refl _ _) _) _) _
  have k0 : W1.heap[X]? = some (.cells #[.int .i64 (n : Int), .slice (some ⟨ab, ao, none⟩) n c, .slice (some ⟨bb, bo, none⟩) n e] 25) := by
    rw [← hW1]
    exact ((alloc_b (alloc_b (Below.refl _ _) _) _).block X (by simp; omega)).trans (box_al25 hX _ _ _)
  have k1 : W1.heap[X + 1]? = some (.cells #[.int .i64 (n : Int), .slice (some ⟨ab', ao', none⟩) n c', .slice (some ⟨bb', bo', none⟩) n e'] 25) := by
    rw [← hW1]
    exact ((alloc_b (Below.refl _ _) _).block (X + 1) (by simp; omega)).trans (box_al25 (by simp [hX]) _ _ _)
  have k2 : W1.heap[X + 2]? = some (.cells #[.int .i64 0, .slice none 0 0, .slice none 0 0] 25) := by
    rw [← hW1]
    exact box_al25 (by simp [hX]) _ _ _
  obtain ⟨x0, x1, x2, _⟩ := box_cells k0
  obtain ⟨y0, y1, y2, _⟩ := box_cells k1
  have HB := Lib.hid (And.intro k0 (And.intro k1 (And.intro k2 (And.intro hszw hwW))))
  have HC := Lib.hid (And.intro hpr (And.intro hst2 (And.intro hs2 h83)))
  clear hpr hst2 hs2 h83 hlv hlv2 p1 p2 p3 h1 h2 k0 k1 k2 hszw hwW
  go_enter Tryz.func29, Tryz.ntmps29
  try simp only [hX]
  go_wp2_with (first
    | (go_at_call 73; (with_reducible refine (HC.out.2.1 _ (below_trans HB.out.2.2.2.2 H3.out.2.2)).mono ?_); rintro e4 w4 ⟨v4, us4, rfl, k1, k2, k3, k4⟩
       obtain ⟨a4, c4, rfl, k5⟩ := k1.row (by unfold maxLen; omega)
       have H4 := Lib.hid (And.intro k1 (And.intro k2 (And.intro k3 (And.intro k4 k5)))); clear k1 k2 k3 k4 k5)
    | (go_at_call 83; (with_reducible refine (HC.out.2.2.2 _ (below_trans HB.out.2.2.2.2 H2.out)).mono ?_); rintro e3 w3 ⟨b, rfl, k1, k2, k3⟩
       have b3 : Below W1.heap.size W1 w3 := below_trans H2.out k3
       have q0 := (b3.cell (p := ⟨X + 1, 0, none⟩) (block_lt_of_cell y0)).trans y0; have q1 := (b3.cell (p := ⟨X + 1, 1, none⟩) (block_lt_of_cell y1)).trans y1; have q2 := (b3.cell (p := ⟨X + 1, 2, none⟩) (block_lt_of_cell y2)).trans y2
       have H3 := Lib.hid (And.intro k1 (And.intro k2 b3)); clear k1 k2 k3 b3)
    | (go_at_call 70; (with_reducible refine (HC.out.1 _ HB.out.2.2.2.2).mono ?_); rintro e2 w2 ⟨rfl, k⟩
       have z0 := (k.cell (p := ⟨X, 0, none⟩) (block_lt_of_cell x0)).trans x0; have z1 := (k.cell (p := ⟨X, 1, none⟩) (block_lt_of_cell x1)).trans x1; have z2 := (k.cell (p := ⟨X, 2, none⟩) (block_lt_of_cell x2)).trans x2
       have H2 := Lib.hid k; clear k))
  have hF : ∃ F : List (Pm n), ∀ x, x ∈ F ↔ G1 x := ⟨elsF (orbO T1) (PlainPm.repT T1) n 0 (PlainPm.one n), fun x => mem_all (t1.chG g1)⟩
  obtain ⟨F, hF⟩ := hF
  obtain ⟨B, hB⟩ : ∃ B, sgen n (orbO T2) (PlainPm.repT T2) n = B := ⟨_, rfl⟩
  rw [hB] at H4 HC
  have b14 : Below W1.heap.size W1 w4 := below_trans H3.out.2.2 H4.out.2.2.2.1
  have hE4 := H3.out.2.1.below H4.out.2.2.2.1
  have hbl : us4.length = B.length := H4.out.2.1.1
  obtain ⟨nb, hnb⟩ : ∃ nb, us4.length = nb := ⟨_, rfl⟩
  have hnb6 : nb ≤ 4096 := by have := H4.out.2.2.1; omega
  rw [hnb]
  have hbW0 : W1.heap.size ≤ b := by have h9 := H2.out.size; have h8 := H3.out.1; omega
  have HD := Lib.hid (And.intro hF (And.intro b14 (And.intro hE4 (And.intro hbl hnb))))
  clear hF b14 hE4 hbl hnb
  go_loopw [10] (fun u wr => ∃ (A : Pm n → Prop) (t : Bool), u = .bool t ∧ ElM wr [] b 5040 A ∧ CoA G1 G2 A ∧ Up w4 wr ∧ Below W1.heap.size W1 wr ∧ (t = false → ∀ x, A x → ∀ y ∈ B, A (cj x y))) (fun u wr => 2 * cardP F (mapP wr b) + boolN u)
  case atStart => exact ⟨G1, true, rfl, HD.out.2.2.1, CoA.start g2, Up.refl _, HD.out.2.1, fun h => by cases h⟩
  case round =>
    obtain ⟨A, t, rfl, hE, hA, hup, hb, hcl⟩ := hrel
    cases t with
    | false =>
      have HP := Lib.hid (And.intro hE (And.intro hA (And.intro hup (And.intro hb (hcl rfl)))))
      clear hE hA hup hb hcl
      have e0 := (HP.out.2.2.2.1.cell (p := ⟨X, 0, none⟩) (block_lt_of_cell x0)).trans x0
      have hXr := (HP.out.2.2.2.1.block (X + 2) (by have := HB.out.2.2.2.1; omega)).trans HB.out.2.2.1
      have HX := Lib.hid hXr
      clear hXr
      go_wp2_with (go_at_call 86; (with_reducible refine (gath86 hn HP.out.1).mono ?_); rintro e6 w6 ⟨a6, c6, b6, d6, rfl, k1, k2⟩
                   have hX6 := (k1.block (X + 2) (Array.getElem?_eq_some_iff.1 HX.out).1).trans HX.out
                   obtain ⟨z0', z1', z2', zf1, zf2, zf0⟩ := box_cells hX6
                   have H6 := Lib.hid (And.intro k1 (And.intro k2 hX6)); clear k1 k2 hX6)
      have hfin : (set3 w6 (X + 1 + 1) (.int .i64 (n : Int)) (.slice a6 n c6) (.slice b6 n d6)).heap[X + 1 + 1]? = some (.cells #[.int .i64 (n : Int), .slice a6 n c6, .slice b6 n d6] 25) := set3_box H6.out.2.2
      obtain ⟨V, hV⟩ : ∃ V, set3 w6 (X + 1 + 1) (.int .i64 (n : Int)) (.slice a6 n c6) (.slice b6 n d6) = V := ⟨_, rfl⟩
      have hKp : Kept w6 V [X + 1 + 1] := hV ▸ set3_kept (by simp)
      rw [hV] at hfin
      unfold set3 at hV
      rw [hV]
      obtain ⟨f0, f1, f2, _⟩ := box_cells hfin
      refine bodyPost_ret (v := .tuple #[.agg #[.int .i64 (n : Int), .slice a6 n c6, .slice b6 n d6], .int .i64 0]) (by simp [results, Tryz.results29, go_sem, f0, f1, f2]) rfl ?_
      have hw6 : Below w.heap.size w w6 := below_trans (below_trans HB.out.2.2.2.2 HP.out.2.2.2.1) H6.out.1
      refine ⟨a6, c6, b6, d6, rfl, ?_, fun S hS => ?_⟩
      · have := hw6.trans (hKp.below hw6.size (fun m hm => by rw [List.mem_singleton.1 hm]; omega))
        rwa [hX] at this
      · have hlt := HP.out.2.2.2.1.size
        have hlt2 := HB.out.2.2.2.1
        refine (((H6.out.2.1 ((X + 1 + 1) :: S) (fun m hm => ?_)).kept (hKp.mono (fun q hq => by rw [List.mem_singleton.1 hq]; exact List.mem_cons_self ..))).congr (core_done g1 HC.out.2.2.1 HP.out.2.1.sub HP.out.2.1.kp HP.out.2.2.2.2)).ext (fun q hq => .inl (List.mem_cons_of_mem _ hq))
        rcases List.mem_cons.1 hm with h | h
        · omega
        · have := hS m h; omega
    | true =>
      obtain ⟨w5, c5, hr5, hE5, hb5, hs5⟩ := hE.range
      obtain ⟨r, hr⟩ : ∃ r, wr.heap.size = r := ⟨_, rfl⟩
      rw [hr] at hr5 hE5
      have hrW : W1.heap.size ≤ r := by rw [← hr]; exact hb.size
      have hbW : W1.heap.size ≤ b := hbW0
      have hcd : cardP F (mapP wr b) = cardP F A := cardP_congr fun x => hE.mapP hn.2 x
      have HP := Lib.hid (And.intro hA (And.intro (hup.trans (Up.below hb5)) (And.intro (below_trans hb hb5) (And.intro hE5 (And.intro hr hcd)))))
      clear hE hA hup hb hcl hE5 hb5 hs5 hcd hr
      go_wp2_with fail
      go_loopw [10] (fun u wi => ∃ (A' L : Pm n → Prop) (ct : Nat) (t : Bool), u = .bool t ∧ ElR wi [] b r 5040 A' L ct ∧ CoA G1 G2 A' ∧ Up w4 wi ∧ Below W1.heap.size W1 wi ∧ (t = false → ∀ x, A' x → ¬ L x → ∀ y ∈ B, A' (cj x y)) ∧ (∀ x, A' x → A x) ∧ (t = true → ∃ x, A x ∧ ¬ A' x)) (fun _ wi => wi.rangeLeft b r)
      case atStart => exact ⟨A, A, c5, false, rfl, HP.out.2.2.2.1, HP.out.1, HP.out.2.1, HP.out.2.2.1, fun _ x h1 h2 => absurd h1 h2, fun x h => h, fun h => by cases h⟩
      case round =>
        obtain ⟨A', L, ct, t, rfl, hE, hA, hup, hb, hcl, hsb, hpg⟩ := hrel
        have hleft := hE.left
        rcases hE.next hn.2 0 with ⟨hno, hrun⟩ | ⟨x, v, w6, c6, hLx, hpm, hrun, hE6, hc6, hg6, hs6, hen⟩
        · have HQ := Lib.hid (And.intro hE (And.intro hA (And.intro hup (And.intro hb (And.intro hcl (And.intro hsb (And.intro hpg hno)))))))
          clear hE hA hup hb hcl hsb hpg hno hleft
          go_wp2_with fail
          refine ⟨⟨A', t, rfl, HQ.out.1.owns, HQ.out.2.1, HQ.out.2.2.1, HQ.out.2.2.2.1, fun h x hx => HQ.out.2.2.2.2.1 h x hx (HQ.out.2.2.2.2.2.2.2 x)⟩, ?_⟩
          rw [HP.out.2.2.2.2.2, cardP_congr fun x => HQ.out.1.owns.mapP hn.2 x]
          have hle := cardP_le (F := F) HQ.out.2.2.2.2.2.1
          cases t with
          | false => simp only [boolN]; omega
          | true =>
            obtain ⟨x, h1, h2⟩ := HQ.out.2.2.2.2.2.2.1 rfl
            have := cardP_lt (F := F) HQ.out.2.2.2.2.2.1 ((HD.out.1 x).2 (HP.out.1.sub x h1)) h1 h2
            simp only [boolN]; omega
        · have htn : Turn wr w6 (some r) := ⟨hg6, fun q e9 => by cases e9; obtain ⟨_, a0, s0, d0, e0, h0⟩ := hE.blk; exact ⟨_, h0, rfl⟩⟩
          have hAx := hE.sub hLx
          obtain ⟨yb, yo, yc, rfl, _⟩ := id hpm
          have HQ := Lib.hid (And.intro hE6 (And.intro hA (And.intro (hup.trans htn.up) (And.intro (hb.grown hg6 hb.size (fun q e9 => by cases e9; exact hrW)) (And.intro hcl (And.intro hsb (And.intro hpg (And.intro hAx (And.intro hLx (And.intro hpm (And.intro hc6 hleft)))))))))))
          clear hE hA hup hb hcl hsb hpg hleft hE6 hAx hLx hpm hc6 hg6 hs6 htn
          go_wp2_with fail
          go_loopw [10, 47] (fun u9 u wi => ∃ q : Nat, u9 = .bool t ∧ u = .int .i64 (q : Int) ∧ q ≤ nb ∧ ElR wi [] b r 5040 A' (fun z => L z ∧ z ≠ x) c6 ∧ Up w6 wi ∧ Below W1.heap.size W1 wi ∧ ∀ i, i < q → ∀ y, B[i]? = some y → A' (cj x y)) (fun _ u _ => nb - (intOf u).toNat)
          case atStart => exact ⟨0, rfl, rfl, Nat.zero_le _, HQ.out.1, Up.refl _, HQ.out.2.2.2.1, fun i hi => by omega⟩
          case round =>
            obtain ⟨q, rfl, rfl, hq, hE, hup, hb, hin⟩ := hrel
            by_cases hqn : q < nb
            · obtain ⟨y, hy⟩ : ∃ y, B[q]? = some y := ⟨_, List.getElem?_eq_getElem (by rw [← HD.out.2.2.2.1, HD.out.2.2.2.2]; exact hqn)⟩
              obtain ⟨uy, huy, hpy⟩ := H4.out.2.1.2 q y hy
              obtain ⟨g, o, rfl, hg, hc⟩ := H4.out.2.2.2.2.2 q uy huy
              have hup4 : Up w4 wr := HQ.out.2.2.1.trans hup
              have c1 := hup4.cell _ _ hc
              have hpy' := hpy.up ((Up.below (below_trans HB.out.2.2.2.2 HD.out.2.1)).trans hup4)
              have hpx := HQ.out.2.2.2.2.2.2.2.2.2.1.up hup
              obtain ⟨yb', yo', yc', rfl, _⟩ := id hpy'
              have h84 := px84 hn hpx hpy'
              have hq1 : (q : Int) < nb := by omega
              have HR := Lib.hid (And.intro hE (And.intro hup (And.intro hb (And.intro hin (And.intro hy h84)))))
              clear hE hup hb hin hy h84 hpx hpy' hup4 hpy huy hg hc
              by_cases hin' : A' (cj x y)
              · go_wp2_with (first
                  | (go_at_call 85; (with_reducible refine (word85 hn.2 H7.out.1).mono ?_); rintro e8 w8 ⟨rfl, k8⟩
                     obtain ⟨u8, t8, hrun8, ht8⟩ := ((HR.out.1.below H7.out.2).below k8).owns.look hn.2 (cj x y)
                     have ht := ht8.2 hin'
                     subst ht
                     have H8 := Lib.hid k8
                     clear k8 ht8)
                  | (go_at_call 84; (with_reducible refine HR.out.2.2.2.2.2.mono ?_); rintro e7 w7 ⟨v7, rfl, k1, k2⟩
                     obtain ⟨zb, zc, rfl, _⟩ := id k1
                     have H7 := Lib.hid (And.intro (show PmV w7 [] _ (cj x y) from k1.pm (by simp)) k2)
                     clear k1 k2))
                have hb8 := below_trans H7.out.2 H8.out
                refine ⟨⟨q + 1, rfl, by go_num, by omega, (HR.out.1.below H7.out.2).below H8.out, HR.out.2.1.trans (Up.below hb8), below_trans HR.out.2.2.1 hb8, fun i hi y' hy' => ?_⟩, by simp [intOf]; omega⟩
                by_cases e9 : i = q
                · subst e9
                  rw [HR.out.2.2.2.2.1] at hy'
                  cases hy'
                  exact hin'
                · exact HR.out.2.2.2.1 i (by omega) y' hy'
              · have HN := Lib.hid hin'
                clear hin'
                go_wp2_with (first
                  | (go_at_call 85; (with_reducible refine (word85 hn.2 H7.out.1).mono ?_); rintro e8 w8 ⟨rfl, k8⟩
                     obtain ⟨u8, t8, hrun8, ht8⟩ := ((HR.out.1.below H7.out.2).below k8).owns.look hn.2 (cj x y)
                     have ht : t8 = false := by cases t8 with | false => rfl | true => exact absurd (ht8.1 rfl) HN.out
                     subst ht
                     obtain ⟨w9, c9, hrun9, hE9, hc9, hg9⟩ := ((HR.out.1.below H7.out.2).below k8).drop hn.2 x 0
                     have hmb := ((HR.out.1.below H7.out.2).below k8).owns.blk
                     have H8 := Lib.hid (And.intro k8 (And.intro hE9 (And.intro hc9 (And.intro hg9 hmb))))
                     clear k8 ht8 hE9 hc9 hg9 hmb)
                  | (go_at_call 84; (with_reducible refine HR.out.2.2.2.2.2.mono ?_); rintro e7 w7 ⟨v7, rfl, k1, k2⟩
                     obtain ⟨zb, zc, rfl, _⟩ := id k1
                     have H7 := Lib.hid (And.intro (show PmV w7 [] _ (cj x y) from k1.pm (by simp)) k2)
                     clear k1 k2))
                have hb8 := below_trans H7.out.2 H8.out.1
                obtain ⟨es, cl, hmb⟩ := H8.out.2.2.2.2
                have htn : Turn w8 w9 (some b) := ⟨H8.out.2.2.2.1, fun q9 e9 => by cases e9; exact ⟨_, hmb, rfl⟩⟩
                have hb9 := below_trans HR.out.2.2.1 hb8
                refine ⟨⟨_, _, c9, true, rfl, H8.out.2.1, HQ.out.2.1.drop g2 ((HC.out.2.2.1 y).1 (Grp.base (List.mem_of_getElem? HR.out.2.2.2.2.1))) HN.out, ((HQ.out.2.2.1.trans HR.out.2.1).trans (Up.below hb8)).trans htn.up,
                  hb9.grown H8.out.2.2.2.1 hb9.size (fun q9 e9 => by cases e9; exact hbW), (fun h => nomatch h), fun z hz => HQ.out.2.2.2.2.2.1 z hz.1, fun _ => ⟨x, HQ.out.2.2.2.2.2.1 x HQ.out.2.2.2.2.2.2.2.1, fun h => h.2 rfl⟩⟩, ?_⟩
                rw [H8.out.2.1.left, HQ.out.2.2.2.2.2.2.2.2.2.2.2]
                exact Nat.lt_of_le_of_lt H8.out.2.2.1 HQ.out.2.2.2.2.2.2.2.2.2.2.1
            · have hq1 : ¬ (q : Int) < nb := by omega
              have HR := Lib.hid (And.intro hE (And.intro hup (And.intro hb hin)))
              clear hE hup hb hin
              go_wp2_with fail
              refine ⟨⟨A', _, c6, t, rfl, HR.out.1, HQ.out.2.1, HQ.out.2.2.1.trans HR.out.2.1, HR.out.2.2.1, fun h z hz hnl y hy => ?_, HQ.out.2.2.2.2.2.1, HQ.out.2.2.2.2.2.2.1⟩, ?_⟩
              · by_cases e9 : z = x
                · rw [e9]
                  obtain ⟨i, hi⟩ := List.mem_iff_getElem?.1 hy
                  have hil := (List.getElem?_eq_some_iff.1 hi).1
                  exact HR.out.2.2.2 i (by have h1 := HD.out.2.2.2.1; have h2 := HD.out.2.2.2.2; omega) y hi
                · exact HQ.out.2.2.2.2.1 h z hz (fun hl => hnl ⟨hl, e9⟩) y hy
              · rw [HR.out.1.left, HQ.out.2.2.2.2.2.2.2.2.2.2.2]
                exact HQ.out.2.2.2.2.2.2.2.2.2.2.1
end
end Go.Proofs.YtbejhkojdiadaaaGreat
namespace Go.Proofs.YtbejhkojdiadaaaGreat
open Go.RowKit PlainPm
section
variable {n : Nat} {G : Pm n → Prop} {O : Nat → List Nat} {R : Nat → Nat → Pm n}
def fac : Nat → Nat
  | 0 => 1
  | f + 1 => (f + 1) * fac f
theorem PlainPm.ChG.sz_fac (h : ChG G O R) : ∀ {f i : Nat}, i + f = n → szF O f i ≤ fac f
  | 0, _, _ => Nat.le_refl _
  | f + 1, i, hf => by
    have hi : i < n := by omega
    have h1 : (O i).length ≤ (List.range' i (f + 1)).length := sub_len (h.nd i hi) fun p hp => by
      obtain ⟨y, _, hfx, he⟩ := (h.mem i hi p).1 hp
      have hpn := h.lt i hi p hp
      rw [List.mem_range'_1]
      refine ⟨?_, by omega⟩
      rcases Nat.lt_or_ge p i with hlt | hge
      · have h2 := hfx p hlt
        have := y.inj hi hpn (he.trans h2.symm)
        omega
      · exact hge
    rw [List.length_range'] at h1
    exact Nat.mul_le_mul h1 (h.sz_fac (f := f) (i := i + 1) (by omega))
theorem PlainPm.ChG.sz7 (h : ChG G O R) (hn : n ≤ 7) : szF O n 0 ≤ 5040 := by
  refine Nat.le_trans (h.sz_fac (Nat.zero_add n)) ?_
  match n, hn with
  | 0, _ => decide
  | 1, _ => decide
  | 2, _ => decide
  | 3, _ => decide
  | 4, _ => decide
  | 5, _ => decide
  | 6, _ => decide
  | 7, _ => decide
end
section
variable {w : World} {v1 v2 : Value} {d1 d2 : Int} {os1 os2 : List (List Int)} {rs1 rs2 : List (List (List Int))}
end
end Go.Proofs.YtbejhkojdiadaaaGreat
namespace Go.Proofs.YtbejhkojdiadaaaGreat
open Go.RowKit PlainPm
variable {n : Nat}
theorem LstV.congr {w : World} {v : Value} {G G' : Pm n → Prop} (h : LstV w v G) (e : ∀ x, G x ↔ G' x) : LstV w v G' := by
  obtain ⟨E, h1, h2, h3⟩ := h
  exact ⟨E, h1, h2, fun x => (h3 x).trans (e x)⟩
theorem strong46p (hn : 0 < n ∧ n ≤ 8) {w : World} {v : Value} {G : Pm n → Prop} (hG : IsG G) (h : GrG w v G) :
    Calls Tryz.prog 46 #[v] w fun e w' => ∃ (a : Option Addr) (m c : Nat) (L : List (Pm n)), e = .returned (.slice a m c) ∧ L.length = m ∧ m ≤ 64 ∧ PmsV w' [] (.slice a m c) L ∧ (∀ x, Grp (· ∈ L) x ↔ G x) ∧ Below w.heap.size w w' := by
  obtain ⟨T, h1, h2, _⟩ := h.ch
  refine (strong46g ⟨hn.1, by omega⟩ hG h1 h2 (Below.refl _ _)).mono ?_
  rintro e w' ⟨v', us, rfl, k1, k2, k3, k4⟩
  have hp := pml_rv hn.1 k2
  have h64 : n * n ≤ 8 * 8 := Nat.mul_le_mul hn.2 hn.2
  have hl := hp.1
  have hv := pms_ownB k1 (hp.below k4) (by omega)
  obtain ⟨a, c, rfl, _⟩ := k1.row (by unfold maxLen; omega)
  exact ⟨a, us.length, c, PlainPm.agen T, rfl, hl.symm, by omega, hv, fun x => agen_grp hG h1 x, k4⟩
set_option maxRecDepth 100000 in
set_option maxHeartbeats 2000000 in
theorem elements48 (hn : 0 < n ∧ n ≤ 5) {w : World} {v : Value} {G : Pm n → Prop} (hG : IsG G) (h : GrG w v G) :
    Calls Tryz.prog 48 #[v, .int .i64 (n : Int)] w fun e w' => ∃ v', e = .returned v' ∧ LstV w' v' G ∧ Below w.heap.size w w' := by
  obtain ⟨os, rs, hch, hc0⟩ := h.chk ⟨hn.1, by omega⟩ hG
  have hck := fun (V : World) (hV : Below w.heap.size w V) => chk56 (hch.below hV)
  simp only [hc0] at hck
  obtain ⟨T, a, c, b, d, hT, rfl, _⟩ := id h
  obtain ⟨X, hX⟩ : ∃ X, w.heap.size = X := ⟨_, rfl⟩
  obtain ⟨W1, hW1⟩ : ∃ W1, w.alloc (.cells #[.int .i64 (n : Int), .slice a n c, .slice b n d] 25) = W1 := ⟨_, rfl⟩
  have hwW : Below w.heap.size w W1 := hW1 ▸ alloc_b (Below.refl _ _) _
  have k0 : W1.heap[X]? = some (.cells #[.int .i64 (n : Int), .slice a n c, .slice b n d] 25) := hW1 ▸ box_al25 hX _ _ _
  obtain ⟨x0, x1, x2, _⟩ := box_cells k0
  have hx0 := And.intro x0 (And.intro x1 (And.intro x2 (Below.refl W1.heap.size W1)))
  have hnn : ((n : Int) != (n : Int)) = false := by simp
  have H := Lib.hid (And.intro (hck W1 hwW) (And.intro hwW (And.intro h hX)))
  clear hck hwW k0 h hch hT
  go_enter Tryz.func48, Tryz.ntmps48
  try simp only [hX]
  go_wp2_with (first
    | (go_at_call 45; (with_reducible refine H3.out.1.mono ?_); rintro e4 w4 ⟨v4, rfl, k1, k2⟩
       have H4 := Lib.hid (And.intro k1 k2); clear k1 k2)
    | (go_at_call 46; (with_reducible refine (strong46p ⟨hn.1, by omega⟩ hG (H.out.2.2.1.below (below_trans H.out.2.1 H2.out))).mono ?_)
       rintro e3 w3 ⟨a3, m3, c3, L, rfl, k1, k2, k3, k4, k5⟩
       have h45 : Calls Tryz.prog 45 #[.int .i64 (n : Int), .slice a3 m3 c3, .int .i64 120] w3 _ := elements45 (n := n) (most := 120) ⟨hn.1, by omega⟩ k1 (by omega) k3 (fac_le5 hn.2) (by omega)
       have H3 := Lib.hid (And.intro h45 (And.intro k4 k5)); clear h45 k1 k2 k3 k4 k5)
    | (go_at_call 56; (with_reducible refine H.out.1.mono ?_); rintro e2 w2 ⟨rfl, k⟩
       obtain ⟨z0, z1, z2, _⟩ := keep3b hx0 k
       have H2 := Lib.hid k; clear k))
  go_ret
  refine ⟨_, rfl, ((H4.out.1.lst (M := []) (by omega) (by simp)).now).congr H3.out.2.1, ?_⟩
  have hf := below_trans (below_trans (below_trans H.out.2.1 H2.out) H3.out.2.2) H4.out.2
  rwa [H.out.2.2.2] at hf
end Go.Proofs.YtbejhkojdiadaaaGreat
namespace Go.Proofs.YtbejhkojdiadaaaGreat
open Go.RowKit PlainPm
variable {n : Nat}
theorem LstV.same {w : World} {v v' : Value} {G : Pm n → Prop} (hn : n ≤ 5) (h : LstV w v G) (h' : LstV w v' G) : Calls Tryz.prog 47 #[v, v'] w fun e w' => e = .returned (.bool true) ∧ Below w.heap.size w w' := by
  obtain ⟨E, h1, h2, h3⟩ := h
  obtain ⟨E', k1, k2, k3⟩ := h'
  have e : E = E' := sorted_ext h2 k2 fun x => (h3 x).trans (k3 x).symm
  have l1 := Nat.le_trans (pm_card (sorted_nodup h2)) (fac_le5 hn)
  have l2 := Nat.le_trans (pm_card (sorted_nodup k2)) (fac_le5 hn)
  exact (same47p (by omega) (by omega) (by omega) h1 k1).mono fun _ _ ⟨he, hb⟩ => ⟨he.true_ e, hb⟩
section
variable {f : Pm n → Pm n → Pm n} {A B cs : List (Pm n)} {i k : Nat} {a g : Pm n}
end
end Go.Proofs.YtbejhkojdiadaaaGreat
namespace Go.Proofs.YtbejhkojdiadaaaGreat
open Go.RowKit PlainPm
variable {n : Nat}
def FilI (P : Pm n → Prop) (A : List (Pm n)) (i : Nat) (co : List (Pm n)) : Prop := co.Pairwise lexLt ∧ ∀ x, x ∈ co ↔ x ∈ A.take i ∧ P x
section
variable {P : Pm n → Prop} {A co : List (Pm n)} {i : Nat} {a : Pm n}
theorem FilI.start : FilI P A 0 [] := ⟨List.Pairwise.nil, fun x => by simp⟩
theorem FilI.new (hs : A.Pairwise lexLt) (ha : A[i]? = some a) (h : FilI P A i co) (hp : P a) : FilI P A (i + 1) (co ++ [a]) := by
  refine ⟨List.pairwise_append.2 ⟨h.1, List.pairwise_singleton _ _, fun x hx y hy => ?_⟩, fun x => ?_⟩
  · rw [List.mem_singleton.1 hy]
    obtain ⟨j, hj⟩ := List.mem_iff_getElem?.1 ((h.2 x).1 hx).1
    rw [List.getElem?_take] at hj
    split at hj
    · rename_i hji
      obtain ⟨hj1, rfl⟩ := List.getElem?_eq_some_iff.1 hj
      obtain ⟨hi1, rfl⟩ := List.getElem?_eq_some_iff.1 ha
      exact List.pairwise_iff_getElem.1 hs _ _ hj1 hi1 hji
    · cases hj
  · rw [List.mem_append, h.2 x, List.mem_singleton, List.take_add_one, ha, List.mem_append]
    constructor
    · rintro (⟨h1, h2⟩ | rfl)
      · exact ⟨.inl h1, h2⟩
      · exact ⟨.inr (by simp), hp⟩
    · rintro ⟨h1 | h1, h2⟩
      · exact .inl ⟨h1, h2⟩
      · exact .inr (by simpa using h1)
theorem FilI.old (ha : A[i]? = some a) (h : FilI P A i co) (hp : ¬ P a) : FilI P A (i + 1) co := by
  refine ⟨h.1, fun x => ?_⟩
  rw [h.2 x, List.take_add_one, ha, List.mem_append]
  constructor
  · rintro ⟨h1, h2⟩
    exact ⟨.inl h1, h2⟩
  · rintro ⟨h1 | h1, h2⟩
    · exact ⟨h1, h2⟩
    · have e : x = a := by simpa using h1
      rw [e] at h2
      exact absurd h2 hp
theorem FilI.len (h : FilI P A i co) (hn : n ≤ 5) : co.length ≤ 120 := Nat.le_trans (pm_card (sorted_nodup h.1)) (fac_le5 hn)
end
theorem take_all {Q : Pm n → Prop} {A : List (Pm n)} {k : Nat} {g : Pm n} (hg : A[k]? = some g) (h : ∀ x ∈ A.take k, Q x) (hq : Q g) : ∀ x ∈ A.take (k + 1), Q x := fun x hx => by
  rw [List.take_add_one, hg] at hx
  rcases List.mem_append.1 hx with hx | hx
  · exact h x hx
  · have e : x = g := by simpa using hx
    rw [e]; exact hq
theorem cj_two (S : Pm n → Prop) (x y z : Pm n) : CjG S (x.mul y) z ↔ CjG (CjG S x) y z := by
  unfold CjG
  rw [cj_cj, Pm.mul_inv_rev]
theorem cj_nodup {l : List (Pm n)} (p : Pm n) (h : l.Nodup) : (l.map fun z => cj z p).Nodup :=
  List.pairwise_map.2 (h.imp fun hne e => hne (cj_inj e))
theorem cj_card {S : Pm n → Prop} {p : Pm n} {E E' : List (Pm n)} (hd : E.Nodup) (hd' : E'.Nodup) (h : ∀ x, x ∈ E ↔ S x) (h' : ∀ x, x ∈ E' ↔ CjG S p x) : E'.length = E.length := by
  have h1 : (E'.map fun z => cj z p.inv).length ≤ E.length := sub_len (cj_nodup p.inv hd') fun x hx => by
    obtain ⟨z, hz, rfl⟩ := List.mem_map.1 hx
    exact (h _).2 ((h' z).1 hz)
  have h2 : (E.map fun z => cj z p).length ≤ E'.length := sub_len (cj_nodup p hd) fun x hx => by
    obtain ⟨z, hz, rfl⟩ := List.mem_map.1 hx
    exact (h' _).2 (by unfold CjG; rw [cj_back]; exact (h z).1 hz)
  rw [List.length_map] at h1 h2
  omega
theorem pick51n {x : Int} {N : Nat} (hn : 0 < N) (hn2 : N ≤ 1000000) : ∃ p : Nat, p < N ∧ ∀ w : World, Calls Tryz.prog 51 #[.int .i64 x, .int .i64 (N : Int)] w fun e w' => e = .returned (.int .i64 (p : Int)) ∧ Below w.heap.size w w' := by
  refine ⟨(x % (N : Int)).toNat, ?_, fun w => (pick51 (x := x) (n := (N : Int)) (by omega) (by omega) w).mono ?_⟩
  · have := Int.emod_lt_of_pos x (b := (N : Int)) (by omega)
    have := Int.emod_nonneg x (b := (N : Int)) (by omega)
    omega
  · rintro e w' ⟨rfl, q, rfl⟩
    have := Int.emod_nonneg x (b := (N : Int)) (by omega)
    exact ⟨by rw [Int.toNat_of_nonneg this], below_drewN_self w q⟩
end Go.Proofs.YtbejhkojdiadaaaGreat
namespace Go.Proofs.YtbejhkojdiadaaaGreat
open Go.RowKit PlainPm
theorem st2 {w : World} (u0 u1 u2 v0 v1 v2 : Value) : ∃ (Y : Nat) (U V1 V : World), w.heap.size = Y ∧ (w.alloc (.cells #[.int .i64 0, .slice none 0 0, .slice none 0 0] 25)).alloc (.cells #[.int .i64 0, .slice none 0 0, .slice none 0 0] 25) = U ∧
    (U.cell? ⟨Y, 0, none⟩ = some (.int .i64 0) ∧ U.cell? ⟨Y, 1, none⟩ = some (.slice none 0 0) ∧ U.cell? ⟨Y, 2, none⟩ = some (.slice none 0 0) ∧ U.frozen? ⟨Y, 0, none⟩ = false ∧ U.frozen? ⟨Y, 1, none⟩ = false ∧ U.frozen? ⟨Y, 2, none⟩ = false) ∧
    set3 U Y u0 u1 u2 = V1 ∧
    (V1.cell? ⟨Y + 1, 0, none⟩ = some (.int .i64 0) ∧ V1.cell? ⟨Y + 1, 1, none⟩ = some (.slice none 0 0) ∧ V1.cell? ⟨Y + 1, 2, none⟩ = some (.slice none 0 0) ∧ V1.frozen? ⟨Y + 1, 0, none⟩ = false ∧ V1.frozen? ⟨Y + 1, 1, none⟩ = false ∧ V1.frozen? ⟨Y + 1, 2, none⟩ = false) ∧
    set3 V1 (Y + 1) v0 v1 v2 = V ∧ Below w.heap.size w V ∧ V.heap[Y]? = some (.cells #[u0, u1, u2] 25) ∧ V.heap[Y + 1]? = some (.cells #[v0, v1, v2] 25) := by
  have y1 : ((w.alloc (.cells #[.int .i64 0, .slice none 0 0, .slice none 0 0] 25)).alloc (.cells #[.int .i64 0, .slice none 0 0, .slice none 0 0] 25)).heap[w.heap.size + 1]? = some (.cells #[.int .i64 0, .slice none 0 0, .slice none 0 0] 25) := box_al25 (by simp) _ _ _
  have y0 : ((w.alloc (.cells #[.int .i64 0, .slice none 0 0, .slice none 0 0] 25)).alloc (.cells #[.int .i64 0, .slice none 0 0, .slice none 0 0] 25)).heap[w.heap.size]? = some (.cells #[.int .i64 0, .slice none 0 0, .slice none 0 0] 25) := ((alloc_b (Below.refl _ _) _).block _ (by simp)).trans (box_al25 rfl _ _ _)
  have bU : Below w.heap.size w ((w.alloc (.cells #[.int .i64 0, .slice none 0 0, .slice none 0 0] 25)).alloc (.cells #[.int .i64 0, .slice none 0 0, .slice none 0 0] 25)) := alloc_b (alloc_b (Below.refl _ _) _) _
  obtain ⟨U, hU⟩ : ∃ U, (w.alloc (.cells #[.int .i64 0, .slice none 0 0, .slice none 0 0] 25)).alloc (.cells #[.int .i64 0, .slice none 0 0, .slice none 0 0] 25) = U := ⟨_, rfl⟩
  rw [hU] at y0 y1 bU
  obtain ⟨s0, s1, s2, s3, s4, s5⟩ := box_cells y0
  have x1 : (set3 U w.heap.size u0 u1 u2).heap[w.heap.size + 1]? = _ := (set3_other (by omega)).trans y1
  have x0 : (set3 U w.heap.size u0 u1 u2).heap[w.heap.size]? = some (.cells #[u0, u1, u2] 25) := set3_box y0
  obtain ⟨t0, t1, t2, t3, t4, t5⟩ := box_cells x1
  exact ⟨_, _, _, _, rfl, hU, ⟨s0, s1, s2, s5, s3, s4⟩, rfl, ⟨t0, t1, t2, t5, t3, t4⟩, rfl, bU.trans (((set3_kept (S := [w.heap.size, w.heap.size + 1]) (by simp)).trans (set3_kept (by simp))).below bU.size (fun q hq => by simp at hq; omega)), (set3_other (by omega)).trans x0, set3_box x1⟩
theorem keep6 {V A B : World} {p q r p' q' r' : Addr} {u0 u1 u2 v0 v1 v2 : Value} (h : (A.cell? p = some u0 ∧ A.cell? q = some u1 ∧ A.cell? r = some u2) ∧ (A.cell? p' = some v0 ∧ A.cell? q' = some v1 ∧ A.cell? r' = some v2) ∧ Below V.heap.size V A) (k : Below A.heap.size A B) :
    (B.cell? p = some u0 ∧ B.cell? q = some u1 ∧ B.cell? r = some u2) ∧ (B.cell? p' = some v0 ∧ B.cell? q' = some v1 ∧ B.cell? r' = some v2) ∧ Below V.heap.size V B := by
  obtain ⟨⟨h1, h2, h3⟩, ⟨h4, h5, h6⟩, hb⟩ := h
  exact ⟨⟨(k.cell (block_lt_of_cell h1)).trans h1, (k.cell (block_lt_of_cell h2)).trans h2, (k.cell (block_lt_of_cell h3)).trans h3⟩, ⟨(k.cell (block_lt_of_cell h4)).trans h4, (k.cell (block_lt_of_cell h5)).trans h5, (k.cell (block_lt_of_cell h6)).trans h6⟩, below_trans hb k⟩
end Go.Proofs.YtbejhkojdiadaaaGreat
namespace Go.Proofs.YtbejhkojdiadaaaGreat
open Go.RowKit PlainPm
section
variable {w : World} {v1 : Value} {d : Int} {os : List (List Int)} {rs : List (List (List Int))}
end
set_option maxRecDepth 100000 in
set_option maxHeartbeats 4000000 in
theorem clos32 {n : Nat} (hn' : 0 < n ∧ n ≤ 8) {w : World} {v1 : Value} {G : Pm n → Prop} {L : List (Pm n)} {a0 : Option Addr} {m0 c0 : Nat} (hG : IsG G) (h1 : GrG w v1 G) (hm0 : L.length = m0) (hL : m0 ≤ 4096) (hl : PmsV w [] (.slice a0 m0 c0) L) :
    Calls Tryz.prog 32 #[v1, .slice a0 m0 c0] w fun e w' => ∃ a c b d, e = .returned (.tuple #[.agg #[.int .i64 (n : Int), .slice a n c, .slice b n d], .int .i64 0]) ∧ Below w.heap.size w w' ∧
      ∀ S, (∀ m ∈ S, m < w.heap.size) → GrS w' (.agg #[.int .i64 (n : Int), .slice a n c, .slice b n d]) (NcG (· ∈ L) G) S := by
  have hn : 0 < n ∧ n ≤ 64 := ⟨hn'.1, by omega⟩
  obtain ⟨os, rs, hch, hc0⟩ := h1.chk hn hG
  have hck := fun (V : World) (hV : Below w.heap.size w V) => chk54 (hch.below hV)
  simp only [hc0] at hck
  obtain ⟨T0, t0, ab, ao, c, bb, bo, e, hv1, hlv⟩ := h1.lev hG ⟨hn.1, hn.2⟩
  subst hv1
  have h90 := fun (V : World) (hV : Below w.heap.size w V) => mk90 hn (by rw [hm0]; exact hL) (hl.below hV)
  have h73 := fun (V : World) (hV : Below w.heap.size w V) => strong73 (O := orbO T0) (R := PlainPm.repT T0) (c := c) (e := e) hn (t0.chG hG) hlv hV
  have hsl : (sgen n (orbO T0) (PlainPm.repT T0) n).length ≤ 4096 := sgen4096 (t0.chG hG) hn.2
  have hsg := sgen_grp hG t0
  obtain ⟨B, hB⟩ : ∃ B, sgen n (orbO T0) (PlainPm.repT T0) n = B := ⟨_, rfl⟩
  rw [hB] at h73 hsl hsg
  obtain ⟨X, hX⟩ : ∃ X, w.heap.size = X := ⟨_, rfl⟩
  obtain ⟨W1, hW1⟩ : ∃ W1, (w.alloc (.cells #[.int .i64 (n : Int), .slice (some ⟨ab, ao, none⟩) n c, .slice (some ⟨bb, bo, none⟩) n e] 25)).alloc (.cells #[.int .i64 0, .slice none 0 0, .slice none 0 0] 25) = W1 := ⟨_, rfl⟩
  have hsz : W1.heap.size = X + 2 := by rw [← hW1]; simp [hX]
  have hwW : Below w.heap.size w W1 := hW1 ▸ alloc_b (alloc_b (Below.refl _ _) _) _
  have k0 : W1.heap[X]? = some (.cells #[.int .i64 (n : Int), .slice (some ⟨ab, ao, none⟩) n c, .slice (some ⟨bb, bo, none⟩) n e] 25) := by
    rw [← hW1]
    exact ((alloc_b (Below.refl _ _) _).block X (by simp; omega)).trans (box_al25 hX _ _ _)
  have k1 : W1.heap[X + 1]? = some (.cells #[.int .i64 0, .slice none 0 0, .slice none 0 0] 25) := by
    rw [← hW1]
    exact box_al25 (by simp [hX]) _ _ _
  obtain ⟨x0, x1, x2, _⟩ := box_cells k0
  have HB := Lib.hid (And.intro k0 (And.intro k1 (And.intro hsz (And.intro hwW hX))))
  have HC := Lib.hid (And.intro hck (And.intro h90 (And.intro h73 (And.intro hsl (And.intro hsg (And.intro hl (show L.length ≤ 4096 by rw [hm0]; exact hL)))))))
  clear hck h90 h73 hsl hsg hl k0 k1 hsz hwW h1 hch t0 hlv hB hm0
  go_enter Tryz.func32, Tryz.ntmps32
  try rw [hX]
  go_wp2_with (first
    | (go_at_call 90; (with_reducible refine (HC.out.2.1 _ (below_trans HB.out.2.2.2.1 H2.out.1)).mono ?_); rintro e3 w3 ⟨a3, c3, b3, d3, rfl, k, _⟩
       have bb : Below W1.heap.size W1 w3 := below_trans H2.out.1 k
       have hY : X + 2 ≤ w3.heap.size := by have := bb.size; have := HB.out.2.2.1; omega
       obtain ⟨W4, hW4⟩ : ∃ W4, w3.alloc (.cells #[.int .i64 0, .slice none 0 0, .slice none 0 0] 25) = W4 := ⟨_, rfl⟩
       have b4 : Below W1.heap.size W1 W4 := hW4 ▸ alloc_b bb _
       have y0 : W4.heap[w3.heap.size]? = some (.cells #[.int .i64 0, .slice none 0 0, .slice none 0 0] 25) := hW4 ▸ box_al25 rfl _ _ _
       obtain ⟨Y, hYY⟩ : ∃ Y, w3.heap.size = Y := ⟨_, rfl⟩
       rw [hYY] at hY y0
       obtain ⟨s0, s1, s2, s3, s4, s5⟩ := box_cells y0
       obtain ⟨W5, hW5⟩ : ∃ W5, set3 W4 Y (.int .i64 (n : Int)) (.slice a3 n c3) (.slice b3 n d3) = W5 := ⟨_, rfl⟩
       have k5 : Kept W4 W5 [Y] := hW5 ▸ set3_kept (by simp)
       have b5 : Below (X + 2) W1 W5 := (b4.mono (by rw [HB.out.2.2.1]; omega)).trans (k5.below1 (by have := b4.size; rw [HB.out.2.2.1] at this; exact this) hY)
       have g0 := (b5.block X (by omega)).trans HB.out.1
       obtain ⟨q0, q1, q2, _⟩ := box_cells g0
       have H5 := Lib.hid (And.intro b5 g0)
       unfold set3 at hW5
       clear k bb b4 k5 b5 g0 y0)
    | (go_at_call 54; (with_reducible refine (HC.out.1 _ HB.out.2.2.2.1).mono ?_); rintro e2 w2 ⟨rfl, k⟩
       have g0 := (k.block X (by rw [HB.out.2.2.1]; omega)).trans HB.out.1
       obtain ⟨p0, p1, p2, _⟩ := box_cells g0
       have H2 := Lib.hid (And.intro k g0); clear k g0))
  try rw [hW4]
  try rw [hYY]
  try rw [hW5]
  have hW5s : X + 2 ≤ W5.heap.size := by have := H5.out.1.size; have := HB.out.2.2.1; omega
  have bw5 : Below w.heap.size w W5 := HB.out.2.2.2.1.trans (H5.out.1.mono (by have := HB.out.2.2.2.2; omega))
  have hz0 := And.intro q0 (And.intro q1 (And.intro q2 (Below.refl W5.heap.size W5)))
  have HW := Lib.hid (And.intro bw5 (H5.out.1.size))
  have R5 := Lib.hid (And.intro hW5 (And.intro hYY hW4))
  clear bw5 s0 s1 s2 s3 s4 s5 hW5 hYY hW4 p0 p1 p2
  go_region_law
    (first
      | (go_simp; go_at_call 80; (with_reducible refine (closed80 hn HC.out.2.2.2.2.2.2 (HC.out.2.2.2.2.2.1.below (below_trans HW.out.1 H6.out.2)) H6.out.1).mono ?_)
         rintro e7 w7 ⟨bk, rfl, k1, k2, k3⟩
         have b7 : Below W5.heap.size W5 w7 := below_trans H6.out.2 k2
         have hs6 : X + 2 ≤ w6.heap.size := Nat.le_trans hW5s H6.out.2.size
         have hg7 := k3 (List.range (X + 2)) (fun m hm => Nat.lt_of_lt_of_le (List.mem_range.1 hm) hs6)
         obtain ⟨a7, c7, b7', d7, hb7, hgg⟩ := hg7
         obtain ⟨r0, r1, r2, _⟩ := b81_cells hb7
         obtain ⟨j0, j1, j2, _⟩ := keep3b hz0 b7
         have hr7 := (b7.block (X + 1) (by omega)).trans ((H5.out.1.block (X + 1) (by omega)).trans HB.out.2.1)
         obtain ⟨r3, r4, r5, r6, r8, r9⟩ := box_cells hr7
         have H7 := Lib.hid (And.intro (hgg.congr (NcG.byG HC.out.2.2.2.2.1)) (And.intro hr7 (show Below X w w7 from by have h9 := below_trans HW.out.1 b7; rwa [HB.out.2.2.2.2] at h9)))
         clear k1 k2 k3 hgg hb7 hr7)
      | (go_simp; go_at_call 73; (with_reducible refine (HC.out.2.2.1 _ (below_trans HW.out.1 ?_)).mono ?_)
         first | exact Below.refl _ _ | exact below_drw (Below.refl _ _) | exact below_self_drewN _ _
         rintro e6 w6 ⟨v6, us6, rfl, k1, k2, k3, k4⟩
         obtain ⟨a6, c6, rfl, _⟩ := k1.row (by unfold maxLen; omega)
         have b6 : Below W5.heap.size W5 w6 := below_trans (by first | exact Below.refl _ _ | exact below_drw (Below.refl _ _) | exact below_self_drewN _ _) k4
         obtain ⟨i0, i1, i2, _⟩ := keep3b hz0 b6
         have H6 := Lib.hid (And.intro (pms_ownB k1 (k2.below (below_trans HW.out.1 b6)) (by have := HC.out.2.2.2.1; omega)) b6)
         clear k1 k2 k3 k4))
  all_goals
    go_wp2_with fail
    have hfin : (set3 w7 (X + 1) (.int .i64 (n : Int)) (.slice a7 n c7) (.slice b7' n d7)).heap[X + 1]? = some (.cells #[.int .i64 (n : Int), .slice a7 n c7, .slice b7' n d7] 25) := set3_box H7.out.2.1
    obtain ⟨V, hV⟩ : ∃ V, set3 w7 (X + 1) (.int .i64 (n : Int)) (.slice a7 n c7) (.slice b7' n d7) = V := ⟨_, rfl⟩
    have hKp : Kept w7 V [X + 1] := hV ▸ set3_kept (by simp)
    rw [hV] at hfin
    unfold set3 at hV
    rw [hV]
    obtain ⟨f0, f1, f2, _⟩ := box_cells hfin
    refine bodyPost_ret (v := .tuple #[.agg #[.int .i64 (n : Int), .slice a7 n c7, .slice b7' n d7], .int .i64 0]) (by simp [results, Tryz.results32, go_sem, f0, f1, f2]) rfl ?_
    refine ⟨a7, c7, b7', d7, rfl, ?_, fun S hS => ?_⟩
    · have h1 := H7.out.2.2
      have h2 := h1.size
      exact h1.trans (hKp.below1 (by have := (Array.getElem?_eq_some_iff.1 H7.out.2.1).1; omega) (by omega))
    · refine (H7.out.1.kept (hKp.mono (fun q hq => ?_))).ext (fun q hq => .inl ?_)
      · rw [List.mem_singleton.1 hq]
        first | exact List.mem_range.2 (by omega) | exact List.mem_cons_of_mem _ (List.mem_range.2 (by omega))
      · have := hS q hq
        first | exact List.mem_range.2 (by omega) | exact List.mem_cons_of_mem _ (List.mem_range.2 (by omega))
end Go.Proofs.YtbejhkojdiadaaaGreat
namespace Go.Proofs.YtbejhkojdiadaaaGreat
open Go.RowKit PlainPm
set_option maxRecDepth 100000 in
set_option maxHeartbeats 4000000 in
theorem groups38 {w : World} : Calls Tryz.prog 38 #[] w fun e w' => ∃ v1 v2 v3 v4 v5, e = .returned (.tuple #[v1, v2, v3, v4, v5]) ∧ GrG w' v1 (Grp (· ∈ gS4)) ∧ GrG w' v2 (Grp (· ∈ gA4)) ∧ GrG w' v3 (Grp (· ∈ gV4)) ∧ GrG w' v4 (Grp (· ∈ gZ2)) ∧ GrG w' v5 (Grp (· ∈ gY2)) ∧ Below w.heap.size w w' := by
  obtain ⟨X, hX⟩ : ∃ X, w.heap.size = X := ⟨_, rfl⟩
  obtain ⟨W0, hW0⟩ : ∃ W0, (((((w.alloc (.cells #[.int .i64 0, .slice none 0 0, .slice none 0 0] 25)).alloc (.cells #[.int .i64 0, .slice none 0 0, .slice none 0 0] 25)).alloc (.cells #[.int .i64 0, .slice none 0 0, .slice none 0 0] 25)).alloc (.cells #[.int .i64 0, .slice none 0 0, .slice none 0 0] 25)).alloc (.cells #[.int .i64 0, .slice none 0 0, .slice none 0 0] 25)) = W0 := ⟨_, rfl⟩
  have hs0 : W0.heap.size = X + 1 + 1 + 1 + 1 + 1 := by rw [← hW0]; simp; omega
  have hb0 : Below w.heap.size w W0 := by rw [← hW0]; exact alloc_b (alloc_b (alloc_b (alloc_b (alloc_b (Below.refl _ _) _) _) _) _) _
  have z0 : W0.heap[X]? = some (.cells #[.int .i64 0, .slice none 0 0, .slice none 0 0] 25) := by
    have := World.alloc_heap_new w (.cells #[.int .i64 0, .slice none 0 0, .slice none 0 0] 25)
    rw [hX] at this
    rw [← hW0, Below.heap_alloc _ _ _ (by simp; omega), Below.heap_alloc _ _ _ (by simp; omega), Below.heap_alloc _ _ _ (by simp; omega), Below.heap_alloc _ _ _ (by simp; omega)]; exact this
  have z1 : W0.heap[X + 1]? = some (.cells #[.int .i64 0, .slice none 0 0, .slice none 0 0] 25) := by
    have := World.alloc_heap_new (w.alloc (.cells #[.int .i64 0, .slice none 0 0, .slice none 0 0] 25)) (.cells #[.int .i64 0, .slice none 0 0, .slice none 0 0] 25)
    rw [show (w.alloc (.cells #[.int .i64 0, .slice none 0 0, .slice none 0 0] 25)).heap.size = X + 1 by simp; omega] at this
    rw [← hW0, Below.heap_alloc _ _ _ (by simp; omega), Below.heap_alloc _ _ _ (by simp; omega), Below.heap_alloc _ _ _ (by simp; omega)]; exact this
  have z2 : W0.heap[X + 1 + 1]? = some (.cells #[.int .i64 0, .slice none 0 0, .slice none 0 0] 25) := by
    have := World.alloc_heap_new ((w.alloc (.cells #[.int .i64 0, .slice none 0 0, .slice none 0 0] 25)).alloc (.cells #[.int .i64 0, .slice none 0 0, .slice none 0 0] 25)) (.cells #[.int .i64 0, .slice none 0 0, .slice none 0 0] 25)
    rw [show ((w.alloc (.cells #[.int .i64 0, .slice none 0 0, .slice none 0 0] 25)).alloc (.cells #[.int .i64 0, .slice none 0 0, .slice none 0 0] 25)).heap.size = X + 1 + 1 by simp; omega] at this
    rw [← hW0, Below.heap_alloc _ _ _ (by simp; omega), Below.heap_alloc _ _ _ (by simp; omega)]; exact this
  have z3 : W0.heap[X + 1 + 1 + 1]? = some (.cells #[.int .i64 0, .slice none 0 0, .slice none 0 0] 25) := by
    have := World.alloc_heap_new (((w.alloc (.cells #[.int .i64 0, .slice none 0 0, .slice none 0 0] 25)).alloc (.cells #[.int .i64 0, .slice none 0 0, .slice none 0 0] 25)).alloc (.cells #[.int .i64 0, .slice none 0 0, .slice none 0 0] 25)) (.cells #[.int .i64 0, .slice none 0 0, .slice none 0 0] 25)
    rw [show (((w.alloc (.cells #[.int .i64 0, .slice none 0 0, .slice none 0 0] 25)).alloc (.cells #[.int .i64 0, .slice none 0 0, .slice none 0 0] 25)).alloc (.cells #[.int .i64 0, .slice none 0 0, .slice none 0 0] 25)).heap.size = X + 1 + 1 + 1 by simp; omega] at this
    rw [← hW0, Below.heap_alloc _ _ _ (by simp; omega)]; exact this
  have z4 : W0.heap[X + 1 + 1 + 1 + 1]? = some (.cells #[.int .i64 0, .slice none 0 0, .slice none 0 0] 25) := by
    have := World.alloc_heap_new ((((w.alloc (.cells #[.int .i64 0, .slice none 0 0, .slice none 0 0] 25)).alloc (.cells #[.int .i64 0, .slice none 0 0, .slice none 0 0] 25)).alloc (.cells #[.int .i64 0, .slice none 0 0, .slice none 0 0] 25)).alloc (.cells #[.int .i64 0, .slice none 0 0, .slice none 0 0] 25)) (.cells #[.int .i64 0, .slice none 0 0, .slice none 0 0] 25)
    rw [show ((((w.alloc (.cells #[.int .i64 0, .slice none 0 0, .slice none 0 0] 25)).alloc (.cells #[.int .i64 0, .slice none 0 0, .slice none 0 0] 25)).alloc (.cells #[.int .i64 0, .slice none 0 0, .slice none 0 0] 25)).alloc (.cells #[.int .i64 0, .slice none 0 0, .slice none 0 0] 25)).heap.size = X + 1 + 1 + 1 + 1 by simp; omega] at this
    rw [← hW0]; exact this
  have c0 : Calls Tryz.prog 96 #[.int .i64 4, .slice (some ⟨X + 1 + 1 + 1 + 1 + 1 + 1 + 1, 0, none⟩) 2 2] (((W0.alloc (.cells #[.int .i64 1, .int .i64 2, .int .i64 3, .int .i64 0] 3)).alloc (.cells #[.int .i64 1, .int .i64 0, .int .i64 2, .int .i64 3] 3)).alloc (.cells #[.slice (some ⟨X + 1 + 1 + 1 + 1 + 1, 0, none⟩) 4 4, .slice (some ⟨X + 1 + 1 + 1 + 1 + 1 + 1, 0, none⟩) 4 4] 27)) _ := mk96 (n := 4) (L := gS4) (by omega) (by decide) (lit_pms2 hs0 (lit_ints (by decide) rfl) (lit_ints (by decide) rfl))
  have HZ := Lib.hid (And.intro hs0 hb0)
  have HC0 := Lib.hid c0
  have HB0 := Lib.hid (And.intro z0 (And.intro z1 (And.intro z2 (And.intro z3 z4))))
  clear hb0 c0 z0 z1 z2 z3 z4
  go_enter Tryz.func38, Tryz.ntmps38
  go_wp2_with (first
    | (go_at_call 96; (try rw [hW0]); refine HC4.out.mono ?_; rintro e1 w5 ⟨a5, c5, b5, d5, rfl, k1, k2⟩; have k0 : Below V4.heap.size V4 w5 := below_trans (alloc_b (alloc_b (Below.refl _ _) _) _) k1; have hge : X + 1 + 1 + 1 + 1 + 1 ≤ V4.heap.size := H4.out.1; have y0 := (k0.block (X) (by omega)).trans HB4.out.1; have y1 := (k0.block (X + 1) (by omega)).trans HB4.out.2.1; have y2 := (k0.block (X + 1 + 1) (by omega)).trans HB4.out.2.2.1; have y3 := (k0.block (X + 1 + 1 + 1) (by omega)).trans HB4.out.2.2.2.1; have y4 := (k0.block (X + 1 + 1 + 1 + 1) (by omega)).trans HB4.out.2.2.2.2; obtain ⟨i0, i1, i2, i3, i4, i5⟩ := box_cells y4; obtain ⟨V5, hV5⟩ : ∃ V, set3 w5 (X + 1 + 1 + 1 + 1) (.int .i64 4) (.slice a5 4 c5) (.slice b5 4 d5) = V := ⟨_, rfl⟩; have hsz : V5.heap.size = w5.heap.size := (congrArg (fun q : World => q.heap.size) hV5).symm.trans (set3_size _ _ _ _ _); have hkk : Kept V4 V5 [X, X + 1, X + 1 + 1, X + 1 + 1 + 1, X + 1 + 1 + 1 + 1] := (Kept.ofBelow k0).trans (hV5 ▸ set3_kept (by simp)); have x0 : V5.heap[X]? = _ := hV5 ▸ (set3_other (by omega)).trans y0; have x1 : V5.heap[X + 1]? = _ := hV5 ▸ (set3_other (by omega)).trans y1; have x2 : V5.heap[X + 1 + 1]? = _ := hV5 ▸ (set3_other (by omega)).trans y2; have x3 : V5.heap[X + 1 + 1 + 1]? = _ := hV5 ▸ (set3_other (by omega)).trans y3; have x4 : V5.heap[X + 1 + 1 + 1 + 1]? = _ := hV5 ▸ set3_box y4; have hG : GrS V5 (.agg #[.int .i64 4, .slice a5 4 c5, .slice b5 4 d5]) (Grp (· ∈ gY2)) [X, X + 1, X + 1 + 1, X + 1 + 1 + 1, X + 1 + 1 + 1 + 1] := (k2 [X, X + 1, X + 1 + 1, X + 1 + 1 + 1, X + 1 + 1 + 1 + 1] (fun m hm => by simp at hm; simp; omega)).kept (hV5 ▸ set3_kept (by simp)); have HB5 := Lib.hid (And.intro x0 (And.intro x1 (And.intro x2 (And.intro x3 x4)))); have H5 := Lib.hid (And.intro (show X + 1 + 1 + 1 + 1 + 1 ≤ V5.heap.size by have := hkk.size; omega) (And.intro hkk hG)); unfold set3 at hV5; clear k0 k1 k2 hkk hG hge x0 x1 x2 x3 x4 y0 y1 y2 y3 y4)
    | (go_at_call 96; (try rw [hW0]); refine HC3.out.mono ?_; rintro e1 w4 ⟨a4, c4, b4, d4, rfl, k1, k2⟩; have k0 : Below V3.heap.size V3 w4 := below_trans (alloc_b (alloc_b (Below.refl _ _) _) _) k1; have hge : X + 1 + 1 + 1 + 1 + 1 ≤ V3.heap.size := H3.out.1; have y0 := (k0.block (X) (by omega)).trans HB3.out.1; have y1 := (k0.block (X + 1) (by omega)).trans HB3.out.2.1; have y2 := (k0.block (X + 1 + 1) (by omega)).trans HB3.out.2.2.1; have y3 := (k0.block (X + 1 + 1 + 1) (by omega)).trans HB3.out.2.2.2.1; have y4 := (k0.block (X + 1 + 1 + 1 + 1) (by omega)).trans HB3.out.2.2.2.2; obtain ⟨i0, i1, i2, i3, i4, i5⟩ := box_cells y3; obtain ⟨V4, hV4⟩ : ∃ V, set3 w4 (X + 1 + 1 + 1) (.int .i64 4) (.slice a4 4 c4) (.slice b4 4 d4) = V := ⟨_, rfl⟩; have hsz : V4.heap.size = w4.heap.size := (congrArg (fun q : World => q.heap.size) hV4).symm.trans (set3_size _ _ _ _ _); have hkk : Kept V3 V4 [X, X + 1, X + 1 + 1, X + 1 + 1 + 1, X + 1 + 1 + 1 + 1] := (Kept.ofBelow k0).trans (hV4 ▸ set3_kept (by simp)); have x0 : V4.heap[X]? = _ := hV4 ▸ (set3_other (by omega)).trans y0; have x1 : V4.heap[X + 1]? = _ := hV4 ▸ (set3_other (by omega)).trans y1; have x2 : V4.heap[X + 1 + 1]? = _ := hV4 ▸ (set3_other (by omega)).trans y2; have x3 : V4.heap[X + 1 + 1 + 1]? = _ := hV4 ▸ set3_box y3; have x4 : V4.heap[X + 1 + 1 + 1 + 1]? = _ := hV4 ▸ (set3_other (by omega)).trans y4; have hG : GrS V4 (.agg #[.int .i64 4, .slice a4 4 c4, .slice b4 4 d4]) (Grp (· ∈ gZ2)) [X, X + 1, X + 1 + 1, X + 1 + 1 + 1, X + 1 + 1 + 1 + 1] := (k2 [X, X + 1, X + 1 + 1, X + 1 + 1 + 1, X + 1 + 1 + 1 + 1] (fun m hm => by simp at hm; simp; omega)).kept (hV4 ▸ set3_kept (by simp)); have HB4 := Lib.hid (And.intro x0 (And.intro x1 (And.intro x2 (And.intro x3 x4)))); have H4 := Lib.hid (And.intro (show X + 1 + 1 + 1 + 1 + 1 ≤ V4.heap.size by have := hkk.size; omega) (And.intro hkk hG)); have c4 : Calls Tryz.prog 96 #[.int .i64 4, .slice (some ⟨w4.heap.size + 1, 0, none⟩) 1 1] ((V4.alloc (.cells #[.int .i64 1, .int .i64 0, .int .i64 2, .int .i64 3] 3)).alloc (.cells #[.slice (some ⟨w4.heap.size, 0, none⟩) 4 4] 27)) _ := mk96 (n := 4) (L := gY2) (by omega) (by decide) (lit_pms1 hsz (lit_ints (by decide) rfl)); have HC4 := Lib.hid c4; clear c4; unfold set3 at hV4; clear k0 k1 k2 hkk hG hge x0 x1 x2 x3 x4 y0 y1 y2 y3 y4)
    | (go_at_call 96; (try rw [hW0]); refine HC2.out.mono ?_; rintro e1 w3 ⟨a3, c3, b3, d3, rfl, k1, k2⟩; have k0 : Below V2.heap.size V2 w3 := below_trans (alloc_b (alloc_b (alloc_b (Below.refl _ _) _) _) _) k1; have hge : X + 1 + 1 + 1 + 1 + 1 ≤ V2.heap.size := H2.out.1; have y0 := (k0.block (X) (by omega)).trans HB2.out.1; have y1 := (k0.block (X + 1) (by omega)).trans HB2.out.2.1; have y2 := (k0.block (X + 1 + 1) (by omega)).trans HB2.out.2.2.1; have y3 := (k0.block (X + 1 + 1 + 1) (by omega)).trans HB2.out.2.2.2.1; have y4 := (k0.block (X + 1 + 1 + 1 + 1) (by omega)).trans HB2.out.2.2.2.2; obtain ⟨i0, i1, i2, i3, i4, i5⟩ := box_cells y2; obtain ⟨V3, hV3⟩ : ∃ V, set3 w3 (X + 1 + 1) (.int .i64 4) (.slice a3 4 c3) (.slice b3 4 d3) = V := ⟨_, rfl⟩; have hsz : V3.heap.size = w3.heap.size := (congrArg (fun q : World => q.heap.size) hV3).symm.trans (set3_size _ _ _ _ _); have hkk : Kept V2 V3 [X, X + 1, X + 1 + 1, X + 1 + 1 + 1, X + 1 + 1 + 1 + 1] := (Kept.ofBelow k0).trans (hV3 ▸ set3_kept (by simp)); have x0 : V3.heap[X]? = _ := hV3 ▸ (set3_other (by omega)).trans y0; have x1 : V3.heap[X + 1]? = _ := hV3 ▸ (set3_other (by omega)).trans y1; have x2 : V3.heap[X + 1 + 1]? = _ := hV3 ▸ set3_box y2; have x3 : V3.heap[X + 1 + 1 + 1]? = _ := hV3 ▸ (set3_other (by omega)).trans y3; have x4 : V3.heap[X + 1 + 1 + 1 + 1]? = _ := hV3 ▸ (set3_other (by omega)).trans y4; have hG : GrS V3 (.agg #[.int .i64 4, .slice a3 4 c3, .slice b3 4 d3]) (Grp (· ∈ gV4)) [X, X + 1, X + 1 + 1, X + 1 + 1 + 1, X + 1 + 1 + 1 + 1] := (k2 [X, X + 1, X + 1 + 1, X + 1 + 1 + 1, X + 1 + 1 + 1 + 1] (fun m hm => by simp at hm; simp; omega)).kept (hV3 ▸ set3_kept (by simp)); have HB3 := Lib.hid (And.intro x0 (And.intro x1 (And.intro x2 (And.intro x3 x4)))); have H3 := Lib.hid (And.intro (show X + 1 + 1 + 1 + 1 + 1 ≤ V3.heap.size by have := hkk.size; omega) (And.intro hkk hG)); have c3 : Calls Tryz.prog 96 #[.int .i64 4, .slice (some ⟨w3.heap.size + 1, 0, none⟩) 1 1] ((V3.alloc (.cells #[.int .i64 0, .int .i64 1, .int .i64 3, .int .i64 2] 3)).alloc (.cells #[.slice (some ⟨w3.heap.size, 0, none⟩) 4 4] 27)) _ := mk96 (n := 4) (L := gZ2) (by omega) (by decide) (lit_pms1 hsz (lit_ints (by decide) rfl)); have HC3 := Lib.hid c3; clear c3; unfold set3 at hV3; clear k0 k1 k2 hkk hG hge x0 x1 x2 x3 x4 y0 y1 y2 y3 y4)
    | (go_at_call 96; (try rw [hW0]); refine HC1.out.mono ?_; rintro e1 w2 ⟨a2, c2, b2, d2, rfl, k1, k2⟩; have k0 : Below V1.heap.size V1 w2 := below_trans (alloc_b (alloc_b (alloc_b (Below.refl _ _) _) _) _) k1; have hge : X + 1 + 1 + 1 + 1 + 1 ≤ V1.heap.size := H1.out.1; have y0 := (k0.block (X) (by omega)).trans HB1.out.1; have y1 := (k0.block (X + 1) (by omega)).trans HB1.out.2.1; have y2 := (k0.block (X + 1 + 1) (by omega)).trans HB1.out.2.2.1; have y3 := (k0.block (X + 1 + 1 + 1) (by omega)).trans HB1.out.2.2.2.1; have y4 := (k0.block (X + 1 + 1 + 1 + 1) (by omega)).trans HB1.out.2.2.2.2; obtain ⟨i0, i1, i2, i3, i4, i5⟩ := box_cells y1; obtain ⟨V2, hV2⟩ : ∃ V, set3 w2 (X + 1) (.int .i64 4) (.slice a2 4 c2) (.slice b2 4 d2) = V := ⟨_, rfl⟩; have hsz : V2.heap.size = w2.heap.size := (congrArg (fun q : World => q.heap.size) hV2).symm.trans (set3_size _ _ _ _ _); have hkk : Kept V1 V2 [X, X + 1, X + 1 + 1, X + 1 + 1 + 1, X + 1 + 1 + 1 + 1] := (Kept.ofBelow k0).trans (hV2 ▸ set3_kept (by simp)); have x0 : V2.heap[X]? = _ := hV2 ▸ (set3_other (by omega)).trans y0; have x1 : V2.heap[X + 1]? = _ := hV2 ▸ set3_box y1; have x2 : V2.heap[X + 1 + 1]? = _ := hV2 ▸ (set3_other (by omega)).trans y2; have x3 : V2.heap[X + 1 + 1 + 1]? = _ := hV2 ▸ (set3_other (by omega)).trans y3; have x4 : V2.heap[X + 1 + 1 + 1 + 1]? = _ := hV2 ▸ (set3_other (by omega)).trans y4; have hG : GrS V2 (.agg #[.int .i64 4, .slice a2 4 c2, .slice b2 4 d2]) (Grp (· ∈ gA4)) [X, X + 1, X + 1 + 1, X + 1 + 1 + 1, X + 1 + 1 + 1 + 1] := (k2 [X, X + 1, X + 1 + 1, X + 1 + 1 + 1, X + 1 + 1 + 1 + 1] (fun m hm => by simp at hm; simp; omega)).kept (hV2 ▸ set3_kept (by simp)); have HB2 := Lib.hid (And.intro x0 (And.intro x1 (And.intro x2 (And.intro x3 x4)))); have H2 := Lib.hid (And.intro (show X + 1 + 1 + 1 + 1 + 1 ≤ V2.heap.size by have := hkk.size; omega) (And.intro hkk hG)); have c2 : Calls Tryz.prog 96 #[.int .i64 4, .slice (some ⟨w2.heap.size + 1 + 1, 0, none⟩) 2 2] (((V2.alloc (.cells #[.int .i64 1, .int .i64 0, .int .i64 3, .int .i64 2] 3)).alloc (.cells #[.int .i64 2, .int .i64 3, .int .i64 0, .int .i64 1] 3)).alloc (.cells #[.slice (some ⟨w2.heap.size, 0, none⟩) 4 4, .slice (some ⟨w2.heap.size + 1, 0, none⟩) 4 4] 27)) _ := mk96 (n := 4) (L := gV4) (by omega) (by decide) (lit_pms2 hsz (lit_ints (by decide) rfl) (lit_ints (by decide) rfl)); have HC2 := Lib.hid c2; clear c2; unfold set3 at hV2; clear k0 k1 k2 hkk hG hge x0 x1 x2 x3 x4 y0 y1 y2 y3 y4)
    | (go_at_call 96; (try rw [hW0]); refine HC0.out.mono ?_; rintro e1 w1 ⟨a1, c1, b1, d1, rfl, k1, k2⟩; have k0 : Below W0.heap.size W0 w1 := below_trans (alloc_b (alloc_b (alloc_b (Below.refl _ _) _) _) _) k1; have hge : X + 1 + 1 + 1 + 1 + 1 ≤ W0.heap.size := Nat.le_of_eq HZ.out.1.symm; have y0 := (k0.block (X) (by omega)).trans HB0.out.1; have y1 := (k0.block (X + 1) (by omega)).trans HB0.out.2.1; have y2 := (k0.block (X + 1 + 1) (by omega)).trans HB0.out.2.2.1; have y3 := (k0.block (X + 1 + 1 + 1) (by omega)).trans HB0.out.2.2.2.1; have y4 := (k0.block (X + 1 + 1 + 1 + 1) (by omega)).trans HB0.out.2.2.2.2; obtain ⟨i0, i1, i2, i3, i4, i5⟩ := box_cells y0; obtain ⟨V1, hV1⟩ : ∃ V, set3 w1 (X) (.int .i64 4) (.slice a1 4 c1) (.slice b1 4 d1) = V := ⟨_, rfl⟩; have hsz : V1.heap.size = w1.heap.size := (congrArg (fun q : World => q.heap.size) hV1).symm.trans (set3_size _ _ _ _ _); have hkk : Kept W0 V1 [X, X + 1, X + 1 + 1, X + 1 + 1 + 1, X + 1 + 1 + 1 + 1] := (Kept.ofBelow k0).trans (hV1 ▸ set3_kept (by simp)); have x0 : V1.heap[X]? = _ := hV1 ▸ set3_box y0; have x1 : V1.heap[X + 1]? = _ := hV1 ▸ (set3_other (by omega)).trans y1; have x2 : V1.heap[X + 1 + 1]? = _ := hV1 ▸ (set3_other (by omega)).trans y2; have x3 : V1.heap[X + 1 + 1 + 1]? = _ := hV1 ▸ (set3_other (by omega)).trans y3; have x4 : V1.heap[X + 1 + 1 + 1 + 1]? = _ := hV1 ▸ (set3_other (by omega)).trans y4; have hG : GrS V1 (.agg #[.int .i64 4, .slice a1 4 c1, .slice b1 4 d1]) (Grp (· ∈ gS4)) [X, X + 1, X + 1 + 1, X + 1 + 1 + 1, X + 1 + 1 + 1 + 1] := (k2 [X, X + 1, X + 1 + 1, X + 1 + 1 + 1, X + 1 + 1 + 1 + 1] (fun m hm => by simp at hm; simp; omega)).kept (hV1 ▸ set3_kept (by simp)); have HB1 := Lib.hid (And.intro x0 (And.intro x1 (And.intro x2 (And.intro x3 x4)))); have H1 := Lib.hid (And.intro (show X + 1 + 1 + 1 + 1 + 1 ≤ V1.heap.size by have := hkk.size; omega) (And.intro hkk hG)); have c1 : Calls Tryz.prog 96 #[.int .i64 4, .slice (some ⟨w1.heap.size + 1 + 1, 0, none⟩) 2 2] (((V1.alloc (.cells #[.int .i64 1, .int .i64 2, .int .i64 0, .int .i64 3] 3)).alloc (.cells #[.int .i64 0, .int .i64 2, .int .i64 3, .int .i64 1] 3)).alloc (.cells #[.slice (some ⟨w1.heap.size, 0, none⟩) 4 4, .slice (some ⟨w1.heap.size + 1, 0, none⟩) 4 4] 27)) _ := mk96 (n := 4) (L := gA4) (by omega) (by decide) (lit_pms2 hsz (lit_ints (by decide) rfl) (lit_ints (by decide) rfl)); have HC1 := Lib.hid c1; clear c1; unfold set3 at hV1; clear k0 k1 k2 hkk hG hge x0 x1 x2 x3 x4 y0 y1 y2 y3 y4))
  obtain ⟨p00, p01, p02, p03, p04, p05⟩ := box_cells HB5.out.1
  obtain ⟨p10, p11, p12, p13, p14, p15⟩ := box_cells HB5.out.2.1
  obtain ⟨p20, p21, p22, p23, p24, p25⟩ := box_cells HB5.out.2.2.1
  obtain ⟨p30, p31, p32, p33, p34, p35⟩ := box_cells HB5.out.2.2.2.1
  obtain ⟨p40, p41, p42, p43, p44, p45⟩ := box_cells HB5.out.2.2.2.2
  clear hV1 hV2 hV3 hV4 hV5 hW0
  go_region
  obtain ⟨WF, hWF⟩ : ∃ WF, WF = (set3 (set3 (set3 (set3 (set3 V5 (X) (.int .i64 4) (.slice a1 4 c1) (.slice b1 4 d1)) (X + 1) (.int .i64 4) (.slice a2 4 c2) (.slice b2 4 d2)) (X + 1 + 1) (.int .i64 4) (.slice a3 4 c3) (.slice b3 4 d3)) (X + 1 + 1 + 1) (.int .i64 4) (.slice a4 4 c4) (.slice b4 4 d4)) (X + 1 + 1 + 1 + 1) (.int .i64 4) (.slice a5 4 c5) (.slice b5 4 d5)) := ⟨_, rfl⟩
  have hkF : Kept V5 WF [X, X + 1, X + 1 + 1, X + 1 + 1 + 1, X + 1 + 1 + 1 + 1] := by rw [hWF]; exact (((((Kept.refl _ _).trans (set3_kept (by simp))).trans (set3_kept (by simp))).trans (set3_kept (by simp))).trans (set3_kept (by simp))).trans (set3_kept (by simp))
  have x0 : WF.heap[X]? = some (.cells #[.int .i64 4, .slice a1 4 c1, .slice b1 4 d1] 25) := by rw [hWF]; exact (set3_other (by omega)).trans ((set3_other (by omega)).trans ((set3_other (by omega)).trans ((set3_other (by omega)).trans (set3_box (HB5.out.1)))))
  have x1 : WF.heap[X + 1]? = some (.cells #[.int .i64 4, .slice a2 4 c2, .slice b2 4 d2] 25) := by rw [hWF]; exact (set3_other (by omega)).trans ((set3_other (by omega)).trans ((set3_other (by omega)).trans (set3_box ((set3_other (by omega)).trans (HB5.out.2.1)))))
  have x2 : WF.heap[X + 1 + 1]? = some (.cells #[.int .i64 4, .slice a3 4 c3, .slice b3 4 d3] 25) := by rw [hWF]; exact (set3_other (by omega)).trans ((set3_other (by omega)).trans (set3_box ((set3_other (by omega)).trans ((set3_other (by omega)).trans (HB5.out.2.2.1)))))
  have x3 : WF.heap[X + 1 + 1 + 1]? = some (.cells #[.int .i64 4, .slice a4 4 c4, .slice b4 4 d4] 25) := by rw [hWF]; exact (set3_other (by omega)).trans (set3_box ((set3_other (by omega)).trans ((set3_other (by omega)).trans ((set3_other (by omega)).trans (HB5.out.2.2.2.1)))))
  have x4 : WF.heap[X + 1 + 1 + 1 + 1]? = some (.cells #[.int .i64 4, .slice a5 4 c5, .slice b5 4 d5] 25) := by rw [hWF]; exact set3_box ((set3_other (by omega)).trans ((set3_other (by omega)).trans ((set3_other (by omega)).trans ((set3_other (by omega)).trans (HB5.out.2.2.2.2)))))
  obtain ⟨f00, f01, f02, _, _, _⟩ := box_cells x0
  obtain ⟨f10, f11, f12, _, _, _⟩ := box_cells x1
  obtain ⟨f20, f21, f22, _, _, _⟩ := box_cells x2
  obtain ⟨f30, f31, f32, _, _, _⟩ := box_cells x3
  obtain ⟨f40, f41, f42, _, _, _⟩ := box_cells x4
  unfold set3 at hWF
  rw [← hWF]
  clear hWF p00 p01 p02 p03 p04 p05 p10 p11 p12 p13 p14 p15 p20 p21 p22 p23 p24 p25 p30 p31 p32 p33 p34 p35 p40 p41 p42 p43 p44 p45
  have HX := Lib.hid hkF
  clear hkF x0 x1 x2 x3 x4
  go_wp2_with fail
  refine bodyPost_ret (v := .tuple #[.agg #[.int .i64 4, .slice a1 4 c1, .slice b1 4 d1], .agg #[.int .i64 4, .slice a2 4 c2, .slice b2 4 d2], .agg #[.int .i64 4, .slice a3 4 c3, .slice b3 4 d3], .agg #[.int .i64 4, .slice a4 4 c4, .slice b4 4 d4], .agg #[.int .i64 4, .slice a5 4 c5, .slice b5 4 d5]]) (by simp [results, Tryz.results38, go_sem, f00, f01, f02, f10, f11, f12, f20, f21, f22, f30, f31, f32, f40, f41, f42]) rfl ?_
  have hbF : Below X w WF := by rw [← hX]; exact HZ.out.2.trans ((H1.out.2.1.trans (H2.out.2.1.trans (H3.out.2.1.trans (H4.out.2.1.trans (H5.out.2.1.trans (HX.out)))))).below (by rw [HZ.out.1, ← hX]; omega) (by rw [← hX]; simp; omega))
  exact ⟨_, _, _, _, _, rfl, (H1.out.2.2.kept (kept_drew (H2.out.2.1.trans (H3.out.2.1.trans (H4.out.2.1.trans (H5.out.2.1.trans (HX.out))))))).now, (H2.out.2.2.kept (kept_drew (H3.out.2.1.trans (H4.out.2.1.trans (H5.out.2.1.trans (HX.out)))))).now, (H3.out.2.2.kept (kept_drew (H4.out.2.1.trans (H5.out.2.1.trans (HX.out))))).now, (H4.out.2.2.kept (kept_drew (H5.out.2.1.trans (HX.out)))).now, (H5.out.2.2.kept (kept_drew (HX.out))).now, below_drew (by rw [hX]; exact hbF)⟩
end Go.Proofs.YtbejhkojdiadaaaGreat
