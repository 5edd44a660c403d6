/- Core: the program's. · Join where the pair fails its checks. · The kit's Less of two permutations. · kit: place, Index: a search in a sorted list of permutations. · Core: the reference's. -/
import Derived.Test.YtbejhkojdiadaaaGreatCl01
import Derived.Test.YtbejhkojdiadaaaGreatCl02
import Derived.Test.YtbejhkojdiadaaaGreatCl03
import Derived.Test.YtbejhkojdiadaaaGreatCl04
import Derived.Test.YtbejhkojdiadaaaGreatCl05
import Derived.Test.YtbejhkojdiadaaaGreatCl06
import Derived.Test.YtbejhkojdiadaaaGreatCl07
import Derived.Test.YtbejhkojdiadaaaGreatCl08
import Derived.Test.YtbejhkojdiadaaaGreatCl09
import Derived.Test.YtbejhkojdiadaaaGreatCl10
import Derived.Test.YtbejhkojdiadaaaGreatCl11
import Derived.Test.YtbejhkojdiadaaaGreatCl12
import Derived.Test.YtbejhkojdiadaaaGreatCl13
import Derived.Test.YtbejhkojdiadaaaGreatCl14
import Derived.Test.YtbejhkojdiadaaaGreatCl15
import Derived.Test.YtbejhkojdiadaaaGreatCl16
import Derived.Test.YtbejhkojdiadaaaGreatCl17
import Derived.Test.YtbejhkojdiadaaaGreatCl18
import Derived.Test.YtbejhkojdiadaaaGreatCl19
import Derived.Test.YtbejhkojdiadaaaGreatCl20
import Derived.Test.YtbejhkojdiadaaaGreatCl21
import Derived.Test.YtbejhkojdiadaaaGreatCl22
import Derived.Test.YtbejhkojdiadaaaGreatCl23
import Derived.Test.YtbejhkojdiadaaaGreatProg
import Derived.WalkKit
import Derived.WalkSpells
import Derived.BigQuiet
import Derived.Deep.QuietTactic
import Derived.Deep.LoopGhost
import Derived.Lib.Hide
import Derived.Maps.AppendAt
import Derived.Deep.AppendLies
import Derived.StillTailTactics
import Derived.Laws.CopyOwn
import Derived.Deep.OwnRows
import Derived.Deep.DeepCutAuto
import Derived.Laws.Cover3
import Derived.Deep.RegionHeld3
import Derived.RangeFuncRecord
import Derived.Lib.SlicesSearch
import Derived.RangeFuncBox
import Derived.RangeFuncLeaves
import Derived.RangeFuncWrites
import Derived.RangeFuncFrom
import Derived.Shelf.Abstract
import Derived.OwnWalkIn
import Derived.TacticsInMore
import Derived.LoopNIn
import Derived.LoopIn
import Derived.Shelf.GgSortFunc.Insertion
import Derived.Shelf.SlIter.Collect
import Derived.Shelf.Sort.Plain
import Derived.Deep.RegionLaw
import Derived.ControlIn
import Derived.Deep.AppendSrc
import Derived.Laws.BytesArg
import Derived.Maps.OwnSet
import Derived.Carry
import Derived.Maps.Range
set_option linter.unusedSimpArgs false
set_option linter.unusedVariables false
namespace Go.Proofs.YtbejhkojdiadaaaGreat
open Go.RowKit PlainPm
section
variable {n : Nat}
def mapP (w : World) (b : Nat) (x : Pm n) : Prop := ∃ v, (Instr.lookup 94 (.map (some b)) (.string (wordB x)) true).run Tryz.prog w = .ok (.tuple #[v, .bool true]) w
theorem ElM.mapP (hn : n ≤ 64) {w : World} {M : List Nat} {b N : Nat} {A : Pm n → Prop} (h : ElM w M b N A) (x : Pm n) : mapP w b x ↔ A x := by
  obtain ⟨v, t, hrun, ht⟩ := h.look hn x
  constructor
  · rintro ⟨u, hu⟩
    rw [hrun] at hu
    apply ht.1
    simp only [Result.ok.injEq, Value.tuple.injEq, Array.mk.injEq, List.cons.injEq, Value.bool.injEq, and_true] at hu
    first
      | exact hu.2
      | exact hu.2.1
      | exact hu.1.2
  · intro hA
    rw [ht.2 hA] at hrun
    exact ⟨v, hrun⟩
def boolN : Value → Nat
  | .bool true => 1
  | _ => 0
theorem Up.refl (w : World) : Up w w := ⟨Nat.le_refl _, fun _ _ h => h⟩
theorem Up.trans {a b c : World} (h : Up a b) (k : Up b c) : Up a c := ⟨Nat.le_trans h.size k.size, fun p u hp => k.cell p u (h.cell p u hp)⟩
theorem Up.below {a b : World} (k : Below a.heap.size a b) : Up a b := ⟨k.size, fun p u hp => (k.cell (block_lt_of_cell hp)).trans hp⟩
theorem cardP_congr {F : List (Pm n)} {A B : Pm n → Prop} (h : ∀ x, A x ↔ B x) : cardP F A = cardP F B :=
  Nat.le_antisymm (cardP_le fun x hx => (h x).1 hx) (cardP_le fun x hx => (h x).2 hx)
set_option maxRecDepth 100000 in
set_option maxHeartbeats 4000000 in
theorem core29 (hn' : 0 < n ∧ n ≤ 8) {w : World} {v1 v2 : Value} {G1 G2 : Pm n → Prop} (g1 : IsG G1) (g2 : IsG G2) (h1 : GrG w v1 G1) (h2 : GrG w v2 G2) (hsz : ∀ O R, ChG G1 O R → szF O n 0 ≤ 5040) :
    Calls Tryz.prog 29 #[v1, v2] w fun e w' => ∃ a c b2 d, e = .returned (.tuple #[.agg #[.int .i64 (n : Int), .slice a n c, .slice b2 n d], .int .i64 0]) ∧ Below w.heap.size w w' ∧
      ∀ S, (∀ m ∈ S, m < w.heap.size) → GrS w' (.agg #[.int .i64 (n : Int), .slice a n c, .slice b2 n d]) (CoG G1 G2) S := by
  have hn : 0 < n ∧ n ≤ 64 := ⟨hn'.1, by omega⟩
  obtain ⟨T1, t1, ab, ao, c, bb, bo, e, hv1, hlv⟩ := h1.lev g1 ⟨hn.1, hn.2⟩
  obtain ⟨T2, t2, ab', ao', c', bb', bo', e', hv2, hlv2⟩ := h2.lev g2 ⟨hn.1, hn.2⟩
  obtain ⟨os1, rs1, os2, rs2, p1, p2, p3⟩ := GrG.pair0 hn g1 g2 h1 h2
  have hpr := fun (V : World) (hV : Below w.heap.size w V) => pair70 (p1.below hV) (p2.below hV)
  rw [p3] at hpr
  have hst2 := fun (V : World) (hV : Below w.heap.size w V) => strong73 (O := orbO T2) (R := PlainPm.repT T2) (c := c') (e := e') hn (t2.chG g2) hlv2 hV
  have hs2 := sgen_grp g2 t2
  have h83 := fun (V : World) (hV : Below w.heap.size w V) => elems83 (w := V) hn' g1 (h1.below hV) hsz
  subst hv1
  subst hv2
  obtain ⟨X, hX⟩ : ∃ X, w.heap.size = X := ⟨_, rfl⟩
  obtain ⟨W1, hW1⟩ : ∃ W1, (((w.alloc (.cells #[.int .i64 (n : Int), .slice (some ⟨ab, ao, none⟩) n c, .slice (some ⟨bb, bo, none⟩) n e] 25)).alloc (.cells #[.int .i64 (n : Int), .slice (some ⟨ab', ao', none⟩) n c', .slice (some ⟨bb', bo', none⟩) n e'] 25)).alloc (.cells #[.int .i64 0, .slice none 0 0, .slice none 0 0] 25)) = W1 := ⟨_, rfl⟩
  have hszw : W1.heap.size = X + 3 := by rw [← hW1]; simp [hX]
  have hwW : Below w.heap.size w W1 := hW1 ▸ alloc_b (alloc_b (alloc_b (Below.refl _ _) _) _) _
  have k0 : W1.heap[X]? = some (.cells #[.int .i64 (n : Int), .slice (some ⟨ab, ao, none⟩) n c, .slice (some ⟨bb, bo, none⟩) n e] 25) := by
    rw [← hW1]
    exact ((alloc_b (alloc_b (Below.refl _ _) _) _).block X (by simp; omega)).trans (box_al25 hX _ _ _)
  have k1 : W1.heap[X + 1]? = some (.cells #[.int .i64 (n : Int), .slice (some ⟨ab', ao', none⟩) n c', .slice (some ⟨bb', bo', none⟩) n e'] 25) := by
    rw [← hW1]
    exact ((alloc_b (Below.refl _ _) _).block (X + 1) (by simp; omega)).trans (box_al25 (by simp [hX]) _ _ _)
  have k2 : W1.heap[X + 2]? = some (.cells #[.int .i64 0, .slice none 0 0, .slice none 0 0] 25) := by
    rw [← hW1]
    exact box_al25 (by simp [hX]) _ _ _
  obtain ⟨x0, x1, x2, _⟩ := box_cells k0
  obtain ⟨y0, y1, y2, _⟩ := box_cells k1
  have HB := Lib.hid (And.intro k0 (And.intro k1 (And.intro k2 (And.intro hszw hwW))))
  have HC := Lib.hid (And.intro hpr (And.intro hst2 (And.intro hs2 h83)))
  clear hpr hst2 hs2 h83 hlv hlv2 p1 p2 p3 h1 h2 k0 k1 k2 hszw hwW
  go_enter Tryz.func29, Tryz.ntmps29
  try simp only [hX]
  go_wp2_with (first
    | (go_at_call 73; (with_reducible refine (HC.out.2.1 _ (below_trans HB.out.2.2.2.2 H3.out.2.2)).mono ?_); rintro e4 w4 ⟨v4, us4, rfl, k1, k2, k3, k4⟩
       obtain ⟨a4, c4, rfl, k5⟩ := k1.row (by unfold maxLen; omega)
       have H4 := Lib.hid (And.intro k1 (And.intro k2 (And.intro k3 (And.intro k4 k5)))); clear k1 k2 k3 k4 k5)
    | (go_at_call 83; (with_reducible refine (HC.out.2.2.2 _ (below_trans HB.out.2.2.2.2 H2.out)).mono ?_); rintro e3 w3 ⟨b, rfl, k1, k2, k3⟩
       have b3 : Below W1.heap.size W1 w3 := below_trans H2.out k3
       have q0 := (b3.cell (p := ⟨X + 1, 0, none⟩) (block_lt_of_cell y0)).trans y0; have q1 := (b3.cell (p := ⟨X + 1, 1, none⟩) (block_lt_of_cell y1)).trans y1; have q2 := (b3.cell (p := ⟨X + 1, 2, none⟩) (block_lt_of_cell y2)).trans y2
       have H3 := Lib.hid (And.intro k1 (And.intro k2 b3)); clear k1 k2 k3 b3)
    | (go_at_call 70; (with_reducible refine (HC.out.1 _ HB.out.2.2.2.2).mono ?_); rintro e2 w2 ⟨rfl, k⟩
       have z0 := (k.cell (p := ⟨X, 0, none⟩) (block_lt_of_cell x0)).trans x0; have z1 := (k.cell (p := ⟨X, 1, none⟩) (block_lt_of_cell x1)).trans x1; have z2 := (k.cell (p := ⟨X, 2, none⟩) (block_lt_of_cell x2)).trans x2
       have H2 := Lib.hid k; clear k))
  have hF : ∃ F : List (Pm n), ∀ x, x ∈ F ↔ G1 x := ⟨elsF (orbO T1) (PlainPm.repT T1) n 0 (PlainPm.one n), fun x => mem_all (t1.chG g1)⟩
  obtain ⟨F, hF⟩ := hF
  obtain ⟨B, hB⟩ : ∃ B, sgen n (orbO T2) (PlainPm.repT T2) n = B := ⟨_, rfl⟩
  rw [hB] at H4 HC
  have b14 : Below W1.heap.size W1 w4 := below_trans H3.out.2.2 H4.out.2.2.2.1
  have hE4 := H3.out.2.1.below H4.out.2.2.2.1
  have hbl : us4.length = B.length := H4.out.2.1.1
  obtain ⟨nb, hnb⟩ : ∃ nb, us4.length = nb := ⟨_, rfl⟩
  have hnb6 : nb ≤ 4096 := by have := H4.out.2.2.1; omega
  rw [hnb]
  have hbW0 : W1.heap.size ≤ b := by have h9 := H2.out.size; have h8 := H3.out.1; omega
  have HD := Lib.hid (And.intro hF (And.intro b14 (And.intro hE4 (And.intro hbl hnb))))
  clear hF b14 hE4 hbl hnb
  go_loopw [10] (fun u wr => ∃ (A : Pm n → Prop) (t : Bool), u = .bool t ∧ ElM wr [] b 5040 A ∧ CoA G1 G2 A ∧ Up w4 wr ∧ Below W1.heap.size W1 wr ∧ (t = false → ∀ x, A x → ∀ y ∈ B, A (cj x y))) (fun u wr => 2 * cardP F (mapP wr b) + boolN u)
  case atStart => exact ⟨G1, true, rfl, HD.out.2.2.1, CoA.start g2, Up.refl _, HD.out.2.1, fun h => by cases h⟩
  case round =>
    obtain ⟨A, t, rfl, hE, hA, hup, hb, hcl⟩ := hrel
    cases t with
    | false =>
      have HP := Lib.hid (And.intro hE (And.intro hA (And.intro hup (And.intro hb (hcl rfl)))))
      clear hE hA hup hb hcl
      have e0 := (HP.out.2.2.2.1.cell (p := ⟨X, 0, none⟩) (block_lt_of_cell x0)).trans x0
      have hXr := (HP.out.2.2.2.1.block (X + 2) (by have := HB.out.2.2.2.1; omega)).trans HB.out.2.2.1
      have HX := Lib.hid hXr
      clear hXr
      go_wp2_with (go_at_call 86; (with_reducible refine (gath86 hn HP.out.1).mono ?_); rintro e6 w6 ⟨a6, c6, b6, d6, rfl, k1, k2⟩
                   have hX6 := (k1.block (X + 2) (Array.getElem?_eq_some_iff.1 HX.out).1).trans HX.out
                   obtain ⟨z0', z1', z2', zf1, zf2, zf0⟩ := box_cells hX6
                   have H6 := Lib.hid (And.intro k1 (And.intro k2 hX6)); clear k1 k2 hX6)
      have hfin : (set3 w6 (X + 1 + 1) (.int .i64 (n : Int)) (.slice a6 n c6) (.slice b6 n d6)).heap[X + 1 + 1]? = some (.cells #[.int .i64 (n : Int), .slice a6 n c6, .slice b6 n d6] 25) := set3_box H6.out.2.2
      obtain ⟨V, hV⟩ : ∃ V, set3 w6 (X + 1 + 1) (.int .i64 (n : Int)) (.slice a6 n c6) (.slice b6 n d6) = V := ⟨_, rfl⟩
      have hKp : Kept w6 V [X + 1 + 1] := hV ▸ set3_kept (by simp)
      rw [hV] at hfin
      unfold set3 at hV
      rw [hV]
      obtain ⟨f0, f1, f2, _⟩ := box_cells hfin
      refine bodyPost_ret (v := .tuple #[.agg #[.int .i64 (n : Int), .slice a6 n c6, .slice b6 n d6], .int .i64 0]) (by simp [results, Tryz.results29, go_sem, f0, f1, f2]) rfl ?_
      have hw6 : Below w.heap.size w w6 := below_trans (below_trans HB.out.2.2.2.2 HP.out.2.2.2.1) H6.out.1
      refine ⟨a6, c6, b6, d6, rfl, ?_, fun S hS => ?_⟩
      · have := hw6.trans (hKp.below hw6.size (fun m hm => by rw [List.mem_singleton.1 hm]; omega))
        rwa [hX] at this
      · have hlt := HP.out.2.2.2.1.size
        have hlt2 := HB.out.2.2.2.1
        refine (((H6.out.2.1 ((X + 1 + 1) :: S) (fun m hm => ?_)).kept (hKp.mono (fun q hq => by rw [List.mem_singleton.1 hq]; exact List.mem_cons_self ..))).congr (core_done g1 HC.out.2.2.1 HP.out.2.1.sub HP.out.2.1.kp HP.out.2.2.2.2)).ext (fun q hq => .inl (List.mem_cons_of_mem _ hq))
        rcases List.mem_cons.1 hm with h | h
        · omega
        · have := hS m h; omega
    | true =>
      obtain ⟨w5, c5, hr5, hE5, hb5, hs5⟩ := hE.range
      obtain ⟨r, hr⟩ : ∃ r, wr.heap.size = r := ⟨_, rfl⟩
      rw [hr] at hr5 hE5
      have hrW : W1.heap.size ≤ r := by rw [← hr]; exact hb.size
      have hbW : W1.heap.size ≤ b := hbW0
      have hcd : cardP F (mapP wr b) = cardP F A := cardP_congr fun x => hE.mapP hn.2 x
      have HP := Lib.hid (And.intro hA (And.intro (hup.trans (Up.below hb5)) (And.intro (below_trans hb hb5) (And.intro hE5 (And.intro hr hcd)))))
      clear hE hA hup hb hcl hE5 hb5 hs5 hcd hr
      go_wp2_with fail
      go_loopw [10] (fun u wi => ∃ (A' L : Pm n → Prop) (ct : Nat) (t : Bool), u = .bool t ∧ ElR wi [] b r 5040 A' L ct ∧ CoA G1 G2 A' ∧ Up w4 wi ∧ Below W1.heap.size W1 wi ∧ (t = false → ∀ x, A' x → ¬ L x → ∀ y ∈ B, A' (cj x y)) ∧ (∀ x, A' x → A x) ∧ (t = true → ∃ x, A x ∧ ¬ A' x)) (fun _ wi => wi.rangeLeft b r)
      case atStart => exact ⟨A, A, c5, false, rfl, HP.out.2.2.2.1, HP.out.1, HP.out.2.1, HP.out.2.2.1, fun _ x h1 h2 => absurd h1 h2, fun x h => h, fun h => by cases h⟩
      case round =>
        obtain ⟨A', L, ct, t, rfl, hE, hA, hup, hb, hcl, hsb, hpg⟩ := hrel
        have hleft := hE.left
        rcases hE.next hn.2 0 with ⟨hno, hrun⟩ | ⟨x, v, w6, c6, hLx, hpm, hrun, hE6, hc6, hg6, hs6, hen⟩
        · have HQ := Lib.hid (And.intro hE (And.intro hA (And.intro hup (And.intro hb (And.intro hcl (And.intro hsb (And.intro hpg hno)))))))
          clear hE hA hup hb hcl hsb hpg hno hleft
          go_wp2_with fail
          refine ⟨⟨A', t, rfl, HQ.out.1.owns, HQ.out.2.1, HQ.out.2.2.1, HQ.out.2.2.2.1, fun h x hx => HQ.out.2.2.2.2.1 h x hx (HQ.out.2.2.2.2.2.2.2 x)⟩, ?_⟩
          rw [HP.out.2.2.2.2.2, cardP_congr fun x => HQ.out.1.owns.mapP hn.2 x]
          have hle := cardP_le (F := F) HQ.out.2.2.2.2.2.1
          cases t with
          | false => simp only [boolN]; omega
          | true =>
            obtain ⟨x, h1, h2⟩ := HQ.out.2.2.2.2.2.2.1 rfl
            have := cardP_lt (F := F) HQ.out.2.2.2.2.2.1 ((HD.out.1 x).2 (HP.out.1.sub x h1)) h1 h2
            simp only [boolN]; omega
        · have htn : Turn wr w6 (some r) := ⟨hg6, fun q e9 => by cases e9; obtain ⟨_, a0, s0, d0, e0, h0⟩ := hE.blk; exact ⟨_, h0, rfl⟩⟩
          have hAx := hE.sub hLx
          obtain ⟨yb, yo, yc, rfl, _⟩ := id hpm
          have HQ := Lib.hid (And.intro hE6 (And.intro hA (And.intro (hup.trans htn.up) (And.intro (hb.grown hg6 hb.size (fun q e9 => by cases e9; exact hrW)) (And.intro hcl (And.intro hsb (And.intro hpg (And.intro hAx (And.intro hLx (And.intro hpm (And.intro hc6 hleft)))))))))))
          clear hE hA hup hb hcl hsb hpg hleft hE6 hAx hLx hpm hc6 hg6 hs6 htn
          go_wp2_with fail
          go_loopw [10, 47] (fun u9 u wi => ∃ q : Nat, u9 = .bool t ∧ u = .int .i64 (q : Int) ∧ q ≤ nb ∧ ElR wi [] b r 5040 A' (fun z => L z ∧ z ≠ x) c6 ∧ Up w6 wi ∧ Below W1.heap.size W1 wi ∧ ∀ i, i < q → ∀ y, B[i]? = some y → A' (cj x y)) (fun _ u _ => nb - (intOf u).toNat)
          case atStart => exact ⟨0, rfl, rfl, Nat.zero_le _, HQ.out.1, Up.refl _, HQ.out.2.2.2.1, fun i hi => by omega⟩
          case round =>
            obtain ⟨q, rfl, rfl, hq, hE, hup, hb, hin⟩ := hrel
            by_cases hqn : q < nb
            · obtain ⟨y, hy⟩ : ∃ y, B[q]? = some y := ⟨_, List.getElem?_eq_getElem (by rw [← HD.out.2.2.2.1, HD.out.2.2.2.2]; exact hqn)⟩
              obtain ⟨uy, huy, hpy⟩ := H4.out.2.1.2 q y hy
              obtain ⟨g, o, rfl, hg, hc⟩ := H4.out.2.2.2.2.2 q uy huy
              have hup4 : Up w4 wr := HQ.out.2.2.1.trans hup
              have c1 := hup4.cell _ _ hc
              have hpy' := hpy.up ((Up.below (below_trans HB.out.2.2.2.2 HD.out.2.1)).trans hup4)
              have hpx := HQ.out.2.2.2.2.2.2.2.2.2.1.up hup
              obtain ⟨yb', yo', yc', rfl, _⟩ := id hpy'
              have h84 := px84 hn hpx hpy'
              have hq1 : (q : Int) < nb := by omega
              have HR := Lib.hid (And.intro hE (And.intro hup (And.intro hb (And.intro hin (And.intro hy h84)))))
              clear hE hup hb hin hy h84 hpx hpy' hup4 hpy huy hg hc
              by_cases hin' : A' (cj x y)
              · go_wp2_with (first
                  | (go_at_call 85; (with_reducible refine (word85 hn.2 H7.out.1).mono ?_); rintro e8 w8 ⟨rfl, k8⟩
                     obtain ⟨u8, t8, hrun8, ht8⟩ := ((HR.out.1.below H7.out.2).below k8).owns.look hn.2 (cj x y)
                     have ht := ht8.2 hin'
                     subst ht
                     have H8 := Lib.hid k8
                     clear k8 ht8)
                  | (go_at_call 84; (with_reducible refine HR.out.2.2.2.2.2.mono ?_); rintro e7 w7 ⟨v7, rfl, k1, k2⟩
                     obtain ⟨zb, zc, rfl, _⟩ := id k1
                     have H7 := Lib.hid (And.intro (show PmV w7 [] _ (cj x y) from k1.pm (by simp)) k2)
                     clear k1 k2))
                have hb8 := below_trans H7.out.2 H8.out
                refine ⟨⟨q + 1, rfl, by go_num, by omega, (HR.out.1.below H7.out.2).below H8.out, HR.out.2.1.trans (Up.below hb8), below_trans HR.out.2.2.1 hb8, fun i hi y' hy' => ?_⟩, by simp [intOf]; omega⟩
                by_cases e9 : i = q
                · subst e9
                  rw [HR.out.2.2.2.2.1] at hy'
                  cases hy'
                  exact hin'
                · exact HR.out.2.2.2.1 i (by omega) y' hy'
              · have HN := Lib.hid hin'
                clear hin'
                go_wp2_with (first
                  | (go_at_call 85; (with_reducible refine (word85 hn.2 H7.out.1).mono ?_); rintro e8 w8 ⟨rfl, k8⟩
                     obtain ⟨u8, t8, hrun8, ht8⟩ := ((HR.out.1.below H7.out.2).below k8).owns.look hn.2 (cj x y)
                     have ht : t8 = false := by cases t8 with | false => rfl | true => exact absurd (ht8.1 rfl) HN.out
                     subst ht
                     obtain ⟨w9, c9, hrun9, hE9, hc9, hg9⟩ := ((HR.out.1.below H7.out.2).below k8).drop hn.2 x 0
                     have hmb := ((HR.out.1.below H7.out.2).below k8).owns.blk
                     have H8 := Lib.hid (And.intro k8 (And.intro hE9 (And.intro hc9 (And.intro hg9 hmb))))
                     clear k8 ht8 hE9 hc9 hg9 hmb)
                  | (go_at_call 84; (with_reducible refine HR.out.2.2.2.2.2.mono ?_); rintro e7 w7 ⟨v7, rfl, k1, k2⟩
                     obtain ⟨zb, zc, rfl, _⟩ := id k1
                     have H7 := Lib.hid (And.intro (show PmV w7 [] _ (cj x y) from k1.pm (by simp)) k2)
                     clear k1 k2))
                have hb8 := below_trans H7.out.2 H8.out.1
                obtain ⟨es, cl, hmb⟩ := H8.out.2.2.2.2
                have htn : Turn w8 w9 (some b) := ⟨H8.out.2.2.2.1, fun q9 e9 => by cases e9; exact ⟨_, hmb, rfl⟩⟩
                have hb9 := below_trans HR.out.2.2.1 hb8
                refine ⟨⟨_, _, c9, true, rfl, H8.out.2.1, HQ.out.2.1.drop g2 ((HC.out.2.2.1 y).1 (Grp.base (List.mem_of_getElem? HR.out.2.2.2.2.1))) HN.out, ((HQ.out.2.2.1.trans HR.out.2.1).trans (Up.below hb8)).trans htn.up,
                  hb9.grown H8.out.2.2.2.1 hb9.size (fun q9 e9 => by cases e9; exact hbW), (fun h => nomatch h), fun z hz => HQ.out.2.2.2.2.2.1 z hz.1, fun _ => ⟨x, HQ.out.2.2.2.2.2.1 x HQ.out.2.2.2.2.2.2.2.1, fun h => h.2 rfl⟩⟩, ?_⟩
                rw [H8.out.2.1.left, HQ.out.2.2.2.2.2.2.2.2.2.2.2]
                exact Nat.lt_of_le_of_lt H8.out.2.2.1 HQ.out.2.2.2.2.2.2.2.2.2.2.1
            · have hq1 : ¬ (q : Int) < nb := by omega
              have HR := Lib.hid (And.intro hE (And.intro hup (And.intro hb hin)))
              clear hE hup hb hin
              go_wp2_with fail
              refine ⟨⟨A', _, c6, t, rfl, HR.out.1, HQ.out.2.1, HQ.out.2.2.1.trans HR.out.2.1, HR.out.2.2.1, fun h z hz hnl y hy => ?_, HQ.out.2.2.2.2.2.1, HQ.out.2.2.2.2.2.2.1⟩, ?_⟩
              · by_cases e9 : z = x
                · rw [e9]
                  obtain ⟨i, hi⟩ := List.mem_iff_getElem?.1 hy
                  have hil := (List.getElem?_eq_some_iff.1 hi).1
                  exact HR.out.2.2.2 i (by have h1 := HD.out.2.2.2.1; have h2 := HD.out.2.2.2.2; omega) y hi
                · exact HQ.out.2.2.2.2.1 h z hz (fun hl => hnl ⟨hl, e9⟩) y hy
              · rw [HR.out.1.left, HQ.out.2.2.2.2.2.2.2.2.2.2.2]
                exact HQ.out.2.2.2.2.2.2.2.2.2.2.1
end
end Go.Proofs.YtbejhkojdiadaaaGreat
namespace Go.Proofs.YtbejhkojdiadaaaGreat
open Go.RowKit PlainPm
set_option maxRecDepth 100000 in
set_option maxHeartbeats 2000000 in
theorem join23e {w : World} {v1 v2 : Value} {d1 d2 : Int} {os1 os2 : List (List Int)} {rs1 rs2 : List (List (List Int))} (h1 : ChV w v1 d1 os1 rs1) (h2 : ChV w v2 d2 os2 rs2) (hE : pairE d1 os1 rs1 d2 os2 rs2 ≠ 0) :
    Calls Tryz.prog 23 #[v1, v2] w fun e w' => e = .returned (.tuple #[.agg #[.int .i64 0, .slice none 0 0, .slice none 0 0], .int .i64 (pairE d1 os1 rs1 d2 os2 rs2)]) ∧ Below w.heap.size w w' := by
  have hpr := fun (V : World) (hV : Below w.heap.size w V) => pair70 (h1.below hV) (h2.below hV)
  obtain ⟨r, hr⟩ : ∃ r, pairE d1 os1 rs1 d2 os2 rs2 = r := ⟨_, rfl⟩
  rw [hr] at hpr hE ⊢
  have hne : (r != 0) = true := by simp [hE]
  obtain ⟨a1, b1, c1, e1, rfl, _⟩ := h1
  obtain ⟨a2, b2, c2, e2, rfl, _⟩ := h2
  obtain ⟨X, hX⟩ : ∃ X, w.heap.size = X := ⟨_, rfl⟩
  obtain ⟨W1, hW1⟩ : ∃ W1, ((w.alloc (.cells #[.int .i64 d1, .slice a1 os1.length b1, .slice c1 rs1.length e1] 25)).alloc (.cells #[.int .i64 d2, .slice a2 os2.length b2, .slice c2 rs2.length e2] 25)).alloc (.cells #[.int .i64 0, .slice none 0 0, .slice none 0 0] 25) = W1 := ⟨_, rfl⟩
  have hsz : W1.heap.size = X + 3 := by rw [← hW1]; simp [hX]
  have hwW : Below w.heap.size w W1 := hW1 ▸ alloc_b (alloc_b (alloc_b (Below.refl _ _) _) _) _
  have k0 : W1.heap[X]? = some (.cells #[.int .i64 d1, .slice a1 os1.length b1, .slice c1 rs1.length e1] 25) := by
    rw [← hW1]
    exact ((alloc_b (Below.refl _ _) _).block X (by simp; omega)).trans (((alloc_b (Below.refl _ _) _).block X (by simp; omega)).trans (box_al25 hX _ _ _))
  have k1 : W1.heap[X + 1]? = some (.cells #[.int .i64 d2, .slice a2 os2.length b2, .slice c2 rs2.length e2] 25) := by
    rw [← hW1]
    exact ((alloc_b (Below.refl _ _) _).block (X + 1) (by simp; omega)).trans (box_al25 (by simp [hX]) _ _ _)
  have k2 : W1.heap[X + 1 + 1]? = some (.cells #[.int .i64 0, .slice none 0 0, .slice none 0 0] 25) := by
    rw [← hW1]
    exact box_al25 (by simp [hX]) _ _ _
  obtain ⟨x0, x1, x2, _⟩ := box_cells k0
  obtain ⟨y0, y1, y2, _⟩ := box_cells k1
  have HB := Lib.hid (And.intro hpr (And.intro k2 (And.intro hsz (And.intro hwW (And.intro hX hr)))))
  clear hpr k0 k1 k2 hsz hwW hr hE
  go_enter Tryz.func23, Tryz.ntmps23
  try rw [hX]
  go_wp2_with (go_at_call 70; (with_reducible refine (HB.out.1 _ HB.out.2.2.2.1).mono ?_); rintro e0 w2 ⟨rfl, k1⟩; have h9 := (k1.block (X + 1 + 1) (by rw [HB.out.2.2.1]; omega)).trans HB.out.2.1; obtain ⟨r0, r1, r2, r3, r4, r5⟩ := box_cells h9; have H2 := Lib.hid (And.intro k1 h9); clear k1 h9)
  have hfin : (set3 w2 (X + 1 + 1) (.int .i64 0) (.slice none 0 0) (.slice none 0 0)).heap[X + 1 + 1]? = some (.cells #[.int .i64 0, .slice none 0 0, .slice none 0 0] 25) := set3_box H2.out.2
  obtain ⟨V, hV⟩ : ∃ V, set3 w2 (X + 1 + 1) (.int .i64 0) (.slice none 0 0) (.slice none 0 0) = V := ⟨_, rfl⟩
  have hKp : Kept w2 V [X + 1 + 1] := hV ▸ set3_kept (by simp)
  rw [hV] at hfin
  unfold set3 at hV
  rw [hV]
  obtain ⟨f0, f1, f2, _⟩ := box_cells hfin
  refine bodyPost_ret (v := .tuple #[.agg #[.int .i64 0, .slice none 0 0, .slice none 0 0], .int .i64 r]) (by simp [results, Tryz.results23, go_sem, f0, f1, f2]) rfl ?_
  refine ⟨rfl, ?_⟩
  have h1 := below_trans HB.out.2.2.2.1 H2.out.1
  rw [HB.out.2.2.2.2.1] at h1
  have h2 := h1.size
  exact h1.trans (hKp.below1 (by have := H2.out.1.size; rw [HB.out.2.2.1] at this; omega) (by omega))
set_option maxRecDepth 100000 in
set_option maxHeartbeats 2000000 in
theorem join24e {w : World} {v1 v2 : Value} {d1 d2 : Int} {os1 os2 : List (List Int)} {rs1 rs2 : List (List (List Int))} (h1 : ChV w v1 d1 os1 rs1) (h2 : ChV w v2 d2 os2 rs2) (hE : pairE d1 os1 rs1 d2 os2 rs2 ≠ 0) :
    Calls Tryz.prog 24 #[v1, v2] w fun e w' => e = .returned (.tuple #[.agg #[.int .i64 0, .slice none 0 0, .slice none 0 0], .int .i64 (pairE d1 os1 rs1 d2 os2 rs2)]) ∧ Below w.heap.size w w' := by
  have hpr := fun (V : World) (hV : Below w.heap.size w V) => pair74 (h1.below hV) (h2.below hV)
  obtain ⟨r, hr⟩ : ∃ r, pairE d1 os1 rs1 d2 os2 rs2 = r := ⟨_, rfl⟩
  rw [hr] at hpr hE ⊢
  have hne : (r != 0) = true := by simp [hE]
  obtain ⟨a1, b1, c1, e1, rfl, _⟩ := h1
  obtain ⟨a2, b2, c2, e2, rfl, _⟩ := h2
  obtain ⟨X, hX⟩ : ∃ X, w.heap.size = X := ⟨_, rfl⟩
  obtain ⟨W1, hW1⟩ : ∃ W1, ((w.alloc (.cells #[.int .i64 d1, .slice a1 os1.length b1, .slice c1 rs1.length e1] 25)).alloc (.cells #[.int .i64 d2, .slice a2 os2.length b2, .slice c2 rs2.length e2] 25)).alloc (.cells #[.int .i64 0, .slice none 0 0, .slice none 0 0] 25) = W1 := ⟨_, rfl⟩
  have hsz : W1.heap.size = X + 3 := by rw [← hW1]; simp [hX]
  have hwW : Below w.heap.size w W1 := hW1 ▸ alloc_b (alloc_b (alloc_b (Below.refl _ _) _) _) _
  have k0 : W1.heap[X]? = some (.cells #[.int .i64 d1, .slice a1 os1.length b1, .slice c1 rs1.length e1] 25) := by
    rw [← hW1]
    exact ((alloc_b (Below.refl _ _) _).block X (by simp; omega)).trans (((alloc_b (Below.refl _ _) _).block X (by simp; omega)).trans (box_al25 hX _ _ _))
  have k1 : W1.heap[X + 1]? = some (.cells #[.int .i64 d2, .slice a2 os2.length b2, .slice c2 rs2.length e2] 25) := by
    rw [← hW1]
    exact ((alloc_b (Below.refl _ _) _).block (X + 1) (by simp; omega)).trans (box_al25 (by simp [hX]) _ _ _)
  have k2 : W1.heap[X + 1 + 1]? = some (.cells #[.int .i64 0, .slice none 0 0, .slice none 0 0] 25) := by
    rw [← hW1]
    exact box_al25 (by simp [hX]) _ _ _
  obtain ⟨x0, x1, x2, _⟩ := box_cells k0
  obtain ⟨y0, y1, y2, _⟩ := box_cells k1
  have HB := Lib.hid (And.intro hpr (And.intro k2 (And.intro hsz (And.intro hwW (And.intro hX hr)))))
  clear hpr k0 k1 k2 hsz hwW hr hE
  go_enter Tryz.func24, Tryz.ntmps24
  try rw [hX]
  go_wp2_with (go_at_call 74; (with_reducible refine (HB.out.1 _ HB.out.2.2.2.1).mono ?_); rintro e0 w2 ⟨rfl, k1⟩; have h9 := (k1.block (X + 1 + 1) (by rw [HB.out.2.2.1]; omega)).trans HB.out.2.1; obtain ⟨r0, r1, r2, r3, r4, r5⟩ := box_cells h9; have H2 := Lib.hid (And.intro k1 h9); clear k1 h9)
  have hfin : (set3 w2 (X + 1 + 1) (.int .i64 0) (.slice none 0 0) (.slice none 0 0)).heap[X + 1 + 1]? = some (.cells #[.int .i64 0, .slice none 0 0, .slice none 0 0] 25) := set3_box H2.out.2
  obtain ⟨V, hV⟩ : ∃ V, set3 w2 (X + 1 + 1) (.int .i64 0) (.slice none 0 0) (.slice none 0 0) = V := ⟨_, rfl⟩
  have hKp : Kept w2 V [X + 1 + 1] := hV ▸ set3_kept (by simp)
  rw [hV] at hfin
  unfold set3 at hV
  rw [hV]
  obtain ⟨f0, f1, f2, _⟩ := box_cells hfin
  refine bodyPost_ret (v := .tuple #[.agg #[.int .i64 0, .slice none 0 0, .slice none 0 0], .int .i64 r]) (by simp [results, Tryz.results24, go_sem, f0, f1, f2]) rfl ?_
  refine ⟨rfl, ?_⟩
  have h1 := below_trans HB.out.2.2.2.1 H2.out.1
  rw [HB.out.2.2.2.2.1] at h1
  have h2 := h1.size
  exact h1.trans (hKp.below1 (by have := H2.out.1.size; rw [HB.out.2.2.1] at this; omega) (by omega))
end Go.Proofs.YtbejhkojdiadaaaGreat
namespace Go.Proofs.YtbejhkojdiadaaaGreat
open Go.RowKit PlainPm
def lexLt {n : Nat} (x y : Pm n) : Prop := ∃ i, i < n ∧ (∀ j, j < i → x.at j = y.at j) ∧ x.at i < y.at i
set_option maxRecDepth 100000 in
set_option maxHeartbeats 2000000 in
theorem less135 {n : Nat} (hn : n ≤ 64) {w : World} {v v' : Value} {x y : Pm n} (hx : PmV w [] v x) (hy : PmV w [] v' y) :
    Calls Tryz.prog 135 #[v, v'] w fun e w' => BoolIs e (lexLt x y) ∧ Below w.heap.size w w' := by
  obtain ⟨xb, xo, xc, rfl, _, xl, hxc⟩ := hx
  obtain ⟨yb, yo, yc, rfl, _, yl, hyc⟩ := hy
  have H := Lib.hid (And.intro xl (And.intro hxc (And.intro yl hyc)))
  clear xl hxc yl hyc
  go_enter Tryz.func135, Tryz.ntmps135
  go_wp2_with fail
  go_loopw [4, 5] (fun _ i wr => ∃ (k : Nat), k ≤ n ∧ i = .int .i64 (k : Int) ∧ Below w.heap.size w wr ∧ ∀ j, j < k → x.at j = y.at j) (fun _ i _ => n - (intOf i).toNat)
  case atStart => exact ⟨0, by omega, rfl, Below.refl _ _, fun j hj => by omega⟩
  case round =>
    obtain ⟨k, hk, rfl, hb, hno⟩ := hrel
    by_cases hkn : k < n
    · have c1 := (hb.cell (p := ⟨xb, xo + k, none⟩) H.out.1).trans (H.out.2.1 k hkn)
      have c2 := (hb.cell (p := ⟨yb, yo + k, none⟩) H.out.2.2.1).trans (H.out.2.2.2 k hkn)
      obtain ⟨a, ha⟩ : ∃ a, x.at k = a := ⟨_, rfl⟩
      obtain ⟨b, hb'⟩ : ∃ b, y.at k = b := ⟨_, rfl⟩
      rw [ha] at c1
      rw [hb'] at c2
      have HC := Lib.hid (And.intro hb (And.intro hno (And.intro ha hb')))
      have hk1 : (k : Int) < n := by omega
      clear hb hno ha hb'
      by_cases hab : a = b
      · subst hab
        have g1 : ((a : Int) != (a : Int)) = false := by simp
        go_wp2_with fail
        go_quiet (fail)
        go_wp2_with fail
        refine ⟨⟨k + 1, by omega, by go_num, below_trans HC.out.1 (below_self_drewN _ _), fun j hj => ?_⟩, by simp [intOf]; omega⟩
        by_cases e : j = k
        · subst e; rw [HC.out.2.2.1, HC.out.2.2.2]
        · exact HC.out.2.1 j (by omega)
      · have g1 : ((a : Int) != (b : Int)) = true := by simp; omega
        have Hab := Lib.hid hab
        clear hab
        go_wp2_with fail
        go_quiet (fail)
        go_wp2_with fail
        go_quiet (fail)
        go_wp2_with fail
        refine bodyPost_ret (v := .bool (decide ((a : Int) < b))) (by simp [results, Tryz.results135, go_sem]) rfl ?_
        refine ⟨⟨_, rfl, ?_⟩, below_trans HC.out.1 (Below.trans (below_self_drewN _ _) (below_self_drewN _ _))⟩
        rw [decide_eq_true_iff]
        constructor
        · intro h
          exact ⟨k, hkn, HC.out.2.1, by rw [HC.out.2.2.1, HC.out.2.2.2]; omega⟩
        · rintro ⟨i, hi, h1, h2⟩
          rcases Nat.lt_trichotomy i k with h3 | h3 | h3
          · have := HC.out.2.1 i h3; omega
          · subst h3; rw [HC.out.2.2.1, HC.out.2.2.2] at h2; omega
          · have := h1 k h3; rw [HC.out.2.2.1, HC.out.2.2.2] at this; exact absurd this Hab.out
    · obtain rfl : k = n := by omega
      have hk1 : ¬ (k : Int) < k := by omega
      have HC := Lib.hid (And.intro hb hno)
      clear hb hno
      go_wp2_with fail
      refine bodyPost_ret (v := .bool false) (by simp [results, Tryz.results135, go_sem]) rfl ?_
      refine ⟨BoolIs.no ?_, HC.out.1⟩
      rintro ⟨i, hi, h1, h2⟩
      have := HC.out.2 i hi
      omega
end Go.Proofs.YtbejhkojdiadaaaGreat
namespace Go.Proofs.YtbejhkojdiadaaaGreat
open Go.RowKit PlainPm
section
variable {n : Nat}
theorem lexLt_irrefl (x : Pm n) : ¬ lexLt x x := fun ⟨i, _, _, h⟩ => by omega
theorem lexLt_trans {x y z : Pm n} (h : lexLt x y) (k : lexLt y z) : lexLt x z := by
  obtain ⟨i, hi, h1, h2⟩ := h
  obtain ⟨j, hj, k1, k2⟩ := k
  rcases Nat.lt_trichotomy i j with h | h | h
  · exact ⟨i, hi, fun q hq => (h1 q hq).trans (k1 q (by omega)), by rw [← k1 i h]; exact h2⟩
  · subst h; exact ⟨i, hi, fun q hq => (h1 q hq).trans (k1 q hq), by omega⟩
  · exact ⟨j, hj, fun q hq => (h1 q (by omega)).trans (k1 q hq), by rw [h1 j h]; exact k2⟩
theorem place_mem {L : List (Pm n)} (hs : L.Pairwise lexLt) {x : Pm n} {lo : Nat} (h1 : ∀ j y, j < lo → L[j]? = some y → lexLt y x) (h2 : ∀ j y, lo ≤ j → L[j]? = some y → ¬ lexLt y x) : x ∈ L ↔ L[lo]? = some x := by
  constructor
  · intro hx
    obtain ⟨j, hj⟩ := List.mem_iff_getElem?.1 hx
    rcases Nat.lt_trichotomy j lo with h | h | h
    · exact absurd (h1 j x h hj) (lexLt_irrefl x)
    · rw [← h]; exact hj
    · have hjl := (List.getElem?_eq_some_iff.1 hj).1
      have hlo : L[lo]? = some L[lo] := List.getElem?_eq_getElem (by omega)
      have := List.pairwise_iff_getElem.1 hs lo j (by omega) hjl h
      rw [(List.getElem?_eq_some_iff.1 hj).2] at this
      exact absurd this (h2 lo _ (Nat.le_refl _) hlo)
  · exact List.mem_of_getElem?
set_option maxRecDepth 100000 in
set_option maxHeartbeats 4000000 in
theorem place100 (hn : n ≤ 64) {w : World} {v vx : Value} {L : List (Pm n)} {x : Pm n} (hl : L.length ≤ 1000000) (hs : L.Pairwise lexLt) (hv : PmsV w [] v L) (hx : PmV w [] vx x) :
    Calls Tryz.prog 100 #[v, vx] w fun e w' => ∃ (lo : Nat) (t : Bool), e = .returned (.tuple #[.int .i64 (lo : Int), .bool t]) ∧ lo ≤ L.length ∧ (t = true ↔ x ∈ L) ∧ (x ∈ L ↔ L[lo]? = some x) ∧ Below w.heap.size w w' := by
  obtain ⟨va, vc, vs, rfl, hr, hp⟩ := hv
  obtain ⟨m, hm⟩ : ∃ m, L.length = m := ⟨_, rfl⟩
  obtain ⟨xb, xo, xc, rfl, _⟩ := id hx
  have H := Lib.hid (And.intro hr (And.intro hp (And.intro hm (And.intro hx hs))))
  rw [hm] at hl ⊢
  clear hr hp hm hx hs
  go_enter Tryz.func100, Tryz.ntmps100
  go_wp2_with fail
  go_loopw [6, 7] (fun a b wr => ∃ lo hi : Nat, a = .int .i64 (lo : Int) ∧ b = .int .i64 (hi : Int) ∧ lo ≤ hi ∧ hi ≤ m ∧ Below w.heap.size w wr ∧ (∀ j y, j < lo → L[j]? = some y → lexLt y x) ∧ (∀ j y, hi ≤ j → L[j]? = some y → ¬ lexLt y x)) (fun a b _ => (intOf b).toNat - (intOf a).toNat)
  case atStart => exact ⟨0, m, rfl, rfl, Nat.zero_le _, Nat.le_refl _, Below.refl _ _, fun j y hj => by omega, fun j y hj hy => by have h1 := (List.getElem?_eq_some_iff.1 hy).1; have h2 := H.out.2.2.1; omega⟩
  case round =>
    obtain ⟨lo, hi, rfl, rfl, hlh, hhm, hb, h1, h2⟩ := hrel
    by_cases hlt : lo < hi
    · obtain ⟨mid, hmid⟩ : ∃ mid, (lo + hi) / 2 = mid := ⟨_, rfl⟩
      have hm1 : lo ≤ mid := by omega
      have hm2 : mid < hi := by omega
      obtain ⟨y, hy⟩ : ∃ y, L[mid]? = some y := ⟨_, List.getElem?_eq_getElem (by rw [H.out.2.2.1]; omega)⟩
      obtain ⟨u, hu, hpm⟩ := H.out.2.1.2 mid y hy
      obtain ⟨rb, ro, hae, _, hrc⟩ := (H.out.1.below hb).2 mid u hu
      subst hae
      have hpy := hpm.below hb
      obtain ⟨yb, yo, yc, rfl, _⟩ := id hpy
      have h135 := less135 hn hpy (H.out.2.2.2.1.below hb)
      have hlt1 : (lo : Int) < hi := by omega
      have hq : (((lo : Int) + (hi : Int)) / 2) = (mid : Int) := by omega
      have hq' : (((lo : Int) + (hi : Int)).tdiv 2) = (mid : Int) := by rw [Int.tdiv_eq_ediv_of_nonneg (by omega)]; omega
      have HC := Lib.hid (And.intro hb (And.intro h1 (And.intro h2 (And.intro hy h135))))
      clear hb h1 h2 hy h135 hpm hpy hu
      have hpw : ∀ i j u v, i < j → L[i]? = some u → L[j]? = some v → lexLt u v := fun i j u v hij hu hv => by
        obtain ⟨hi', rfl⟩ := List.getElem?_eq_some_iff.1 hu
        obtain ⟨hj', rfl⟩ := List.getElem?_eq_some_iff.1 hv
        exact List.pairwise_iff_getElem.1 H.out.2.2.2.2 i j hi' hj' hij
      have HW := Lib.hid hpw
      clear hpw
      by_cases hx : lexLt y x
      · have HG := Lib.hid hx
        clear hx
        go_wp2_with (go_at_call 135; (with_reducible refine HC.out.2.2.2.2.mono ?_); rintro e2 w2 ⟨h1, k⟩; have h2 := h1.true_ HG.out; subst h2; have H2 := Lib.hid k; clear h1 k)
        refine ⟨⟨mid + 1, hi, by go_num, rfl, by omega, hhm, below_trans HC.out.1 H2.out, fun j z hj hz => ?_, HC.out.2.2.1⟩, by simp [intOf]; omega⟩
        rcases Nat.lt_or_ge j mid with h | h
        · exact lexLt_trans (HW.out j mid z y h hz HC.out.2.2.2.1) HG.out
        · have : j = mid := by omega
          subst this
          rw [HC.out.2.2.2.1] at hz; cases hz; exact HG.out
      · have HG := Lib.hid hx
        clear hx
        go_wp2_with (go_at_call 135; (with_reducible refine HC.out.2.2.2.2.mono ?_); rintro e2 w2 ⟨h1, k⟩; have h2 := h1.false_ HG.out; subst h2; have H2 := Lib.hid k; clear h1 k)
        refine ⟨⟨lo, mid, rfl, rfl, hm1, by omega, below_trans HC.out.1 H2.out, HC.out.2.1, fun j z hj hz hzx => ?_⟩, by simp [intOf]; omega⟩
        rcases Nat.lt_or_ge mid j with h | h
        · exact HG.out (lexLt_trans (HW.out mid j y z h HC.out.2.2.2.1 hz) hzx)
        · have : j = mid := by omega
          subst this
          rw [HC.out.2.2.2.1] at hz; cases hz; exact HG.out hzx
    · obtain rfl : lo = hi := by omega
      have hlt1 : ¬ (lo : Int) < lo := by omega
      have hpm := place_mem H.out.2.2.2.2 h1 h2
      by_cases hlm : lo < m
      · obtain ⟨y, hy⟩ : ∃ y, L[lo]? = some y := ⟨_, List.getElem?_eq_getElem (by rw [H.out.2.2.1]; exact hlm)⟩
        obtain ⟨u, hu, hpy0⟩ := H.out.2.1.2 lo y hy
        obtain ⟨rb, ro, hae, _, hrc⟩ := (H.out.1.below hb).2 lo u hu
        subst hae
        obtain ⟨ya, yc, rfl, hyi⟩ := (hpy0.below hb).ints (by omega)
        have hyl := y.ok.1
        have hxl := x.ok.1
        obtain ⟨xa, xc', hxe, hxi⟩ := (H.out.2.2.2.1.below hb).ints (by omega)
        rw [hxl] at hxe
        simp only [Value.slice.injEq] at hxe
        obtain ⟨rfl, -, rfl⟩ := hxe
        have h20 := same20 _ _ yc xc _ _ wr hyi hxi
        rw [hyl, hxl] at h20
        rw [hyl] at hrc
        have hd : decide (y.l = x.l) = decide (y = x) := by
          by_cases e : y = x
          · rw [e]; simp
          · rw [decide_eq_false e]; simp; exact fun h => e (Pm.ext' h)
        rw [hd] at h20
        have hk1 : (lo : Int) < m := by omega
        have HC := Lib.hid (And.intro hb (And.intro hpm (And.intro hy h20)))
        clear hb hpm hy h20 h1 h2 hu hpy0 hyi hxi hyl hxl hd
        go_wp2_with (go_at_call 20; (with_reducible refine HC.out.2.2.2.mono ?_); rintro e2 w2 ⟨rfl, q, rfl⟩)
        refine bodyPost_ret (v := .tuple #[.int .i64 (lo : Int), .bool (decide (y = x))]) (by simp [results, Tryz.results100, go_sem]) rfl ?_
        refine ⟨lo, _, rfl, hhm, ?_, HC.out.2.1, below_trans HC.out.1 (below_self_drewN _ _)⟩
        rw [HC.out.2.1, HC.out.2.2.1]; simp
      · have hk1 : ¬ (lo : Int) < m := by omega
        have HC := Lib.hid (And.intro hb hpm)
        clear hb hpm h1 h2
        go_wp2_with fail
        refine bodyPost_ret (v := .tuple #[.int .i64 (lo : Int), .bool false]) (by simp [results, Tryz.results100, go_sem]) rfl ?_
        have hno : ¬ x ∈ L := by rw [HC.out.2, List.getElem?_eq_none (by rw [H.out.2.2.1]; omega)]; simp
        exact ⟨lo, .inl ⟨rfl, hhm, hno, HC.out.2, HC.out.1⟩⟩
theorem index43 (hn : n ≤ 64) {w : World} {v vx : Value} {L : List (Pm n)} {x : Pm n} (hl : L.length ≤ 1000000) (hs : L.Pairwise lexLt) (hv : PmsV w [] v L) (hx : PmV w [] vx x) :
    Calls Tryz.prog 43 #[v, vx] w fun e w' => ∃ i : Int, e = .returned (.int .i64 i) ∧ ((x ∈ L ∧ ∃ k : Nat, i = (k : Int) ∧ L[k]? = some x) ∨ (¬ x ∈ L ∧ i = -1)) ∧ Below w.heap.size w w' := by
  have h100 := place100 hn hl hs hv hx
  obtain ⟨va, vc, vs, rfl, hr, hp⟩ := hv
  obtain ⟨xb, xo, xc, rfl, _⟩ := id hx
  have H := Lib.hid h100
  clear h100 hr hp hx
  by_cases hm : x ∈ L
  · have HG := Lib.hid hm
    clear hm
    go_enter Tryz.func43, Tryz.ntmps43
    go_wp2_with (go_at_call 100; (with_reducible refine H.out.mono ?_); rintro e2 w2 ⟨lo, t, rfl, k1, k2, k3, k4⟩; have ht := k2.2 HG.out; subst ht; have H2 := Lib.hid (And.intro k3 k4); clear k1 k2 k3 k4)
    go_ret
    exact ⟨_, rfl, .inl ⟨HG.out, lo, rfl, H2.out.1.1 HG.out⟩, H2.out.2⟩
  · have HG := Lib.hid hm
    clear hm
    go_enter Tryz.func43, Tryz.ntmps43
    go_wp2_with (go_at_call 100; (with_reducible refine H.out.mono ?_); rintro e2 w2 ⟨lo, t, rfl, k1, k2, k3, k4⟩; have ht : t = false := by cases t with | false => rfl | true => exact absurd (k2.1 rfl) HG.out
                 subst ht; have H2 := Lib.hid k4; clear k1 k2 k3 k4)
    go_ret
    exact ⟨_, rfl, .inr ⟨HG.out, rfl⟩, H2.out⟩
end
end Go.Proofs.YtbejhkojdiadaaaGreat
namespace Go.Proofs.YtbejhkojdiadaaaGreat
open Go.RowKit PlainPm
section
variable {n : Nat}
noncomputable def keepL (L B l : List (Pm n)) : List (Pm n) := by
  classical exact l.filter fun x => decide (∀ y ∈ B, cj x y ∈ L)
theorem mem_keepL {L B l : List (Pm n)} {x : Pm n} : x ∈ keepL L B l ↔ x ∈ l ∧ ∀ y ∈ B, cj x y ∈ L := by
  unfold keepL; rw [List.mem_filter, decide_eq_true_iff]
theorem keepL_sub (L B l : List (Pm n)) : (keepL L B l).Sublist l := by unfold keepL; exact List.filter_sublist
theorem keepL_snoc {L B l : List (Pm n)} {x : Pm n} (h : ∀ y ∈ B, cj x y ∈ L) : keepL L B (l ++ [x]) = keepL L B l ++ [x] := by
  unfold keepL; rw [List.filter_append, List.filter_cons_of_pos (by rw [decide_eq_true_iff]; exact h), List.filter_nil]
theorem keepL_skip {L B l : List (Pm n)} {x : Pm n} (h : ∃ y ∈ B, ¬ cj x y ∈ L) : keepL L B (l ++ [x]) = keepL L B l := by
  unfold keepL
  rw [List.filter_append, List.filter_cons_of_neg, List.filter_nil, List.append_nil]
  rw [decide_eq_true_iff]
  obtain ⟨y, h1, h2⟩ := h
  exact fun hh => h2 (hh y h1)
theorem keepL_nil (L B : List (Pm n)) : keepL L B [] = [] := by unfold keepL; rfl
def lenS : Value → Nat
  | .slice _ l _ => l
  | _ => 0
structure CoL (n : Nat) (G1 G2 : Pm n → Prop) (w4 wr : World) (v : Value) (L : List (Pm n)) (us : List Value) (a : Option Addr) (c : Nat) : Prop where
  e : v = .slice a L.length c
  row : Row wr a us
  pml : PmL w4 [] us L
  srt : L.Pairwise lexLt
  len : L.length ≤ 5040
  co : CoA G1 G2 (· ∈ L)
  bel : Below w4.heap.size w4 wr
theorem CoL.pms {G1 G2 : Pm n → Prop} {w4 wr : World} {v : Value} {L : List (Pm n)} {us : List Value} {a : Option Addr} {c : Nat} (h : CoL n G1 G2 w4 wr v L us a c) : PmsV wr [] (.slice a L.length c) L := ⟨a, c, us, rfl, h.row, h.pml.below h.bel⟩
set_option maxRecDepth 100000 in
set_option maxHeartbeats 4000000 in
theorem core30 (hn' : 0 < n ∧ n ≤ 8) {w : World} {v1 v2 : Value} {G1 G2 : Pm n → Prop} (g1 : IsG G1) (g2 : IsG G2) (h1 : GrG w v1 G1) (h2 : GrG w v2 G2) (hsz : ∀ O R, ChG G1 O R → szF O n 0 ≤ 5040) :
    Calls Tryz.prog 30 #[v1, v2] w fun e w' => ∃ a c b d, e = .returned (.tuple #[.agg #[.int .i64 (n : Int), .slice a n c, .slice b n d], .int .i64 0]) ∧ Below w.heap.size w w' ∧
      ∀ S, (∀ m ∈ S, m < w.heap.size) → GrS w' (.agg #[.int .i64 (n : Int), .slice a n c, .slice b n d]) (CoG G1 G2) S := by
  have hn : 0 < n ∧ n ≤ 64 := ⟨hn'.1, by omega⟩
  obtain ⟨i27, hi27, hz27, hs27, hb27⟩ := info_parts Tryz.info27
  have I27 := Lib.hid (And.intro hi27 (And.intro hz27 (And.intro hs27 hb27)))
  clear hi27 hz27 hs27 hb27
  obtain ⟨os1, rs1, os2, rs2, p1, p2, p3⟩ := GrG.pair0 hn g1 g2 h1 h2
  have hpr := fun (V : World) (hV : Below w.heap.size w V) => pair74 (p1.below hV) (p2.below hV)
  rw [p3] at hpr
  have hls : ∀ V, Below w.heap.size w V → ∃ O R, ChG G1 O R ∧ Calls Tryz.prog 87 #[v1] V fun e w' => ∃ v us, e = .returned (.tuple #[v, .int .i64 0]) ∧ Own w' V.heap.size v 27 us ∧ PmL w' v.ownBlock.toList us (elsF O R n 0 (PlainPm.one n)) ∧ Below V.heap.size V w' := fun V hV => by
    obtain ⟨O, R, hc, hl⟩ := list87 hn' g1 (h1.below hV)
    exact ⟨O, R, hc, hl (hsz O R hc)⟩
  obtain ⟨_, _, ab, ao, c, bb, bo, e, hv1, _⟩ := h1.lev g1 ⟨hn.1, hn.2⟩
  obtain ⟨_, _, ab', ao', c', bb', bo', e', hv2, _⟩ := h2.lev g2 ⟨hn.1, hn.2⟩
  subst hv1
  subst hv2
  obtain ⟨T2, t2, ch2, _⟩ := h2.ch
  have l2 : ∀ V, Below w.heap.size w V → Calls Tryz.prog 46 #[cv n ab' ao' c' bb' bo' e'] V fun e w' => ∃ v us, e = .returned v ∧ Own w' V.heap.size v 27 us ∧ PmL w [] us (PlainPm.agen T2) ∧ us.length ≤ 4096 ∧ Below V.heap.size V w' := fun V hV => (strong46g hn g2 t2 ch2 hV).mono (by
    rintro e w' ⟨v, us, k0, k1, k2, k3, k4⟩
    exact ⟨v, us, k0, k1, pml_rv hn.1 k2, Nat.le_trans k3 (Nat.mul_le_mul hn.2 hn.2), k4⟩)
  have hC2 := agen_grp g2 t2
  obtain ⟨B, hB⟩ : ∃ B, PlainPm.agen T2 = B := ⟨_, rfl⟩
  rw [hB] at l2 hC2
  obtain ⟨X, hX⟩ : ∃ X, w.heap.size = X := ⟨_, rfl⟩
  obtain ⟨W1, hW1⟩ : ∃ W1, ((w.alloc (.cells #[.int .i64 (n : Int), .slice (some ⟨ab, ao, none⟩) n c, .slice (some ⟨bb, bo, none⟩) n e] 25)).alloc (.cells #[.int .i64 (n : Int), .slice (some ⟨ab', ao', none⟩) n c', .slice (some ⟨bb', bo', none⟩) n e'] 25)).alloc (.cells #[.int .i64 0, .slice none 0 0, .slice none 0 0] 25) = W1 := ⟨_, rfl⟩
  have hsz1 : W1.heap.size = X + 3 := by rw [← hW1]; simp [hX]
  have hwW : Below w.heap.size w W1 := hW1 ▸ alloc_b (alloc_b (alloc_b (Below.refl _ _) _) _) _
  have k0 : W1.heap[X]? = some (.cells #[.int .i64 (n : Int), .slice (some ⟨ab, ao, none⟩) n c, .slice (some ⟨bb, bo, none⟩) n e] 25) := by
    rw [← hW1]
    exact ((alloc_b (Below.refl _ _) _).block X (by simp; omega)).trans (((alloc_b (Below.refl _ _) _).block X (by simp; omega)).trans (box_al25 hX _ _ _))
  have k1 : W1.heap[X + 1]? = some (.cells #[.int .i64 (n : Int), .slice (some ⟨ab', ao', none⟩) n c', .slice (some ⟨bb', bo', none⟩) n e'] 25) := by
    rw [← hW1]
    exact ((alloc_b (Below.refl _ _) _).block (X + 1) (by simp; omega)).trans (box_al25 (by simp [hX]) _ _ _)
  have k2 : W1.heap[X + 2]? = some (.cells #[.int .i64 0, .slice none 0 0, .slice none 0 0] 25) := by
    rw [← hW1]
    exact box_al25 (by simp [hX]) _ _ _
  obtain ⟨x0, x1, x2, _⟩ := box_cells k0
  obtain ⟨y0, y1, y2, _⟩ := box_cells k1
  have HB := Lib.hid (And.intro k0 (And.intro k1 (And.intro k2 (And.intro hsz1 (And.intro hwW hX)))))
  have hx0 := And.intro x0 (And.intro x1 (And.intro x2 (And.intro y0 (And.intro y1 (And.intro y2 (Below.refl W1.heap.size W1))))))
  have HC := Lib.hid (And.intro hpr (And.intro hls (And.intro l2 hC2)))
  clear hpr hls l2 hC2 k0 k1 k2 hsz1 hwW h1 h2 p1 p2 p3 t2 hB
  go_enter Tryz.func30, Tryz.ntmps30
  try rw [hX]
  go_wp2_with (first
    | (go_at_call 46; (with_reducible refine (HC.out.2.2.1 _ (below_trans HB.out.2.2.2.2.1 H3.out.2.2.2.2)).mono ?_)
       rintro e4 w4 ⟨v4, us4, rfl, k1, k2, k3, k4⟩
       obtain ⟨a4, c4, rfl, k5⟩ := k1.row (by unfold maxLen; omega)
       have H4 := Lib.hid (And.intro k1 (And.intro k2 (And.intro k3 (And.intro k4 k5))))
       clear k1 k2 k3 k4 k5)
    | (go_at_call 87; obtain ⟨O, R, hch, h87⟩ := HC.out.2.1 _ (below_trans HB.out.2.2.2.2.1 H2.out); (with_reducible refine h87.mono ?_)
       clear h87
       rintro e3 w3 ⟨v3, us3, rfl, k1, k2, k3⟩
       have hl3 : us3.length ≤ 5040 := by rw [k2.1, els_len hch (Nat.zero_add n)]; exact hsz O R hch
       obtain ⟨a3, c3, rfl, k5⟩ := k1.row (by unfold maxLen; omega)
       have b3 : Below W1.heap.size W1 w3 := below_trans H2.out k3
       obtain ⟨i0, i1, i2, i3, i4, i5, _⟩ := keep6n hx0 b3
       have H3 := Lib.hid (And.intro hch (And.intro k2 (And.intro k5 (And.intro hl3 b3))))
       clear k1 k2 k3 k5 hch hl3 b3)
    | (go_at_call 74; (with_reducible refine (HC.out.1 _ HB.out.2.2.2.2.1).mono ?_); rintro e2 w2 ⟨rfl, k⟩
       obtain ⟨z0, z1, z2, z3, z4, z5, _⟩ := keep6n hx0 k
       have H2 := Lib.hid k
       clear k))
  obtain ⟨L0, hL0⟩ : ∃ L, elsF O R n 0 (PlainPm.one n) = L := ⟨_, rfl⟩
  have hCoL : CoL n G1 G2 w4 w4 (.slice a3 us3.length c3) L0 us3 a3 c3 := by
    have h1 := H3.out.2.1
    rw [hL0] at h1
    refine ⟨by rw [h1.1], H3.out.2.2.1.below H4.out.2.2.2.1, h1.weakM.below H4.out.2.2.2.1, ?_, by rw [← h1.1]; exact H3.out.2.2.2.1, ⟨fun x hx => ?_, fun x hx => ?_⟩, Below.refl _ _⟩
    · rw [← hL0]
      exact (els_lt H3.out.1 (Nat.zero_add n) g1.one).imp fun h => h
    · rw [← hL0] at hx
      exact (mem_all H3.out.1).1 hx
    · rw [← hL0]
      exact (mem_all H3.out.1).2 (CoG.sub g2 hx)
  have b14 : Below W1.heap.size W1 w4 := below_trans H3.out.2.2.2.2 H4.out.2.2.2.1
  obtain ⟨j0, j1, j2, j3, j4, j5, _⟩ := keep6n hx0 b14
  obtain ⟨NB, hNB⟩ : ∃ N, us4.length = N := ⟨_, rfl⟩
  have hBN : B.length = NB := H4.out.2.1.1.symm.trans hNB
  have hNB6 : NB ≤ 4096 := by rw [← hNB]; exact H4.out.2.2.1
  have hpB : PmsV w4 [] (.slice a4 NB c4) B := by
    have := pms_ownB H4.out.1 (H4.out.2.1.below (below_trans HB.out.2.2.2.2.1 b14)) (by omega)
    rwa [hNB] at this
  rw [hNB]
  have HD := Lib.hid (And.intro hCoL (And.intro b14 (And.intro hBN hpB)))
  clear hCoL b14 hBN hpB hNB
  go_loopw [7, 10, 11, 12, 13] (fun v _ _ _ _ wr => ∃ (L : List (Pm n)) (us : List Value) (a : Option Addr) (c : Nat), CoL n G1 G2 w4 wr v L us a c) (fun v _ _ _ _ _ => lenS v)
  case atStart => exact ⟨L0, us3, a3, c3, HD.out.1⟩
  case round =>
    obtain ⟨L, us, a, c0, hco⟩ := hrel
    obtain rfl := hco.e
    obtain ⟨wo, rfl⟩ : ∃ wo, wo = wr := ⟨_, rfl⟩
    obtain ⟨N, hN⟩ : ∃ N, L.length = N := ⟨_, rfl⟩
    have hN5 : N ≤ 5040 := by rw [← hN]; exact hco.len
    have hpms := hco.pms
    have hul := hco.pml.1
    rw [hN] at hpms hul ⊢
    have HL := Lib.hid (And.intro hco (And.intro hN (And.intro hpms hul)))
    clear hco hN hpms hul
    go_wp2_with fail
    go_loopw [10, 11, 12, 13] (fun l i _ _ wi => ∃ (k : Nat) (ms : List Value), k ≤ N ∧ i = .int .i64 (k : Int) ∧ Own wi wo.heap.size l 27 ms ∧ PmL w4 [] ms (keepL L B (L.take k)) ∧ Below wo.heap.size wo wi) (fun _ i _ _ _ => N - (intOf i).toNat)
    case atStart => exact ⟨0, [], Nat.zero_le _, rfl, Own.nil _ _ _, by rw [List.take_zero, keepL_nil]; exact ⟨rfl, fun i x hx => by simp at hx⟩, Below.refl _ _⟩
    case round =>
      obtain ⟨k, ms, hk, rfl, hown, hpl, hbi⟩ := hrel
      obtain ⟨wp, rfl⟩ : ∃ wp, wp = wr := ⟨_, rfl⟩
      by_cases hkN : k < N
      · have hk1 : (k : Int) < N := by omega
        obtain ⟨x, hx⟩ : ∃ x, L[k]? = some x := ⟨_, List.getElem?_eq_getElem (by rw [HL.out.2.1]; exact hkN)⟩
        obtain ⟨u, hu, hpu⟩ := HL.out.1.pml.2 k x hx
        obtain ⟨g6, o6, rfl, _, hc6⟩ := HL.out.1.row.2 k u hu
        have hpo := hpu.below HL.out.1.bel
        obtain ⟨b6b, b6o, b6c, rfl, _⟩ := id hpu
        have HK := Lib.hid (And.intro hown (And.intro hpl (And.intro hbi (And.intro hx (And.intro hpu hpo)))))
        clear hown hpl hx hpu hpo hu
        have hc6p := (hbi.cell (block_lt_of_cell hc6)).trans hc6
        clear hbi
        go_wp2_with fail
        go_loopw [12, 13] (fun s i wq => ∃ (q : Nat) (t : Bool), q ≤ NB ∧ s = .bool t ∧ i = .int .i64 (q : Int) ∧ Below wp.heap.size wp wq ∧ (t = true → ∀ j, j < q → ∀ y, B[j]? = some y → cj x y ∈ L) ∧ (t = false → ∃ y ∈ B, ¬ cj x y ∈ L)) (fun _ i _ => NB - (intOf i).toNat)
        case atStart => exact ⟨0, true, Nat.zero_le _, rfl, rfl, Below.refl _ _, fun _ j hj => by omega, fun h => by cases h⟩
        case round =>
          obtain ⟨q, t, hq, rfl, rfl, hbq, ht, hf⟩ := hrel
          have hboq : Below wo.heap.size wo wr := below_trans HK.out.2.2.1 hbq
          by_cases hq1 : t = true ∧ q < NB
          · obtain ⟨rfl, hqB⟩ := hq1
            have hq2 : (q : Int) < NB := by omega
            obtain ⟨y, hy⟩ : ∃ y, B[q]? = some y := ⟨_, List.getElem?_eq_getElem (by rw [HD.out.2.2.1]; exact hqB)⟩
            obtain ⟨_, _, ev5, hB63, hatB⟩ := pms_at HD.out.2.2.2
            rw [HD.out.2.2.1] at ev5
            simp only [Value.slice.injEq, true_and] at ev5
            obtain ⟨rfl, rfl⟩ := ev5
            obtain ⟨g7, o7, u7, rfl, hc7, hp7⟩ := hatB q y hy
            have hbw4 : Below w4.heap.size w4 wr := below_trans HL.out.1.bel hboq
            have hc7i := (hbw4.cell (block_lt_of_cell hc7)).trans hc7
            have hc6i := (hbq.cell (block_lt_of_cell hc6p)).trans hc6p
            obtain ⟨b7b, b7o, b7c, rfl, _⟩ := id hp7
            have h88 := fun (V : World) (hV : Below wr.heap.size wr V) => px88 hn (HK.out.2.2.2.2.2.below (below_trans hboq hV)) (hp7.below (below_trans hbw4 hV))
            have hz0 := And.intro hc6i (And.intro hc7i (Below.refl wr.heap.size wr))
            by_cases hm : cj x y ∈ L
            · have HY := Lib.hid (And.intro h88 (And.intro hbq (And.intro (ht rfl) (And.intro hy (And.intro hm hboq)))))
              clear h88 hbq ht hy hm hf hboq hp7 hbw4 hatB
              go_wp2_with fail
              go_region_held3 (fun V => V.cell? ⟨g6, o6 + k, none⟩ = some (.slice (some ⟨b6b, b6o, none⟩) n b6c) ∧ V.cell? ⟨g7, o7 + q, none⟩ = some (.slice (some ⟨b7b, b7o, none⟩) n b7c) ∧ Below wr.heap.size wr V)
                (first
                  | with_reducible assumption
                  | with_reducible exact hz0
                  | exact keep2c hz0 (below_drw (Below.refl _ _))
                  | exact keep2c hz0 (below_self_drewN _ _)
                  | exact keep2c hz0 b7
                  | exact keep2c hz0 b6
                  | fail)
                (first
                  | (go_at_call 43; (with_reducible refine (index43 hn.2 (by have := HL.out.1.len; omega) HL.out.1.srt (HL.out.2.2.1.below (below_trans HY.out.2.2.2.2.2 b6)) n6).mono ?_); rintro e7 w7 ⟨i7, rfl, ki, k2⟩
                     have hi7 : 0 ≤ i7 := by
                       rcases ki with ⟨_, m7, e9, _⟩ | ⟨h9, _⟩
                       · omega
                       · exact absurd HY.out.2.2.2.2.1 h9
                     have b7 : Below wr.heap.size wr w7 := below_trans b6 k2
                     clear ki k2)
                  | (go_at_call 88; (with_reducible refine (HY.out.1 _ (by first | exact Below.refl _ _ | exact below_drw (Below.refl _ _) | exact below_self_drewN _ _)).mono ?_); rintro e6 w6 ⟨v6, rfl, k1, k2⟩; have b6 : Below wr.heap.size wr w6 := below_trans (by first | exact Below.refl _ _ | exact below_drw (Below.refl _ _) | exact below_self_drewN _ _) k2; have n6 : PmV w6 [] v6 (cj x y) := k1.pm (by simp); clear k1 k2))
              go_wp2_with fail
              refine ⟨⟨q + 1, true, by omega, by simp [hi7], by go_num, below_trans HY.out.2.1 b7, fun _ j hj y' hy' => ?_, fun h => by cases h⟩, by simp [intOf]; omega⟩
              by_cases e9 : j = q
              · subst e9
                rw [HY.out.2.2.2.1] at hy'
                cases hy'
                exact HY.out.2.2.2.2.1
              · exact HY.out.2.2.1 j (by omega) y' hy'
            · have HY := Lib.hid (And.intro h88 (And.intro hbq (And.intro hy (And.intro hm hboq))))
              clear h88 hbq ht hy hm hf hboq hp7 hbw4 hatB
              go_wp2_with fail
              go_region_held3 (fun V => V.cell? ⟨g6, o6 + k, none⟩ = some (.slice (some ⟨b6b, b6o, none⟩) n b6c) ∧ V.cell? ⟨g7, o7 + q, none⟩ = some (.slice (some ⟨b7b, b7o, none⟩) n b7c) ∧ Below wr.heap.size wr V)
                (first
                  | with_reducible assumption
                  | with_reducible exact hz0
                  | exact keep2c hz0 (below_drw (Below.refl _ _))
                  | exact keep2c hz0 (below_self_drewN _ _)
                  | exact keep2c hz0 b7
                  | exact keep2c hz0 b6
                  | fail)
                (first
                  | (go_at_call 43; (with_reducible refine (index43 hn.2 (by have := HL.out.1.len; omega) HL.out.1.srt (HL.out.2.2.1.below (below_trans HY.out.2.2.2.2 b6)) n6).mono ?_); rintro e7 w7 ⟨i7, rfl, ki, k2⟩
                     have hi7 : i7 = -1 := by
                       rcases ki with ⟨h9, _⟩ | ⟨_, e9⟩
                       · exact absurd h9 HY.out.2.2.2.1
                       · exact e9
                     subst hi7
                     have b7 : Below wr.heap.size wr w7 := below_trans b6 k2
                     clear ki k2)
                  | (go_at_call 88; (with_reducible refine (HY.out.1 _ (by first | exact Below.refl _ _ | exact below_drw (Below.refl _ _) | exact below_self_drewN _ _)).mono ?_); rintro e6 w6 ⟨v6, rfl, k1, k2⟩; have b6 : Below wr.heap.size wr w6 := below_trans (by first | exact Below.refl _ _ | exact below_drw (Below.refl _ _) | exact below_self_drewN _ _) k2; have n6 : PmV w6 [] v6 (cj x y) := k1.pm (by simp); clear k1 k2))
              go_wp2_with fail
              exact ⟨⟨q + 1, false, by omega, by simp, by go_num, below_trans HY.out.2.1 b7, (fun h => by cases h), fun _ => ⟨y, List.mem_of_getElem? HY.out.2.2.1, HY.out.2.2.2.1⟩⟩, by simp [intOf]; omega⟩
          · cases t with
            | true =>
              have hqB : q = NB := Nat.le_antisymm hq (Nat.le_of_not_lt fun h => hq1 ⟨rfl, h⟩)
              subst hqB
              have hq2 : ¬ (q : Int) < q := by omega
              have hall : ∀ y ∈ B, cj x y ∈ L := fun y hy => by
                obtain ⟨i, hi⟩ := List.mem_iff_getElem?.1 hy
                exact ht rfl i (by have h1 := (List.getElem?_eq_some_iff.1 hi).1; have h2 := HD.out.2.2.1; omega) y hi
              have hown := HK.out.1.below hbq
              have hD : wo.heap.size ≤ wr.heap.size := hboq.size
              have hc6i := (hbq.cell (block_lt_of_cell hc6p)).trans hc6p
              have hml : ms.length < 1099511627776 := by
                have h1 := HK.out.2.1.1
                have h2 := (keepL_sub L B (L.take k)).length_le
                rw [List.length_take] at h2
                omega
              have HY := Lib.hid (And.intro hall (And.intro hown (And.intro hbq hboq)))
              clear hall hown hbq hboq ht hf hq1
              go_wp2_with (at_builtin; refine app1 rfl (.tmp 60) (.tmp 65) 44 27 rfl i27 (.slice none 0 0) 24 Tryz.underlying44 I27.out.1 I27.out.2.1 I27.out.2.2.1 I27.out.2.2.2 rfl (by omega) wo.heap.size (.slice (some ⟨b6b, b6o, none⟩) n b6c) _ ms rfl HY.out.2.1 rfl rfl hml hD ?_; intro v8 w8 k1 k2 k3; have H8 := Lib.hid (And.intro k1 (And.intro k2 k3)); clear k1 k2 k3)
              refine ⟨⟨k + 1, ms ++ [.slice (some ⟨b6b, b6o, none⟩) n b6c], by omega, by go_num, H8.out.1, ?_, ?_⟩, by simp [intOf]; omega⟩
              · rw [List.take_add_one, HK.out.2.2.2.1, Option.toList_some, keepL_snoc HY.out.1]
                exact HK.out.2.1.snoc HK.out.2.2.2.2.1
              · exact HY.out.2.2.2.grown H8.out.2.1 hD (fun g e => (HY.out.2.1.block_lt e).2)
            | false =>
              have HY := Lib.hid (And.intro (hf rfl) (And.intro hbq hboq))
              clear hbq hboq ht hf hq1
              go_wp2_with fail
              refine ⟨⟨k + 1, ms, by omega, by go_num, HK.out.1.below HY.out.2.1, ?_, HY.out.2.2⟩, by simp [intOf]; omega⟩
              rw [List.take_add_one, HK.out.2.2.2.1, Option.toList_some, keepL_skip HY.out.1]
              exact HK.out.2.1
      · have hk1 : ¬ (k : Int) < N := by omega
        have hkN' : k = N := by omega
        have hpl' : PmL w4 [] ms (keepL L B L) := by
          have := hpl
          rwa [hkN', ← HL.out.2.1, List.take_length] at this
        have hle := (keepL_sub L B L).length_le
        rw [HL.out.2.1, ← hpl'.1] at hle
        obtain ⟨a8, c8, rfl, hr8⟩ := hown.row (by unfold maxLen; omega)
        have hbw : Below w4.heap.size w4 wp := below_trans HL.out.1.bel hbi
        obtain ⟨NM, hNM⟩ : ∃ N, ms.length = N := ⟨_, rfl⟩
        rw [hNM] at hle ⊢
        by_cases hfull : NM = N
        · have hsame : keepL L B L = L := (keepL_sub L B L).eq_of_length (by rw [← hpl'.1, hNM, HL.out.2.1]; exact hfull)
          rw [hsame] at hpl'
          have hcl : ∀ x ∈ L, ∀ y ∈ B, cj x y ∈ L := fun x hx => (mem_keepL.1 (by rw [hsame]; exact hx)).2
          have hres := core_done (A := (· ∈ L)) g1 HC.out.2.2.2 HL.out.1.co.sub HL.out.1.co.kp hcl
          have hpv : PmsV wp [] (.slice a8 NM c8) L := ⟨a8, c8, ms, by rw [← hNM, hpl'.1], hr8, hpl'.below hbw⟩
          have hbW : Below W1.heap.size W1 wp := below_trans HD.out.2.1 hbw
          obtain ⟨q0, q1, q2, q3, q4, q5, _⟩ := keep6n hx0 hbW
          have hqb : W1.heap.size ≤ wp.heap.size := hbW.size
          have hr7 := (hbW.block (X + 2) (by rw [HB.out.2.2.2.1]; omega)).trans HB.out.2.2.1
          have hwwp : Below w.heap.size w wp := below_trans HB.out.2.2.2.2.1 hbW
          have HY := Lib.hid (And.intro hres (And.intro hpv (And.intro hbW (And.intro hr7 hwwp))))
          have hNN : ((NM : Int) == (N : Int)) = true := by simp [hfull]
          clear hres hpv hbW hr7 hwwp hown hpl hpl' hbi hle hr8 hsame hcl hbw hNM
          subst hfull
          go_wp2_with (go_at_call 75; (with_reducible refine (chain75 (L := L) hn (by have := HL.out.1.len; omega) HY.out.2.1).mono ?_); rintro e7 w7 ⟨a7, c7, b7', d7, rfl, k2, k3⟩
                       have hr9 := (k2.block (X + 2) (by have := HB.out.2.2.2.1; omega)).trans HY.out.2.2.2.1
                       obtain ⟨r0, r1, r2, r3, r4, r5⟩ := box_cells hr9
                       have hg7 := k3 (List.range (X + 3)) (fun m hm => by have := List.mem_range.1 hm; have := HB.out.2.2.2.1; omega)
                       have H7 := Lib.hid (And.intro hg7 (And.intro hr9 (below_trans HY.out.2.2.2.2 k2)))
                       clear k2 k3 hg7 hr9)
          have hfin : (set3 w7 (X + 1 + 1) (.int .i64 (n : Int)) (.slice a7 n c7) (.slice b7' n d7)).heap[X + 1 + 1]? = some (.cells #[.int .i64 (n : Int), .slice a7 n c7, .slice b7' n d7] 25) := set3_box H7.out.2.1
          obtain ⟨V, hV⟩ : ∃ V, set3 w7 (X + 1 + 1) (.int .i64 (n : Int)) (.slice a7 n c7) (.slice b7' n d7) = V := ⟨_, rfl⟩
          have hKp : Kept w7 V [X + 1 + 1] := hV ▸ set3_kept (by simp)
          rw [hV] at hfin
          unfold set3 at hV
          rw [hV]
          obtain ⟨f0, f1, f2, _⟩ := box_cells hfin
          refine bodyPost_ret (v := .tuple #[.agg #[.int .i64 (n : Int), .slice a7 n c7, .slice b7' n d7], .int .i64 0]) (by simp [results, Tryz.results30, go_sem, f0, f1, f2]) rfl ?_
          refine ⟨a7, c7, b7', d7, rfl, ?_, fun S hS => ?_⟩
          · have h1 := H7.out.2.2
            rw [HB.out.2.2.2.2.2] at h1
            have h2 := h1.size
            exact h1.trans (hKp.below1 (by omega) (by omega))
          · refine ((H7.out.1.kept (hKp.mono (fun q hq => ?_))).congr HY.out.1).ext (fun q hq => .inl ?_)
            · rw [List.mem_singleton.1 hq]
              exact List.mem_range.2 (by omega)
            · have := hS q hq
              exact List.mem_range.2 (by omega)
        · have hNN : ((NM : Int) == (N : Int)) = false := by simp; omega
          have hlm : (keepL L B L).length = NM := hpl'.1.symm.trans hNM
          have hco : CoL n G1 G2 w4 wp (.slice a8 NM c8) (keepL L B L) ms a8 c8 := by
            refine ⟨by rw [hlm], hr8, hpl', HL.out.1.srt.sublist (keepL_sub L B L), Nat.le_trans (keepL_sub L B L).length_le HL.out.1.len, ⟨fun x hx => HL.out.1.co.sub x (mem_keepL.1 hx).1, fun x hx => mem_keepL.2 ⟨HL.out.1.co.kp x hx, fun y hy => HL.out.1.co.kp _ (core_step g2 ((HC.out.2.2.2 y).1 (Grp.base hy)) hx)⟩⟩, hbw⟩
          have hlt : NM < N := by omega
          have HY := Lib.hid hco
          clear hco hlm hown hpl hpl' hbi hle hr8 hbw hNM hfull
          go_wp2_with fail
          exact ⟨⟨_, _, _, _, HY.out⟩, by simp [lenS]; exact hlt⟩
end
end Go.Proofs.YtbejhkojdiadaaaGreat
