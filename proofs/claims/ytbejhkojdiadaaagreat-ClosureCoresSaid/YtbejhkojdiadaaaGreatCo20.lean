/- The kit's GroupOf: a drawn group. · The kit's Elements: all elements of a group, in order. · chain.Make: lists that are too long or hold a fault. -/
import Derived.Test.YtbejhkojdiadaaaGreatCo01
import Derived.Test.YtbejhkojdiadaaaGreatCo02
import Derived.Test.YtbejhkojdiadaaaGreatCo03
import Derived.Test.YtbejhkojdiadaaaGreatCo04
import Derived.Test.YtbejhkojdiadaaaGreatCo05
import Derived.Test.YtbejhkojdiadaaaGreatCo06
import Derived.Test.YtbejhkojdiadaaaGreatCo07
import Derived.Test.YtbejhkojdiadaaaGreatCo08
import Derived.Test.YtbejhkojdiadaaaGreatCo09
import Derived.Test.YtbejhkojdiadaaaGreatCo10
import Derived.Test.YtbejhkojdiadaaaGreatCo11
import Derived.Test.YtbejhkojdiadaaaGreatCo12
import Derived.Test.YtbejhkojdiadaaaGreatCo13
import Derived.Test.YtbejhkojdiadaaaGreatCo14
import Derived.Test.YtbejhkojdiadaaaGreatCo15
import Derived.Test.YtbejhkojdiadaaaGreatCo16
import Derived.Test.YtbejhkojdiadaaaGreatCo17
import Derived.Test.YtbejhkojdiadaaaGreatCo18
import Derived.Test.YtbejhkojdiadaaaGreatCo19
import Derived.Test.YtbejhkojdiadaaaGreatProg
import Derived.WalkKit
import Derived.WalkSpells
import Derived.BigQuiet
import Derived.Deep.QuietTactic
import Derived.Deep.LoopGhost
import Derived.Lib.Hide
import Derived.Maps.AppendAt
import Derived.Deep.AppendLies
import Derived.StillTailTactics
import Derived.Laws.CopyOwn
import Derived.Deep.OwnRows
import Derived.Deep.DeepCutAuto
import Derived.Laws.Cover3
import Derived.Deep.RegionHeld3
import Derived.RangeFuncRecord
import Derived.Lib.SlicesSearch
import Derived.RangeFuncBox
import Derived.RangeFuncLeaves
import Derived.RangeFuncWrites
import Derived.RangeFuncFrom
import Derived.Shelf.Abstract
import Derived.OwnWalkIn
import Derived.TacticsInMore
import Derived.LoopNIn
import Derived.LoopIn
import Derived.Shelf.GgSortFunc.Insertion
import Derived.Shelf.SlIter.Collect
import Derived.Shelf.Sort.Plain
import Derived.Deep.RegionLaw
import Derived.ControlIn
import Derived.Deep.AppendSrc
set_option linter.unusedSimpArgs false
set_option linter.unusedVariables false
namespace Go.Proofs.YtbejhkojdiadaaaGreat
open Go.RowKit PlainPm
theorem box2_fz {W : World} {Y : Nat} {u v : Value} {t : TypeId} (h : W.heap[Y]? = some (.cells #[u, v] t (0, 0))) : W.frozen? ⟨Y, 0, none⟩ = false := by
  simp [World.frozen?, h]
theorem box2_set0 {W : World} {Y : Nat} {u v u' : Value} {t : TypeId} (h : W.heap[Y]? = some (.cells #[u, v] t (0, 0))) : (W.setCell ⟨Y, 0, none⟩ u').heap[Y]? = some (.cells #[u', v] t (0, 0)) := by
  have hl := (Array.getElem?_eq_some_iff.1 h).1
  have h2 : W.heap[Y] = .cells #[u, v] t (0, 0) := by rw [Array.getElem?_eq_getElem hl] at h; exact Option.some.inj h
  simp [World.setCell, Array.getElem_modify, hl, h2]
set_option maxRecDepth 100000 in
set_option maxHeartbeats 8000000 in
theorem groupOf97 {w : World} {a : Option Addr} {c most : Nat} {l : List Int} (hm : 0 < most ∧ most ≤ 6) (hi : Ints w a l) :
    Calls Tryz.prog 97 #[.slice a l.length c, .int .i64 (most : Int)] w fun e w' => ∃ n v, e = .returned (.agg #[.int .i64 ((n : Nat) : Int), v]) ∧ (0 < n ∧ n ≤ most) ∧ (∃ L : List (Pm n), L.length ≤ 3 ∧ PmsV w' [] v L) ∧ Below w.heap.size w w' := by
  obtain ⟨i27, hi27, hz27, hs27, hb27⟩ := info_parts Tryz.info27
  have I27 := Lib.hid (And.intro hi27 (And.intro hz27 (And.intro hs27 hb27)))
  clear hi27 hz27 hs27 hb27
  obtain ⟨X, hX⟩ : ∃ X, w.heap.size = X := ⟨_, rfl⟩
  obtain ⟨W2, hW2⟩ : ∃ W2, (w.alloc (.cells #[.int .i64 0, .slice none 0 0] 108)).alloc (.cells #[.slice a l.length c, .int .i64 0] 112) = W2 := ⟨_, rfl⟩
  have hsz : W2.heap.size = X + 2 := by rw [← hW2]; simp [hX]
  have hbw : Below w.heap.size w W2 := hW2 ▸ alloc_b (alloc_b (Below.refl _ _) _) _
  have k0 : W2.heap[X]? = some (.cells #[.int .i64 0, .slice none 0 0] 108) := by
    rw [← hW2]
    exact ((alloc_b (Below.refl _ _) _).block X (by simp; omega)).trans (al_at hX _)
  have k1 : W2.heap[X + 1]? = some (.cells #[.slice a l.length c, .int .i64 0] 112) := by
    rw [← hW2]
    exact al_at (by simp [hX]) _
  have htk : TkW w W2 (X + 1) l := ⟨⟨a, c, 0, k1, Nat.zero_le _, hi⟩, by omega, hbw⟩
  have h98 := take98 htk (n := (most : Int)) (by omega) (by omega)
  obtain ⟨L, hL⟩ : ∃ L, l.length = L := ⟨_, rfl⟩
  have H := Lib.hid (And.intro k0 (And.intro hsz (And.intro hbw (And.intro h98 hX))))
  rw [hL] at hW2 ⊢
  clear k0 k1 hsz hbw htk h98 hi hL
  go_enter Tryz.func97, Tryz.ntmps97
  try simp only [hX]
  go_wp2_with (go_at_call 98; (with_reducible refine H.out.2.2.2.1.mono ?_); rintro e3 w3 ⟨b, rfl, k1, k2, k3, k4⟩
               obtain ⟨n, hbn⟩ : ∃ n, b + 1 = n := ⟨_, rfl⟩
               have hwr : IntKind.i64.wrap (1 + (b : Int)) = ((n : Nat) : Int) := by rw [show (1 + (b : Int)) = ((n : Nat) : Int) by omega]; exact IntWalk.i64_in _ (by omega)
               have hnm := k1 (by omega)
               have H3 := Lib.hid (And.intro (show 0 < n ∧ n ≤ most by omega) (And.intro k3 k4)); clear k1 k2 k3 k4 hnm)
  clear hwr hbn
  obtain ⟨Y, hY⟩ : ∃ Y, w3.heap.size = Y := ⟨_, rfl⟩
  obtain ⟨W4, hW4⟩ : ∃ W4, w3.alloc (.cells #[.int .i64 (n : Int), .slice none 0 0] 108) = W4 := ⟨_, rfl⟩
  have hk4 : Kept W2 W4 [X + 1] := H3.out.2.2.trans (Kept.ofBelow (hW4 ▸ alloc_b (Below.refl _ _) _))
  have hyb : W4.heap[Y]? = some (.cells #[.int .i64 (n : Int), .slice none 0 0] 108) := hW4 ▸ al_at hY _
  have ht4 : TkW w W4 (X + 1) l := H3.out.2.1.below (hW4 ▸ alloc_b (Below.refl _ _) _)
  have hYX : X + 2 ≤ Y := by have := H3.out.2.2.size; have := H.out.2.1; omega
  have h98b := take98 ht4 (n := (4 : Int)) (by omega) (by omega)
  obtain ⟨D, hD⟩ : ∃ D, W4.heap.size = D := ⟨_, rfl⟩
  have hYD : Y < D := by rw [← hD]; exact (Array.getElem?_eq_some_iff.1 hyb).1
  have H4 := Lib.hid (And.intro hk4 (And.intro hyb (And.intro ht4 h98b)))
  have HZ := Lib.hid (And.intro hYX (And.intro hYD hD))
  clear hk4 hyb ht4 h98b hYX hYD
  rw [hW4, hY]
  clear hW4 hY hW2 hD
  go_wp2_with (go_at_call 98; (with_reducible refine H4.out.2.2.2.mono ?_); rintro e5 w5 ⟨b5, rfl, k1, k2, k3, k4⟩
               have H5 := Lib.hid (And.intro (k1 (by omega)) (And.intro k3 k4)); clear k1 k2 k3 k4)
  go_loopw [7, 8, 9] (fun kv _ _ wr => ∃ (k : Nat) (G : List (Pm n)) (us : List Value) (v : Value), kv = .int .i64 (k : Int) ∧ G.length + k ≤ 3 ∧ wr.heap[Y]? = some (.cells #[.int .i64 (n : Int), v] 108) ∧ GrowL [X + 1, Y, X] wr D v us G ∧ TkW w wr (X + 1) l ∧ wr.heap[X]? = some (.cells #[.int .i64 0, .slice none 0 0] 108) ∧ D ≤ wr.heap.size) (fun kv _ _ _ => (intOf kv).toNat)
  case atStart =>
    have h5 := H5.out.2.2
    have hs5 : D ≤ w5.heap.size := by rw [← HZ.out.2.2]; exact h5.size
    have h1 := HZ.out.1
    have h2 := HZ.out.2.1
    refine ⟨b5, [], [], .slice none 0 0, rfl, by have := H5.out.1; simp; omega, (h5.block Y (Array.getElem?_eq_some_iff.1 H4.out.2.1).1 (by simp; omega)).trans H4.out.2.1, GrowL.nil _ (fun q hq => by simp at hq; omega), H5.out.2.1, ?_, hs5⟩
    exact (h5.block X (by have := HZ.out.2.2; omega) (by simp)).trans ((H4.out.1.block X (by have := H.out.2.1; omega) (by simp)).trans H.out.1)
  case round =>
    obtain ⟨k, G, us, v, rfl, hG, hyb, hgl, htk, hxb, hDs⟩ := hrel
    obtain ⟨wo, rfl⟩ : ∃ wo, wo = wr := ⟨_, rfl⟩
    have hvb : ∀ q, v.ownBlock = some q → q ∉ [X + 1, Y, X] := fun q e hq => by
      have h1 := (hgl.1.block_lt e).2
      have h2 := HZ.out.1
      have h3 := HZ.out.2.1
      simp at hq; omega
    obtain ⟨z0, z1, z2⟩ := box2_cells hyb
    by_cases hk0 : 0 < k
    · obtain ⟨j, rfl⟩ : ∃ j, k = j + 1 := ⟨k - 1, by omega⟩
      have hk1 : (0 : Int) < ((j + 1 : Nat) : Int) := by omega
      have hj3 : j ≤ 3 := by omega
      have h65 := fun (V : World) => one65o (n := n) (w := V) (by have := H3.out.1; omega) H3.out.1.1
      have HK := Lib.hid (And.intro hG (And.intro hyb (And.intro hgl (And.intro htk (And.intro hxb (And.intro hDs hvb))))))
      clear hG hyb hgl htk hxb hDs hvb
      go_wp2_with (go_at_call 65; (with_reducible refine (h65 _).mono ?_); rintro e6 w6 ⟨g1, c1, rfl, k1, k2⟩
                   have htk6 := HK.out.2.2.2.1.below k2
                   have h98 := take98 htk6 (n := (3 : Int)) (by omega) (by omega)
                   have zy := (k2.block Y (Array.getElem?_eq_some_iff.1 HK.out.2.1).1).trans HK.out.2.1
                   obtain ⟨q0, q1, q2⟩ := box2_cells zy
                   have H6 := Lib.hid (And.intro k1 (And.intro k2 h98)); clear k1 k2 htk6 h98 zy)
      go_wp2_with (go_at_call 98; (with_reducible refine H6.out.2.2.mono ?_); rintro e7 w7 ⟨b7, rfl, k1, k2, k3, k4⟩
                   have hK7 : Kept wo w7 [X + 1] := (Kept.ofBelow H6.out.2.1).trans k4
                   have zy := (hK7.block Y (Array.getElem?_eq_some_iff.1 HK.out.2.1).1 (by simp; have := HZ.out.1; omega)).trans HK.out.2.1
                   obtain ⟨r0, r1, r2⟩ := box2_cells zy
                   have hg1 : g1 ∉ [X + 1] := fun hq => by have h1 : wo.heap.size ≤ g1 := (H6.out.1.block_lt rfl).2; have h2 := HZ.out.1; have h3 := HK.out.2.2.2.2.2.1; have h4 := HZ.out.2.1; simp at hq; omega
                   have hO7 := H6.out.1.keptL k4 (fun q e => by cases e; exact hg1)
                   have H7 := Lib.hid (And.intro k3 (And.intro hK7 (And.intro hO7 hg1))); clear k1 k2 k3 k4 hK7 zy hO7 hg1)
      · have h132 := perm132 (n := n) ⟨H3.out.1.1, by have := H3.out.1; omega⟩ H7.out.1
        have HP0 := Lib.hid h132
        clear h132
        go_wp2_with (first
          | (at_builtin; refine app1 rfl (.tmp 74) (.tmp 76) 44 27 rfl i27 (.slice none 0 0) 24 Tryz.underlying44 I27.out.1 I27.out.2.1 I27.out.2.2.1 I27.out.2.2.2 rfl (by omega) D (.slice (some ⟨pb, 0, none⟩) n pc) v us rfl HQ.out.2.1 rfl rfl hul hsz ?_; intro v8 w8 k1 k2 k3
             have yb8 := (k2.block Y (Array.getElem?_eq_some_iff.1 HQ.out.1).1 (fun e => HK.out.2.2.2.2.2.2 Y e.symm (by simp))).trans HQ.out.1
             obtain ⟨u0, u1, u2⟩ := box2_cells yb8
             obtain ⟨va, vc, rfl, _⟩ := k1.row (by simp; unfold maxLen; omega)
             have H8 := Lib.hid (And.intro k1 (And.intro k2 (And.intro k3 yb8))); clear k1 k2 k3 yb8)
          | (go_at_call 132; (with_reducible refine HP0.out.mono ?_); rintro e8 wq ⟨v9, rfl, ⟨x, PV⟩, PT, k4⟩
             have PK : Kept wo wq [X + 1] := H7.out.2.1.trans k4
             have PV := PV.from (w0 := wo) H7.out.2.1.size
             clear k4
             obtain ⟨pb, pc, rfl, _⟩ := id PV
             have yb := (PK.block Y (Array.getElem?_eq_some_iff.1 HK.out.2.1).1 (by simp; have := HZ.out.1; omega)).trans HK.out.2.1
             obtain ⟨t0, t1, t2⟩ := box2_cells yb
             have hown := HK.out.2.2.1.1.keptL PK (fun q e hq => HK.out.2.2.2.2.2.2 q e (by rw [List.mem_singleton.1 hq]; simp))
             have hul : us.length < 1099511627776 := by have := HK.out.2.2.1.len; have := HK.out.1; omega
             have hsz : D ≤ wq.heap.size := Nat.le_trans HK.out.2.2.2.2.2.1 PK.size
             have HQ := Lib.hid (And.intro yb (And.intro hown (And.intro PV (And.intro PK PT))))
             clear PV PK PT yb hown))
        obtain ⟨W9, hW9⟩ : ∃ W, w8.setCell ⟨Y, 1, none⟩ (.slice va (us.length + 1) vc) = W := ⟨_, rfl⟩
        have k9 : Kept w8 W9 [Y] := hW9 ▸ Kept.ofGrown (grown_put 1 _) (fun q e => by cases e; exact List.mem_singleton.2 rfl)
        have y9 : W9.heap[Y]? = some (.cells #[.int .i64 (n : Int), .slice va (us.length + 1) vc] 108) := hW9 ▸ box2_set1 H8.out.2.2.2
        rw [hW9]
        have hYX := HZ.out.1
        have hYD := HZ.out.2.1
        have gq : GrowL [X + 1, Y, X] wq D v us G := ⟨HQ.out.2.1, HK.out.2.2.1.2.1.stp ⟨HQ.out.2.2.2.1.mono (fun q hq => List.mem_append_right _ (by rw [List.mem_singleton.1 hq]; simp)), fun q hq => .inl hq⟩, fun q hq => Nat.lt_of_lt_of_le (HK.out.2.2.1.2.2 q hq) HQ.out.2.2.2.1.size⟩
        have g8 := gq.app (NewPm.growV HK.out.2.2.1 HQ.out.2.2.1) H8.out.1 H8.out.2.1 H8.out.2.2.1
        have l8 : (us ++ [Value.slice (some ⟨pb, 0, none⟩) n pc]).length = us.length + 1 := by simp
        rw [l8] at g8
        have g9 : GrowL [X + 1, Y, X] W9 D (.slice va (us.length + 1) vc) (us ++ [.slice (some ⟨pb, 0, none⟩) n pc]) (G ++ [x]) := ⟨g8.1.keptL k9 (fun q e hq => by have h1 := (g8.1.block_lt e).2; rw [List.mem_singleton.1 hq] at h1; omega), g8.2.1.stp ⟨k9.mono (fun q hq => List.mem_append_right _ (by rw [List.mem_singleton.1 hq]; simp)), fun q hq => .inl hq⟩, fun q hq => Nat.lt_of_lt_of_le (g8.2.2 q hq) k9.size⟩
        have hob : ∀ q, v.ownBlock = some q → D ≤ q := fun q e => (HQ.out.2.1.block_lt e).2
        have hDw : w.heap.size ≤ D := by have := H.out.2.2.2.2; omega
        have kq8 : Kept wq w8 v.ownBlock.toList := Kept.ofGrown H8.out.2.1 (fun q e => mem_ob.2 e)
        have t8 : TkW w w8 (X + 1) l := HQ.out.2.2.2.2.kept kq8 (fun q hq => by have h1 := hob q (mem_ob.1 hq); exact ⟨by omega, by omega⟩)
        have t9 : TkW w W9 (X + 1) l := t8.kept k9 (fun q hq => by rw [List.mem_singleton.1 hq]; have := H.out.2.2.2.2; exact ⟨by omega, by omega⟩)
        have hXs : X < wo.heap.size := (Array.getElem?_eq_some_iff.1 HK.out.2.2.2.2.1).1
        have x9 : W9.heap[X]? = some (.cells #[.int .i64 0, .slice none 0 0] 108) := (k9.block X (by have := kq8.size; have := HQ.out.2.2.2.1.size; omega) (by simp; omega)).trans ((kq8.block X (by have := HQ.out.2.2.2.1.size; omega) (fun hq => by have h1 := hob X (mem_ob.1 hq); omega)).trans ((HQ.out.2.2.2.1.block X hXs (by simp)).trans HK.out.2.2.2.2.1))
        exact ⟨⟨j, G ++ [x], _, _, by go_num, by rw [List.length_append]; have := HK.out.1; simp; omega, y9, g9, t9, x9, Nat.le_trans (Nat.le_trans HK.out.2.2.2.2.2.1 HQ.out.2.2.2.1.size) (Nat.le_trans kq8.size k9.size)⟩, by first | (simp [intOf]; done) | (simp [intOf]; omega)⟩
      · have h98 := take98 H7.out.1 (n := (n : Int)) (by have := H3.out.1; omega) (by omega)
        have HA := Lib.hid h98
        clear h98
        go_wp2_with (first
          | (go_at_call 98; (with_reducible refine HA.out.mono ?_); rintro e8 w8 ⟨f, rfl, k1, k2, k3, k4⟩
             have hfn := k1 (by have := H3.out.1; omega)
             have hK8 : Kept wo w8 [X + 1] := H7.out.2.1.trans k4
             have zy := (hK8.block Y (Array.getElem?_eq_some_iff.1 HK.out.2.1).1 (by simp; have := HZ.out.1; omega)).trans HK.out.2.1
             obtain ⟨s0, s1, s2⟩ := box2_cells zy
             have hO8 := H7.out.2.2.1.keptL k4 (fun q e => by cases e; exact H7.out.2.2.2)
             have hwn : IntKind.i64.wrap ((n : Int) - (f : Int)) = (n : Int) - (f : Int) := IntWalk.i64_in _ (by have := H3.out.1; omega)
             have hwf : IntKind.i64.wrap ((f : Int) + 1) = (f : Int) + 1 := IntWalk.i64_in _ (by have := H3.out.1; omega)
             have h98 := take98 k3 (n := (n : Int) - (f : Int)) (by have := H3.out.1; omega) (by omega)
             have H8 := Lib.hid (And.intro k3 (And.intro hK8 (And.intro hO8 (And.intro hfn h98)))); clear k1 k2 k3 k4 hK8 zy hO8 hfn h98))
        go_wp2_with (first
          | (go_at_call 133; (with_reducible refine H9.out.2.2.2.2.mono ?_); rintro e10 w10 ⟨rfl, k1, k2⟩
             have hK10 : Kept wo w10 [X + 1] := H9.out.2.1.transW k2 (fun q hq => .inr (by rw [List.mem_singleton.1 hq]; exact H9.out.2.2.1))
             have zy := (hK10.block Y (Array.getElem?_eq_some_iff.1 HK.out.2.1).1 (by simp; have := HZ.out.1; omega)).trans HK.out.2.1
             obtain ⟨p0, p1, p2⟩ := box2_cells zy
             have hT10 := H9.out.1.kept k2 (fun q hq => by rw [List.mem_singleton.1 hq]; have h1 := H9.out.2.2.1; have h2 := HK.out.2.2.2.1.bel.size; exact ⟨by omega, fun e => H7.out.2.2.2 (by rw [e]; simp)⟩)
             have h98 := take98 hT10 (n := (n : Int)) (by have := H3.out.1; omega) (by omega)
             have H10 := Lib.hid (And.intro hT10 (And.intro hK10 (And.intro k1 h98))); clear k1 k2 hK10 zy hT10 h98)
          | (go_at_call 98; (with_reducible refine H8.out.2.2.2.2.mono ?_); rintro e9 w9 ⟨d, rfl, k1, k2, k3, k4⟩
             have hfn := H8.out.2.2.2.1
             have hdn := k1 (by omega)
             have hK9 : Kept wo w9 [X + 1] := H8.out.2.1.trans k4
             have hO9 := H8.out.2.2.1.keptL k4 (fun q e => by cases e; exact H7.out.2.2.2)
             obtain ⟨t, ht⟩ : ∃ t, f + 1 + d = t := ⟨_, rfl⟩
             have hwt : IntKind.i64.wrap ((f : Int) + 1 + (d : Int)) = (t : Int) := by rw [show ((f : Int) + 1 + (d : Int)) = (t : Int) by omega]; exact IntWalk.i64_in _ (by have := H3.out.1; omega)
             have hft : f < t := by omega
             have htn : t ≤ n := by omega
             have h133 := cycle133 (n := n) (f := f) (t := t) (by have := H3.out.1; omega) hft htn hO9
             have hg1o : wo.heap.size ≤ g1 := (H6.out.1.block_lt rfl).2
             have H9 := Lib.hid (And.intro k3 (And.intro hK9 (And.intro hg1o (And.intro htn h133)))); clear k1 k2 k3 k4 hK9 hO9 hfn hdn h133 hg1o ht))
        go_wp2_with (first
          | (at_builtin; refine app1 rfl (.tmp 74) (.tmp 76) 44 27 rfl i27 (.slice none 0 0) 24 Tryz.underlying44 I27.out.1 I27.out.2.1 I27.out.2.2.1 I27.out.2.2.2 rfl (by omega) D (.slice (some ⟨pb, 0, none⟩) n pc) v us rfl HQ.out.2.1 rfl rfl hul hsz ?_; intro v8 w8 k1 k2 k3
             have yb8 := (k2.block Y (Array.getElem?_eq_some_iff.1 HQ.out.1).1 (fun e => HK.out.2.2.2.2.2.2 Y e.symm (by simp))).trans HQ.out.1
             obtain ⟨u0, u1, u2⟩ := box2_cells yb8
             obtain ⟨va, vc, rfl, _⟩ := k1.row (by simp; unfold maxLen; omega)
             have H8 := Lib.hid (And.intro k1 (And.intro k2 (And.intro k3 yb8))); clear k1 k2 k3 yb8)
          | (go_at_call 98; (with_reducible refine H11.out.2.2.2.2.mono ?_); rintro e12 wq ⟨e2, rfl, k1, k2, PT, k4⟩
             have PK : Kept wo wq [X + 1] := H11.out.2.1.trans k4
             have hO12 := H11.out.2.2.1.keptL k4 (fun q e => by cases e; exact H7.out.2.2.2)
             have PV : NewPm wo wq (.slice (some ⟨g1, 0, none⟩) n c1) (cycP n f t hft htn) := NewPm.of_own hO12 (Nat.le_refl _) rfl
             obtain ⟨pb, hpb⟩ : ∃ pb, g1 = pb := ⟨_, rfl⟩
             obtain ⟨pc, hpc⟩ : ∃ pc, c1 = pc := ⟨_, rfl⟩
             obtain ⟨x, hx⟩ : ∃ x, cycP n f t hft htn = x := ⟨_, rfl⟩
             rw [hpb, hpc, hx] at PV
             rw [hpb, hpc]
             clear k1 k2 k4 hO12 hx
             have yb := (PK.block Y (Array.getElem?_eq_some_iff.1 HK.out.2.1).1 (by simp; have := HZ.out.1; omega)).trans HK.out.2.1
             obtain ⟨t0, t1, t2⟩ := box2_cells yb
             have hown := HK.out.2.2.1.1.keptL PK (fun q e hq => HK.out.2.2.2.2.2.2 q e (by rw [List.mem_singleton.1 hq]; simp))
             have hul : us.length < 1099511627776 := by have := HK.out.2.2.1.len; have := HK.out.1; omega
             have hsz : D ≤ wq.heap.size := Nat.le_trans HK.out.2.2.2.2.2.1 PK.size
             have HQ := Lib.hid (And.intro yb (And.intro hown (And.intro PV (And.intro PK PT))))
             clear PV PK PT yb hown)
          | (go_at_call 98; (with_reducible refine H10.out.2.2.2.mono ?_); rintro e11 w11 ⟨f2, rfl, k1, k2, k3, k4⟩
             have hf2 := k1 (by have := H3.out.1; omega)
             have hK11 : Kept wo w11 [X + 1] := H10.out.2.1.trans k4
             have zy := (hK11.block Y (Array.getElem?_eq_some_iff.1 HK.out.2.1).1 (by simp; have := HZ.out.1; omega)).trans HK.out.2.1
             obtain ⟨q0, q1, q2⟩ := box2_cells zy
             have hO11 := H10.out.2.2.1.keptL k4 (fun q e => by cases e; exact H7.out.2.2.2)
             have h98 := take98 k3 (n := (2 : Int)) (by omega) (by omega)
             have H11 := Lib.hid (And.intro k3 (And.intro hK11 (And.intro hO11 (And.intro hf2 h98)))); clear k1 k2 k3 k4 hK11 zy hO11 h98 hf2))
        · skip
          have h65 := fun (V : World) => one65o (n := n) (w := V) (by have := H3.out.1; omega) H3.out.1.1
          have hf2n := H11.out.2.2.2.1
          have hwn2 : IntKind.i64.wrap ((n : Int) - (f2 : Int)) = (n : Int) - (f2 : Int) := IntWalk.i64_in _ (by have := H3.out.1; omega)
          have hwf2 : IntKind.i64.wrap ((f2 : Int) + 1) = (f2 : Int) + 1 := IntWalk.i64_in _ (by have := H3.out.1; omega)
          have hX1q : X + 1 < wq.heap.size := by have := HZ.out.1; have := HZ.out.2.1; have := hsz; omega
          go_region_law
           (first
          | (go_simp; go_at_call 49; (with_reducible refine (mul49 (x := x) (y := cycP n f2 t2 hft2 htn2) (by have := H3.out.1; omega) H3.out.1.1 ((HQ.out.2.2.1.pm (M := [X + 1]) (fun q hq => by rw [List.mem_singleton.1 hq]; have := HZ.out.1; have := HZ.out.2.1; have := HK.out.2.2.2.2.2.1; omega)).kept K23).weak ((NewPm.of_own (w := wq) O23 (Nat.le_refl _) rfl).pm (by simp))).mono ?_)
             rintro e24 wz ⟨v24, rfl, k1, k2⟩
             have PV2 : NewPm wo wz v24 _ := k1.from (Nat.le_trans HQ.out.2.2.2.1.size K23.size)
             have PK2 : Kept wo wz [X + 1] := HQ.out.2.2.2.1.trans (K23.trans (Kept.ofBelow k2))
             have PT2 := T23.below k2
             obtain ⟨y, hy⟩ : ∃ y, x.mul (cycP n f2 t2 hft2 htn2) = y := ⟨_, rfl⟩
             rw [hy] at PV2
             clear k1 k2 hy
             obtain ⟨pz, pcz, rfl, _⟩ := id PV2
             have yb := (PK2.block Y (Array.getElem?_eq_some_iff.1 HK.out.2.1).1 (by simp; have := HZ.out.1; omega)).trans HK.out.2.1
             obtain ⟨t0, t1, t2⟩ := box2_cells yb
             have hown := HK.out.2.2.1.1.keptL PK2 (fun q e hq => HK.out.2.2.2.2.2.2 q e (by rw [List.mem_singleton.1 hq]; simp))
             have hul2 : us.length < 1099511627776 := by have := HK.out.2.2.1.len; have := HK.out.1; omega
             have hsz2 : D ≤ wz.heap.size := Nat.le_trans HK.out.2.2.2.2.2.1 PK2.size
             have HR := Lib.hid (And.intro yb (And.intro hown (And.intro PV2 (And.intro PK2 PT2))))
             clear PV2 PK2 PT2 yb hown)
          | (go_simp; go_at_call 133; (with_reducible refine (cycle133 (n := n) (f := f2) (t := t2) (by have := H3.out.1; omega) hft2 htn2 O22).mono ?_)
             rintro e23 w23 ⟨rfl, O23, k2⟩
             have hg2 : wq.heap.size ≤ g2 := (O22.block_lt rfl).2
             have K23 : Kept wq w23 [X + 1] := K22.transW k2 (fun q hq => .inr (by rw [List.mem_singleton.1 hq]; exact hg2))
             have T23 := T22.kept k2 (fun q hq => by rw [List.mem_singleton.1 hq]; have h1 := HQ.out.2.2.2.2.bel.size; exact ⟨by omega, by omega⟩)
             clear k2)
          | (go_simp; go_at_call 98; (with_reducible refine (take98 (n := (n : Int) - (f2 : Int)) T21 (by have := H3.out.1; omega) (by omega)).mono ?_)
             rintro e22 w22 ⟨d2, rfl, k1, k2, T22, k4⟩
             have K22 : Kept wq w22 [X + 1] := (Kept.ofBelow b21).trans k4
             have hg2 : wq.heap.size ≤ g2 := (O21.block_lt rfl).2
             have O22 := O21.keptL k4 (fun q e hq => by have h8 : some g2 = some q := e; cases h8; have h9 : g2 = X + 1 := List.mem_singleton.1 hq; omega)
             obtain ⟨t2, ht2⟩ : ∃ t2, f2 + 1 + d2 = t2 := ⟨_, rfl⟩
             have hd2 := k1 (by omega)
             have hwt2 : IntKind.i64.wrap ((f2 : Int) + 1 + (d2 : Int)) = (t2 : Int) := by rw [show ((f2 : Int) + 1 + (d2 : Int)) = (t2 : Int) by omega]; exact IntWalk.i64_in _ (by have := H3.out.1; omega)
             have hft2 : f2 < t2 := by omega
             have htn2 : t2 ≤ n := by omega
             clear k1 k2 k4)
          | (go_simp; go_at_call 65; (with_reducible refine (h65 _).mono ?_)
             rintro e22 w22 ⟨g2, c2, rfl, k1, k2⟩
             have K22 : Kept wq w22 [X + 1] := K21.trans (Kept.ofBelow k2)
             have T22 := T21a.below k2
             have O22 := k1.mono K21.size
             clear k1 k2)
          | (go_simp; go_at_call 65; (with_reducible refine (h65 _).mono ?_)
             rintro e21 w21 ⟨g2, c2, rfl, k1, k2⟩
             have b21 : Below wq.heap.size wq w21 := below_trans (by first | exact Below.refl _ _ | exact below_drw (Below.refl _ _) | exact below_self_drewN _ _) k2
             have T21 := HQ.out.2.2.2.2.below b21
             have O21 : Own w21 wq.heap.size (.slice (some ⟨g2, 0, none⟩) n c2) 3 (ints (PlainPm.one n).l) := k1.mono (show wq.heap.size ≤ _ from by first | exact Nat.le_refl _ | simp)
             have zy := (b21.block Y (Array.getElem?_eq_some_iff.1 HQ.out.1).1).trans HQ.out.1
             obtain ⟨q0', q1', q2'⟩ := box2_cells zy
             clear k1 k2 zy)
          | (go_simp; go_at_call 98; (with_reducible refine (take98 (n := (n : Int) - (f2 : Int)) (HQ.out.2.2.2.2.below ?_) (by have := H3.out.1; omega) (by omega)).mono ?_)
             first | exact Below.refl _ _ | exact below_drw (Below.refl _ _) | exact below_self_drewN _ _
             rintro e21 w21 ⟨d2, rfl, k1, k2, T21a, k4⟩
             have K21 : Kept wq w21 [X + 1] := (Kept.ofBelow (by first | exact Below.refl _ _ | exact below_drw (Below.refl _ _) | exact below_self_drewN _ _)).trans k4
             have zy := (K21.block Y (Array.getElem?_eq_some_iff.1 HQ.out.1).1 (by simp; have := HZ.out.1; omega)).trans HQ.out.1
             obtain ⟨q0', q1', q2'⟩ := box2_cells zy
             obtain ⟨t2, ht2⟩ : ∃ t2, f2 + 1 + d2 = t2 := ⟨_, rfl⟩
             have hd2 := k1 (by omega)
             have hwt2 : IntKind.i64.wrap ((f2 : Int) + 1 + (d2 : Int)) = (t2 : Int) := by rw [show ((f2 : Int) + 1 + (d2 : Int)) = (t2 : Int) by omega]; exact IntWalk.i64_in _ (by have := H3.out.1; omega)
             have hft2 : f2 < t2 := by omega
             have htn2 : t2 ≤ n := by omega
             clear k1 k2 k4 zy))
          all_goals
            go_wp2_with (first
              | (at_builtin; refine app1 rfl (.tmp 74) (.tmp 76) 44 27 rfl i27 (.slice none 0 0) 24 Tryz.underlying44 I27.out.1 I27.out.2.1 I27.out.2.2.1 I27.out.2.2.2 rfl (by omega) D (.slice (some ⟨pz, 0, none⟩) n pcz) v us rfl HR.out.2.1 rfl rfl hul2 hsz2 ?_; intro v8 w8 k1 k2 k3
                 have yb8 := (k2.block Y (Array.getElem?_eq_some_iff.1 HR.out.1).1 (fun e => HK.out.2.2.2.2.2.2 Y e.symm (by simp))).trans HR.out.1
                 obtain ⟨u0, u1, u2⟩ := box2_cells yb8
                 obtain ⟨va, vc, rfl, _⟩ := k1.row (by simp; unfold maxLen; omega)
                 have H8 := Lib.hid (And.intro k1 (And.intro k2 (And.intro k3 yb8))); clear k1 k2 k3 yb8))
            obtain ⟨W9, hW9⟩ : ∃ W, w8.setCell ⟨Y, 1, none⟩ (.slice va (us.length + 1) vc) = W := ⟨_, rfl⟩
            have k9 : Kept w8 W9 [Y] := hW9 ▸ Kept.ofGrown (grown_put 1 _) (fun q e => by cases e; exact List.mem_singleton.2 rfl)
            have y9 : W9.heap[Y]? = some (.cells #[.int .i64 (n : Int), .slice va (us.length + 1) vc] 108) := hW9 ▸ box2_set1 H8.out.2.2.2
            rw [hW9]
            have hYX := HZ.out.1
            have hYD := HZ.out.2.1
            have gq : GrowL [X + 1, Y, X] wz D v us G := ⟨HR.out.2.1, HK.out.2.2.1.2.1.stp ⟨HR.out.2.2.2.1.mono (fun q hq => List.mem_append_right _ (by rw [List.mem_singleton.1 hq]; simp)), fun q hq => .inl hq⟩, fun q hq => Nat.lt_of_lt_of_le (HK.out.2.2.1.2.2 q hq) HR.out.2.2.2.1.size⟩
            have g8 := gq.app (NewPm.growV HK.out.2.2.1 HR.out.2.2.1) H8.out.1 H8.out.2.1 H8.out.2.2.1
            have l8 : (us ++ [Value.slice (some ⟨pz, 0, none⟩) n pcz]).length = us.length + 1 := by simp
            rw [l8] at g8
            have g9 : GrowL [X + 1, Y, X] W9 D (.slice va (us.length + 1) vc) (us ++ [.slice (some ⟨pz, 0, none⟩) n pcz]) (G ++ [y]) := ⟨g8.1.keptL k9 (fun q e hq => by have h1 := (g8.1.block_lt e).2; rw [List.mem_singleton.1 hq] at h1; omega), g8.2.1.stp ⟨k9.mono (fun q hq => List.mem_append_right _ (by rw [List.mem_singleton.1 hq]; simp)), fun q hq => .inl hq⟩, fun q hq => Nat.lt_of_lt_of_le (g8.2.2 q hq) k9.size⟩
            have hob : ∀ q, v.ownBlock = some q → D ≤ q := fun q e => (HR.out.2.1.block_lt e).2
            have hDw : w.heap.size ≤ D := by have := H.out.2.2.2.2; omega
            have kq8 : Kept wz w8 v.ownBlock.toList := Kept.ofGrown H8.out.2.1 (fun q e => mem_ob.2 e)
            have t8 : TkW w w8 (X + 1) l := HR.out.2.2.2.2.kept kq8 (fun q hq => by have h1 := hob q (mem_ob.1 hq); exact ⟨by omega, by omega⟩)
            have t9 : TkW w W9 (X + 1) l := t8.kept k9 (fun q hq => by rw [List.mem_singleton.1 hq]; have := H.out.2.2.2.2; exact ⟨by omega, by omega⟩)
            have hXs : X < wo.heap.size := (Array.getElem?_eq_some_iff.1 HK.out.2.2.2.2.1).1
            have x9 : W9.heap[X]? = some (.cells #[.int .i64 0, .slice none 0 0] 108) := (k9.block X (by have := kq8.size; have := HR.out.2.2.2.1.size; omega) (by simp; omega)).trans ((kq8.block X (by have := HR.out.2.2.2.1.size; omega) (fun hq => by have h1 := hob X (mem_ob.1 hq); omega)).trans ((HR.out.2.2.2.1.block X hXs (by simp)).trans HK.out.2.2.2.2.1))
            exact ⟨⟨j, G ++ [y], _, _, by go_num, by rw [List.length_append]; have := HK.out.1; simp; omega, y9, g9, t9, x9, Nat.le_trans (Nat.le_trans HK.out.2.2.2.2.2.1 HR.out.2.2.2.1.size) (Nat.le_trans kq8.size k9.size)⟩, by first | (simp [intOf]; done) | (simp [intOf]; omega)⟩
        · skip
          obtain ⟨W9, hW9⟩ : ∃ W, w8.setCell ⟨Y, 1, none⟩ (.slice va (us.length + 1) vc) = W := ⟨_, rfl⟩
          have k9 : Kept w8 W9 [Y] := hW9 ▸ Kept.ofGrown (grown_put 1 _) (fun q e => by cases e; exact List.mem_singleton.2 rfl)
          have y9 : W9.heap[Y]? = some (.cells #[.int .i64 (n : Int), .slice va (us.length + 1) vc] 108) := hW9 ▸ box2_set1 H8.out.2.2.2
          rw [hW9]
          have hYX := HZ.out.1
          have hYD := HZ.out.2.1
          have gq : GrowL [X + 1, Y, X] wq D v us G := ⟨HQ.out.2.1, HK.out.2.2.1.2.1.stp ⟨HQ.out.2.2.2.1.mono (fun q hq => List.mem_append_right _ (by rw [List.mem_singleton.1 hq]; simp)), fun q hq => .inl hq⟩, fun q hq => Nat.lt_of_lt_of_le (HK.out.2.2.1.2.2 q hq) HQ.out.2.2.2.1.size⟩
          have g8 := gq.app (NewPm.growV HK.out.2.2.1 HQ.out.2.2.1) H8.out.1 H8.out.2.1 H8.out.2.2.1
          have l8 : (us ++ [Value.slice (some ⟨pb, 0, none⟩) n pc]).length = us.length + 1 := by simp
          rw [l8] at g8
          have g9 : GrowL [X + 1, Y, X] W9 D (.slice va (us.length + 1) vc) (us ++ [.slice (some ⟨pb, 0, none⟩) n pc]) (G ++ [x]) := ⟨g8.1.keptL k9 (fun q e hq => by have h1 := (g8.1.block_lt e).2; rw [List.mem_singleton.1 hq] at h1; omega), g8.2.1.stp ⟨k9.mono (fun q hq => List.mem_append_right _ (by rw [List.mem_singleton.1 hq]; simp)), fun q hq => .inl hq⟩, fun q hq => Nat.lt_of_lt_of_le (g8.2.2 q hq) k9.size⟩
          have hob : ∀ q, v.ownBlock = some q → D ≤ q := fun q e => (HQ.out.2.1.block_lt e).2
          have hDw : w.heap.size ≤ D := by have := H.out.2.2.2.2; omega
          have kq8 : Kept wq w8 v.ownBlock.toList := Kept.ofGrown H8.out.2.1 (fun q e => mem_ob.2 e)
          have t8 : TkW w w8 (X + 1) l := HQ.out.2.2.2.2.kept kq8 (fun q hq => by have h1 := hob q (mem_ob.1 hq); exact ⟨by omega, by omega⟩)
          have t9 : TkW w W9 (X + 1) l := t8.kept k9 (fun q hq => by rw [List.mem_singleton.1 hq]; have := H.out.2.2.2.2; exact ⟨by omega, by omega⟩)
          have hXs : X < wo.heap.size := (Array.getElem?_eq_some_iff.1 HK.out.2.2.2.2.1).1
          have x9 : W9.heap[X]? = some (.cells #[.int .i64 0, .slice none 0 0] 108) := (k9.block X (by have := kq8.size; have := HQ.out.2.2.2.1.size; omega) (by simp; omega)).trans ((kq8.block X (by have := HQ.out.2.2.2.1.size; omega) (fun hq => by have h1 := hob X (mem_ob.1 hq); omega)).trans ((HQ.out.2.2.2.1.block X hXs (by simp)).trans HK.out.2.2.2.2.1))
          exact ⟨⟨j, G ++ [x], _, _, by go_num, by rw [List.length_append]; have := HK.out.1; simp; omega, y9, g9, t9, x9, Nat.le_trans (Nat.le_trans HK.out.2.2.2.2.2.1 HQ.out.2.2.2.1.size) (Nat.le_trans kq8.size k9.size)⟩, by first | (simp [intOf]; done) | (simp [intOf]; omega)⟩
    · obtain rfl : k = 0 := by omega
      have hk1 : ¬ (0 : Int) < ((0 : Nat) : Int) := by simp
      obtain ⟨va, vc, rfl, _⟩ := hgl.1.row (by rw [hgl.len]; unfold maxLen; omega)
      obtain ⟨y0, y1, y2⟩ := box2_cells hxb
      have y3 := box2_fz hxb
      have HK := Lib.hid (And.intro hG (And.intro hgl (And.intro htk hxb)))
      clear hG hgl htk hxb hyb hvb
      go_wp2_with fail
      have hfin : ((wo.setCell ⟨X, 0, none⟩ (.int .i64 (n : Int))).setCell ⟨X, 1, none⟩ (.slice va us.length vc)).heap[X]? = some (.cells #[.int .i64 (n : Int), .slice va us.length vc] 108) := box2_set1 (box2_set0 HK.out.2.2.2)
      obtain ⟨V, hV⟩ : ∃ V, (wo.setCell ⟨X, 0, none⟩ (.int .i64 (n : Int))).setCell ⟨X, 1, none⟩ (.slice va us.length vc) = V := ⟨_, rfl⟩
      have hKp : Kept wo V [X] := hV ▸ (Kept.ofGrown (grown_put 0 _) (fun q e => by cases e; exact List.mem_singleton.2 rfl)).trans (Kept.ofGrown (grown_put 1 _) (fun q e => by cases e; exact List.mem_singleton.2 rfl))
      rw [hV] at hfin
      rw [hV]
      obtain ⟨f0, f1, _⟩ := box2_cells hfin
      refine bodyPost_ret (v := .agg #[.int .i64 (n : Int), .slice va us.length vc]) (by simp [results, Tryz.results97, go_sem, f0, f1]) rfl ?_
      have hgl9 : GrowL [X + 1, Y, X] V D (.slice va us.length vc) us G := ⟨HK.out.2.1.1.keptL hKp (fun q e hq => by
        have h1 := (HK.out.2.1.1.block_lt e).2
        have h2 := HZ.out.1
        have h3 := HZ.out.2.1
        rw [List.mem_singleton.1 hq] at h1; omega), HK.out.2.1.2.1.stp ⟨hKp.mono (fun q hq => List.mem_append_right _ (by rw [List.mem_singleton.1 hq]; simp)), fun q hq => .inl hq⟩, fun q hq => Nat.lt_of_lt_of_le (HK.out.2.1.2.2 q hq) hKp.size⟩
      refine ⟨n, _, rfl, H3.out.1, ⟨G, by have := HK.out.1; omega, pms_ownB hgl9.1 hgl9.2.1.weakM (by have := HK.out.1; omega)⟩, ?_⟩
      have hb := HK.out.2.2.1.bel
      rw [H.out.2.2.2.2] at hb
      exact hb.trans (hKp.below1 (by have h1 := hb.size; have h2 := H.out.2.2.2.2; omega) (Nat.le_refl _))
end Go.Proofs.YtbejhkojdiadaaaGreat
namespace Go.Proofs.YtbejhkojdiadaaaGreat
open Go.RowKit PlainPm
theorem step_copy1 {w : World} {ops : Array Oper} {o : Oper} {a : Act} {K : Act → World → Prop} {Q : Exit → Act → World → Prop} {E : Prop} (hgd : o.guard = none) (d s : Operand) (T e : TypeId)
    (ho : o.op = .call { callee := .builtin .copy, args := #[d, s], argTypes := #[T, T] }) (hu : Tryz.prog.underlying T = some (.slice e)) (i : TypeInfo) (hi : Tryz.prog.info? e = some i) (hsz : i.size = 1)
    (B g n cap : Nat) (xs : List Value) (hown : Own w B (.slice (some ⟨g, 0, none⟩) n cap) e xs)
    (dp sp : Option Addr) (dLen dCap sLen sCap : Nat) (hd : a.eval d = .slice dp dLen dCap) (hs : a.eval s = .slice sp sLen sCap)
    (off : Nat) (cs : List Value) (hn : cs.length = Nat.min sLen dLen)
    (hpos : 0 < cs.length → dp = some ⟨g, off, none⟩ ∧ ∃ ad, sp = some ad ∧ ∀ j v, cs[j]? = some v → w.cell? (ad.add j) = some v)
    (hfit : off + cs.length ≤ xs.length) (h1 : ∀ v ∈ cs, v.oneCell' = true)
    (hK : ∀ w', Own w' B (.slice (some ⟨g, 0, none⟩) n cap) e (xs.take off ++ (cs ++ xs.drop (off + cs.length))) → w.grownBy w' (some g) → K (a.put o.dst (goInt cs.length)) w') :
    if Region.wanted o (yielded ops a.tmps) = true then Oper.wp Tryz.prog o a w K Q else E := by
  have hw : Region.wanted o (yielded ops a.tmps) = true := by simp [Region.wanted, hgd]
  rw [if_pos hw]
  obtain rfl := hown.lit
  have hsz' : (Tryz.prog.info? e).map (·.size) = some 1 := by rw [hi]; simp [hsz]
  rcases hown.2 with ⟨h2, _⟩ | ⟨g', cap', cur, h2, hB, hh, hnc, hcm, hcs, htk⟩
  · cases h2
  cases h2
  simp only [Nat.mul_one] at hcs htk
  have hl0 : xs.length ≤ cur.toList.length := by rw [← htk]; simp; omega
  by_cases h0 : cs.length = 0
  · obtain rfl : cs = [] := List.eq_nil_of_length_eq_zero h0
    have hrun := run_copy_none (P := Tryz.prog) w T T o.type e dp sp dLen dCap sLen sCap hu hsz' (by simpa using hn.symm)
    unfold Oper.wp
    simp [execOp, ho, resolve, invoke, builtin, hd, hs, hrun, Result.andThen]
    exact hK w (by simpa using hown) (World.grownBy.refl w _)
  · obtain ⟨rfl, ad, rfl, hsrc⟩ := hpos (by omega)
    have hrun := run_copy_row (P := Tryz.prog) w T T o.type e g off dLen dCap ad sLen sCap cur e cs hu hsz' hh hn hsrc (by rw [hcs]; omega) h1
    unfold Oper.wp
    simp [execOp, ho, resolve, invoke, builtin, hd, hs, hrun, Result.andThen]
    refine hK _ ?_ ⟨rfl, rfl, rfl, by simp [World.setRow], fun k hk hne => setRow_other w g k _ (by rintro rfl; exact hne rfl)⟩
    have hlen : (xs.take off ++ (cs ++ xs.drop (off + cs.length))).length = xs.length := by simp; omega
    refine ⟨by omega, .inr ⟨g, cap, _, by rw [hlen], hB, setRow_heap w g _ _ e _ hh, by omega, hcm, ?_, ?_⟩⟩
    · have : cur.toList.length = cur.size := by simp
      simp; omega
    · rw [hlen, Nat.mul_one]
      have := splice_take cur.toList cs xs.length off (by omega) hl0
      rw [htk] at this
      simpa using this
theorem Own.pop {w : World} {B g n cap : Nat} {e : TypeId} {xs : List Value} {u : Value} (h : Own w B (.slice (some ⟨g, 0, none⟩) n cap) e (xs ++ [u])) : Own w B (.slice (some ⟨g, 0, none⟩) xs.length cap) e xs := by
  obtain rfl := h.lit
  rcases h.2 with ⟨h2, _⟩ | ⟨g', cap', cur, h2, hB, hh, hnc, hcm, hcs, htk⟩
  · cases h2
  cases h2
  have h1 := h.1
  simp only [List.length_append, List.length_singleton] at *
  refine ⟨by omega, .inr ⟨g, cap, cur, rfl, hB, hh, by omega, hcm, hcs, ?_⟩⟩
  have := congrArg (List.take xs.length) htk
  simp only [Nat.mul_one, List.take_take, List.take_left'] at this ⊢
  rw [Nat.min_eq_left (by omega)] at this
  rw [this]
section
variable {n : Nat}
theorem pml_ins {w : World} {M : List Nat} {us : List Value} {L : List (Pm n)} {u : Value} {y : Pm n} {lo : Nat} (h : PmL w M us L) (hlo : lo ≤ L.length) (hu : PmV w M u y) : PmL w M (us.take lo ++ u :: us.drop lo) (insAt L lo y) := by
  have hl := h.1
  refine ⟨by unfold insAt; simp [hl], fun k s hs => ?_⟩
  unfold insAt at hs
  have t1 : (L.take lo).length = lo := by rw [List.length_take]; omega
  have t2 : (us.take lo).length = lo := by rw [List.length_take]; omega
  rcases Nat.lt_trichotomy k lo with hk | hk | hk
  · rw [List.getElem?_append_left (by omega), List.getElem?_take, if_pos hk] at hs
    obtain ⟨v, h1, h2⟩ := h.2 k s hs
    exact ⟨v, by rw [List.getElem?_append_left (by omega), List.getElem?_take, if_pos hk]; exact h1, h2⟩
  · subst hk
    rw [List.getElem?_append_right (by omega), t1, Nat.sub_self] at hs
    cases hs
    exact ⟨u, by rw [List.getElem?_append_right (by omega), t2, Nat.sub_self]; rfl, hu⟩
  · obtain ⟨j, rfl⟩ : ∃ j, k = lo + 1 + j := ⟨k - lo - 1, by omega⟩
    rw [List.getElem?_append_right (by omega), t1, show lo + 1 + j - lo = j + 1 by omega, List.getElem?_cons_succ, List.getElem?_drop] at hs
    obtain ⟨v, h1, h2⟩ := h.2 _ s hs
    exact ⟨v, by rw [List.getElem?_append_right (by omega), t2, show lo + 1 + j - lo = j + 1 by omega, List.getElem?_cons_succ, List.getElem?_drop]; exact h1, h2⟩
theorem ins_list {α : Type} (us : List α) (z y : α) {lo : Nat} (h : lo ≤ us.length) : ((us ++ [z]).take (lo + 1) ++ (us.drop lo ++ (us ++ [z]).drop (lo + 1 + (us.drop lo).length))).set lo y = us.take lo ++ y :: us.drop lo := by
  have h1 : (us ++ [z]).drop (lo + 1 + (us.drop lo).length) = [] := List.drop_eq_nil_of_le (by simp; omega)
  obtain ⟨e, he⟩ : ∃ e, (us ++ [z])[lo]? = some e := ⟨_, List.getElem?_eq_getElem (by simp; omega)⟩
  have h2 : (us ++ [z]).take (lo + 1) = us.take lo ++ [e] := by
    rw [List.take_add_one, he, List.take_append_of_le_length h]; rfl
  have h3 : (us.take lo).length = lo := by rw [List.length_take]; omega
  rw [h1, h2, List.append_nil, List.append_assoc, List.set_append_right _ _ (by omega), h3, Nat.sub_self]
  rfl
def NewB (D : Nat) (u : Value) : Prop := ∃ b o l c, u = .slice (some ⟨b, o, none⟩) l c ∧ D ≤ b
theorem NewPm.nb {w w' : World} {v : Value} {x : Pm n} {D : Nat} (h : NewPm w w' v x) (hD : D ≤ w.heap.size) : NewB D v := by
  obtain ⟨b, c, rfl, h1, _⟩ := h
  exact ⟨_, _, _, _, rfl, Nat.le_trans hD h1⟩
theorem nb_ins {D lo : Nat} {us : List Value} {u : Value} (h : ∀ v ∈ us, NewB D v) (hu : NewB D u) : ∀ v ∈ us.take lo ++ u :: us.drop lo, NewB D v := fun v hv => by
  rcases List.mem_append.1 hv with hv | hv
  · exact h v (List.mem_of_mem_take hv)
  · rcases List.mem_cons.1 hv with e | hv
    · rw [e]; exact hu
    · exact h v (List.mem_of_mem_drop hv)
structure ElS (gens : List (Pm n)) (D : Nat) (w wr : World) (va vt : Value) (us ts : List Value) (L todo : List (Pm n)) : Prop where
  oa : Own wr D va 27 us
  ot : Own wr D vt 27 ts
  ne : ∀ q, va.ownBlock = some q → vt.ownBlock ≠ some q
  pa : PmL wr (va.ownBlock.toList ++ vt.ownBlock.toList) us L
  pt : PmL wr (va.ownBlock.toList ++ vt.ownBlock.toList) ts todo
  bel : Below D w wr
  nw : ∀ u ∈ us, NewB D u
def ElsOut (w w' : World) (v : Value) (gens : List (Pm n)) : Prop := ∃ us L, Own w' w.heap.size v 27 us ∧ PmL w' v.ownBlock.toList us L ∧ L.Pairwise lexLt ∧ (∀ x, x ∈ L ↔ Grp (· ∈ gens) x) ∧ ∀ u ∈ us, NewB w.heap.size u
def lenG : Value → Nat
  | .slice (some ⟨g, _, _⟩) _ _ => g
  | _ => 0
def lenC : Value → Nat
  | .slice _ _ c => c
  | _ => 0
def lenV : Value → Nat
  | .slice _ l _ => l
  | _ => 0
theorem snoc_cases {α : Type} (l : List α) : l = [] ∨ ∃ a b, l = a ++ [b] := by
  rcases List.eq_nil_or_concat l with h | ⟨a, b, h⟩
  · exact .inl h
  · exact .inr ⟨a, b, by simpa using h⟩
theorem PmL.extM {w : World} {M M' : List Nat} {us : List Value} {l : List (Pm n)} (h : PmL w M us l) (hM : ∀ m ∈ M', m ∈ M ∨ w.heap.size ≤ m) : PmL w M' us l :=
  ⟨h.1, fun k s hs => by obtain ⟨v, h1, h2⟩ := h.2 k s hs; exact ⟨v, h1, h2.ext hM⟩⟩
set_option maxRecDepth 100000 in
set_option maxHeartbeats 8000000 in
theorem elements45 (hn : 0 < n ∧ n ≤ 64) {w : World} {a0 : Option Addr} {m0 c0 most : Nat} {gens : List (Pm n)} (hg : gens.length = m0) (hm0 : m0 ≤ 1000000) (hv : PmsV w [] (.slice a0 m0 c0) gens) (hmost : facN n ≤ most) (hm2 : most ≤ 5040) :
    Calls Tryz.prog 45 #[.int .i64 (n : Int), .slice a0 m0 c0, .int .i64 (most : Int)] w fun e w' => ∃ v, e = .returned v ∧ ElsOut w w' v gens ∧ Below w.heap.size w w' := by
  obtain ⟨i27, hi27, hz27, hs27, hb27⟩ := info_parts Tryz.info27
  have I27 := Lib.hid (And.intro hi27 (And.intro hz27 (And.intro hs27 hb27)))
  clear hi27 hz27 hs27 hb27
  obtain ⟨D, hD⟩ : ∃ D, w.heap.size = D := ⟨_, rfl⟩
  obtain ⟨_, _, evg, hg63, hatg⟩ := pms_at hv
  rw [hg] at evg hg63
  simp only [Value.slice.injEq, true_and] at evg
  obtain ⟨rfl, rfl⟩ := evg
  have H := Lib.hid (And.intro hatg (And.intro hg (And.intro hD hmost)))
  have h65 := fun (V : World) => one65 (n := n) hn.2 hn.1 (w := V)
  clear hatg hg hmost hv
  go_enter Tryz.func45, Tryz.ntmps45
  go_wp2_with (first
    | (go_at_call 65; (with_reducible refine (h65 _).mono ?_); rintro e3 w3 ⟨v3, rfl, k1, k2⟩
       obtain ⟨b3, c3, rfl, _, _, _⟩ := id k1
       have H3 := Lib.hid (And.intro H2.out.1 (And.intro H2.out.2 (And.intro k1 k2))); clear k1 k2)
    | (go_at_call 65; (with_reducible refine (h65 _).mono ?_); rintro e2 w2 ⟨v2, rfl, k1, k2⟩
       obtain ⟨b2, c2, rfl, _⟩ := id k1
       have H2 := Lib.hid (And.intro k1 k2); clear k1 k2))
  obtain ⟨W3, hW3⟩ : ∃ W3, w2.alloc (.cells #[.slice (some ⟨b2, 0, none⟩) n c2] 27) = W3 := ⟨_, rfl⟩
  obtain ⟨W4, hW4⟩ : ∃ W4, w3.alloc (.cells #[.slice (some ⟨b3, 0, none⟩) n c3] 27) = W4 := ⟨_, rfl⟩
  have hbw2 := H3.out.2.1
  have hs2 := hbw2.size
  have hb3 := H3.out.2.2.2
  have hn3 := H3.out.2.2.1
  rw [hW3] at hb3 hn3
  have hO3 : Own W3 D (.slice (some ⟨w2.heap.size, 0, none⟩) 1 1) 27 [.slice (some ⟨b2, 0, none⟩) n c2] := hW3 ▸ Own.new 27 [.slice (some ⟨b2, 0, none⟩) n c2] (by have := H.out.2.2.1; omega) (by simp; decide)
  have hb34 : Below w3.heap.size w3 W4 := hW4 ▸ alloc_b (Below.refl _ _) _
  have hb23 : Below w2.heap.size w2 W3 := hW3 ▸ alloc_b (Below.refl _ _) _
  have hs3 : W3.heap.size = w2.heap.size + 1 := by rw [← hW3]; simp
  have hs33 := hb3.size
  have hO4 : Own W4 D (.slice (some ⟨w3.heap.size, 0, none⟩) 1 1) 27 [.slice (some ⟨b3, 0, none⟩) n c3] := hW4 ▸ Own.new 27 [.slice (some ⟨b3, 0, none⟩) n c3] (by have := H.out.2.2.1; omega) (by simp; decide)
  have hp2 : PmV w2 [] (.slice (some ⟨b2, 0, none⟩) n c2) (PlainPm.one n) := H3.out.1.pm (by simp)
  have hp2' : PmV W4 [w2.heap.size, w3.heap.size] (.slice (some ⟨b2, 0, none⟩) n c2) (PlainPm.one n) := hp2.fresh (below_trans hb23 (below_trans hb3 hb34)) (fun q hq => by simp at hq; omega)
  have hp3 : PmV w3 [w2.heap.size] (.slice (some ⟨b3, 0, none⟩) n c3) (PlainPm.one n) := hn3.pm (fun q hq => by simp at hq; omega)
  have hp3' : PmV W4 [w2.heap.size, w3.heap.size] (.slice (some ⟨b3, 0, none⟩) n c3) (PlainPm.one n) := (hp3.ext (M' := [w2.heap.size, w3.heap.size]) (fun q hq => by
    simp at hq
    rcases hq with e | e
    · exact .inl (by simp [e])
    · exact .inr (by omega))).below hb34
  have hE0 : ElS gens D w W4 (.slice (some ⟨w2.heap.size, 0, none⟩) 1 1) (.slice (some ⟨w3.heap.size, 0, none⟩) 1 1) [.slice (some ⟨b2, 0, none⟩) n c2] [.slice (some ⟨b3, 0, none⟩) n c3] [PlainPm.one n] [PlainPm.one n] := by
    refine ⟨hO3.below (below_trans hb3 hb34), hO4, fun q e e' => ?_, ⟨rfl, fun k s hs => ?_⟩, ⟨rfl, fun k s hs => ?_⟩, ?_, fun u hu => by rw [List.mem_singleton.1 hu]; exact H3.out.1.nb (Nat.le_of_eq H.out.2.2.1.symm)⟩
    · have e1 : w2.heap.size = q := Option.some.inj e
      have e2 : w3.heap.size = q := Option.some.inj e'
      omega
    · match k, hs with
      | 0, hs => simp at hs; subst hs; exact ⟨_, rfl, hp2'⟩
      | k + 1, hs => simp at hs
    · match k, hs with
      | 0, hs => simp at hs; subst hs; exact ⟨_, rfl, hp3'⟩
      | k + 1, hs => simp at hs
    · rw [← H.out.2.2.1]
      exact below_trans hbw2 (below_trans hb23 (below_trans hb3 hb34))
  have HE0 := Lib.hid hE0
  rw [hW4]
  clear hE0 hp3' hp3 hp2' hp2 hO4 hO3 hs33 hs3 hb23 hb34 hn3 hb3 hs2 hbw2 hW4 hW3
  go_loopw [7, 8, 9, 10, 11, 12, 13] (fun va vt _ _ _ _ _ wr => ∃ (L : List (Pm n)) (us : List Value) (todo : List (Pm n)) (ts : List Value), ElS gens D w wr va vt us ts L todo ∧ Bfs gens L todo ∧ todo.length ≤ L.length) (fun va vt _ _ _ _ _ _ => 2 * (facN n - lenV va) + lenV vt)
  case atStart => exact ⟨_, _, _, _, HE0.out, Bfs.start gens, Nat.le_refl _⟩
  case round =>
    obtain ⟨L, us, todo, ts, hE, hB, htL⟩ := hrel
    obtain ⟨ga, ca, rfl, hga, _, hca, _⟩ := hE.oa.form (by rw [hE.pa.1]; exact List.length_pos_of_mem hB.one)
    rcases snoc_cases todo with rfl | ⟨todo', x, rfl⟩
    · obtain rfl : ts = [] := List.eq_nil_of_length_eq_zero hE.pt.1
      obtain ⟨at0, ct, rfl, _⟩ := hE.ot.row (by simp)
      have HK := Lib.hid (And.intro hE hB)
      clear hE hB
      go_wp2_with fail
      go_ret
      refine ⟨_, rfl, ⟨us, L, by rw [H.out.2.2.1]; exact HK.out.1.oa, HK.out.1.pa.extM (fun q hq => .inl (List.mem_append_left _ hq)), HK.out.2.srt, HK.out.2.fin, by rw [H.out.2.2.1]; exact HK.out.1.nw⟩, by rw [H.out.2.2.1]; exact HK.out.1.bel⟩
    · obtain ⟨ts', u, rfl⟩ : ∃ ts' u, ts = ts' ++ [u] := by
        rcases snoc_cases ts with e | ⟨a, b, e⟩
        · have := hE.pt.1; rw [e] at this; simp at this
        · exact ⟨a, b, e⟩
      obtain ⟨gt, ct, rfl, hgt, _, hct, _⟩ := hE.ot.form (by simp)
      obtain ⟨T, hT⟩ : ∃ T, ts'.length = T := ⟨_, rfl⟩
      obtain ⟨N, hN⟩ : ∃ N, us.length = N := ⟨_, rfl⟩
      have hcl := hE.ot.cell T (by simp [hT])
      rw [show (ts' ++ [u])[T]? = some u by rw [← hT]; simp] at hcl
      have htl : ts'.length = todo'.length := by have := hE.pt.1; simpa using this
      obtain ⟨u', hu', hpu⟩ := hE.pt.2 T x (by rw [← hT, htl]; simp)
      rw [show (ts' ++ [u])[T]? = some u by rw [← hT]; simp] at hu'
      cases hu'
      obtain ⟨ub, uo, uc, rfl, _⟩ := id hpu
      have hl1 : (ts' ++ [Value.slice (some ⟨ub, uo, none⟩) n uc]).length = T + 1 := by simp [hT]
      rw [hl1] at hct
      rw [hl1, hN]
      have hLF : L.length ≤ facN n := pm_card (sorted_nodup hB.srt)
      have hNL : N = L.length := by rw [← hN]; exact hE.pa.1
      have hTL : T + 1 ≤ L.length := by rw [← hT, htl]; simpa using htL
      have hTb : T ≤ 1000000 := by have := H.out.2.2.2; omega
      have hT0 : (0 : Int) ≤ (T : Int) := by omega
      have hT1 : (T : Int) < ((T + 1 : Nat) : Int) := by omega
      have hT2 : (T : Int) ≤ (ct : Int) := by omega
      have hwT : IntKind.i64.wrap (((T + 1 : Nat) : Int) - 1) = (T : Int) := by rw [show (((T + 1 : Nat) : Int) - 1) = (T : Int) by omega]; exact IntWalk.i64_in _ (by omega)
      have HK := Lib.hid (And.intro hE (And.intro hB (And.intro hT (And.intro hN (And.intro htl (And.intro hpu (And.intro hLF (And.intro hNL hTL))))))))
      clear htL hTL hE hB hT hN htl hpu hLF hNL hl1
      go_wp2_with fail
      have hE1 : ElS gens D w wr (.slice (some ⟨ga, 0, none⟩) N ca) (.slice (some ⟨gt, 0, none⟩) T ct) us ts' L todo' := by
        have hE := HK.out.1
        have h1 := hE.ot.pop
        rw [HK.out.2.2.1] at h1
        have h2 := hE.oa
        rw [HK.out.2.2.2.1] at h2
        exact ⟨h2, h1, hE.ne, hE.pa, ⟨by rw [HK.out.2.2.2.2.1], fun k s hs => by
          have hk := (List.getElem?_eq_some_iff.1 hs).1
          obtain ⟨v, q1, q2⟩ := hE.pt.2 k s (by rw [List.getElem?_append_left hk]; exact hs)
          rw [List.getElem?_append_left (by rw [HK.out.2.2.2.2.1]; exact hk)] at q1
          exact ⟨v, q1, q2⟩⟩, hE.bel, hE.nw⟩
      have HE1 := Lib.hid hE1
      clear hE1
      obtain ⟨wo, rfl⟩ : ∃ wo, wo = wr := ⟨_, rfl⟩
      go_loopw [7, 8, 10, 11, 12, 13] (fun va vt i _ _ _ wr => ∃ (k : Nat) (L1 : List (Pm n)) (us : List Value) (todo : List (Pm n)) (ts : List Value), k ≤ m0 ∧ i = .int .i64 (k : Int) ∧ ElS gens D w wr va vt us ts L1 todo ∧ BfsI gens L1 todo x k ∧ PmV wr (va.ownBlock.toList ++ vt.ownBlock.toList) (.slice (some ⟨ub, uo, none⟩) n uc) x ∧ todo.length + 1 ≤ L1.length ∧ 2 * L.length + todo.length ≤ 2 * L1.length + T ∧ va = .slice (some ⟨lenG va, 0, none⟩) us.length (lenC va) ∧ vt = .slice (some ⟨lenG vt, 0, none⟩) ts.length (lenC vt)) (fun _ _ i _ _ _ _ => m0 - (intOf i).toNat)
      case atStart => exact ⟨0, L, us, todo', ts', by omega, rfl, HE1.out, HK.out.2.1.pop, HK.out.2.2.2.2.2.1, by have := HK.out.2.2.2.2.2.2.2.2; have := HK.out.2.2.1; have := HK.out.2.2.2.2.1; omega, by have := HK.out.2.2.1; have := HK.out.2.2.2.2.1; omega, by rw [HK.out.2.2.2.1]; rfl, by rw [HK.out.2.2.1]; rfl⟩
      case round =>
        obtain ⟨k, L1, us1, todo1, ts1, hk, rfl, hE, hB, hpu, hT1', hms, hva, hvt⟩ := hrel
        obtain ⟨g1, hg1⟩ : ∃ q, lenG u7 = q := ⟨_, rfl⟩
        obtain ⟨c1, hc1⟩ : ∃ q, lenC u7 = q := ⟨_, rfl⟩
        obtain ⟨t1, ht1⟩ : ∃ q, lenG u8 = q := ⟨_, rfl⟩
        obtain ⟨d1, hd1⟩ : ∃ q, lenC u8 = q := ⟨_, rfl⟩
        obtain ⟨N1, hN1⟩ : ∃ q, us1.length = q := ⟨_, rfl⟩
        obtain ⟨T1, hT1⟩ : ∃ q, ts1.length = q := ⟨_, rfl⟩
        rw [hg1, hc1, hN1] at hva
        rw [ht1, hd1, hT1] at hvt
        clear hg1 hc1 ht1 hd1
        subst hva
        subst hvt
        have hNL1 : N1 = L1.length := by rw [← hN1]; exact hE.pa.1
        have hTL1 : T1 = todo1.length := by rw [← hT1]; exact hE.pt.1
        have hLF1 : L1.length ≤ facN n := pm_card (sorted_nodup hB.srt)
        have hN5 : N1 ≤ 5040 := by have := H.out.2.2.2; omega
        have hT5 : T1 ≤ 5040 := by omega
        have hbw : Below w.heap.size w wr := by rw [H.out.2.2.1]; exact hE.bel
        by_cases hkm : k < m0
        · have hk1 : (k : Int) < m0 := by omega
          obtain ⟨g, hgk⟩ : ∃ g, gens[k]? = some g := ⟨_, List.getElem?_eq_getElem (by rw [H.out.2.1]; exact hkm)⟩
          obtain ⟨gg, og, ug, rfl, hcg, hpg⟩ := H.out.1 k g hgk
          have hcgr := (hbw.cell (block_lt_of_cell hcg)).trans hcg
          have h49 := mul49 hn.2 hn.1 hpu.weak (hpg.below hbw)
          obtain ⟨ugb, ugo, ugc, rfl, _⟩ := id hpg
          have HI := Lib.hid (And.intro hE (And.intro hB (And.intro hpu (And.intro hT1' (And.intro hms (And.intro hN1 (And.intro hT1 (And.intro hNL1 (And.intro hTL1 (And.intro hLF1 (And.intro hbw (And.intro hgk h49))))))))))))
          clear hE hB hpu hT1' hms hN1 hT1 hNL1 hTL1 hLF1 hbw hgk h49 hpg
          by_cases hm : x.mul g ∈ L1
          · have Hm := Lib.hid hm
            clear hm
            go_wp2_with (first
              | (go_at_call 100; (with_reducible refine H5.out.2.2.mono ?_); rintro e6 w6 ⟨lo, t, rfl, q1, q2, q3, q4, q5, q6⟩
                 have ht : t = true := q2.2 Hm.out
                 subst ht
                 have H6 := Lib.hid q4; clear q1 q2 q3 q4 q5 q6)
              | (go_at_call 49; (with_reducible refine HI.out.2.2.2.2.2.2.2.2.2.2.2.2.mono ?_); rintro e5 w5 ⟨v5, rfl, k1, k2⟩
                 have hp5 := pms_ownB (HI.out.1.oa.below k2) ((HI.out.1.pa.extM (M' := []) (by simp)).below k2) (by have h9 := HI.out.2.2.2.2.2.2.2.1; omega)
                 have h100 := place100c hn.2 (by have h9 := HI.out.2.2.2.2.2.2.2.1; omega) HI.out.2.1.srt hp5 (show PmV w5 [] v5 (x.mul g) from k1.pm (by simp))
                 have H5 := Lib.hid (And.intro k1 (And.intro k2 h100)); clear k1 k2 h100 hp5))
            have hb6 := below_trans H5.out.2.1 H6.out
            have hE := HI.out.1
            refine ⟨⟨k + 1, L1, us1, todo1, ts1, by omega, by go_num, ⟨hE.oa.below hb6, hE.ot.below hb6, hE.ne, hE.pa.stp (Stp.below hb6), hE.pt.stp (Stp.below hb6), hE.bel.trans (hb6.mono (by have h8 := hE.bel.size; have h9 := H.out.2.2.1; omega)), hE.nw⟩, HI.out.2.1.old HI.out.2.2.2.2.2.2.2.2.2.2.2.1 Hm.out, HI.out.2.2.1.below hb6, HI.out.2.2.2.1, HI.out.2.2.2.2.1, by rw [HI.out.2.2.2.2.2.1]; rfl, by rw [HI.out.2.2.2.2.2.2.1]; rfl⟩, by simp [intOf]; omega⟩
          · have hcard : L1.length + 1 ≤ facN n := by
              have := pm_card (L := x.mul g :: L1) (List.nodup_cons.2 ⟨hm, sorted_nodup HI.out.2.1.srt⟩)
              simpa using this
            have hmo1 : decide ((most : Int) ≤ (N1 : Int)) = false := by have h8 := HI.out.2.2.2.2.2.2.2.1; have h9 := H.out.2.2.2; simp; omega
            have hmo2 : decide (most ≤ N1) = false := by have h8 := HI.out.2.2.2.2.2.2.2.1; have h9 := H.out.2.2.2; simp; omega
            have hul : us1.length < 1099511627776 := by have h8 := HI.out.2.2.2.2.2.1; omega
            have Hm := Lib.hid (And.intro hm hcard)
            clear hm hcard
            go_wp2_with (first
              | (at_builtin; refine app1 rfl (.tmp 57) (.tmp 58) 44 27 rfl i27 (.slice none 0 0) 24 Tryz.underlying44 I27.out.1 I27.out.2.1 I27.out.2.2.1 I27.out.2.2.2 rfl (by omega) D (.slice none 0 0) (.slice (some ⟨g1, 0, none⟩) N1 c1) us1 rfl H6.out.2.2.2.2 rfl rfl hul (by have h8 := HI.out.1.bel.size; have h9 := H5.out.2.1.size; have h7 := H6.out.2.1.size; omega) ?_; intro v8 w8 k1 k2 k3
                 obtain ⟨g8, c8, rfl, hg8, _, hc8, _⟩ := k1.form (by simp)
                 have hlen8 : (us1 ++ [Value.slice none 0 0]).length = N1 + 1 := by have h8 := HI.out.2.2.2.2.2.1; simp [h8]
                 rw [hlen8] at k1 hc8
                 rw [hlen8]
                 have H8 := Lib.hid (And.intro k1 (And.intro k2 k3)); clear k1 k2 k3 hlen8)
              | (go_at_call 100; (with_reducible refine H5.out.2.2.mono ?_); rintro e6 w6 ⟨lo, t, rfl, q1, q2, q3, q4, q5, q6⟩
                 have ht : t = false := by cases t with | false => rfl | true => exact absurd (q2.1 rfl) Hm.out.1
                 subst ht
                 have H6 := Lib.hid (And.intro q1 (And.intro q4 (And.intro q5 (And.intro q6 ((HI.out.1.oa.below H5.out.2.1).below q4))))); clear q1 q2 q3 q4 q5 q6)
              | (go_at_call 49; (with_reducible refine HI.out.2.2.2.2.2.2.2.2.2.2.2.2.mono ?_); rintro e5 w5 ⟨v5, rfl, k1, k2⟩
                 obtain ⟨yb, yc, rfl, _⟩ := id k1
                 have hp5 := pms_ownB (HI.out.1.oa.below k2) ((HI.out.1.pa.extM (M' := []) (by simp)).below k2) (by have h9 := HI.out.2.2.2.2.2.2.2.1; omega)
                 have h100 := place100c hn.2 (by have h9 := HI.out.2.2.2.2.2.2.2.1; omega) HI.out.2.1.srt hp5 (show PmV w5 [] (.slice (some ⟨yb, 0, none⟩) n yc) (x.mul g) from k1.pm (by simp))
                 have H5 := Lib.hid (And.intro k1 (And.intro k2 h100)); clear k1 k2 h100 hp5))
            have hloN : lo ≤ N1 := by have h7 := H6.out.1; have h8 := HI.out.2.2.2.2.2.2.2.1; omega
            have hl0 : (0 : Int) ≤ (lo : Int) + 1 := by omega
            have hl1 : (lo : Int) + 1 ≤ ((N1 + 1 : Nat) : Int) := by omega
            have hl2 : (lo : Int) ≤ ((N1 + 1 : Nat) : Int) := by omega
            have hl3 : N1 + 1 ≤ c8 := hc8
            have hl4 : (lo : Int) ≤ (N1 : Int) + 1 := by omega
            have hl5 : (lo : Int) + 1 ≤ (N1 : Int) + 1 := by omega
            have hne1 : ¬ c8 = lo := by omega
            have hwl : IntKind.i64.wrap ((lo : Int) + 1) = ((lo + 1 : Nat) : Int) := by rw [show ((lo : Int) + 1) = ((lo + 1 : Nat) : Int) by simp]; exact IntWalk.i64_in _ (by omega)
            have hul1 : us1.length = N1 := HI.out.2.2.2.2.2.1
            have hcp : ∀ j v, (us1.drop lo)[j]? = some v → w8.cell? ((⟨g8, lo, none⟩ : Addr).add j) = some v := fun j v hj => by
              have hjl := (List.getElem?_eq_some_iff.1 hj).1
              rw [List.length_drop] at hjl
              have h1 := H8.out.1.cell (lo + j) (by simp [hul1]; omega)
              rw [List.getElem?_append_left (by omega)] at h1
              rw [List.getElem?_drop] at hj
              rw [show ((⟨g8, lo, none⟩ : Addr).add j) = ⟨g8, lo + j, none⟩ by simp [Addr.add]]
              exact h1.trans hj
            have Hc := Lib.hid (And.intro hcp hul1)
            clear hcp hul1
            go_region_law
              (first
                | (refine step_copy1 ?_ (.tmp 63) (.tmp 66) 44 27 ?_ Tryz.underlying44 i27 I27.out.1 I27.out.2.2.1 D g8 (N1 + 1) c8 (us1 ++ [.slice none 0 0]) ?_ (if c8 = lo + 1 then some ⟨g8, 0, none⟩ else some ⟨g8, lo + 1, none⟩) (some ⟨g8, lo, none⟩) (N1 - lo) (c8 - (lo + 1)) (N1 + 1 - lo) (c8 - lo) ?_ ?_ (lo + 1) (us1.drop lo) ?_ ?_ ?_ ?_ ?_
                   rfl
                   rfl
                   first | exact H8.out.1 | exact H8.out.1.drew | exact H8.out.1.drewN _
                   rfl
                   rfl
                   rw [List.length_drop, Hc.out.2]; exact (Nat.min_eq_right (by omega)).symm
                   intro hpos
                   rw [List.length_drop, Hc.out.2] at hpos
                   refine ⟨if_neg (by omega), _, rfl, ?_⟩
                   first | exact Hc.out.1 | exact fun j v hj => Hc.out.1 j v hj
                   rw [List.length_drop, Hc.out.2]; simp [Hc.out.2]; omega
                   exact fun v hv => HI.out.1.pa.weakM.one_ v (List.mem_of_mem_drop hv)
                   intro w9 k1 k2
                   have H9 := Lib.hid (And.intro k1 k2)
                   clear k1 k2))
            have hul1 : us1.length = N1 := HI.out.2.2.2.2.2.1
            have hO9 := H9.out.1
            have hins := ins_list us1 (Value.slice none 0 0) (Value.slice (some ⟨yb, 0, none⟩) n yc) (lo := lo) (by omega)
            have hO10 := hO9.put lo (.slice (some ⟨yb, 0, none⟩) n yc)
            rw [hins] at hO10
            obtain ⟨e9, he9⟩ : ∃ e, (((us1 ++ [Value.slice none 0 0]).take (lo + 1) ++ (us1.drop lo ++ (us1 ++ [Value.slice none 0 0]).drop (lo + 1 + (us1.drop lo).length))))[lo]? = some e := ⟨_, List.getElem?_eq_getElem (by simp [hul1]; omega)⟩
            have hcell9 : w9.cell? ⟨g8, lo, none⟩ = some e9 := (hO9.cell lo (by simp [hul1]; omega)).trans he9
            have hfz9 := hO9.frozen lo
            obtain ⟨W10, hW10⟩ : ∃ W, w9.setCell ⟨g8, lo, none⟩ (.slice (some ⟨yb, 0, none⟩) n yc) = W := ⟨_, rfl⟩
            have hg10 : w9.grownBy W10 (some g8) := hW10 ▸ grown_put lo _
            rw [hW10] at hO10
            have hb56 : Below w5.heap.size w5 w6 := H6.out.2.1
            have hg1t1 : g1 ≠ t1 := fun e => HI.out.1.ne g1 rfl (by rw [e]; rfl)
            have hs6 : wr.heap.size ≤ w6.heap.size := Nat.le_trans H5.out.2.1.size hb56.size
            have ht1s : t1 < wr.heap.size := (HI.out.1.ot.block_lt rfl).1
            have hg8t1 : g8 ≠ t1 := by
              rcases H8.out.2.2 with e | ⟨q, e, hq⟩
              · have e' : some g8 = some g1 := e
                cases e'; exact hg1t1
              · have e' : some g8 = some q := e
                cases e'; omega
            have hot6 : Own w6 D (.slice (some ⟨t1, 0, none⟩) T1 d1) 27 ts1 := (HI.out.1.ot.below H5.out.2.1).below hb56
            have hot8 := hot6.kept H8.out.2.1 (.inr (fun e => by have e' : some t1 = some g1 := e; cases e'; exact hg1t1 rfl))
            have hot9 := (show Own w8.drew D _ 27 ts1 from hot8).kept H9.out.2 (.inr (fun e => by have e' : some t1 = some g8 := e; cases e'; exact hg8t1 rfl))
            have hot10 := hot9.kept hg10 (.inr (fun e => by have e' : some t1 = some g8 := e; cases e'; exact hg8t1 rfl))
            have hlo9 : (lo : Int) < (N1 : Int) + 1 := by omega
            have hlo8 : (0 : Int) ≤ (lo : Int) := by omega
            have htl1 : ts1.length < 1099511627776 := by have h8 := HI.out.2.2.2.2.2.2.1; omega
            have hD10 : D ≤ W10.heap.size := by have h1 := (hO10.block_lt rfl).2; have h2 := (hO10.block_lt rfl).1; omega
            have HX := Lib.hid (And.intro hO10 (And.intro hot10 (And.intro hg10 (And.intro hg8t1 (And.intro hb56 (And.intro ht1s hs6))))))
            clear hO9 hins hO10 hot6 hot8 hot9 hot10 hg10 he9 hg8t1 hb56 ht1s hs6 hul1
            go_wp2_with (at_builtin; refine app1 rfl (.tmp 72) (.tmp 74) 44 27 rfl i27 (.slice none 0 0) 24 Tryz.underlying44 I27.out.1 I27.out.2.1 I27.out.2.2.1 I27.out.2.2.2 rfl (by omega) D (.slice (some ⟨yb, 0, none⟩) n yc) (.slice (some ⟨t1, 0, none⟩) T1 d1) ts1 rfl HX.out.2.1 rfl rfl htl1 hD10 ?_; intro v11 w11 k1 k2 k3
                         obtain ⟨t11, d11, rfl, _, _, _, _⟩ := k1.form (by simp)
                         have H11 := Lib.hid (And.intro k1 (And.intro k2 k3)); clear k1 k2 k3)
            have hul1 : us1.length = N1 := HI.out.2.2.2.2.2.1
            have hg8 : ∀ q ∈ ([g8] ++ [t1] : List Nat), q ∈ ([g1] ++ [t1] : List Nat) ∨ w6.heap.size ≤ q := fun q hq => by
              simp at hq
              rcases hq with e | e
              · subst e
                rcases H8.out.2.2 with e | ⟨q', e, hq'⟩
                · have e' : some q = some g1 := e
                  cases e'; exact .inl (by simp)
                · have e' : some q = some q' := e
                  cases e'; exact .inr hq'
              · exact .inl (by simp [e])
            have ht11 : ∀ q ∈ ([g8] ++ [t11] : List Nat), q ∈ ([g8] ++ [t1] : List Nat) ∨ W10.heap.size ≤ q := fun q hq => by
              simp at hq
              rcases hq with e | e
              · exact .inl (by simp [e])
              · subst e
                rcases H11.out.2.2 with e | ⟨q', e, hq'⟩
                · have e' : some q = some t1 := e
                  cases e'; exact .inl (by simp)
                · have e' : some q = some q' := e
                  cases e'; exact .inr hq'
            have S68 : Stp w6 ([g1] ++ [t1]) w8 ([g8] ++ [t1]) := ⟨Kept.ofGrown H8.out.2.1 (fun q e => by have e' : some g1 = some q := e.symm ▸ rfl; cases e'; simp), hg8⟩
            have S810 : Stp w8 ([g8] ++ [t1]) W10 ([g8] ++ [t1]) := ⟨(show Kept w8 w9 _ from ((Kept.refl w8 _).drewN 1).trans (Kept.ofGrown H9.out.2 (fun q e => by cases e; simp))).trans (Kept.ofGrown HX.out.2.2.1 (fun q e => by cases e; simp)), fun q hq => .inl hq⟩
            have S1011 : Stp W10 ([g8] ++ [t1]) w11 ([g8] ++ [t11]) := ⟨Kept.ofGrown H11.out.2.1 (fun q e => by have e' : some t1 = some q := e.symm ▸ rfl; cases e'; simp), ht11⟩
            have S5 : Stp w5 ([g1] ++ [t1]) w11 ([g8] ++ [t11]) := (Stp.below HX.out.2.2.2.2.1).trans (S68.trans (S810.trans S1011))
            have S0 : Stp wr ([g1] ++ [t1]) w11 ([g8] ++ [t11]) := (Stp.below H5.out.2.1).trans S5
            have hg1s : g1 < wr.heap.size ∧ D ≤ g1 := HI.out.1.oa.block_lt rfl
            have ht1s : t1 < wr.heap.size ∧ D ≤ t1 := HI.out.1.ot.block_lt rfl
            have hy5 : PmV w5 ([g1] ++ [t1]) (.slice (some ⟨yb, 0, none⟩) n yc) (x.mul g) := H5.out.1.pm (fun q hq => by simp at hq; rcases hq with e | e <;> omega)
            have hne11 : g8 ≠ t11 := by
              rcases ht11 t11 (by simp) with h | h
              · rcases H11.out.2.2 with e | ⟨q', e, hq'⟩
                · have e' : some t11 = some t1 := e
                  cases e'; exact HX.out.2.2.2.1
                · have e' : some t11 = some q' := e
                  cases e'
                  have h1 := (HX.out.1.block_lt rfl).1
                  have h2 : g8 < W10.heap.size := h1
                  omega
              · have h2 : g8 < W10.heap.size := (HX.out.1.block_lt rfl).1
                omega
            have hu2 : (us1.take lo ++ Value.slice (some ⟨yb, 0, none⟩) n yc :: us1.drop lo).length = N1 + 1 := by simp [hul1]; omega
            have ht2 : (ts1 ++ [Value.slice (some ⟨yb, 0, none⟩) n yc]).length = T1 + 1 := by simp [HI.out.2.2.2.2.2.2.1]
            have hoa11 : Own w11 D (.slice (some ⟨g8, 0, none⟩) (N1 + 1) c8) 27 (us1.take lo ++ Value.slice (some ⟨yb, 0, none⟩) n yc :: us1.drop lo) := HX.out.1.kept H11.out.2.1 (.inr (fun e => by have e' : some g8 = some t1 := e; cases e'; exact HX.out.2.2.2.1 rfl))
            have hbl : Below D wr w11 := S0.1.below (Nat.le_trans hg1s.2 (Nat.le_of_lt hg1s.1)) (fun q hq => by simp at hq; rcases hq with e | e <;> omega)
            have h11 : Own w11 D (.slice (some ⟨t11, 0, none⟩) (ts1.length + 1) d11) 27 (ts1 ++ [.slice (some ⟨yb, 0, none⟩) n yc]) := by have h := H11.out.1; rwa [List.length_append, List.length_singleton] at h
            have hlo := H6.out.1
            have hL2 := insAt_len (y := x.mul g) hlo
            refine ⟨⟨k + 1, insAt L1 lo (x.mul g), us1.take lo ++ .slice (some ⟨yb, 0, none⟩) n yc :: us1.drop lo, todo1 ++ [x.mul g], ts1 ++ [.slice (some ⟨yb, 0, none⟩) n yc], by omega, by go_num, ⟨hoa11, h11, fun q e e' => ?_, ?_, ?_, HI.out.1.bel.trans hbl, nb_ins HI.out.1.nw (H5.out.1.nb (Nat.le_trans hg1s.2 (Nat.le_of_lt hg1s.1)))⟩, HI.out.2.1.new HI.out.2.2.2.2.2.2.2.2.2.2.2.1 Hm.out.1 H6.out.2.2.1 H6.out.2.2.2.1, ?_, ?_, ?_, ?_, ?_⟩, by simp [intOf]; omega⟩
            · have e1 : some g8 = some q := e
              have e2 : some t11 = some q := e'
              cases e1; cases e2; exact hne11 rfl
            · exact pml_ins (HI.out.1.pa.stp S0) hlo (hy5.stp S5)
            · exact (HI.out.1.pt.stp S0).snoc (hy5.stp S5)
            · exact HI.out.2.2.1.stp S0
            · have := HI.out.2.2.2.1; rw [List.length_append, hL2]; simp; omega
            · have := HI.out.2.2.2.2.1; rw [List.length_append, hL2]; simp; omega
            · show _ = Value.slice (some ⟨g8, 0, none⟩) _ c8; rw [hu2]
            · show _ = Value.slice (some ⟨t11, 0, none⟩) _ d11; rw [List.length_append]; rfl
        · have hk1 : ¬ (k : Int) < m0 := by omega
          have hkm0 : k = gens.length := by rw [H.out.2.1]; omega
          rw [hkm0] at hB
          have HI := Lib.hid (And.intro hE (And.intro hB.done (And.intro hT1' (And.intro hms (And.intro hNL1 (And.intro hTL1 hLF1))))))
          clear hE hB hpu hT1' hms hLF1 hbw hN1 hT1
          go_wp2_with fail
          refine ⟨⟨L1, us1, todo1, ts1, HI.out.1, HI.out.2.1, by have := HI.out.2.2.1; omega⟩, ?_⟩
          have h1 := HI.out.2.2.2.1
          have h2 := HI.out.2.2.2.2.1
          have h3 := HI.out.2.2.2.2.2.1
          have h4 := HI.out.2.2.2.2.2.2
          have h5 := HK.out.2.2.2.2.2.2.2.1
          have h6 := HK.out.2.2.2.2.2.2.1
          simp only [lenV]
          omega
end
end Go.Proofs.YtbejhkojdiadaaaGreat
namespace Go.Proofs.YtbejhkojdiadaaaGreat
open Go.RowKit PlainPm
theorem stB {w : World} (u0 u1 u2 : Value) : ∃ (Y : Nat) (U V : World), w.heap.size = Y ∧ w.alloc (.cells #[.int .i64 0, .slice none 0 0, .slice none 0 0] 25) = U ∧
    U.cell? ⟨Y, 0, none⟩ = some (.int .i64 0) ∧ U.cell? ⟨Y, 1, none⟩ = some (.slice none 0 0) ∧ U.cell? ⟨Y, 2, none⟩ = some (.slice none 0 0) ∧ U.frozen? ⟨Y, 0, none⟩ = false ∧ U.frozen? ⟨Y, 1, none⟩ = false ∧ U.frozen? ⟨Y, 2, none⟩ = false ∧
    set3 U Y u0 u1 u2 = V ∧ Below w.heap.size w V ∧ V.heap[Y]? = some (.cells #[u0, u1, u2] 25) := by
  have y0 : (w.alloc (.cells #[.int .i64 0, .slice none 0 0, .slice none 0 0] 25)).heap[w.heap.size]? = some (.cells #[.int .i64 0, .slice none 0 0, .slice none 0 0] 25) := box_al25 rfl _ _ _
  obtain ⟨s0, s1, s2, s3, s4, s5⟩ := box_cells y0
  exact ⟨_, _, _, rfl, rfl, s0, s1, s2, s5, s3, s4, rfl, (alloc_b (Below.refl _ _) _).trans ((set3_kept (S := [w.heap.size]) (by simp)).below1 (by simp) (Nat.le_refl _)), set3_box y0⟩
end Go.Proofs.YtbejhkojdiadaaaGreat
