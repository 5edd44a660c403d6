/- The reference's check of a group and Of, for drawn groups. · Chapter 11's group: a drawn group and a drawn subgroup. · Rank and Unrank on both sides. · elements: an iterator that calls itself. -/
import Derived.Test.YtbejhkojdiadaaaGreatCo01
import Derived.Test.YtbejhkojdiadaaaGreatCo02
import Derived.Test.YtbejhkojdiadaaaGreatCo03
import Derived.Test.YtbejhkojdiadaaaGreatCo04
import Derived.Test.YtbejhkojdiadaaaGreatCo05
import Derived.Test.YtbejhkojdiadaaaGreatCo06
import Derived.Test.YtbejhkojdiadaaaGreatCo07
import Derived.Test.YtbejhkojdiadaaaGreatCo08
import Derived.Test.YtbejhkojdiadaaaGreatCo09
import Derived.Test.YtbejhkojdiadaaaGreatCo10
import Derived.Test.YtbejhkojdiadaaaGreatCo11
import Derived.Test.YtbejhkojdiadaaaGreatCo12
import Derived.Test.YtbejhkojdiadaaaGreatCo13
import Derived.Test.YtbejhkojdiadaaaGreatCo14
import Derived.Test.YtbejhkojdiadaaaGreatCo15
import Derived.Test.YtbejhkojdiadaaaGreatCo16
import Derived.Test.YtbejhkojdiadaaaGreatCo17
import Derived.Test.YtbejhkojdiadaaaGreatCo18
import Derived.Test.YtbejhkojdiadaaaGreatCo19
import Derived.Test.YtbejhkojdiadaaaGreatCo20
import Derived.Test.YtbejhkojdiadaaaGreatProg
import Derived.WalkKit
import Derived.WalkSpells
import Derived.BigQuiet
import Derived.Deep.QuietTactic
import Derived.Deep.LoopGhost
import Derived.Lib.Hide
import Derived.Maps.AppendAt
import Derived.Deep.AppendLies
import Derived.StillTailTactics
import Derived.Laws.CopyOwn
import Derived.Deep.OwnRows
import Derived.Deep.DeepCutAuto
import Derived.Laws.Cover3
import Derived.Deep.RegionHeld3
import Derived.RangeFuncRecord
import Derived.Lib.SlicesSearch
import Derived.RangeFuncBox
import Derived.RangeFuncLeaves
import Derived.RangeFuncWrites
import Derived.RangeFuncFrom
import Derived.Shelf.Abstract
import Derived.OwnWalkIn
import Derived.TacticsInMore
import Derived.LoopNIn
import Derived.LoopIn
import Derived.Shelf.GgSortFunc.Insertion
import Derived.Shelf.SlIter.Collect
import Derived.Shelf.Sort.Plain
import Derived.Deep.RegionLaw
import Derived.ControlIn
import Derived.Deep.AppendSrc
set_option linter.unusedSimpArgs false
set_option linter.unusedVariables false
namespace Go.Proofs.YtbejhkojdiadaaaGreat
open Go.RowKit PlainPm
section
variable {n : Nat}
set_option maxRecDepth 100000 in
set_option maxHeartbeats 2000000 in
theorem check134 (hn : 0 < n ∧ n ≤ 64) {w : World} {a : Option Addr} {m c : Nat} {L : List (Pm n)} (hm : L.length = m) (hm2 : m ≤ 16) (hv : PmsV w [] (.slice a m c) L) :
    Calls Tryz.prog 134 #[.agg #[.int .i64 (n : Int), .slice a m c]] w fun e w' => e = .returned (.int .i64 0) ∧ Below w.heap.size w w' := by
  obtain ⟨X, hX⟩ : ∃ X, w.heap.size = X := ⟨_, rfl⟩
  obtain ⟨W1, hW1⟩ : ∃ W1, w.alloc (.cells #[.int .i64 (n : Int), .slice a m c] 108) = W1 := ⟨_, rfl⟩
  have hwW : Below w.heap.size w W1 := hW1 ▸ alloc_b (Below.refl _ _) _
  have k0 : W1.heap[X]? = some (.cells #[.int .i64 (n : Int), .slice a m c] 108) := hW1 ▸ al_at hX _
  obtain ⟨x0, x1, _⟩ := box2_cells k0
  have hx0 := And.intro x0 (And.intro x1 (Below.refl W1.heap.size W1))
  have hn1 : decide ((n : Int) < 1) = false := by simp; omega
  have hn2 : decide ((64 : Int) < n) = false := by simp; omega
  have hl1 : decide ((16 : Int) < m) = false := by simp; omega
  have hl2 : decide (16 < m) = false := by simp; omega
  have H := Lib.hid (And.intro hv (And.intro hm (And.intro hwW hX)))
  clear hv hm hwW k0
  go_enter Tryz.func134, Tryz.ntmps134
  try rw [hX]
  go_wp2_with fail
  go_loopw [3, 4] (fun i _ wr => ∃ (k : Nat), k ≤ m ∧ i = .int .i64 (k : Int) ∧ Below W1.heap.size W1 wr) (fun i _ _ => m - (intOf i).toNat)
  case atStart => exact ⟨0, by omega, rfl, Below.refl _ _⟩
  case round =>
    obtain ⟨k, hk, rfl, hb⟩ := hrel
    obtain ⟨z0, z1, _⟩ := keep2c hx0 hb
    have hbw := below_trans H.out.2.2.1 hb
    by_cases hkm : k < m
    · obtain ⟨x, hx⟩ : ∃ x, L[k]? = some x := ⟨_, List.getElem?_eq_getElem (by rw [H.out.2.1]; exact hkm)⟩
      obtain ⟨_, _, q4, _, hat⟩ := pms_at (H.out.1.below hbw)
      rw [H.out.2.1] at q4
      simp only [Value.slice.injEq, true_and] at q4
      obtain ⟨rfl, rfl⟩ := q4
      obtain ⟨g6, o6, u6, rfl, hc6, hp6⟩ := hat k x hx
      obtain ⟨ua, uc, ex, hui⟩ := hp6.ints (by omega)
      have hpc := rperm_calls (c := uc) hui
      have hxl := x.ok.1
      simp only [chkP_l hn x, hxl] at hpc
      rw [hxl] at ex
      subst ex
      have hk1 : (k : Int) < m := by omega
      have g1 : ((n : Int) != (n : Int)) = false := by simp
      have HK := Lib.hid (And.intro hpc hb)
      clear hpc hb hp6 hui hat hx
      go_wp2_with (go_at_call 91; (with_reducible refine HK.out.1.mono ?_); rintro e3 w3 ⟨rfl, kk⟩
                   obtain ⟨p0, p1, _⟩ := keep2c hx0 (below_trans HK.out.2 kk)
                   have c6 := (kk.cell (block_lt_of_cell hc6)).trans hc6
                   have H3 := Lib.hid (below_trans HK.out.2 kk); clear kk)
      go_quiet (fail)
      go_wp2_with fail
      exact ⟨⟨k + 1, by omega, by go_num, below_drewN H3.out _⟩, by simp [intOf]; omega⟩
    · have hk1 : ¬ (k : Int) < m := by omega
      have HK := Lib.hid hb
      clear hb hbw
      go_wp2_with fail
      refine bodyPost_ret (v := .int .i64 0) (by simp [results, Tryz.results134, go_sem]) rfl ?_
      exact ⟨rfl, by have h := below_trans H.out.2.2.1 HK.out; rwa [H.out.2.2.2] at h⟩
set_option maxRecDepth 100000 in
set_option maxHeartbeats 2000000 in
theorem of99 (hn : 0 < n ∧ n ≤ 64) {w : World} {a : Option Addr} {m c : Nat} {L : List (Pm n)} (hm : L.length = m) (hm2 : m ≤ 16) (hv : PmsV w [] (.slice a m c) L) :
    Calls Tryz.prog 99 #[.agg #[.int .i64 (n : Int), .slice a m c]] w fun e w' => ∃ a c b d, e = .returned (.tuple #[.agg #[.int .i64 (n : Int), .slice a n c, .slice b n d], .int .i64 0]) ∧ Below w.heap.size w w' ∧
      ∀ S, (∀ m ∈ S, m < w.heap.size) → GrS w' (.agg #[.int .i64 (n : Int), .slice a n c, .slice b n d]) (Grp (· ∈ L)) S := by
  obtain ⟨X, hX⟩ : ∃ X, w.heap.size = X := ⟨_, rfl⟩
  obtain ⟨W1, hW1⟩ : ∃ W1, (w.alloc (.cells #[.int .i64 (n : Int), .slice a m c] 108)).alloc (.cells #[.int .i64 0, .slice none 0 0, .slice none 0 0] 25) = W1 := ⟨_, rfl⟩
  have hsz : W1.heap.size = X + 2 := by rw [← hW1]; simp [hX]
  have hwW : Below w.heap.size w W1 := hW1 ▸ alloc_b (alloc_b (Below.refl _ _) _) _
  have k0 : W1.heap[X]? = some (.cells #[.int .i64 (n : Int), .slice a m c] 108) := by
    rw [← hW1]
    exact ((alloc_b (Below.refl _ _) _).block X (by simp; omega)).trans (al_at hX _)
  have k1 : W1.heap[X + 1]? = some (.cells #[.int .i64 0, .slice none 0 0, .slice none 0 0] 25) := by
    rw [← hW1]
    exact box_al25 (by simp [hX]) _ _ _
  obtain ⟨x0, x1, _⟩ := box2_cells k0
  have hx0 := And.intro x0 (And.intro x1 (Below.refl W1.heap.size W1))
  have h134 := check134 hn hm hm2 (hv.below hwW)
  have H := Lib.hid (And.intro k1 (And.intro hsz (And.intro hwW (And.intro h134 (And.intro hX (And.intro hm hv))))))
  clear k0 k1 hsz hwW h134 hm hv
  go_enter Tryz.func99, Tryz.ntmps99
  try simp only [hX]
  go_wp2_with (first
    | (go_at_call 96; (with_reducible refine H2.out.2.mono ?_); rintro e7 w7 ⟨a7, c7, b7', d7, rfl, k2, k3⟩
       have hr7 := (k2.block (X + 1) (by have := H2.out.1.size; have := H.out.2.1; omega)).trans ((H2.out.1.block (X + 1) (by rw [H.out.2.1]; omega)).trans H.out.1)
       obtain ⟨r0, r1, r2, r3, r4, r5⟩ := box_cells hr7
       have hg7 := k3 (List.range (X + 2)) (fun q hq => by have := List.mem_range.1 hq; have := H2.out.1.size; have := H.out.2.1; omega)
       have H7 := Lib.hid (And.intro hg7 (And.intro hr7 (below_trans H.out.2.2.1 (below_trans H2.out.1 k2))))
       clear k2 k3 hg7 hr7)
    | (go_at_call 134; (with_reducible refine H.out.2.2.2.1.mono ?_); rintro e2 w2 ⟨rfl, k⟩
       obtain ⟨z0, z1, _⟩ := keep2c hx0 k
       have h96 := mk96 hn (by rw [H.out.2.2.2.2.2.1]; omega) (H.out.2.2.2.2.2.2.below (below_trans H.out.2.2.1 k))
       have H2 := Lib.hid (And.intro k h96); clear k h96))
  have hfin : (set3 w7 (X + 1) (.int .i64 (n : Int)) (.slice a7 n c7) (.slice b7' n d7)).heap[X + 1]? = some (.cells #[.int .i64 (n : Int), .slice a7 n c7, .slice b7' n d7] 25) := set3_box H7.out.2.1
  obtain ⟨V, hV⟩ : ∃ V, set3 w7 (X + 1) (.int .i64 (n : Int)) (.slice a7 n c7) (.slice b7' n d7) = V := ⟨_, rfl⟩
  have hKp : Kept w7 V [X + 1] := hV ▸ set3_kept (by simp)
  rw [hV] at hfin
  unfold set3 at hV
  rw [hV]
  obtain ⟨f0, f1, f2, _⟩ := box_cells hfin
  refine bodyPost_ret (v := .tuple #[.agg #[.int .i64 (n : Int), .slice a7 n c7, .slice b7' n d7], .int .i64 0]) (by simp [results, Tryz.results99, go_sem, f0, f1, f2]) rfl ?_
  refine ⟨a7, c7, b7', d7, rfl, ?_, fun S hS => ?_⟩
  · have h1 := H7.out.2.2
    rw [H.out.2.2.2.2.1] at h1
    have h2 := h1.size
    exact h1.trans (hKp.below1 (by omega) (by omega))
  · refine (H7.out.1.kept (hKp.mono (fun q hq => ?_))).ext (fun q hq => .inl ?_)
    · rw [List.mem_singleton.1 hq]
      exact List.mem_range.2 (by omega)
    · have := hS q hq
      exact List.mem_range.2 (by omega)
end
end Go.Proofs.YtbejhkojdiadaaaGreat
namespace Go.Proofs.YtbejhkojdiadaaaGreat
open Go.RowKit PlainPm
def LstV {n : Nat} (w : World) (v : Value) (G : Pm n → Prop) : Prop := ∃ E : List (Pm n), PmsV w [] v E ∧ E.Pairwise lexLt ∧ (∀ x, x ∈ E ↔ G x)
theorem LstV.below {n : Nat} {w w' : World} {v : Value} {G : Pm n → Prop} (h : LstV w v G) (k : Below w.heap.size w w') : LstV w' v G := by
  obtain ⟨E, h1, h2⟩ := h
  exact ⟨E, h1.below k, h2⟩
theorem pmsN_at {n : Nat} {w : World} {M : List Nat} {v : Value} {l : List (Pm n)} (h : PmsN w M v l) : ∃ a c, v = .slice a l.length c ∧ l.length ≤ 9223372036854775807 ∧ ∀ k x, l[k]? = some x → ∃ g o u, a = some ⟨g, o, none⟩ ∧ w.cell? ⟨g, o + k, none⟩ = some u ∧ PmV w M u x := by
  obtain ⟨a, c, vs, rfl, h1, h2⟩ := h
  have h1 := h1 w (Kept.refl _ _)
  refine ⟨a, c, rfl, by rw [← h2.1]; exact h1.len', fun k x hk => ?_⟩
  obtain ⟨u, hu, hp⟩ := h2.2 k x hk
  obtain ⟨g, o, rfl, _, hc⟩ := h1.2 k u hu
  exact ⟨g, o, u, rfl, hc, hp⟩
def LstS {n : Nat} (w : World) (M : List Nat) (v : Value) (G : Pm n → Prop) : Prop := ∃ E : List (Pm n), PmsN w M v E ∧ E.Pairwise lexLt ∧ (∀ x, x ∈ E ↔ G x)
theorem LstS.kept {n : Nat} {w w' : World} {M : List Nat} {v : Value} {G : Pm n → Prop} (h : LstS w M v G) (k : Kept w w' M) : LstS w' M v G := by
  obtain ⟨E, h1, h2⟩ := h
  exact ⟨E, h1.kept k, h2⟩
theorem LstS.now {n : Nat} {w : World} {M : List Nat} {v : Value} {G : Pm n → Prop} (h : LstS w M v G) : LstV w v G := by
  obtain ⟨E, h1, h2⟩ := h
  exact ⟨E, h1.v, h2⟩
theorem ElsOut.lst {n : Nat} {w w' : World} {v : Value} {gens : List (Pm n)} {M : List Nat} (hn : n ≤ 6) (h : ElsOut w w' v gens) (hM : ∀ m ∈ M, m < w.heap.size) : LstS w' M v (Grp (· ∈ gens)) := by
  obtain ⟨us, L, h1, h2, h3, h4, h5⟩ := h
  have h7 := pm_card (sorted_nodup h3)
  have h6 := fac_le6 hn
  have hlm : us.length ≤ maxLen := by rw [h2.1]; unfold maxLen; omega
  obtain ⟨a, c, e, hr⟩ := h1.row hlm
  refine ⟨L, ⟨a, c, us, by rw [e, h2.1], fun W' k => ?_, h2.1, fun i x hx => ?_⟩, h3, h4⟩
  · have h' : Own W' w.heap.size v 27 us := h1.keptL k (fun g hg hm => by have h1 := (h1.block_lt hg).2; have := hM g hm; omega)
    obtain ⟨a', c', e', hr'⟩ := h'.row hlm
    rw [e] at e'
    simp only [Value.slice.injEq, true_and] at e'
    obtain ⟨rfl, rfl⟩ := e'
    exact hr'
  · obtain ⟨u, hu, hp⟩ := h2.2 i x hx
    obtain ⟨b, o, l, c', e1, hb⟩ := h5 u (List.mem_of_getElem? hu)
    obtain ⟨b2, o2, c2, e2, _, h8⟩ := hp
    rw [e1] at e2
    simp only [Value.slice.injEq, Option.some.injEq, Addr.mk.injEq] at e2
    obtain ⟨⟨rfl, rfl, _⟩, rfl, rfl⟩ := e2
    exact ⟨u, hu, _, _, _, e1, fun hm => by have := hM _ hm; omega, h8⟩
def GrpOut (w' : World) (v1 v2 v3 v4 : Value) : Prop := ∃ (n : Nat) (Lg Ls : List (Pm n)), (0 < n ∧ n ≤ 5) ∧ (∀ x ∈ Ls, Grp (· ∈ Lg) x) ∧ LstV w' v1 (Grp (· ∈ Lg)) ∧ LstV w' v2 (Grp (· ∈ Ls)) ∧ GrG w' v3 (Grp (· ∈ Lg)) ∧ GrG w' v4 (Grp (· ∈ Ls))
set_option maxRecDepth 100000 in
set_option maxHeartbeats 8000000 in
theorem group41 {w : World} {a1 a2 : Option Addr} {c1 c2 : Nat} {l1 l2 : List Int} (h1 : Ints w a1 l1) (h2 : Ints w a2 l2) :
    Calls Tryz.prog 41 #[.slice a1 l1.length c1, .slice a2 l2.length c2] w fun e w' => ∃ v1 v2 v3 v4, e = .returned (.tuple #[v1, v2, v3, v4]) ∧ GrpOut w' v1 v2 v3 v4 ∧ Below w.heap.size w w' := by
  obtain ⟨i27, hi27, hz27, hs27, hb27⟩ := info_parts Tryz.info27
  have I27 := Lib.hid (And.intro hi27 (And.intro hz27 (And.intro hs27 hb27)))
  clear hi27 hz27 hs27 hb27
  obtain ⟨X, hX⟩ : ∃ X, w.heap.size = X := ⟨_, rfl⟩
  obtain ⟨W0, hW0⟩ : ∃ W0, (w.alloc (.cells #[.int .i64 0, .slice none 0 0, .slice none 0 0] 25)).alloc (.cells #[.int .i64 0, .slice none 0 0, .slice none 0 0] 25) = W0 := ⟨_, rfl⟩
  have hsz : W0.heap.size = X + 2 := by rw [← hW0]; simp [hX]
  have hbw : Below w.heap.size w W0 := hW0 ▸ alloc_b (alloc_b (Below.refl _ _) _) _
  have k0 : W0.heap[X]? = some (.cells #[.int .i64 0, .slice none 0 0, .slice none 0 0] 25) := by
    rw [← hW0]
    exact ((alloc_b (Below.refl _ _) _).block X (by simp; omega)).trans (box_al25 hX _ _ _)
  have k1 : W0.heap[X + 1]? = some (.cells #[.int .i64 0, .slice none 0 0, .slice none 0 0] 25) := by
    rw [← hW0]
    exact box_al25 (by simp [hX]) _ _ _
  obtain ⟨m1, hm1⟩ : ∃ m, l1.length = m := ⟨_, rfl⟩
  obtain ⟨m2, hm2⟩ : ∃ m, l2.length = m := ⟨_, rfl⟩
  have h97 : Calls Tryz.prog 97 #[.slice a1 m1 c1, .int .i64 5] W0 _ := hm1 ▸ groupOf97 (c := c1) (most := 5) (by omega) (h1.below hbw)
  have H := Lib.hid (And.intro k0 (And.intro k1 (And.intro hsz (And.intro hbw (And.intro h97 (And.intro (h2.below hbw) (And.intro hm2 hX)))))))
  rw [hm1, hm2]
  clear k0 k1 hsz hbw h97 h1 h2 hm1 hm2
  go_enter Tryz.func41, Tryz.ntmps41
  try simp only [hX]
  go_wp2_with (first
    | (go_at_call 98; (with_reducible refine H4.out.2.2.2.2.2.2.mono ?_); rintro e5 w5 ⟨b5, rfl, k1, k2, k3, k4⟩
       have H5 := Lib.hid (And.intro (k1 (by omega)) (And.intro k3 k4)); clear k1 k2 k3 k4)
    | (go_at_call 45; (with_reducible refine H3.out.2.2.2.2.1.mono ?_); rintro e4 w4 ⟨v4, rfl, hE, k⟩
       have hy4 := (k.block Y (Array.getElem?_eq_some_iff.1 H3.out.2.2.2.1).1).trans H3.out.2.2.2.1
       have hbw4 := below_trans H.out.2.2.2.1 (below_trans H3.out.2.2.1 k)
       have hl4 := hE.lst (M := [X, X + 1]) (by have := H3.out.1; omega) (fun q hq => by have h1 := H3.out.2.2.1.size; have := H.out.2.2.1; simp at hq; omega)
       have hx0 := (H3.out.2.2.1.block X (by have := H.out.2.2.1; omega)).trans H.out.1
       have hx1 := (H3.out.2.2.1.block (X + 1) (by have := H.out.2.2.1; omega)).trans H.out.2.1
       obtain ⟨Z, hZ⟩ : ∃ Z, w4.heap.size = Z := ⟨_, rfl⟩
       obtain ⟨W4, hW4⟩ : ∃ W, w4.alloc (.cells #[.slice a2 m2 c2, .int .i64 0] 112) = W := ⟨_, rfl⟩
       have b4 : Below w4.heap.size w4 W4 := hW4 ▸ alloc_b (Below.refl _ _) _
       have hYZ : Y < Z := hZ ▸ (Array.getElem?_eq_some_iff.1 hy4).1
       have hY4 : W4.heap[Y]? = _ := (b4.block Y (by omega)).trans hy4
       have hxY : X + 2 ≤ Y := by have := H3.out.2.2.2.2.2; have := H.out.2.2.1; omega
       have hx0' := (b4.block X (by omega)).trans ((k.block X (Array.getElem?_eq_some_iff.1 hx0).1).trans hx0)
       have hx1' := (b4.block (X + 1) (by omega)).trans ((k.block (X + 1) (Array.getElem?_eq_some_iff.1 hx1).1).trans hx1)
       have htk : TkW w4 W4 Z l2 := ⟨⟨a2, c2, 0, by rw [H.out.2.2.2.2.2.2.1]; exact hW4 ▸ al_at hZ _, Nat.zero_le _, (H.out.2.2.2.2.2.1.below (below_trans H3.out.2.2.1 k))⟩, Nat.le_of_eq hZ, b4⟩
       have h98 : Calls Tryz.prog 98 #[.pointer (some ⟨Z, 0, none⟩), .int .i64 3] W4 _ := take98 htk (n := (3 : Int)) (by omega) (by omega)
       have hD : W4.heap.size = Z + 1 := by rw [← hW4]; simp [hZ]
       have hbW4 : Below w.heap.size w W4 := below_trans hbw4 b4
       have H4 := Lib.hid (And.intro hl4 (And.intro hbW4 (And.intro hY4 (And.intro (And.intro hYZ hxY) (And.intro htk (And.intro (And.intro hD (And.intro hZ (And.intro hx0' (And.intro hx1' (And.intro (below_trans k b4) (show W3.heap.size ≤ Z by rw [← hZ]; exact k.size)))))) h98)))))); clear hx0 hx1 hx0' hx1' hE k hy4 hbw4 hl4 b4 hYZ hY4 hxY htk h98 hD hbW4)
    | (go_at_call 97; (with_reducible refine H.out.2.2.2.2.1.mono ?_); rintro e3 w3 ⟨n, v3, rfl, hn, ⟨Lg, hlg, hp⟩, k⟩
       obtain ⟨a3, c3, us3, rfl, hr3, hpl3⟩ := id hp
       obtain ⟨m3, hm3⟩ : ∃ m, Lg.length = m := ⟨_, rfl⟩
       rw [hm3] at hp hlg ⊢
       obtain ⟨W3, hW3⟩ : ∃ W3, w3.alloc (.cells #[.int .i64 (n : Int), .slice a3 m3 c3] 108) = W3 := ⟨_, rfl⟩
       have b3 : Below w3.heap.size w3 W3 := hW3 ▸ alloc_b (Below.refl _ _) _
       obtain ⟨Y, hY⟩ : ∃ Y, w3.heap.size = Y := ⟨_, rfl⟩
       have y3 : W3.heap[Y]? = some (.cells #[.int .i64 (n : Int), .slice a3 m3 c3] 108) := hW3 ▸ al_at hY _
       obtain ⟨s0, s1, s2⟩ := box2_cells y3
       have h45 : Calls Tryz.prog 45 #[.int .i64 (n : Int), .slice a3 m3 c3, .int .i64 120] W3 _ := elements45 (n := n) (most := 120) ⟨hn.1, by omega⟩ hm3 (by omega) (hp.below b3) (fac_le5 hn.2) (by omega)
       have hWY : W0.heap.size ≤ Y := by rw [← hY]; exact k.size
       have H3 := Lib.hid (And.intro hn (And.intro (And.intro hlg (And.intro hm3 (hp.below b3))) (And.intro (below_trans k b3) (And.intro y3 (And.intro h45 hWY)))))
       clear hp k b3 y3 h45 hr3 hpl3 hm3 hlg hn hWY))
  obtain ⟨E, hE1, hE2, hE3⟩ := H4.out.1
  obtain ⟨a4, c4, rfl, hE63, hat4⟩ := pmsN_at hE1
  have hE120 : E.length ≤ 120 := Nat.le_trans (pm_card (sorted_nodup hE2)) (fac_le5 H3.out.1.2)
  have hEpos : 0 < E.length := List.length_pos_of_mem ((hE3 (PlainPm.one n)).2 Grp.one)
  obtain ⟨m4, hm4⟩ : ∃ m, E.length = m := ⟨_, rfl⟩
  rw [hm4] at H4 hE63 hE120 hEpos ⊢
  have HE := Lib.hid (And.intro hat4 (And.intro hE3 (And.intro hm4 hE1)))
  clear hE1 hE2 hE3 hm4 hat4
  go_loopw [10, 11] (fun v i wr => ∃ (k : Nat) (G : List (Pm n)) (us : List Value) (vv : Value), vv = v ∧ i = .int .i64 (k : Int) ∧ G.length + k ≤ 2 ∧ (∀ x ∈ G, x ∈ E) ∧ GrowL [Z, X, X + 1] wr (Z + 1) v us G ∧ TkW w4 wr Z l2 ∧ Z + 1 ≤ wr.heap.size ∧ Below Z W4 wr) (fun _ i _ => (intOf i).toNat)
  case atStart =>
    exact ⟨b5, [], [], _, rfl, rfl, by have := H5.out.1; simp; omega, by simp, GrowL.nil _ (fun q hq => by have := H5.out.2.2.size; have := H4.out.2.2.2.2.2.1.1; have := H4.out.2.2.2.1; simp at hq; omega), H5.out.2.1, by have := H5.out.2.2.size; have := H4.out.2.2.2.2.2.1.1; omega, H5.out.2.2.below1 (by have := H4.out.2.2.2.2.2.1.1; omega) (Nat.le_refl _)⟩
  case round =>
    obtain ⟨k, G, us, v, rfl, rfl, hG, hGE, hgl, htk, hDs, hbz⟩ := hrel
    obtain ⟨wo, rfl⟩ : ∃ wo, wo = wr := ⟨_, rfl⟩
    by_cases hk0 : 0 < k
    · obtain ⟨j, rfl⟩ : ∃ j, k = j + 1 := ⟨k - 1, by omega⟩
      have hk1 : (0 : Int) < ((j + 1 : Nat) : Int) := by omega
      have hj3 : j ≤ 2 := by omega
      have h98 : Calls Tryz.prog 98 #[.pointer (some ⟨Z, 0, none⟩), .int .i64 (m4 : Int)] wo _ := take98 htk (n := (m4 : Int)) (by omega) (by omega)
      have hul : us.length < 1099511627776 := by have := hgl.len; omega
      have HK := Lib.hid (And.intro h98 (And.intro hG (And.intro hGE (And.intro hgl (And.intro htk (And.intro hDs hbz))))))
      clear h98 hG hGE hgl htk hDs hbz
      go_wp2_with (first
        | (at_builtin; refine app1 rfl (.tmp 28) (.tmp 36) 44 27 rfl i27 (.slice none 0 0) 24 Tryz.underlying44 I27.out.1 I27.out.2.1 I27.out.2.2.1 I27.out.2.2.2 rfl (by omega) (Z + 1) (.slice (some ⟨ub, uo, none⟩) n uc) _ us rfl H7.out.2.1.1 rfl rfl hul (Nat.le_trans HK.out.2.2.2.2.2.1 H7.out.1.size) ?_; intro v8 w8 k1 k2 k3
           have H8 := Lib.hid (And.intro k1 (And.intro k2 k3)); clear k1 k2 k3)
        | (go_at_call 98; (with_reducible refine HK.out.1.mono ?_); rintro e7 w7 ⟨b7, rfl, k1, k2, k3, k4⟩
           have hb7 : b7 < m4 := by have := k1 (by omega); omega
           have hb7' : (b7 : Int) < (m4 : Int) := by omega
           obtain ⟨x, hx⟩ : ∃ x, E[b7]? = some x := ⟨_, List.getElem?_eq_getElem (by rw [HE.out.2.2.1]; exact hb7)⟩
           have hbW : Below Z W4 w7 := HK.out.2.2.2.2.2.2.trans (k4.below1 (by have := HK.out.2.2.2.2.2.1; omega) (Nat.le_refl _))
           obtain ⟨g7, o7, u7, e7, hc7, hp7⟩ := HE.out.1 b7 x hx
           cases e7
           have hc7' := (k3.bel.cell (block_lt_of_cell hc7)).trans hc7
           obtain ⟨ub, uo, uc, rfl, _⟩ := id hp7
           have hgl7 : GrowL [Z, X, X + 1] w7 (Z + 1) v us G := ⟨HK.out.2.2.2.1.1.keptL k4 (fun q e hq => by have h1 := (HK.out.2.2.2.1.1.block_lt e).2; rw [List.mem_singleton.1 hq] at h1; omega), HK.out.2.2.2.1.2.1.stp ⟨k4.mono (fun q hq => List.mem_append_right _ (by rw [List.mem_singleton.1 hq]; simp)), fun q hq => .inl hq⟩, fun q hq => Nat.lt_of_lt_of_le (HK.out.2.2.2.1.2.2 q hq) k4.size⟩
           have hz7 : PmV w7 (v.ownBlock.toList ++ [Z, X, X + 1]) (.slice (some ⟨ub, uo, none⟩) n uc) x := (hp7.ext (fun q hq => by
             have ho := H4.out.2.2.2.2.2.1.2.1
             rcases List.mem_append.1 hq with hq | hq
             · have h1 := (HK.out.2.2.2.1.1.block_lt (mem_ob.1 hq)).2; exact .inr (by omega)
             · rcases List.mem_cons.1 hq with e | hq
               · exact .inr (by omega)
               · exact .inl hq)).below k3.bel
           have H7 := Lib.hid (And.intro k4 (And.intro hgl7 (And.intro k3 (And.intro hbW (And.intro hz7 hx)))))
           clear hgl7 hbW hz7 hx hp7 hc7
           clear k1 k2 k3 k4))
      have hgl8 := H7.out.2.1.app H7.out.2.2.2.2.1 H8.out.1 H8.out.2.1 H8.out.2.2
      have hob : ∀ q, v.ownBlock = some q → Z + 1 ≤ q := fun q e => (HK.out.2.2.2.1.1.block_lt e).2
      have k8 : Kept w7 w8 v.ownBlock.toList := Kept.ofGrown H8.out.2.1 (fun q e => mem_ob.2 e)
      have ho := H7.out.2.2.1.old
      refine ⟨⟨j, G ++ [x], _, _, rfl, by go_num, by rw [List.length_append]; have := HK.out.2.1; simp; omega, fun y hy => ?_, hgl8, H7.out.2.2.1.kept k8 (fun q hq => by have h1 := hob q (mem_ob.1 hq); exact ⟨by omega, by omega⟩), Nat.le_trans (Nat.le_trans HK.out.2.2.2.2.2.1 H7.out.1.size) k8.size, H7.out.2.2.2.1.trans (k8.below (by have := H7.out.1.size; have := HK.out.2.2.2.2.2.1; omega) (fun q hq => by have h1 := hob q (mem_ob.1 hq); omega))⟩, by first | (simp [intOf]; done) | (simp [intOf]; omega)⟩
      rcases List.mem_append.1 hy with hy | hy
      · exact HK.out.2.2.1 y hy
      · rw [List.mem_singleton.1 hy]; exact List.mem_of_getElem? H7.out.2.2.2.2.2
    · obtain rfl : k = 0 := by omega
      have hk1 : ¬ (0 : Int) < ((0 : Nat) : Int) := by simp
      have hGn : G.length ≤ 2 := by omega
      obtain ⟨va, vc, rfl, _⟩ := hgl.1.row (by rw [hgl.len]; unfold maxLen; omega)
      have hpG : PmsV wo [] (.slice va us.length vc) G := pms_ownB hgl.1 hgl.2.1 (by omega)
      have hus : G.length = us.length := hgl.len.symm
      obtain ⟨ul, hul⟩ : ∃ u, us.length = u := ⟨_, rfl⟩
      rw [hul] at hpG hus ⊢
      have HU := Lib.hid hul
      have hz1 : W4.heap.size = Z + 1 := H4.out.2.2.2.2.2.1.1
      have hxy := H4.out.2.2.2.1
      have hX0 := (hbz.block X (by omega)).trans H4.out.2.2.2.2.2.1.2.2.1
      have hX1 := (hbz.block (X + 1) (by omega)).trans H4.out.2.2.2.2.2.1.2.2.2.1
      have hbwo : Below w.heap.size w wo := H4.out.2.1.trans (hbz.mono (by have := H.out.2.2.1; have := H.out.2.2.2.2.2.2.2; omega))
      have hY := (hbz.block Y hxy.1).trans H4.out.2.2.1
      have h45 : Calls Tryz.prog 45 #[.int .i64 (n : Int), .slice va ul vc, .int .i64 120] wo _ := elements45 (n := n) (most := 120) ⟨H3.out.1.1, by have := H3.out.1; omega⟩ hus (by omega) hpG (fac_le5 H3.out.1.2) (by omega)
      obtain ⟨y0, y1, y2⟩ := box2_cells hY
      have HK := Lib.hid (And.intro h45 (And.intro (And.intro hGE (And.intro hGn hus)) (And.intro hpG (And.intro hbwo (And.intro hY (And.intro hDs (And.intro (And.intro hX0 hX1) (And.intro hbz (And.intro hgl htk.bel)))))))))
      clear hX0 hX1 h45 hGE hGn hus hpG hbwo hY hgl htk hDs hbz hz1 hxy hul
      go_wp2_with (first
        | (go_at_call 96; (with_reducible refine H9.out.2.2.2.2.mono ?_); rintro e11 w11 ⟨a11, c11, b11, d11, rfl, k1, k2⟩
           have hz11 : w9.heap.size ≤ w11.heap.size := by have h1 := k1.size; rw [H9.out.1] at h1; exact h1
           have hk11 : Kept V9 w11 [X, X + 1] := Kept.ofBelow k1
           have hy0 := (k1.block X (by rw [H9.out.1]; exact H9.out.2.2.2.1.2)).trans H9.out.2.2.1.1
           have hy1 := (k1.block (X + 1) (by rw [H9.out.1]; have := H9.out.2.2.2.1.1; omega)).trans H9.out.2.2.1.2
           obtain ⟨i0, i1, i2, i3, i4, i5⟩ := box_cells hy1
           have hg11 := k2 [X, X + 1] (fun q hq => by have := H9.out.2.2.2.1; rw [H9.out.1]; simp at hq; omega)
           obtain ⟨V11, hV11⟩ : ∃ V, set3 w11 (X + 1) (.int .i64 (n : Int)) (.slice a11 n c11) (.slice b11 n d11) = V := ⟨_, rfl⟩
           have hk11' : Kept w11 V11 [X, X + 1] := hV11 ▸ set3_kept (by simp)
           have x0' : V11.heap[X]? = some (.cells #[.int .i64 (n : Int), .slice a9 n c9, .slice b9 n d9] 25) := hV11 ▸ (set3_other (by omega)).trans hy0
           have x1' : V11.heap[X + 1]? = some (.cells #[.int .i64 (n : Int), .slice a11 n c11, .slice b11 n d11] 25) := hV11 ▸ set3_box hy1
           have hg11' := hg11.kept hk11'
           have H11 := Lib.hid (And.intro hg11' (And.intro (hk11.trans hk11') (And.intro x0' x1')))
           unfold set3 at hV11
           clear k1 k2 hz11 hk11 hk11' hg11 hg11' hy0 hy1 x0' x1')
        | (go_at_call 99; (with_reducible refine H8.out.2.2.2.mono ?_); rintro e9 w9 ⟨a9, c9, b9, d9, rfl, k1, k2⟩
           have hbX : Below w.heap.size w w9 := below_trans HK.out.2.2.2.1 (below_trans H8.out.2.2.1 k1)
           have hx2 : X + 2 ≤ wo.heap.size := by have := H4.out.2.2.2.1; have := HK.out.2.2.2.2.2; omega
           have hxs : wo.heap.size ≤ w9.heap.size := Nat.le_trans H8.out.2.2.1.size k1.size
           have hbo := H4.out.2.2.2.1
           have hk89 := below_trans H8.out.2.2.1 k1
           have hx0 := (hk89.block X (by omega)).trans HK.out.2.2.2.2.2.2.1.1
           have hx1 := (hk89.block (X + 1) (by omega)).trans HK.out.2.2.2.2.2.2.1.2
           have hy9 := (k1.block Y (Array.getElem?_eq_some_iff.1 H8.out.2.1).1).trans H8.out.2.1
           obtain ⟨i0, i1, i2, i3, i4, i5⟩ := box_cells hx0
           obtain ⟨V9, hV9⟩ : ∃ V, set3 w9 X (.int .i64 (n : Int)) (.slice a9 n c9) (.slice b9 n d9) = V := ⟨_, rfl⟩
           have hsz : V9.heap.size = w9.heap.size := (congrArg (fun q : World => q.heap.size) hV9).symm.trans (set3_size _ _ _ _ _)
           have hk9 : Kept w9 V9 [X] := hV9 ▸ set3_kept (by simp)
           have hk9' : Kept w9 V9 [X, X + 1] := hV9 ▸ set3_kept (by simp)
           have z0' : V9.heap[X]? = some (.cells #[.int .i64 (n : Int), .slice a9 n c9, .slice b9 n d9] 25) := hV9 ▸ set3_box hx0
           have z1' : V9.heap[X + 1]? = some (.cells #[.int .i64 0, .slice none 0 0, .slice none 0 0] 25) := hV9 ▸ (set3_other (by omega)).trans hx1
           have zy' : V9.heap[Y]? = some (.cells #[.int .i64 (n : Int), .slice a3 m3 c3] 108) := hV9 ▸ (set3_other (by omega)).trans hy9
           obtain ⟨t0, t1, t2⟩ := box2_cells zy'
           have hl9 : LstS V9 [X, X + 1] v8 (Grp (· ∈ G)) := (H8.out.1.kept (Kept.ofBelow k1)).kept hk9'
           have hl9' : LstS V9 [X, X + 1] (.slice a4 m4 c4) (Grp (· ∈ Lg)) := ((H4.out.1.kept (Kept.ofBelow ((HK.out.2.2.2.2.2.2.2.2.2.trans ((below_trans H8.out.2.2.1 k1).mono (by have := HK.out.2.2.2.2.2.1; have := H4.out.2.2.2.2.2.1.2.1; omega))) : Below w4.heap.size w4 w9)))).kept hk9'
           have hg9 : GrS V9 (.agg #[.int .i64 (n : Int), .slice a9 n c9, .slice b9 n d9]) (Grp (· ∈ Lg)) [X, X + 1] := (k2 [X, X + 1] (fun q hq => by have := H8.out.2.2.1.size; simp at hq; omega)).kept hk9'
           have hgl9 : PmsV V9 [] (.slice va ul vc) G := by
             have hgl := HK.out.2.2.2.2.2.2.2.2.1.below hk89
             have ho := hgl.1.keptL hk9 (fun q e hq => by have h1 := (hgl.1.block_lt e).2; rw [List.mem_singleton.1 hq] at h1; omega)
             have hp := hgl.2.1.stp (⟨hk9.mono (fun q hq => List.mem_append_right _ (by rw [List.mem_singleton.1 hq]; simp)), fun q hq => .inl hq⟩ : Stp w9 _ V9 _)
             have := pms_ownB ho hp (by have := HK.out.2.1.2.1; omega)
             rw [HU.out] at this
             exact this
           have h96 : Calls Tryz.prog 96 #[.int .i64 (n : Int), .slice va ul vc] V9 _ := mk96 ⟨H3.out.1.1, by have := H3.out.1; omega⟩ (by have := HK.out.2.1.2.1; omega) hgl9
           have H9 := Lib.hid (And.intro hsz (And.intro (And.intro hl9 (And.intro hl9' hg9)) (And.intro (And.intro z0' z1') (And.intro (show X + 2 ≤ w9.heap.size ∧ X < w9.heap.size by omega) h96))))
           have HB9 := Lib.hid (And.intro hbX hk9')
           unfold set3 at hV9
           clear hbX hx2 hxs hbo hk89 hx0 hx1 hy9 hk9 hk9' z0' z1' zy' hl9 hl9' hg9 hgl9 h96 k1 k2)
        | (go_at_call 45; (with_reducible refine HK.out.1.mono ?_); rintro e8 w8 ⟨v8, rfl, hE8, k8⟩
           have hy8 := (k8.block Y (Array.getElem?_eq_some_iff.1 HK.out.2.2.2.2.1).1).trans HK.out.2.2.2.2.1
           obtain ⟨z0, z1, z2⟩ := box2_cells hy8
           have hl8 := hE8.lst (M := [X, X + 1]) (by have := H3.out.1; omega) (fun q hq => by have := H4.out.2.2.2.1; have := HK.out.2.2.2.2.2.1; simp at hq; omega)
           have hp8 : PmsV w8 [] (.slice a3 m3 c3) Lg := (H3.out.2.1.2.2.below ((H4.out.2.2.2.2.2.1.2.2.2.2.1.trans (HK.out.2.2.2.2.2.2.2.1.mono H4.out.2.2.2.2.2.1.2.2.2.2.2)).trans (k8.mono (by have := HK.out.2.2.2.2.2.1; have := H4.out.2.2.2.2.2.1.2.2.2.2.2; omega))))
           have h99 : Calls Tryz.prog 99 #[.agg #[.int .i64 (n : Int), .slice a3 m3 c3]] w8 _ := of99 ⟨H3.out.1.1, by have := H3.out.1; omega⟩ H3.out.2.1.2.1 (by have := H3.out.2.1.1; omega) hp8
           have H8 := Lib.hid (And.intro hl8 (And.intro hy8 (And.intro k8 h99)))
           clear hl8 hy8 k8 h99 hE8 hp8))
      obtain ⟨p00, p01, p02, p03, p04, p05⟩ := box_cells H11.out.2.2.1
      obtain ⟨p10, p11, p12, p13, p14, p15⟩ := box_cells H11.out.2.2.2
      clear hV9 hV11
      go_region
      obtain ⟨WF, hWF⟩ : ∃ WF, WF = (set3 (set3 V11 X (.int .i64 (n : Int)) (.slice a9 n c9) (.slice b9 n d9)) (X + 1) (.int .i64 (n : Int)) (.slice a11 n c11) (.slice b11 n d11)) := ⟨_, rfl⟩
      have hkF : Kept V11 WF [X, X + 1] := by rw [hWF]; exact ((Kept.refl _ _).trans (set3_kept (by simp))).trans (set3_kept (by simp))
      have x0 : WF.heap[X]? = some (.cells #[.int .i64 (n : Int), .slice a9 n c9, .slice b9 n d9] 25) := by rw [hWF]; exact (set3_other (by omega)).trans (set3_box H11.out.2.2.1)
      have x1 : WF.heap[X + 1]? = some (.cells #[.int .i64 (n : Int), .slice a11 n c11, .slice b11 n d11] 25) := by rw [hWF]; exact set3_box ((set3_other (by omega)).trans H11.out.2.2.2)
      obtain ⟨f00, f01, f02, _, _, _⟩ := box_cells x0
      obtain ⟨f10, f11, f12, _, _, _⟩ := box_cells x1
      unfold set3 at hWF
      rw [← hWF]
      clear hWF p00 p01 p02 p03 p04 p05 p10 p11 p12 p13 p14 p15
      have HX := Lib.hid hkF
      clear hkF x0 x1
      go_wp2_with fail
      refine bodyPost_ret (v := .tuple #[.slice a4 m4 c4, v8, .agg #[.int .i64 (n : Int), .slice a9 n c9, .slice b9 n d9], .agg #[.int .i64 (n : Int), .slice a11 n c11, .slice b11 n d11]]) (by simp [results, Tryz.results41, go_sem, f00, f01, f02, f10, f11, f12]) rfl ?_
      have hk := kept_drew (H11.out.2.1.trans HX.out)
      refine ⟨_, _, _, _, rfl, ⟨n, Lg, G, H3.out.1, fun x hx => (HE.out.2.1 x).1 (HK.out.2.1.1 x hx), (H9.out.2.1.2.1.kept hk).now, (H9.out.2.1.1.kept hk).now, (H9.out.2.1.2.2.kept hk).now, (H11.out.1.kept (kept_drew HX.out)).now⟩, ?_⟩
      have hX' : w.heap.size = X := H.out.2.2.2.2.2.2.2
      have hf := HB9.out.1.trans ((HB9.out.2.trans hk).below HB9.out.1.size (fun q hq => by simp at hq; omega))
      rw [hX'] at hf
      exact hf
end Go.Proofs.YtbejhkojdiadaaaGreat
namespace Go.Proofs.YtbejhkojdiadaaaGreat
open Go.RowKit PlainPm
theorem srtI_perm (l : List Int) : (srtI l).Perm l := List.mergeSort_perm _ _
theorem srtI_sorted (l : List Int) : (srtI l).Pairwise (· ≤ ·) := by
  have := List.pairwise_mergeSort (le := fun x y : Int => decide (x ≤ y)) (fun a b c h1 h2 => by simp at *; omega) (fun a b => by simp; omega) l
  exact this.imp (by simp)
end Go.Proofs.YtbejhkojdiadaaaGreat
namespace Go.Proofs.YtbejhkojdiadaaaGreat
open Go.RowKit PlainPm
attribute [local go_sem] Oper.semAt_some
section
variable {n : Nat}
theorem els151 {w : World} {ab ao c bb bo e : Nat} {a : Option Addr} {l cc : Nat} {i : Int} :
    Calls Tryz.prog 151 #[cv n ab ao c bb bo e, .slice a l cc, .int .i64 i] w fun r w' => ∃ I C P, r = .returned (.func (.func 172) #[] #[.pointer (some ⟨I, 0, none⟩), .pointer (some ⟨C, 0, none⟩), .pointer (some ⟨P, 0, none⟩)]) ∧
      w'.cell? ⟨I, 0, none⟩ = some (.int .i64 i) ∧ w'.heap[C]? = some (.cells #[.int .i64 (n : Int), .slice (some ⟨ab, ao, none⟩) n c, .slice (some ⟨bb, bo, none⟩) n e] 25) ∧ w'.cell? ⟨P, 0, none⟩ = some (.slice a l cc) ∧
      w.heap.size ≤ I ∧ w.heap.size ≤ C ∧ w.heap.size ≤ P ∧ Below w.heap.size w w' := by
  obtain ⟨X, hX⟩ : ∃ X, w.heap.size = X := ⟨_, rfl⟩
  go_enter Tryz.func151, Tryz.ntmps151
  try simp only [hX]
  go_wp2
  go_ret
  refine ⟨_, _, _, rfl, ?_, ?_, ?_, ?_, ?_, ?_, ?_⟩
  · rw [World.cell?_alloc_at _ _ _ _ (by simp [hX])]; rfl
  · exact ((alloc_b (alloc_b (Below.refl _ _) (.cells #[.slice a l cc] 27)) (.cells #[.int .i64 i] 3)).block X (by simp; omega)).trans (box_al25 hX _ _ _)
  · rw [World.cell?_alloc_past _ _ _ (by simp [hX]), World.cell?_alloc_at _ _ _ _ (by simp [hX])]; rfl
  · omega
  · omega
  · omega
  · rw [← hX]; exact alloc_b (alloc_b (alloc_b (Below.refl _ _) _) _) _
def elCore (s : List (Pm n)) (M : List Nat) (A : World) : Prop := True
def elGood (F s : List (Pm n)) (M : List Nat) (q : Value × Pm n) (A : World) : Prop := PmV A M q.1 q.2 ∧ s ++ [q.2] <+: F
def elNx (s : List (Pm n)) (q : Value × Pm n) (s' : List (Pm n)) : Prop := s' = s ++ [q.2]
theorem Stp.grown {W A B : World} {M0 M : List Nat} {row : Option Nat} (h : Stp W M0 A M) (g : A.grownBy B row) (hr : ∀ r, row = some r → W.heap.size ≤ r) : Stp W M0 B M :=
  ⟨⟨g.os.trans h.kept.os, g.tape.trans h.kept.tape, g.output.trans h.kept.output, Nat.le_trans h.kept.size g.size, fun k hk hn =>
    (g.block k (Nat.lt_of_lt_of_le hk h.kept.size) (fun e => by have := hr k e.symm; omega)).trans (h.kept.block k hk hn)⟩, h.new⟩
theorem Kept.grown {W A B : World} {M0 : List Nat} {row : Option Nat} (h : Kept W A M0) (g : A.grownBy B row) (hr : ∀ r, row = some r → W.heap.size ≤ r) : Kept W B M0 :=
  ⟨g.os.trans h.os, g.tape.trans h.tape, g.output.trans h.output, Nat.le_trans h.size g.size, fun k hk hn =>
    (g.block k (Nat.lt_of_lt_of_le hk h.size) (fun e => by have := hr k e.symm; omega)).trans (h.block k hk hn)⟩
theorem leaves_marks {F : Fence} {m : Nat} {P : Program} {fn : Func} {tmps : Array Value} {R : Ending → World → Prop} {u : FrameMode} (hu : u ≠ .run) :
    ∀ (Ds : List Nat) (w : World), Ds.Nodup → (∀ D ∈ Ds, w.heap[D]? = some (.deferred (some []))) → LeavesIn F m P fn tmps R [] u (Ds.foldl (fun W D => W.putObj D (.deferred none)) w) →
      LeavesInM F m P fn tmps R (Ds.map fun D => { target := .collected D, args := #[] }) u w
  | [], w, _, _, h => h
  | D :: Ds, w, hn, hD, h => by
    refine ⟨hu, .inl ⟨_, _, rfl, run_takeDeferred (hD D (List.mem_cons_self ..)), leaves_marks hu Ds _ (List.nodup_cons.1 hn).2 (fun D' h' => ?_) h⟩⟩
    rw [World.putObj_heap_other (fun e => (List.nodup_cons.1 hn).1 (by rw [← e]; exact h'))]
    exact hD D' (List.mem_cons_of_mem _ h')
theorem putAll {I : World → Prop} {B : Nat} (hI : OwnFromW B I) : ∀ (Ds : List Nat) (w : World), (∀ D ∈ Ds, B ≤ D ∧ ∃ o : Obj, w.heap[D]? = some o ∧ o.isCells = false) → I w → I (Ds.foldl (fun W D => W.putObj D (.deferred none)) w)
  | [], w, _, h => h
  | D :: Ds, w, hD, h => by
    obtain ⟨h1, o, h2, h3⟩ := hD D (List.mem_cons_self ..)
    refine putAll hI Ds _ (fun D' h' => ?_) (OwnFrom.putObj hI (s := ()) _ h h1 h2 h3)
    obtain ⟨h4, o', h5, h6⟩ := hD D' (List.mem_cons_of_mem _ h')
    refine ⟨h4, ?_⟩
    by_cases e : D' = D
    · subst e; exact ⟨_, World.putObj_heap_same (Array.getElem?_eq_some_iff.1 h2).1, rfl⟩
    · exact ⟨o', (World.putObj_heap_other e).trans h5, h6⟩
set_option maxRecDepth 100000 in
set_option maxHeartbeats 4000000 in
theorem els172a (hn : 0 < n ∧ n ≤ 64) {O : Nat → List Nat} {R : Nat → Nat → Pm n} {ab ao c bb bo e : Nat} {F : List (Pm n)} {w : World} {I C P : Nat} {vy : Value} {y : Pm n} {M0 : List Nat} {s0 : List (Pm n)}
    (hI : w.cell? ⟨I, 0, none⟩ = some (.int .i64 (n : Int))) (hC : w.heap[C]? = some (.cells #[.int .i64 (n : Int), .slice (some ⟨ab, ao, none⟩) n c, .slice (some ⟨bb, bo, none⟩) n e] 25)) (hP : w.cell? ⟨P, 0, none⟩ = some vy)
    (hy : PmV w M0 vy y) (hF : s0 ++ [y] <+: F) :
    SeqY Tryz.prog 172 #[.pointer (some ⟨I, 0, none⟩), .pointer (some ⟨C, 0, none⟩), .pointer (some ⟨P, 0, none⟩)] Prod.fst elCore (elGood F) elNx (fun s => s = s0 ++ [y]) s0 M0 w := by
  intro lp J Jx W hW _ hl2 hJ hJx hCo hY h0
  obtain ⟨yb, yo, yc, rfl, _⟩ := id hy
  obtain ⟨c0, c1, c2, _⟩ := box_cells hC
  have cI := (hW.cell (p := ⟨I, 0, none⟩) (block_lt_of_cell hI)).trans hI
  have cC := (hW.cell (p := ⟨C, 0, none⟩) (block_lt_of_cell c0)).trans c0
  have cP := (hW.cell (p := ⟨P, 0, none⟩) (block_lt_of_cell hP)).trans hP
  obtain ⟨W1, hW1⟩ : ∃ W1, W.alloc (.cells #[.func (.yield lp) #[] #[]] 90) = W1 := ⟨_, rfl⟩
  have hb1 : Below W.heap.size W W1 := hW1 ▸ alloc_b (Below.refl _ _) _
  have hyy := hY 8 s0 M0 (.slice (some ⟨yb, yo, none⟩) n yc, y) W1 (ownS_below hJ h0 hb1) ⟨(hy.below hW).below hb1, hF⟩
  obtain ⟨fn, tmps, assign, body, hyr, hR⟩ := hyy
  dsimp only at hyr
  have dI := (hb1.cell (p := ⟨I, 0, none⟩) (block_lt_of_cell cI)).trans cI
  have dC := (hb1.cell (p := ⟨C, 0, none⟩) (block_lt_of_cell cC)).trans cC
  have dP := (hb1.cell (p := ⟨P, 0, none⟩) (block_lt_of_cell cP)).trans cP
  have dY : W1.cell? ⟨W.heap.size, 0, none⟩ = some (.func (.yield lp) #[] #[]) := by rw [← hW1]; exact World.cell?_alloc_at _ _ _ _ rfl
  have H := Lib.hid (And.intro hb1 hW1)
  clear hY hW hI hC hP hy hF hb1 c0 c1 c2 h0 hCo hJ hJx cI cC cP
  refine (callsIn_wide (n := 9)).1 ?_
  have wd : Fence.wide.depth = none := rfl
  refine callsIn_of_wp Tryz.func172 rfl trivial ?_ rfl
  simp only [Tryz.ntmps172, List.size_toArray, List.length_cons, List.length_nil, Nat.reduceAdd, Nat.reduceSub, Array.replicate_succ, Array.replicate_zero, List.push_toArray, List.append_toArray, List.nil_append, List.cons_append]
  gi_wp2
  refine hR.mono ?_
  rintro e W4 (⟨rfl, s', M', hnx, hj, hst⟩ | ⟨rfl, hjx, hkx⟩)
  · have H4 := Lib.hid (And.intro hnx (And.intro hj ((Stp.below H.out.1).trans hst)))
    clear hnx hj hst hR hyr
    gi_wp2
    refine bodyPost_ret (results_none rfl _ _ _) rfl ?_
    exact ⟨⟨_, rfl⟩, .inl ⟨s', M', H4.out.1, H4.out.2.1, H4.out.2.2⟩⟩
  · have H4 := Lib.hid (And.intro hjx ((Kept.ofBelow H.out.1).trans hkx))
    clear hjx hkx hR hyr
    gi_wp2
    refine bodyPost_ret (results_none rfl _ _ _) rfl ?_
    exact ⟨⟨_, rfl⟩, .inr H4.out⟩
theorem wrap_s {i : Nat} (h : i < 64) : Value.int .i64 (IntKind.i64.wrap ((i : Int) + 1)) = .int .i64 ((i + 1 : Nat) : Int) := by
  rw [IntWalk.i64_in _ (by omega)]; rfl
def ElSeq (O : Nat → List Nat) (R : Nat → Nat → Pm n) (ab ao c bb bo e : Nat) (F : List (Pm n)) (f i : Nat) : Prop :=
  ∀ {w : World} {I C P : Nat} {vy : Value} {y : Pm n} {M0 : List Nat} {s0 : List (Pm n)}, w.cell? ⟨I, 0, none⟩ = some (.int .i64 (i : Int)) →
    w.heap[C]? = some (.cells #[.int .i64 (n : Int), .slice (some ⟨ab, ao, none⟩) n c, .slice (some ⟨bb, bo, none⟩) n e] 25) → w.cell? ⟨P, 0, none⟩ = some vy → I ∉ M0 → C ∉ M0 → P ∉ M0 → PmV w M0 vy y →
    (∀ W', Kept w W' M0 → LvW n W' O R ab ao bb bo) → s0 ++ elsF O R f i y <+: F →
      SeqY Tryz.prog 172 #[.pointer (some ⟨I, 0, none⟩), .pointer (some ⟨C, 0, none⟩), .pointer (some ⟨P, 0, none⟩)] Prod.fst elCore (elGood F) elNx (fun s => s = s0 ++ elsF O R f i y) s0 M0 w
structure ElC (I C P n ab ao c bb bo e yb yo yc i : Nat) (W V : World) : Prop where
  i : V.cell? ⟨I, 0, none⟩ = some (.int .i64 (i : Int))
  c0 : V.cell? ⟨C, 0, none⟩ = some (.int .i64 (n : Int))
  c1 : V.cell? ⟨C, 1, none⟩ = some (.slice (some ⟨ab, ao, none⟩) n c)
  c2 : V.cell? ⟨C, 2, none⟩ = some (.slice (some ⟨bb, bo, none⟩) n e)
  p : V.cell? ⟨P, 0, none⟩ = some (.slice (some ⟨yb, yo, none⟩) n yc)
  b : Below W.heap.size W V
theorem ElC.below {I C P n ab ao c bb bo e yb yo yc i : Nat} {W A B : World} (h : ElC I C P n ab ao c bb bo e yb yo yc i W A) (k : Below A.heap.size A B) : ElC I C P n ab ao c bb bo e yb yo yc i W B :=
  ⟨(k.cell (block_lt_of_cell h.i)).trans h.i, (k.cell (block_lt_of_cell h.c0)).trans h.c0, (k.cell (block_lt_of_cell h.c1)).trans h.c1, (k.cell (block_lt_of_cell h.c2)).trans h.c2, (k.cell (block_lt_of_cell h.p)).trans h.p, below_trans h.b k⟩
theorem ElC.all {I C P n ab ao c bb bo e yb yo yc i : Nat} {W V : World} (h : ElC I C P n ab ao c bb bo e yb yo yc i W V) :
    V.cell? ⟨I, 0, none⟩ = some (.int .i64 (i : Int)) ∧ V.cell? ⟨C, 0, none⟩ = some (.int .i64 (n : Int)) ∧ V.cell? ⟨C, 1, none⟩ = some (.slice (some ⟨ab, ao, none⟩) n c) ∧ V.cell? ⟨C, 2, none⟩ = some (.slice (some ⟨bb, bo, none⟩) n e) ∧ V.cell? ⟨P, 0, none⟩ = some (.slice (some ⟨yb, yo, none⟩) n yc) ∧ Below W.heap.size W V :=
  ⟨h.i, h.c0, h.c1, h.c2, h.p, h.b⟩
set_option maxRecDepth 100000 in
set_option maxHeartbeats 4000000 in
theorem els172b (hn : 0 < n ∧ n ≤ 64) {G : Pm n → Prop} {O : Nat → List Nat} {R : Nat → Nat → Pm n} (hG : ChG G O R) {ab ao c bb bo e : Nat} {F : List (Pm n)} {f i : Nat} (hi : i + (f + 1) = n) (ih : ElSeq O R ab ao c bb bo e F f (i + 1)) : ElSeq O R ab ao c bb bo e F (f + 1) i := by
  intro w I C P vy y M0 s0 hI hC hP nI nC nP hy hlv hF
  intro lp J Jx W hW hl1 hl2 hJ hJx hCo hY h0
  have hin : i < n := by omega
  obtain ⟨yb, yo, yc, rfl, _⟩ := id hy
  obtain ⟨c0, c1, c2, _⟩ := box_cells hC
  have cI := (hW.cell (p := ⟨I, 0, none⟩) (block_lt_of_cell hI)).trans hI
  have cC := (hW.cell (p := ⟨C, 0, none⟩) (block_lt_of_cell c0)).trans c0
  have cC1 := (hW.cell (p := ⟨C, 1, none⟩) (block_lt_of_cell c1)).trans c1
  have cC2 := (hW.cell (p := ⟨C, 2, none⟩) (block_lt_of_cell c2)).trans c2
  have cP := (hW.cell (p := ⟨P, 0, none⟩) (block_lt_of_cell hP)).trans hP
  have hlt := hG.lt i hin
  have hnd := hG.nd i hin
  obtain ⟨W1, hW1⟩ : ∃ W1, W.alloc (.cells #[.func (.yield lp) #[] #[]] 90) = W1 := ⟨_, rfl⟩
  have hb1 : Below W.heap.size W W1 := hW1 ▸ alloc_b (Below.refl _ _) _
  have dI := (hb1.cell (p := ⟨I, 0, none⟩) (block_lt_of_cell cI)).trans cI
  have dC := (hb1.cell (p := ⟨C, 0, none⟩) (block_lt_of_cell cC)).trans cC
  have dC1 := (hb1.cell (p := ⟨C, 1, none⟩) (block_lt_of_cell cC1)).trans cC1
  have dC2 := (hb1.cell (p := ⟨C, 2, none⟩) (block_lt_of_cell cC2)).trans cC2
  have dP := (hb1.cell (p := ⟨P, 0, none⟩) (block_lt_of_cell cP)).trans cP
  have dY : W1.cell? ⟨W.heap.size, 0, none⟩ = some (.func (.yield lp) #[] #[]) := by rw [← hW1]; exact World.cell?_alloc_at _ _ _ _ rfl
  have k61 := choices61 (c := c) (e := e) hin hlt (hlv W1 ((Kept.ofBelow hW).trans (Kept.ofBelow hb1))) ((hy.below hW).below hb1).weak
  have hsl : (srtI (nts ((O i).map y.at))).length = (O i).length := by rw [srtI_len]; unfold nts; simp
  obtain ⟨L, hL⟩ : ∃ L, (O i).length = L := ⟨_, rfl⟩
  have hL64 : L ≤ 64 := by rw [← hL]; exact Nat.le_trans (hG.short hin) hn.2
  have hix : ((i : Int) == (n : Int)) = false := by simp; omega
  have HA := Lib.hid (And.intro hW (And.intro hJ (And.intro hJx (And.intro hCo (And.intro hY (And.intro h0 (And.intro hb1 hW1)))))))
  have HB := Lib.hid (And.intro hI (And.intro hC (And.intro hP (And.intro nI (And.intro nC (And.intro nP (And.intro hy (And.intro hlv hF))))))))
  have HC := Lib.hid (And.intro k61 (And.intro hlt (And.intro hnd (And.intro hsl hL))))
  clear hW hJ hJx hCo hY h0 hb1 hI hC hP nI nC nP hy hlv hF k61 hlt hnd hsl hL cI cC cC1 cC2 cP c0 c1 c2
  refine (callsIn_wide (n := 9)).1 ?_
  have w61 : Fence.wide.fn 61 := trivial
  have w62 : Fence.wide.fn 62 := trivial
  have w151 : Fence.wide.fn 151 := trivial
  have wd : Fence.wide.depth = none := rfl
  refine callsIn_of_wp_marks Tryz.func172 rfl trivial ?_ rfl
  simp only [Tryz.ntmps172, List.size_toArray, List.length_cons, List.length_nil, Nat.reduceAdd, Nat.reduceSub, Array.replicate_succ, Array.replicate_zero, List.push_toArray, List.append_toArray, List.nil_append, List.cons_append]
  gi_wp2_with (gi_at_call 61; (with_reducible refine (callsIn_wide.2 HC.out.1).mono ?_); rintro e2 w2 ⟨v2, rfl, k1, k2⟩
               have k3 : (ints (srtI (nts ((O i).map y.at)))).length = L := by rw [ints_len, HC.out.2.2.2.1, HC.out.2.2.2.2]
               obtain ⟨a2, c2, k5, k4⟩ := k1.row (by rw [k3]; unfold maxLen; omega)
               rw [k3] at k5
               subst k5
               have k6 := k1.intsB (by rw [HC.out.2.2.2.1, HC.out.2.2.2.2]; unfold maxLen; omega)
               have H2 := Lib.hid (And.intro k6 k2)
               clear k1 k2 k3 k4 k6)
  have hW2 : Below W.heap.size W w2 := below_trans HA.out.2.2.2.2.2.2.1 H2.out.2
  have hww2 : Below w.heap.size w w2 := below_trans HA.out.1 hW2
  have hM0 := (HA.out.2.2.2.1 _ _ _ HA.out.2.2.2.2.2.1).2
  have hs1 : W1.heap.size = W.heap.size + 1 := by rw [← HA.out.2.2.2.2.2.2.2]; simp
  have s12 := H2.out.2.size
  have lI := block_lt_of_cell HB.out.1
  have lC := (Array.getElem?_eq_some_iff.1 HB.out.2.1).1
  have lP := block_lt_of_cell HB.out.2.2.1
  have sw := HA.out.1.size
  have eI := (hww2.cell (p := ⟨I, 0, none⟩) lI).trans HB.out.1
  have eC := (hww2.block C lC).trans HB.out.2.1
  have eP := (hww2.cell (p := ⟨P, 0, none⟩) lP).trans HB.out.2.2.1
  have eY := (H2.out.2.cell (p := ⟨W.heap.size, 0, none⟩) (block_lt_of_cell dY)).trans dY
  have lI2 : I < w2.heap.size := Nat.lt_of_lt_of_le (show I < w.heap.size from lI) hww2.size
  have lC2 : C < w2.heap.size := Nat.lt_of_lt_of_le lC hww2.size
  have lP2 : P < w2.heap.size := Nat.lt_of_lt_of_le (show P < w.heap.size from lP) hww2.size
  have lY2 : W.heap.size < w2.heap.size := by omega
  have nY : W.heap.size ∉ M0 := fun hm => by have := hM0 _ hm; omega
  have HD := Lib.hid (And.intro hW2 (And.intro hww2 (And.intro hM0 (And.intro eI (And.intro eC (And.intro eP (And.intro eY nY)))))))
  clear hW2 hww2 hM0 eI eC eP eY nY
  refine wpIn_loop (fun a' wr => ∃ (u6 u20 u21 u22 u23 u24 u25 u26 u27 u28 u29 u30 u31 u32 u38 : Value) (ds : List Deferred),
    (∃ (k : Nat) (s : List (Pm n)) (M : List Nat) (Ds : List Nat), u20 = .int .i64 (k : Int) ∧ k ≤ L ∧ s = s0 ++ (List.range k).flatMap (fun t => elsF O R f (i + 1) ((R i (selQ y (O i) t)).mul y)) ∧ J s M wr ∧ Stp w2 M0 wr M ∧
      ds = Ds.map (fun D => { target := .collected D, args := #[] }) ∧ Ds.Nodup ∧ ∀ D ∈ Ds, w2.heap.size ≤ D ∧ D ∉ M ∧ wr.heap[D]? = some (.deferred (some []))) ∧
    a' = { tmps := #[.func (.yield lp) #[] #[], .pointer (some ⟨I, 0, none⟩), .pointer (some ⟨C, 0, none⟩), .pointer (some ⟨P, 0, none⟩), .pointer (some ⟨W.heap.size, 0, none⟩), undef, u6, undef, .int .i64 (i : Int), .pointer (some ⟨C, 0, none⟩), .int .i64 (n : Int), .bool false, undef, undef, undef,
      .agg #[.int .i64 (n : Int), .slice (some ⟨ab, ao, none⟩) n c, .slice (some ⟨bb, bo, none⟩) n e], .slice (some ⟨yb, yo, none⟩) n yc, .int .i64 (i : Int), .slice a2 L c2, .int .i64 (L : Int), u20, u21, u22, u23, u24, u25, u26, u27, u28, u29, u30, u31, u32, undef, undef, undef, undef, undef, u38], defers := ds })
    (fun a' _ => L - (intOf (a'.tmps.getD 20 undef)).toNat) ?start ?round
  case start =>
    exact ⟨_, _, _, _, _, _, _, _, _, _, _, _, _, _, _, _, ⟨0, s0, M0, [], rfl, Nat.zero_le _, by simp, ownS_below HA.out.2.1 HA.out.2.2.2.2.2.1 HD.out.1, Stp.refl _ _, rfl, List.nodup_nil, fun D h => by cases h⟩, rfl⟩
  case round =>
    rintro a' wr ⟨u6, u20, u21, u22, u23, u24, u25, u26, u27, u28, u29, u30, u31, u32, u38, ds, ⟨k, s, M, Ds, rfl, hk, hs, hj, hst, rfl, hDn, hD⟩, rfl⟩
    have hlvr := HB.out.2.2.2.2.2.2.2.1 wr ((Kept.ofBelow HD.out.2.1).trans hst.kept)
    have sr := hst.kept.size
    have sW2 := HD.out.1.size
    have fI := (hst.kept.cell (p := ⟨I, 0, none⟩) lI2 HB.out.2.2.2.1).trans HD.out.2.2.2.1
    have fC := (hst.kept.block C lC2 HB.out.2.2.2.2.1).trans HD.out.2.2.2.2.1
    have fP := (hst.kept.cell (p := ⟨P, 0, none⟩) lP2 HB.out.2.2.2.2.2.1).trans HD.out.2.2.2.2.2.1
    have fY := (hst.kept.cell (p := ⟨W.heap.size, 0, none⟩) lY2 HD.out.2.2.2.2.2.2.2).trans HD.out.2.2.2.2.2.2.1
    obtain ⟨fc0, fc1, fc2, _⟩ := box_cells fC
    have fy : PmV wr M (.slice (some ⟨yb, yo, none⟩) n yc) y := (HB.out.2.2.2.2.2.2.1.below HD.out.2.1).stp hst
    by_cases hkL : k < L
    · have hsel := sel_sorted (y := y) HC.out.2.1 HC.out.2.2.1 (m := srtI (nts ((O i).map y.at))) (by
          refine (srtI_perm _).trans ?_
          unfold nts; rw [List.map_map]; exact List.Perm.refl _) (srtI_sorted _) (s := k) (by rw [HC.out.2.2.2.2]; exact hkL)
      obtain ⟨q, hq⟩ : ∃ q, selQ y (O i) k = q := ⟨_, rfl⟩
      rw [hq] at hsel
      obtain ⟨g2, o2, rfl, hg2, hc2⟩ := H2.out.1.1.2 k (.int .i64 (y.at q : Int)) (by rw [List.getElem?_map, hsel.2.2]; rfl)
      have hg2M : g2 ∉ M := fun hm => by
        have h1 := H2.out.1.2 _ rfl (by rw [HC.out.2.2.2.1, HC.out.2.2.2.2]; omega)
        rcases hst.new _ hm with h | h
        · have h2 := HD.out.2.2.1 _ h
          have h3 : W1.heap.size ≤ g2 := h1
          omega
        · omega
      have hg2M0 : g2 ∉ M0 := fun hm => by
        have h2 := HD.out.2.2.1 _ hm
        have h3 : W1.heap.size ≤ g2 := H2.out.1.2 _ rfl (by rw [HC.out.2.2.2.1, HC.out.2.2.2.2]; omega)
        omega
      have fq := (hst.kept.cell (p := ⟨g2, o2 + k, none⟩) hg2 hg2M0).trans hc2
      obtain ⟨aq, haq⟩ : ∃ aq, y.at q = aq := ⟨_, rfl⟩
      have k62 := fun (V : World) (hV : Below wr.heap.size wr V) => step62 (c := c) (e := e) hn.2 hin HC.out.2.1 hsel.1 (hlvr.below hV) (fy.below hV).weak
      rw [haq] at fq
      simp only [haq] at k62
      have hk1 : (k : Int) < L := by omega
      have HR := Lib.hid (And.intro hs (And.intro hj (And.intro hst (And.intro hDn (And.intro hD (And.intro k62 (And.intro hq (And.intro hlvr fy))))))))
      clear hs hj hst hDn hD k62 hq hlvr fy hsel hc2 hg2 hg2M hg2M0 haq fC
      gi_wp2_with fail
      have hz0 := ElC.mk fI fc0 fc1 fc2 fP (Below.refl wr.heap.size wr)
      refine wpIn_wide.2 ?_
      go_region_held3 (fun V => V.cell? ⟨I, 0, none⟩ = some (.int .i64 (i : Int)) ∧ V.cell? ⟨C, 0, none⟩ = some (.int .i64 (n : Int)) ∧ V.cell? ⟨C, 1, none⟩ = some (.slice (some ⟨ab, ao, none⟩) n c) ∧ V.cell? ⟨C, 2, none⟩ = some (.slice (some ⟨bb, bo, none⟩) n e) ∧ V.cell? ⟨P, 0, none⟩ = some (.slice (some ⟨yb, yo, none⟩) n yc) ∧ Below wr.heap.size wr V)
        (first
          | with_reducible assumption
          | with_reducible exact hz0.all
          | (refine (hz0.below ?_).all; (repeat' (first | exact Below.refl _ _ | exact b8 | exact b7 | apply below_drw)); done)
          | fail)
        (first
        | (go_at_call 151; (with_reducible refine els151.mono ?_); rintro e8 w8 ⟨I2, C2, P2, rfl, k1, k2, k3, k4, k5, k6, k7⟩
           have b8 : Below wr.heap.size wr w8 := below_trans (by (repeat' (first | exact b7 | apply below_drw))) k7
           obtain ⟨iI, ic0, ic1, ic2, iP, _⟩ := hz0.below b8
           have H8 := Lib.hid (And.intro k1 (And.intro k2 (And.intro k3 (And.intro k4 (And.intro k5 (And.intro k6 k7)))))); clear k1 k2 k3 k4 k5 k6 k7)
        | (go_at_call 62; (with_reducible refine (HR.out.2.2.2.2.2.1 _ ?_).mono ?_); (repeat' (first | exact Below.refl _ _ | apply below_drw)); rintro e7 w7 ⟨v7, rfl, k1, k2⟩; obtain ⟨xb, xc, rfl, k3⟩ := id k1
           have b7 : Below wr.heap.size wr w7 := below_trans (by (repeat' (first | exact Below.refl _ _ | apply below_drw))) k2
           obtain ⟨gI, gc0, gc1, gc2, gP, _⟩ := hz0.below b7
           have H7 := Lib.hid (And.intro k1 k2); clear k1 k2 k3))
      gi_wp2
      obtain ⟨hs, hj, hst, hDn, hD, -, hq, hlvr, fy⟩ := HR.out
      have hMr := (HA.out.2.2.2.1 _ _ _ hj).2
      have s8 := b8.size
      have s7 := b7.size
      have hst8 : Stp W1 M0 w8 M := ((Stp.below H2.out.2).trans hst).trans (Stp.below b8)
      have hMM : ∀ m ∈ lp :: M, m < wr.heap.size := fun m hm => by
        rcases List.mem_cons.1 hm with h | h
        · omega
        · exact hMr m h
      have hi64 : (i : Int) < 64 := by omega
      have hw1 : Value.int .i64 (IntKind.i64.wrap ((i : Int) + 1)) = .int .i64 ((i + 1 : Nat) : Int) := wrap_s (by omega)
      obtain ⟨z31, hz31⟩ : ∃ z, Value.int .i64 (IntKind.i64.wrap ((i : Int) + 1)) = z := ⟨_, rfl⟩
      rw [hz31] at hw1 H8 ⊢
      clear hz31
      have hsnx : s ++ elsF O R f (i + 1) ((R i q).mul y) = s0 ++ (List.range (k + 1)).flatMap (fun t => elsF O R f (i + 1) ((R i (selQ y (O i) t)).mul y)) := by
        rw [hs, List.range_succ, List.flatMap_append, List.flatMap_cons, List.flatMap_nil, List.append_nil, hq, List.append_assoc]
      have hpre : s ++ elsF O R f (i + 1) ((R i q).mul y) <+: F := by
        refine List.IsPrefix.trans ?_ HB.out.2.2.2.2.2.2.2.2
        rw [hsnx]
        refine List.prefix_append_right_inj _ |>.2 ?_
        show _ <+: (List.range (O i).length).flatMap _
        rw [HC.out.2.2.2.2]
        obtain ⟨r, hr⟩ : ∃ r, L = (k + 1) + r := ⟨L - (k + 1), by omega⟩
        have e1 : List.range L = List.range (k + 1) ++ (List.range r).map (k + 1 + ·) := by rw [hr, List.range_add]
        rw [e1, List.flatMap_append]
        exact List.prefix_append _ _
      have hseq := ih (w := w8) (I := I2) (C := C2) (P := P2) (vy := .slice (some ⟨xb, 0, none⟩) n xc) (y := (R i q).mul y) (M0 := lp :: M) (s0 := s) (by rw [← hw1]; exact H8.out.1) H8.out.2.1 H8.out.2.2.1
        (fun hm => by have h1 := hMM _ hm; have h2 := H8.out.2.2.2.1; omega) (fun hm => by have h1 := hMM _ hm; have h2 := H8.out.2.2.2.2.1; omega) (fun hm => by have h1 := hMM _ hm; have h2 := H8.out.2.2.2.2.2.1; omega)
        ((H7.out.1.pm hMM).below H8.out.2.2.2.2.2.2)
        (fun W' hk => HB.out.2.2.2.2.2.2.2.1 W' ((((Kept.ofBelow HD.out.2.1).trans hst.kept).trans (Kept.ofBelow b8)).transW hk (fun m hm => by
          rcases List.mem_cons.1 hm with h | h
          · right; omega
          · rcases hst.new m h with h | h
            · exact .inl h
            · right; omega))) hpre
      have HS := Lib.hid (And.intro hj (And.intro hst (And.intro hDn (And.intro hD (And.intro hst8 (And.intro hMM hsnx))))))
      clear hj hst hDn hD hst8 hMM hsnx hpre hlvr fy hs hMr hq hw1
      refine wpIn_rangeYD (gf := 172) (lb := #[.pointer (some ⟨I2, 0, none⟩), .pointer (some ⟨C2, 0, none⟩), .pointer (some ⟨P2, 0, none⟩)]) rfl (enters_of Tryz.func172 (by kernel_rfl) rfl)
        (Prod.fst : Value × Pm n → Value) rfl (lp :: M) (fun m hm => Nat.lt_of_lt_of_le (HS.out.2.2.2.2.2.1 m hm) s8)
        (fun s' M' A => ∃ M2, M' = lp :: M2 ∧ J s' M2 A ∧ Stp W1 M0 A M2) (fun A => Jx A ∧ Kept W1 A (lp :: M0)) elCore (elGood F) elNx (fun s' => s' = s ++ elsF O R f (i + 1) ((R i q).mul y)) s hseq ?own ?ownx ?good ?core ⟨M, rfl, ownS_below HA.out.2.1 HS.out.1 b8, HS.out.2.2.2.2.1⟩
        (fun q => { tmps := #[.func (.yield lp) #[] #[], .pointer (some ⟨I, 0, none⟩), .pointer (some ⟨C, 0, none⟩), .pointer (some ⟨P, 0, none⟩), .pointer (some ⟨W.heap.size, 0, none⟩), undef, .int .i64 (aq : Int), q.1, .int .i64 (i : Int), .pointer (some ⟨C, 0, none⟩), .int .i64 (n : Int), .bool false, undef, undef, undef,
          .agg #[.int .i64 (n : Int), .slice (some ⟨ab, ao, none⟩) n c, .slice (some ⟨bb, bo, none⟩) n e], .slice (some ⟨yb, yo, none⟩) n yc, .int .i64 (i : Int), .slice (some ⟨g2, o2, none⟩) L c2, .int .i64 (L : Int), .int .i64 (k : Int), .bool true, .pointer (some ⟨g2, o2 + k, none⟩), .int .i64 (aq : Int),
          .agg #[.int .i64 (n : Int), .slice (some ⟨ab, ao, none⟩) n c, .slice (some ⟨bb, bo, none⟩) n e], .agg #[.int .i64 (n : Int), .slice (some ⟨ab, ao, none⟩) n c, .slice (some ⟨bb, bo, none⟩) n e], .slice (some ⟨yb, yo, none⟩) n yc, .int .i64 (i : Int), .int .i64 (aq : Int), .slice (some ⟨xb, 0, none⟩) n xc, .int .i64 (i : Int), z31,
          .func (.func 172) #[] #[.pointer (some ⟨I2, 0, none⟩), .pointer (some ⟨C2, 0, none⟩), .pointer (some ⟨P2, 0, none⟩)], q.1, undef, undef, undef, undef, u38], defers := [] }) ?assign ?body ?done ?stop
      case own =>
        rintro ⟨s', M'⟩ A B row ⟨M2, h1, h2, h3⟩ hAB hr
        exact ⟨M2, h1, HA.out.2.1 (s', M2) A B row h2 hAB (fun r e => ⟨by have := (hr r e).1; omega, (hr r e).2⟩), h3.grown hAB (fun r e => by have := (hr r e).1; omega)⟩
      case ownx =>
        rintro u A B row ⟨h1, h2⟩ hAB hr
        exact ⟨HA.out.2.2.1 u A B row h1 hAB (fun r e => ⟨by have := (hr r e).1; omega, (hr r e).2⟩), h2.grown hAB (fun r e => by have := (hr r e).1; omega)⟩
      case good =>
        intro s' M' q' A B row h hg hr
        exact ⟨h.1.up (Turn.up ⟨hg, fun r e => (hr r e).2⟩), h.2⟩
      case core =>
        rintro s' M' A ⟨M2, rfl, h2, h3⟩
        refine ⟨trivial, fun m hm => ?_⟩
        rcases List.mem_cons.1 hm with h | h
        · have := h3.kept.size; omega
        · exact (HA.out.2.2.2.1 _ _ _ h2).2 m h
      case assign =>
        intro nn l x A K hK
        gi_wp2
        exact hK
      case body =>
        rintro nn l s' M' ⟨vx, x⟩ A ⟨M2, rfl, h2, h3⟩ ⟨hpm, hpx⟩ hst
        dsimp only at hpm hpx ⊢
        have hyy := HA.out.2.2.2.2.1 (nn - 1) s' M2 (vx, x) A h2 ⟨hpm.ext (fun m hm => .inl (List.mem_cons_of_mem _ hm)), hpx⟩
        obtain ⟨xb', xo', xc', rfl, _⟩ := id hpm
        obtain ⟨fn, tmps, assign, body, hyr, hR⟩ := hyy
        dsimp only at hyr
        have lY1 : W.heap.size < W1.heap.size := by omega
        have nY := HD.out.2.2.2.2.2.2.2
        have aY := (h3.kept.cell (p := ⟨W.heap.size, 0, none⟩) lY1 nY).trans dY
        have HQ := Lib.hid h3
        clear h2 h3 hpm hpx hst hseq nY
        gi_wp2
        have hR' : RoundIn (Fence.wide.inRound l) (nn - 1) Tryz.prog lp fn tmps assign body A _ := hR
        refine hR'.mono ?_
        rintro e W4 (⟨rfl, s4, M4, hnx, hj4, hst4⟩ | ⟨rfl, hjx, hkx⟩)
        · have H4 := Lib.hid (And.intro hnx (And.intro hj4 hst4))
          clear hnx hj4 hst4 hR hyr
          gi_wp2
          refine ⟨s4, lp :: M4, H4.out.1, ⟨M4, rfl, H4.out.2.1, HQ.out.trans H4.out.2.2⟩, ⟨H4.out.2.2.kept.mono (fun m hm => List.mem_cons_of_mem _ hm), fun m hm => ?_⟩⟩
          rcases List.mem_cons.1 hm with h | h
          · exact .inl (h ▸ List.mem_cons_self ..)
          · rcases H4.out.2.2.new m h with h | h
            · exact .inl (List.mem_cons_of_mem _ h)
            · exact .inr h
        · have H4 := Lib.hid (And.intro hjx hkx)
          clear hjx hkx hR hyr
          gi_wp2
          refine ⟨⟨H4.out.1, (HQ.out.kept.mono (S' := lp :: M0) (fun m hm => List.mem_cons_of_mem _ hm)).transW H4.out.2 (fun m hm => ?_)⟩, H4.out.2⟩
          rcases List.mem_cons.1 hm with h | h
          · exact .inl (h ▸ List.mem_cons_self ..)
          · rcases HQ.out.new m h with h | h
            · exact .inl (List.mem_cons_of_mem _ h)
            · exact .inr h
      case done =>
        rintro D9 s' M' W5 hD9 hfin ⟨M2, rfl, h2, h3⟩ hst hdef hnD
        have HQ := Lib.hid (And.intro hD9 (And.intro hfin (And.intro h2 (And.intro h3 (And.intro hst (And.intro hdef hnD))))))
        clear hD9 hfin h2 h3 hst hdef hnD hseq
        gi_wp2
        have h9 := HQ.out.1
        have hs2 : ∀ m ∈ M2, m ∈ M0 ∨ w2.heap.size ≤ m := fun m hm => by
          rcases HQ.out.2.2.2.2.1.new m (List.mem_cons_of_mem _ hm) with h | h
          · rcases List.mem_cons.1 h with h | h
            · rcases HQ.out.2.2.2.1.new m hm with h' | h'
              · exact .inl h'
              · omega
            · exact HS.out.2.1.new m h
          · right; omega
        have hst5 : Stp w2 M0 W5 M2 := ⟨⟨HQ.out.2.2.2.2.1.kept.os.trans (b8.os.trans HS.out.2.1.kept.os), HQ.out.2.2.2.2.1.kept.tape.trans (b8.tape.trans HS.out.2.1.kept.tape), HQ.out.2.2.2.2.1.kept.output.trans (b8.output.trans HS.out.2.1.kept.output), by have := HQ.out.2.2.2.2.1.kept.size; omega, fun m hm hn0 => by
          by_cases e : m = lp
          · have h1 := HQ.out.2.2.2.1.kept.block m (by omega) hn0
            exact h1.trans (H2.out.2.block m (by omega)).symm
          · refine (HQ.out.2.2.2.2.1.kept.block m (by omega) (fun h => ?_)).trans ((b8.block m (by omega)).trans (HS.out.2.1.kept.block m hm hn0))
            rcases List.mem_cons.1 h with h | h
            · exact e h
            · rcases HS.out.2.1.new m h with h | h
              · exact hn0 h
              · omega⟩, hs2⟩
        refine ⟨⟨_, _, _, _, _, _, _, _, _, _, _, _, _, _, _, _, ⟨k + 1, s', M2, D9 :: Ds, by go_num, by omega, HQ.out.2.1.trans HS.out.2.2.2.2.2.2, HQ.out.2.2.1, hst5, rfl, List.nodup_cons.2 ⟨fun h => ?_, HS.out.2.2.1⟩, fun D hD => ?_⟩, rfl⟩, by simp [intOf]; omega⟩
        · obtain ⟨h1, h2, h3⟩ := HS.out.2.2.2.1 D9 h
          have h4 := (Array.getElem?_eq_some_iff.1 h3).1
          omega
        · rcases List.mem_cons.1 hD with h | h
          · subst h
            exact ⟨by omega, fun hm => HQ.out.2.2.2.2.2.2 (List.mem_cons_of_mem _ hm), HQ.out.2.2.2.2.2.1⟩
          · obtain ⟨h1, h2, h3⟩ := HS.out.2.2.2.1 D h
            have h4 := (Array.getElem?_eq_some_iff.1 h3).1
            have hno : D ∉ lp :: M := fun hm => by
              rcases List.mem_cons.1 hm with h | h
              · omega
              · exact h2 h
            refine ⟨h1, fun hm => ?_, (HQ.out.2.2.2.2.1.kept.block D (by omega) hno).trans ((b8.block D h4).trans h3)⟩
            rcases HQ.out.2.2.2.2.1.new D (List.mem_cons_of_mem _ hm) with h | h
            · exact hno h
            · omega
      case stop =>
        rintro D9 W5 hD9 ⟨hjx, hkx⟩ hk hdef
        have HQ := Lib.hid (And.intro hD9 (And.intro hjx (And.intro hkx (And.intro hk hdef))))
        clear hD9 hjx hkx hk hdef hseq
        gi_wp2
        have hDs : ∀ D ∈ D9 :: Ds, w2.heap.size ≤ D ∧ W5.heap[D]? = some (.deferred (some [])) := fun D hD => by
          have h9 := HQ.out.1
          rcases List.mem_cons.1 hD with h | h
          · subst h; exact ⟨by omega, HQ.out.2.2.2.2⟩
          · obtain ⟨h1, h2, h3⟩ := HS.out.2.2.2.1 D h
            have h4 := (Array.getElem?_eq_some_iff.1 h3).1
            refine ⟨h1, (HQ.out.2.2.2.1.block D (by omega) (fun hm => ?_)).trans ((b8.block D h4).trans h3)⟩
            rcases List.mem_cons.1 hm with h | h
            · omega
            · exact h2 h
        refine leaves_marks (u := .returning) (by simp) (D9 :: Ds) W5 (List.nodup_cons.2 ⟨fun h => ?_, HS.out.2.2.1⟩) (fun D hD => (hDs D hD).2) ?_
        · obtain ⟨h1, h2, h3⟩ := HS.out.2.2.2.1 D9 h
          have h4 := (Array.getElem?_eq_some_iff.1 h3).1
          have h9 := HQ.out.1
          omega
        · refine ⟨_, results_none rfl _ _ _, ⟨_, rfl⟩, .inr ?_⟩
          have := putAll (I := fun A => Jx A ∧ Kept W1 A (lp :: M0)) (B := w2.heap.size) (fun u A B row h hAB hr => ⟨HA.out.2.2.1 u A B row h.1 hAB (fun r e => ⟨by have := (hr r e).1; omega, (hr r e).2⟩), h.2.grown hAB (fun r e => by have := (hr r e).1; omega)⟩)
            (D9 :: Ds) W5 (fun D hD => ⟨(hDs D hD).1, _, (hDs D hD).2, rfl⟩) ⟨HQ.out.2.1, HQ.out.2.2.1⟩
          exact ⟨this.1, (Kept.ofBelow HA.out.2.2.2.2.2.2.1).trans this.2⟩
    · have hkl : k = L := by omega
      have HQ := Lib.hid (And.intro hs (And.intro hj (And.intro hst (And.intro hDn (And.intro hD hkl)))))
      clear hs hj hst hDn hD hkl hlvr fy fC
      have hk1 : ¬ (k : Int) < L := by omega
      gi_wp2
      have hDs := HQ.out.2.2.2.2.1
      refine leaves_marks (u := .returning) (by simp) Ds wr HQ.out.2.2.2.1 (fun D hD => (hDs D hD).2.2) ?_
      have hse : s0 ++ elsF O R (f + 1) i y = s := by
        show s0 ++ (List.range (O i).length).flatMap _ = s
        rw [HC.out.2.2.2.2, ← HQ.out.2.2.2.2.2]
        exact HQ.out.1.symm
      rw [hse]
      have := putAll (I := fun A => J s M A ∧ Stp w2 M0 A M) (B := w2.heap.size) (fun u A B row h hAB hr => ⟨HA.out.2.1 (s, M) A B row h.1 hAB (fun r e => ⟨by have := (hr r e).1; omega, (hr r e).2⟩), h.2.grown hAB (fun r e => (hr r e).1)⟩)
          Ds wr (fun D hD => ⟨(hDs D hD).1, _, (hDs D hD).2.2, rfl⟩) ⟨HQ.out.2.1, HQ.out.2.2.1⟩
      exact ⟨_, results_none rfl _ _ _, ⟨_, rfl⟩, .inl ⟨M, this.1, (Stp.below HD.out.1).trans this.2⟩⟩
theorem els172 (hn : 0 < n ∧ n ≤ 64) {G : Pm n → Prop} {O : Nat → List Nat} {R : Nat → Nat → Pm n} (hG : ChG G O R) {ab ao c bb bo e : Nat} {F : List (Pm n)} (f : Nat) : ∀ i : Nat, i + f = n → ElSeq O R ab ao c bb bo e F f i := by
  induction f with
  | zero =>
    intro i hi
    intro w I C P vy y M0 s0 hI hC hP nI nC nP hy hlv hF
    have hin : i = n := by omega
    rw [hin] at hI
    exact els172a (O := O) (R := R) hn hI hC hP hy hF
  | succ f ih =>
    intro i hi
    exact els172b hn hG hi (ih (i + 1) (by omega))
end
end Go.Proofs.YtbejhkojdiadaaaGreat
