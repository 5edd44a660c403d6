/- closure.Normal. -/
import Derived.Test.YtbejhkojdiadaaaGreatCo01
import Derived.Test.YtbejhkojdiadaaaGreatCo02
import Derived.Test.YtbejhkojdiadaaaGreatCo03
import Derived.Test.YtbejhkojdiadaaaGreatCo04
import Derived.Test.YtbejhkojdiadaaaGreatCo05
import Derived.Test.YtbejhkojdiadaaaGreatCo06
import Derived.Test.YtbejhkojdiadaaaGreatCo07
import Derived.Test.YtbejhkojdiadaaaGreatCo08
import Derived.Test.YtbejhkojdiadaaaGreatCo09
import Derived.Test.YtbejhkojdiadaaaGreatCo10
import Derived.Test.YtbejhkojdiadaaaGreatCo11
import Derived.Test.YtbejhkojdiadaaaGreatCo12
import Derived.Test.YtbejhkojdiadaaaGreatCo13
import Derived.Test.YtbejhkojdiadaaaGreatCo14
import Derived.Test.YtbejhkojdiadaaaGreatCo15
import Derived.Test.YtbejhkojdiadaaaGreatCo16
import Derived.Test.YtbejhkojdiadaaaGreatCo17
import Derived.Test.YtbejhkojdiadaaaGreatCo18
import Derived.Test.YtbejhkojdiadaaaGreatCo19
import Derived.Test.YtbejhkojdiadaaaGreatProg
import Derived.WalkKit
import Derived.WalkSpells
import Derived.BigQuiet
import Derived.Deep.QuietTactic
import Derived.Deep.LoopGhost
import Derived.Lib.Hide
import Derived.Maps.AppendAt
import Derived.Deep.AppendLies
import Derived.StillTailTactics
import Derived.Laws.CopyOwn
import Derived.Deep.OwnRows
import Derived.Deep.DeepCutAuto
import Derived.Laws.Cover3
import Derived.Deep.RegionHeld3
import Derived.RangeFuncRecord
import Derived.Lib.SlicesSearch
import Derived.RangeFuncBox
import Derived.RangeFuncLeaves
import Derived.RangeFuncWrites
import Derived.RangeFuncFrom
import Derived.Shelf.Abstract
import Derived.OwnWalkIn
import Derived.TacticsInMore
import Derived.LoopNIn
import Derived.LoopIn
import Derived.Shelf.GgSortFunc.Insertion
import Derived.Shelf.SlIter.Collect
import Derived.Shelf.Sort.Plain
import Derived.Deep.RegionLaw
import Derived.ControlIn
set_option linter.unusedSimpArgs false
set_option linter.unusedVariables false
namespace Go.Proofs.YtbejhkojdiadaaaGreat
open Go.RowKit PlainPm
attribute [local go_sem] Oper.semAt_some
section
variable {n : Nat}
structure NmI (X P Y kb D : Nat) (n ab ao c bb bo e : Nat) (v : Value) (us : List Value) (A B : List (Pm n)) (G : Pm n → Prop) (O : Nat → List Nat) (R : Nat → Nat → Pm n) (s : List (Pm n) × Nat) (M : List Nat) (W : World) : Prop where
  l : s.1 = A
  m : M = [X + 1 + 1, X + 1 + 1 + 1]
  p : W.cell? ⟨P, 0, none⟩ = some (.pointer (some ⟨kb, 0, none⟩))
  y : W.cell? ⟨Y, 0, none⟩ = some v
  k0 : W.cell? ⟨kb, 0, none⟩ = some (.int .i64 (n : Int))
  k1 : W.cell? ⟨kb, 1, none⟩ = some (.slice (some ⟨ab, ao, none⟩) n c)
  k2 : W.cell? ⟨kb, 2, none⟩ = some (.slice (some ⟨bb, bo, none⟩) n e)
  own : Own W D v 27 us
  pml : PmL W [] us A
  lv : LvW n W O R ab ao bb bo
  r2 : W.heap[X + 1 + 1]? = some (.cells #[.bool false] 4 (0, 0))
  r3 : W.heap[X + 1 + 1 + 1]? = some (.cells #[.int .i64 0] 30 (0, 0))
  done : ∀ c', c' < s.2 → ∀ p y, A[c' / B.length]? = some p → B[c' % B.length]? = some y → G (cj p y)
theorem NmI.turn {X P Y kb D ab ao c bb bo e : Nat} {v : Value} {us : List Value} {A B : List (Pm n)} {G : Pm n → Prop} {O : Nat → List Nat} {R : Nat → Nat → Pm n} {s : List (Pm n) × Nat} {M : List Nat} {W W' : World} {row : Option Nat}
    (h : NmI X P Y kb D n ab ao c bb bo e v us A B G O R s M W) (k : Turn W W' row) : NmI X P Y kb D n ab ao c bb bo e v us A B G O R s M W' :=
  ⟨h.l, h.m, k.up.cell _ _ h.p, k.up.cell _ _ h.y, k.up.cell _ _ h.k0, k.up.cell _ _ h.k1, k.up.cell _ _ h.k2, h.own.turn k, h.pml.up k.up, h.lv.up k.up, k.cells h.r2, k.cells h.r3, h.done⟩
theorem NmI.nrm {X P Y kb D ab ao c bb bo e : Nat} {v : Value} {us : List Value} {A B : List (Pm n)} {G G2 : Pm n → Prop} {O : Nat → List Nat} {R : Nat → Nat → Pm n} {M : List Nat} {W : World}
    (h : NmI X P Y kb D n ab ao c bb bo e v us A B G O R (A, A.length * B.length) M W) (hG : IsG G) (hA : ∀ x, Grp (· ∈ A) x ↔ G x) (hB : ∀ x, Grp (· ∈ B) x ↔ G2 x) : Nrm G G2 := by
  refine (nrm_lists hG hA hB).2 fun a ha b hb => ?_
  obtain ⟨i, hi, rfl⟩ := List.mem_iff_getElem.1 ha
  obtain ⟨k, hk, rfl⟩ := List.mem_iff_getElem.1 hb
  obtain ⟨d1, d2⟩ := div_mod (k := i) (m := k) (b := B.length) hk
  have hlt : i * B.length + k < A.length * B.length := by
    have : (i + 1) * B.length ≤ A.length * B.length := Nat.mul_le_mul_right _ hi
    rw [Nat.succ_mul] at this
    omega
  exact h.done _ hlt _ _ (by rw [d1, List.getElem?_eq_getElem hi]) (by rw [d2, List.getElem?_eq_getElem hk])
set_option maxRecDepth 100000 in
set_option maxHeartbeats 40000000 in
theorem norm25 (hn : 0 < n ∧ n ≤ 64) {w : World} {v1 v2 : Value} {G1 G2 : Pm n → Prop} (g1 : IsG G1) (g2 : IsG G2) (h1 : GrG w v1 G1) (h2 : GrG w v2 G2) :
    Calls Tryz.prog 25 #[v1, v2] w fun e w' => ∃ b : Bool, e = .returned (.tuple #[.bool b, .int .i64 0]) ∧ (b = true ↔ Nrm G1 G2) ∧ Below w.heap.size w w' := by
  obtain ⟨T1, t1, ab, ao, c, bb, bo, e, hv1, hlv⟩ := h1.lev g1 ⟨hn.1, hn.2⟩
  obtain ⟨T2, t2, ab', ao', c', bb', bo', e', hv2, hlv2⟩ := h2.lev g2 ⟨hn.1, hn.2⟩
  obtain ⟨os1, rs1, os2, rs2, p1, p2, p3⟩ := GrG.pair0 hn g1 g2 h1 h2
  have hpr := fun (V : World) (hV : Below w.heap.size w V) => pair70 (p1.below hV) (p2.below hV)
  rw [p3] at hpr
  subst hv1
  subst hv2
  obtain ⟨X, hX⟩ : ∃ X, w.heap.size = X := ⟨_, rfl⟩
  obtain ⟨W1, hW1⟩ : ∃ W1, ((((w.alloc (.cells #[.int .i64 (n : Int), .slice (some ⟨ab, ao, none⟩) n c, .slice (some ⟨bb, bo, none⟩) n e] 25)).alloc (.cells #[.int .i64 (n : Int), .slice (some ⟨ab', ao', none⟩) n c', .slice (some ⟨bb', bo', none⟩) n e'] 25)).alloc (.cells #[.bool false] 4)).alloc (.cells #[.int .i64 0] 30)) = W1 := ⟨_, rfl⟩
  have hsz : W1.heap.size = X + 4 := by rw [← hW1]; simp [hX]
  have hwW : Below w.heap.size w W1 := hW1 ▸ alloc_b (alloc_b (alloc_b (alloc_b (Below.refl _ _) _) _) _) _
  have k0 : W1.heap[X]? = some (.cells #[.int .i64 (n : Int), .slice (some ⟨ab, ao, none⟩) n c, .slice (some ⟨bb, bo, none⟩) n e] 25) := by
    rw [← hW1]
    exact ((alloc_b (alloc_b (alloc_b (Below.refl _ _) _) _) _).block X (by simp; omega)).trans (box_al25 hX _ _ _)
  have k1 : W1.heap[X + 1]? = some (.cells #[.int .i64 (n : Int), .slice (some ⟨ab', ao', none⟩) n c', .slice (some ⟨bb', bo', none⟩) n e'] 25) := by
    rw [← hW1]
    exact ((alloc_b (alloc_b (Below.refl _ _) _) _).block (X + 1) (by simp; omega)).trans (box_al25 (by simp [hX]) _ _ _)
  have k2 : W1.heap[X + 2]? = some (.cells #[.bool false] 4) := by
    rw [← hW1]
    exact ((alloc_b (Below.refl _ _) _).block (X + 2) (by simp; omega)).trans (al_at (by simp [hX]) _)
  have k3 : W1.heap[X + 3]? = some (.cells #[.int .i64 0] 30) := by
    rw [← hW1]
    exact al_at (by simp [hX]) _
  obtain ⟨x0, x1, x2, _⟩ := box_cells k0
  obtain ⟨y0, y1, y2, _⟩ := box_cells k1
  have HB := Lib.hid (And.intro k0 (And.intro k1 (And.intro k2 (And.intro k3 (And.intro hsz hwW)))))
  have hst := fun (V : World) (hV : Below w.heap.size w V) => strong73 (O := orbO T1) (R := PlainPm.repT T1) (c := c) (e := e) hn (t1.chG g1) hlv hV
  have hst2 := fun (V : World) (hV : Below w.heap.size w V) => strong73 (O := orbO T2) (R := PlainPm.repT T2) (c := c') (e := e') hn (t2.chG g2) hlv2 hV
  have hs1 := sgen_grp g1 t1
  have hs2 := sgen_grp g2 t2
  have HC := Lib.hid (And.intro hpr (And.intro hst (And.intro hst2 (And.intro hs1 (And.intro hs2 hlv)))))
  clear hpr hst hst2 hs1 hs2 hlv hlv2 p1 p2 p3 h2 k0 k1 k2 k3 hsz hwW
  refine (callsIn_wide (n := 9)).1 ?_
  have w70 : Fence.wide.fn 70 := trivial
  have w73 : Fence.wide.fn 73 := trivial
  have w76 : Fence.wide.fn 76 := trivial
  have w77 : Fence.wide.fn 77 := trivial
  have wd : Fence.wide.depth = none := rfl
  refine callsIn_of_wp_marks Tryz.func25 rfl trivial ?_ rfl
  simp only [Tryz.ntmps25, List.size_toArray, List.length_cons, List.length_nil, Nat.reduceAdd, Nat.reduceSub, Array.replicate_succ, Array.replicate_zero, List.push_toArray, List.append_toArray, List.nil_append, List.cons_append]
  try simp only [hX]
  gi_wp2_with (gi_at_call 70; (with_reducible refine (callsIn_wide.2 (HC.out.1 _ HB.out.2.2.2.2.2)).mono ?_); rintro e2 w2 ⟨rfl, k⟩; have z0 := (k.cell (block_lt_of_cell x0)).trans x0; have z1 := (k.cell (block_lt_of_cell x1)).trans x1; have z2 := (k.cell (block_lt_of_cell x2)).trans x2; have H2 := Lib.hid k; clear k)
  refine wpIn_wide.2 ?_
  rename_i K hK
  have hrest : ∀ (kb P Y : Nat) (a5 : Option Addr) (c5 : Nat) (us5 : List Value) (W : World), Below w2.heap.size w2 W → W.cell? ⟨P, 0, none⟩ = some (.pointer (some ⟨kb, 0, none⟩)) → W.cell? ⟨Y, 0, none⟩ = some (.slice a5 us5.length c5) →
      W.cell? ⟨kb, 0, none⟩ = some (.int .i64 (n : Int)) → W.cell? ⟨kb, 1, none⟩ = some (.slice (some ⟨ab, ao, none⟩) n c) → W.cell? ⟨kb, 2, none⟩ = some (.slice (some ⟨bb, bo, none⟩) n e) →
      Own W w2.heap.size (.slice a5 us5.length c5) 27 us5 → PmL w [] us5 (sgen n (orbO T1) (PlainPm.repT T1) n) → us5.length ≤ 4096 →
      K { tmps := #[cv n ab ao c bb bo e, cv n ab' ao' c' bb' bo' e', .pointer (some ⟨X, 0, none⟩), .pointer (some ⟨X + 1, 0, none⟩), .pointer (some ⟨X + 1 + 1, 0, none⟩), .pointer (some ⟨X + 1 + 1 + 1, 0, none⟩), .int .i64 0, .pointer (some ⟨P, 0, none⟩), .pointer (some ⟨Y, 0, none⟩), undef,
        .agg #[.int .i64 (n : Int), .slice (some ⟨ab, ao, none⟩) n c, .slice (some ⟨bb, bo, none⟩) n e], .agg #[.int .i64 (n : Int), .slice (some ⟨ab', ao', none⟩) n c', .slice (some ⟨bb', bo', none⟩) n e'], .int .i64 0, .int .i64 0, .bool false, undef,
        .agg #[.int .i64 (n : Int), .slice (some ⟨ab, ao, none⟩) n c, .slice (some ⟨bb, bo, none⟩) n e], .agg #[.int .i64 (n : Int), .slice (some ⟨ab, ao, none⟩) n c, .slice (some ⟨bb, bo, none⟩) n e], .pointer (some ⟨kb, 0, none⟩),
        .agg #[.int .i64 (n : Int), .slice (some ⟨ab, ao, none⟩) n c, .slice (some ⟨bb, bo, none⟩) n e], .slice a5 us5.length c5, undef, undef, undef, undef, undef, undef, undef, undef], defers := [] } W := by
    intro kb P Y a5 c5 us5 W hbW p0 py pk0 pk1 pk2 ho hpl hul
    have hX1 : X + 1 < w2.heap.size := by have := H2.out.size; rw [HB.out.2.2.2.2.1] at this; omega
    have hw2 : Below w.heap.size w w2 := below_trans HB.out.2.2.2.2.2 H2.out
    have y0' := (hbW.cell (p := ⟨X + 1, 0, none⟩) hX1).trans ((H2.out.cell (block_lt_of_cell y0)).trans y0)
    have y1' := (hbW.cell (p := ⟨X + 1, 1, none⟩) hX1).trans ((H2.out.cell (block_lt_of_cell y1)).trans y1)
    have y2' := (hbW.cell (p := ⟨X + 1, 2, none⟩) hX1).trans ((H2.out.cell (block_lt_of_cell y2)).trans y2)
    have HR := Lib.hid (And.intro hbW (And.intro p0 (And.intro py (And.intro pk0 (And.intro pk1 (And.intro pk2 (And.intro ho (And.intro hpl (And.intro hul hw2)))))))))
    clear hbW p0 py pk0 pk1 pk2 ho hpl hul hw2 y0 y1 y2 z0 z1 z2 x0 x1 x2 hX1
    gi_wp2_with (first
      | (gi_at_call 76; (with_reducible refine (callsIn_wide.2 (conj76' _ _ _ _)).mono ?_); rintro e7 w7 ⟨U, V, rfl, k1, k2, k3, k4, k5⟩; have H7 := Lib.hid (And.intro k1 (And.intro k2 (And.intro k3 (And.intro k4 k5)))); clear k1 k2 k3 k4 k5)
      | (gi_at_call 73; (with_reducible refine (callsIn_wide.2 (HC.out.2.2.1 _ (below_trans HR.out.2.2.2.2.2.2.2.2.2 HR.out.1))).mono ?_); rintro e6 w6 ⟨v6, us6, rfl, k1, k2, k3, k4⟩; obtain ⟨a6, c6, rfl, _⟩ := k1.row (by unfold maxLen; omega); have H6 := Lib.hid (And.intro k1 (And.intro k2 (And.intro k3 k4))); clear k1 k2 k3 k4))
    obtain ⟨A, hA⟩ : ∃ A, sgen n (orbO T1) (PlainPm.repT T1) n = A := ⟨_, rfl⟩
    obtain ⟨B, hB⟩ : ∃ B, sgen n (orbO T2) (PlainPm.repT T2) n = B := ⟨_, rfl⟩
    rw [hA] at HR HC
    rw [hB] at H6 HC
    have b67 : Below w6.heap.size w6 w7 := H7.out.2.2.2.2
    have bW7 : Below W.heap.size W w7 := below_trans H6.out.2.2.2 b67
    have b27 : Below w2.heap.size w2 w7 := below_trans HR.out.1 bW7
    have b17 : Below W1.heap.size W1 w7 := below_trans H2.out b27
    have bw7 : Below w.heap.size w w7 := below_trans HB.out.2.2.2.2.2 b17
    have s1 : W1.heap.size = X + 4 := HB.out.2.2.2.2.1
    have s12 := H2.out.size
    have s2W := HR.out.1.size
    have sW6 := H6.out.2.2.2.size
    have mM : ∀ m ∈ [X + 1 + 1, X + 1 + 1 + 1], X ≤ m ∧ m < X + 4 := fun m hm => by
      rcases List.mem_cons.1 hm with h | hm
      · omega
      · rw [List.mem_singleton.1 hm]; omega
    have hI0 : NmI X P Y kb w2.heap.size n ab ao c bb bo e (.slice a5 us5.length c5) us5 A B G1 (orbO T1) (PlainPm.repT T1) (A, 0) [X + 1 + 1, X + 1 + 1 + 1] w7 :=
      ⟨rfl, rfl, (bW7.cell (block_lt_of_cell HR.out.2.1)).trans HR.out.2.1, (bW7.cell (block_lt_of_cell HR.out.2.2.1)).trans HR.out.2.2.1, (bW7.cell (block_lt_of_cell HR.out.2.2.2.1)).trans HR.out.2.2.2.1, (bW7.cell (block_lt_of_cell HR.out.2.2.2.2.1)).trans HR.out.2.2.2.2.1, (bW7.cell (block_lt_of_cell HR.out.2.2.2.2.2.1)).trans HR.out.2.2.2.2.2.1,
        HR.out.2.2.2.2.2.2.1.below bW7, HR.out.2.2.2.2.2.2.2.1.below bw7, HC.out.2.2.2.2.2.below bw7, (b17.block (X + 2) (by omega)).trans HB.out.2.2.1, (b17.block (X + 3) (by omega)).trans HB.out.2.2.2.1, fun c' hc' => by omega⟩
    have nU : U ∉ [X + 1 + 1, X + 1 + 1 + 1] := fun hm => by have h1 := mM U hm; have h2 := H7.out.2.2.1; omega
    have nV : V ∉ [X + 1 + 1, X + 1 + 1 + 1] := fun hm => by have h1 := mM V hm; have h2 := H7.out.2.2.2.1; omega
    have hPB : PmsN w7 [X + 1 + 1, X + 1 + 1 + 1] (.slice a6 us6.length c6) B := (pmsN_ownM (M := [X + 1 + 1, X + 1 + 1 + 1]) H6.out.1 (fun m hm => by have := mM m hm; omega) H6.out.2.1 (below_trans (below_trans HB.out.2.2.2.2.2 (below_trans H2.out HR.out.1)) H6.out.2.2.2) (fun m hm => by have := mM m hm; omega) (by have h1 := H6.out.2.1.1; have h2 := H6.out.2.2.1; omega)).kept (Kept.ofBelow b67)
    have hAl : A.length ≤ 4096 := by have h1 := HR.out.2.2.2.2.2.2.2.1.1; have h2 := HR.out.2.2.2.2.2.2.2.2.1; omega
    have HZ := Lib.hid (And.intro hI0 (And.intro hPB (And.intro nU (And.intro nV (And.intro mM (And.intro bw7 hAl))))))
    have s7 := b67.size
    clear hI0 hPB nU nV mM bw7 hAl b67 bW7 b27 b17
    refine wpIn_rangeY (gf := 117) (lb := #[.pointer (some ⟨U, 0, none⟩), .pointer (some ⟨V, 0, none⟩)]) rfl (enters_of Tryz.func117 (by kernel_rfl) rfl)
      (Prod.fst : Value × Pm n → Value) rfl [X + 1 + 1, X + 1 + 1 + 1] (fun m hm => by have := HZ.out.2.2.2.2.1 m hm; omega)
      (NmI X P Y kb w2.heap.size n ab ao c bb bo e (.slice a5 us5.length c5) us5 A B G1 (orbO T1) (PlainPm.repT T1)) (fun W => W.heap[X + 1 + 1]? = some (.cells #[.bool false] 4 (0, 0)) ∧ W.heap[X + 1 + 1 + 1]? = some (.cells #[.int .i64 0] 30 (0, 0)) ∧ ¬ Nrm G1 G2)
      (cjCore n Y 8192) (cjGood B) cjNx (cjFin B) (A, 0)
      (conj117 hn H7.out.1 H7.out.2.1 HZ.out.2.2.1 HZ.out.2.2.2.1 HZ.out.2.1 (by decide)) (fun s W W' row h hg hr => NmI.turn h ⟨hg, fun r e => (hr r e).2⟩)
      (fun s W W' row h hg hr => ⟨Turn.cells ⟨hg, fun r e => (hr r e).2⟩ h.1, Turn.cells ⟨hg, fun r e => (hr r e).2⟩ h.2.1, h.2.2⟩) ?good ?core HZ.out.1
      (fun q => { tmps := #[cv n ab ao c bb bo e, cv n ab' ao' c' bb' bo' e', .pointer (some ⟨X, 0, none⟩), .pointer (some ⟨X + 1, 0, none⟩), .pointer (some ⟨X + 1 + 1, 0, none⟩), .pointer (some ⟨X + 1 + 1 + 1, 0, none⟩), .int .i64 0, .pointer (some ⟨P, 0, none⟩), .pointer (some ⟨Y, 0, none⟩), q.1,
        .agg #[.int .i64 (n : Int), .slice (some ⟨ab, ao, none⟩) n c, .slice (some ⟨bb, bo, none⟩) n e], .agg #[.int .i64 (n : Int), .slice (some ⟨ab', ao', none⟩) n c', .slice (some ⟨bb', bo', none⟩) n e'], .int .i64 0, .int .i64 0, .bool false, undef,
        .agg #[.int .i64 (n : Int), .slice (some ⟨ab, ao, none⟩) n c, .slice (some ⟨bb, bo, none⟩) n e], .agg #[.int .i64 (n : Int), .slice (some ⟨ab, ao, none⟩) n c, .slice (some ⟨bb, bo, none⟩) n e], .pointer (some ⟨kb, 0, none⟩),
        .agg #[.int .i64 (n : Int), .slice (some ⟨ab, ao, none⟩) n c, .slice (some ⟨bb, bo, none⟩) n e], .slice a5 us5.length c5, .agg #[.int .i64 (n : Int), .slice (some ⟨ab', ao', none⟩) n c', .slice (some ⟨bb', bo', none⟩) n e'], .slice a6 us6.length c6,
        .func (.func 117) #[] #[.pointer (some ⟨U, 0, none⟩), .pointer (some ⟨V, 0, none⟩)], q.1, undef, undef, undef, undef], defers := [] }) ?assign ?body ?done ?stop
    case good =>
      intro s M q W W' row h hg hr
      exact ⟨h.1.up (Turn.up ⟨hg, fun r e => (hr r e).2⟩), h.2⟩
    case core =>
      rintro ⟨l, c⟩ M A' h
      have hl : l = A := h.l
      subst hl
      have hAl := HZ.out.2.2.2.2.2.2
      exact ⟨⟨⟨_, h.y, pms_ownB h.own h.pml (by show l.length ≤ 1000000; omega)⟩, by show l.length ≤ 8192; omega⟩, fun m hm => by
        have h1 := h.m
        rw [h1] at hm
        have h2 := HZ.out.2.2.2.2.1 m hm
        have h3 := (Array.getElem?_eq_some_iff.1 h.r3).1
        omega⟩
    case assign =>
      intro nn l x W K hK
      gi_wp2
      exact hK
    case body =>
      rintro nn lp ⟨l, c1⟩ M ⟨va, x⟩ W5 hI ⟨hpm, p, y, hp, hy, hx⟩ hst
      have hl : l = A := hI.l
      have hM : M = [X + 1 + 1, X + 1 + 1 + 1] := hI.m
      subst hl hM
      dsimp only at hpm hp hy hx ⊢
      have p0 := hI.p
      have K77 := has77c (c := c) (e := e) hn g1 t1 hI.k0 hI.k1 hI.k2 hI.lv hpm.weak
      obtain ⟨xb, xo, xcp, rfl, _⟩ := id hpm
      have w77 : Fence.wide.fn 77 := trivial
      have wd : Fence.wide.depth = none := rfl
      have HQ := Lib.hid (And.intro hI (And.intro K77 (And.intro hp (And.intro hy hx))))
      clear hI K77 hp hy hx hst hpm
      by_cases hgx : G1 x
      · have HG := Lib.hid hgx
        clear hgx
        gi_wp2_with (gi_at_call 77; (with_reducible refine (callsR HQ.out.2.1).mono ?_); rintro e7 w8 ⟨h1, k2⟩; have h2 := h1.true_ HG.out; subst h2; have H8 := Lib.hid k2; clear h1 k2)
        refine ⟨(l, c1 + 1), _, ⟨rfl, List.prefix_refl _⟩, ?_, Stp.below H8.out⟩
        have h' := HQ.out.1.turn (row := none) ⟨grown_below H8.out none, fun r e => by cases e⟩
        have hd : ∀ c', c' < c1 + 1 → ∀ p y, l[c' / B.length]? = some p → B[c' % B.length]? = some y → G1 (cj p y) := fun c' hc' p y hp hy => by
          rcases Nat.lt_or_ge c' c1 with h | h
          · exact h'.done c' h p y hp hy
          · have : c' = c1 := by omega
            subst this
            have e1 := HQ.out.2.2.1
            have e2 := HQ.out.2.2.2.1
            rw [hp] at e1
            rw [hy] at e2
            cases e1; cases e2
            rw [← HQ.out.2.2.2.2]; exact HG.out
        exact { h' with done := hd }
      · have HG := Lib.hid hgx
        clear hgx
        gi_wp2_with (gi_at_call 77; (with_reducible refine (callsR HQ.out.2.1).mono ?_); rintro e7 w8 ⟨h1, k2⟩; have h2 := h1.false_ HG.out; subst h2
                     have r2 := (k2.block _ (Array.getElem?_eq_some_iff.1 HQ.out.1.r2).1).trans HQ.out.1.r2
                     have r3 := (k2.block _ (Array.getElem?_eq_some_iff.1 HQ.out.1.r3).1).trans HQ.out.1.r3
                     obtain ⟨r2c, r2f⟩ := box1_cells r2
                     obtain ⟨r3c, r3f⟩ := box1_cells r3
                     have H8 := Lib.hid (And.intro k2 (And.intro r2 r3))
                     clear h1 k2 r2 r3)
        obtain ⟨q2, q3, qk, _⟩ := two_set (v := .bool false) (u := .int .i64 0) H8.out.2.1 H8.out.2.2
        refine ⟨⟨q2, q3, fun hN => HG.out ?_⟩, (Kept.ofBelow H8.out.1).trans qk⟩
        rw [HQ.out.2.2.2.2]
        exact hN p ((HC.out.2.2.2.1 p).1 (Grp.base (List.mem_of_getElem? HQ.out.2.2.1))) y ((HC.out.2.2.2.2.1 y).1 (Grp.base (List.mem_of_getElem? HQ.out.2.2.2.1)))
    case done =>
      rintro D9 ⟨l, c1⟩ M W5 hD9 hfin hI hst hdef
      have hl : l = A := hI.l
      have hM : M = [X + 1 + 1, X + 1 + 1 + 1] := hI.m
      subst hl hM
      have hc : c1 = l.length * B.length := hfin
      subst hc
      obtain ⟨r2c, r2f⟩ := box1_cells hI.r2
      obtain ⟨r3c, r3f⟩ := box1_cells hI.r3
      have HF := Lib.hid (And.intro hI (And.intro hst hD9))
      clear hI hst hfin hD9
      gi_wp2
      obtain ⟨q2, q3, qk, qo⟩ := two_set (v := .bool true) (u := .int .i64 0) HF.out.1.r2 HF.out.1.r3
      obtain ⟨W6, hW6⟩ : ∃ W6, (W5.setCell ⟨X + 1 + 1, 0, none⟩ (.bool true)).setCell ⟨X + 1 + 1 + 1, 0, none⟩ (.int .i64 0) = W6 := ⟨_, rfl⟩
      rw [hW6] at q2 q3 qk qo ⊢
      have hX9 : X + 1 + 1 + 1 < D9 := by have := HF.out.2.2; omega
      have hd6 := (qo D9 (by omega) (by omega)).trans hdef
      refine ⟨by simp, .inl ⟨_, _, rfl, run_takeDeferred hd6, ?_⟩⟩
      have c2 : (W6.putObj D9 (.deferred none)).cell? ⟨X + 1 + 1, 0, none⟩ = some (.bool true) := by unfold World.cell?; rw [World.putObj_heap_other (show X + 1 + 1 ≠ D9 by omega), q2]; rfl
      have c3 : (W6.putObj D9 (.deferred none)).cell? ⟨X + 1 + 1 + 1, 0, none⟩ = some (.int .i64 0) := by unfold World.cell?; rw [World.putObj_heap_other (show X + 1 + 1 + 1 ≠ D9 by omega), q3]; rfl
      refine ⟨.tuple #[.bool true, .int .i64 0], by simp [results, Tryz.results25, go_sem, c2, c3], ⟨true, rfl, ⟨fun _ => HF.out.1.nrm g1 HC.out.2.2.2.1 HC.out.2.2.2.2.1, fun _ => rfl⟩, ?_⟩⟩
      have hbW : Below w.heap.size w W6 := HZ.out.2.2.2.2.2.1.trans ((HF.out.2.1.kept.trans qk).below HZ.out.2.2.2.2.2.1.size (fun m hm => by have := HZ.out.2.2.2.2.1 m hm; omega))
      have := hbW.grown (grownBy_putObj' W6 D9 (.deferred none)) hbW.size (fun k e => by cases e; omega)
      rwa [hX] at this
    case stop =>
      rintro D9 W5 hD9 ⟨r2, r3, hno⟩ hk hdef
      have HF := Lib.hid (And.intro r2 (And.intro r3 (And.intro hno (And.intro hk hD9))))
      clear r2 r3 hno hk hD9
      gi_wp2
      have hX9 : X + 1 + 1 + 1 < D9 := by have := HF.out.2.2.2.2; omega
      refine ⟨by simp, .inl ⟨_, _, rfl, run_takeDeferred hdef, ?_⟩⟩
      have c2 : (W5.putObj D9 (.deferred none)).cell? ⟨X + 1 + 1, 0, none⟩ = some (.bool false) := by unfold World.cell?; rw [World.putObj_heap_other (show X + 1 + 1 ≠ D9 by omega), HF.out.1]; rfl
      have c3 : (W5.putObj D9 (.deferred none)).cell? ⟨X + 1 + 1 + 1, 0, none⟩ = some (.int .i64 0) := by unfold World.cell?; rw [World.putObj_heap_other (show X + 1 + 1 + 1 ≠ D9 by omega), HF.out.2.1]; rfl
      refine ⟨.tuple #[.bool false, .int .i64 0], by simp [results, Tryz.results25, go_sem, c2, c3], ⟨false, rfl, ⟨fun h => (by cases h), fun h => absurd h HF.out.2.2.1⟩, ?_⟩⟩
      have hbW : Below w.heap.size w W5 := HZ.out.2.2.2.2.2.1.trans (HF.out.2.2.2.1.below HZ.out.2.2.2.2.2.1.size (fun m hm => by have := HZ.out.2.2.2.2.1 m hm; omega))
      have := hbW.grown (grownBy_putObj' W5 D9 (.deferred none)) hbW.size (fun k e => by cases e; omega)
      rwa [hX] at this
  have hz0 := And.intro z0 (And.intro z1 (And.intro z2 (Below.refl w2.heap.size w2)))
  have hltX : X < w2.heap.size := block_lt_of_cell z0
  have hneX : X ≠ w2.heap.size := Nat.ne_of_lt hltX
  have hltX1 : X < w2.heap.size + 1 := Nat.lt_succ_of_lt hltX
  have hneX1 : X ≠ w2.heap.size + 1 := Nat.ne_of_lt hltX1
  have hltX2 : X < w2.heap.size + 1 + 1 := Nat.lt_succ_of_lt hltX1
  have hneX2 : X ≠ w2.heap.size + 1 + 1 := Nat.ne_of_lt hltX2
  go_region_held3 (fun V => V.cell? ⟨X, 0, none⟩ = some (.int .i64 (n : Int)) ∧ V.cell? ⟨X, 1, none⟩ = some (.slice (some ⟨ab, ao, none⟩) n c) ∧ V.cell? ⟨X, 2, none⟩ = some (.slice (some ⟨bb, bo, none⟩) n e) ∧ Below w2.heap.size w2 V)
    (first
      | with_reducible assumption
      | with_reducible exact hz0
      | (refine keep3b hz0 ?_; (repeat' (first | exact Below.refl _ _ | exact b5 | apply below_drw | refine alloc_b ?_ _ | refine Below.setCell ?_ ?_ _ | exact Nat.le_refl _ | exact Nat.le_add_right _ _ | exact Nat.le_trans (Nat.le_add_right _ 1) (Nat.le_add_right _ 1) | exact b5.size)); done)
      | (refine keep3b hz0 ?_; (repeat' (first | exact Below.refl _ _ | apply below_drw | refine alloc_b ?_ _ | refine Below.setCell ?_ ?_ _ | exact Nat.le_refl _ | exact Nat.le_add_right _ _ | exact Nat.le_trans (Nat.le_add_right _ 1) (Nat.le_add_right _ 1))); done)
      | fail)
    (first
      | (go_at_call 73; (with_reducible refine (HC.out.2.1 _ (below_trans (below_trans HB.out.2.2.2.2.2 H2.out) ?_)).mono ?_)
         (repeat' (first | exact Below.refl _ _ | apply below_drw | refine alloc_b ?_ _))
         rintro e5 w5 ⟨v5, us5, rfl, k1, k2, k3, k4⟩
         obtain ⟨a5, c5, rfl, _⟩ := k1.row (by unfold maxLen; omega)
         have b5 : Below w2.heap.size w2 w5 := below_trans (by (repeat' (first | exact Below.refl _ _ | apply below_drw | refine alloc_b ?_ _))) k4
         obtain ⟨y0, y1, y2, _⟩ := keep3b hz0 b5
         have hlt5 : X < w5.heap.size := Nat.lt_of_lt_of_le hltX b5.size
         have hne5 : X ≠ w5.heap.size := Nat.ne_of_lt hlt5
         have e0 := fun h => k4.cell (p := ⟨w2.heap.size, 0, none⟩) h
         try simp [drew_size', drew_cell'] at e0
         have f0 := fun h => k4.frozen (p := ⟨w2.heap.size, 0, none⟩) h
         try simp [drew_size', drew_frozen'] at f0
         have e1 := fun h => k4.cell (p := ⟨w2.heap.size + 1, 0, none⟩) h
         try simp [drew_size', drew_cell'] at e1
         have f1 := fun h => k4.frozen (p := ⟨w2.heap.size + 1, 0, none⟩) h
         try simp [drew_size', drew_frozen'] at f1
         have e2 := fun h => k4.cell (p := ⟨w2.heap.size + 2, 0, none⟩) h
         try simp [drew_size', drew_cell'] at e2
         have f2 := fun h => k4.frozen (p := ⟨w2.heap.size + 2, 0, none⟩) h
         try simp [drew_size', drew_frozen'] at f2
         have hk4 := k4.size
         try simp [drew_size'] at hk4
         try (have l0 := (show w2.heap.size < w5.heap.size from hk4))
         try (have l0 := (show w2.heap.size < w5.heap.size from Nat.lt_of_succ_lt hk4))
         try (have l0 := (show w2.heap.size < w5.heap.size from Nat.lt_of_succ_lt (Nat.lt_of_succ_lt hk4)))
         try (have n0 := Nat.ne_of_lt l0)
         try (have l1 := (show w2.heap.size + 1 < w5.heap.size from hk4))
         try (have l1 := (show w2.heap.size + 1 < w5.heap.size from Nat.lt_of_succ_lt hk4))
         try (have n1 := Nat.ne_of_lt l1)
         try (have l2 := (show w2.heap.size + 1 + 1 < w5.heap.size from hk4))
         try (have n2 := Nat.ne_of_lt l2)
         try (replace e0 := e0 (by omega))
         try (replace f0 := f0 (by omega))
         try (replace e1 := e1 (by omega))
         try (replace f1 := f1 (by omega))
         try (replace e2 := e2 (by omega))
         try (replace f2 := f2 (by omega))
         have H5 := Lib.hid (And.intro k1 (And.intro k2 (And.intro k3 k4)))
         clear k1 k2 k3 k4))
  all_goals
    refine hrest _ _ _ _ _ us5 _ ?_ ?_ ?_ ?_ ?_ ?_ ?_ H5.out.2.1 H5.out.2.2.1
    · (repeat' (first | exact Below.refl _ _ | exact b5 | apply below_drw | refine alloc_b ?_ _ | refine Below.setCell ?_ ?_ _ | exact Nat.le_refl _ | exact Nat.le_add_right _ _ | exact Nat.le_trans (Nat.le_add_right _ 1) (Nat.le_add_right _ 1) | exact b5.size))
    · first
        | (go_simp; done)
        | exact World.cell?_setCell_same' _ _ _ (by rw [e0]; rfl)
        | exact World.cell?_setCell_same' _ _ _ (by rw [e1]; rfl)
        | exact World.cell?_setCell_same' _ _ _ (by rw [e2]; rfl)
        | (refine cell_set_same2 ?_; (repeat' (first | refine isSome_set ?_ | refine isSome_below H5.out.2.2.2 ?_ ?_)); (focus (first | omega | (simp [drew_size']; done) | (simp [drew_size']; omega))); exact ⟨_, by (repeat (first | rw [drew_cell'] | (rw [World.cell?_alloc_past]; rotate_left; (focus (first | omega | (simp [drew_size']; done) | (simp [drew_size']; omega)))) | (rw [World.cell?_alloc_at]; rotate_left; (focus (first | omega | (simp [drew_size']; done) | (simp [drew_size']; omega))); rfl)))⟩)
        | (refine (cell_set_ne ?_).trans ?_; (focus (first | omega | (simp [drew_size']; done) | (simp [drew_size']; omega))); refine cell_set_same2 ?_; (repeat' (first | refine isSome_set ?_ | refine isSome_below H5.out.2.2.2 ?_ ?_)); (focus (first | omega | (simp [drew_size']; done) | (simp [drew_size']; omega))); exact ⟨_, by (repeat (first | rw [drew_cell'] | (rw [World.cell?_alloc_past]; rotate_left; (focus (first | omega | (simp [drew_size']; done) | (simp [drew_size']; omega)))) | (rw [World.cell?_alloc_at]; rotate_left; (focus (first | omega | (simp [drew_size']; done) | (simp [drew_size']; omega))); rfl)))⟩)
        | (go_simp; refine (H5.out.2.2.2.cell ?_).trans ?_; (focus (first | omega | (simp [drew_size']; done) | (simp [drew_size']; omega))); (repeat (first | rw [drew_cell'] | (rw [World.cell?_alloc_past]; rotate_left; (focus (first | omega | (simp [drew_size']; done) | (simp [drew_size']; omega)))) | (rw [World.cell?_alloc_at]; rotate_left; (focus (first | omega | (simp [drew_size']; done) | (simp [drew_size']; omega))); rfl))); done)
    · first
        | (go_simp; done)
        | exact World.cell?_setCell_same' _ _ _ (by rw [e0]; rfl)
        | exact World.cell?_setCell_same' _ _ _ (by rw [e1]; rfl)
        | exact World.cell?_setCell_same' _ _ _ (by rw [e2]; rfl)
        | (refine cell_set_same2 ?_; (repeat' (first | refine isSome_set ?_ | refine isSome_below H5.out.2.2.2 ?_ ?_)); (focus (first | omega | (simp [drew_size']; done) | (simp [drew_size']; omega))); exact ⟨_, by (repeat (first | rw [drew_cell'] | (rw [World.cell?_alloc_past]; rotate_left; (focus (first | omega | (simp [drew_size']; done) | (simp [drew_size']; omega)))) | (rw [World.cell?_alloc_at]; rotate_left; (focus (first | omega | (simp [drew_size']; done) | (simp [drew_size']; omega))); rfl)))⟩)
        | (refine (cell_set_ne ?_).trans ?_; (focus (first | omega | (simp [drew_size']; done) | (simp [drew_size']; omega))); refine cell_set_same2 ?_; (repeat' (first | refine isSome_set ?_ | refine isSome_below H5.out.2.2.2 ?_ ?_)); (focus (first | omega | (simp [drew_size']; done) | (simp [drew_size']; omega))); exact ⟨_, by (repeat (first | rw [drew_cell'] | (rw [World.cell?_alloc_past]; rotate_left; (focus (first | omega | (simp [drew_size']; done) | (simp [drew_size']; omega)))) | (rw [World.cell?_alloc_at]; rotate_left; (focus (first | omega | (simp [drew_size']; done) | (simp [drew_size']; omega))); rfl)))⟩)
        | (go_simp; refine (H5.out.2.2.2.cell ?_).trans ?_; (focus (first | omega | (simp [drew_size']; done) | (simp [drew_size']; omega))); (repeat (first | rw [drew_cell'] | (rw [World.cell?_alloc_past]; rotate_left; (focus (first | omega | (simp [drew_size']; done) | (simp [drew_size']; omega)))) | (rw [World.cell?_alloc_at]; rotate_left; (focus (first | omega | (simp [drew_size']; done) | (simp [drew_size']; omega))); rfl))); done)
    · first
        | (go_simp; done)
        | exact World.cell?_setCell_same' _ _ _ (by rw [e0]; rfl)
        | exact World.cell?_setCell_same' _ _ _ (by rw [e1]; rfl)
        | exact World.cell?_setCell_same' _ _ _ (by rw [e2]; rfl)
        | (refine cell_set_same2 ?_; (repeat' (first | refine isSome_set ?_ | refine isSome_below H5.out.2.2.2 ?_ ?_)); (focus (first | omega | (simp [drew_size']; done) | (simp [drew_size']; omega))); exact ⟨_, by (repeat (first | rw [drew_cell'] | (rw [World.cell?_alloc_past]; rotate_left; (focus (first | omega | (simp [drew_size']; done) | (simp [drew_size']; omega)))) | (rw [World.cell?_alloc_at]; rotate_left; (focus (first | omega | (simp [drew_size']; done) | (simp [drew_size']; omega))); rfl)))⟩)
        | (refine (cell_set_ne ?_).trans ?_; (focus (first | omega | (simp [drew_size']; done) | (simp [drew_size']; omega))); refine cell_set_same2 ?_; (repeat' (first | refine isSome_set ?_ | refine isSome_below H5.out.2.2.2 ?_ ?_)); (focus (first | omega | (simp [drew_size']; done) | (simp [drew_size']; omega))); exact ⟨_, by (repeat (first | rw [drew_cell'] | (rw [World.cell?_alloc_past]; rotate_left; (focus (first | omega | (simp [drew_size']; done) | (simp [drew_size']; omega)))) | (rw [World.cell?_alloc_at]; rotate_left; (focus (first | omega | (simp [drew_size']; done) | (simp [drew_size']; omega))); rfl)))⟩)
        | (go_simp; refine (H5.out.2.2.2.cell ?_).trans ?_; (focus (first | omega | (simp [drew_size']; done) | (simp [drew_size']; omega))); (repeat (first | rw [drew_cell'] | (rw [World.cell?_alloc_past]; rotate_left; (focus (first | omega | (simp [drew_size']; done) | (simp [drew_size']; omega)))) | (rw [World.cell?_alloc_at]; rotate_left; (focus (first | omega | (simp [drew_size']; done) | (simp [drew_size']; omega))); rfl))); done)
    · first
        | (go_simp; done)
        | exact World.cell?_setCell_same' _ _ _ (by rw [e0]; rfl)
        | exact World.cell?_setCell_same' _ _ _ (by rw [e1]; rfl)
        | exact World.cell?_setCell_same' _ _ _ (by rw [e2]; rfl)
        | (refine cell_set_same2 ?_; (repeat' (first | refine isSome_set ?_ | refine isSome_below H5.out.2.2.2 ?_ ?_)); (focus (first | omega | (simp [drew_size']; done) | (simp [drew_size']; omega))); exact ⟨_, by (repeat (first | rw [drew_cell'] | (rw [World.cell?_alloc_past]; rotate_left; (focus (first | omega | (simp [drew_size']; done) | (simp [drew_size']; omega)))) | (rw [World.cell?_alloc_at]; rotate_left; (focus (first | omega | (simp [drew_size']; done) | (simp [drew_size']; omega))); rfl)))⟩)
        | (refine (cell_set_ne ?_).trans ?_; (focus (first | omega | (simp [drew_size']; done) | (simp [drew_size']; omega))); refine cell_set_same2 ?_; (repeat' (first | refine isSome_set ?_ | refine isSome_below H5.out.2.2.2 ?_ ?_)); (focus (first | omega | (simp [drew_size']; done) | (simp [drew_size']; omega))); exact ⟨_, by (repeat (first | rw [drew_cell'] | (rw [World.cell?_alloc_past]; rotate_left; (focus (first | omega | (simp [drew_size']; done) | (simp [drew_size']; omega)))) | (rw [World.cell?_alloc_at]; rotate_left; (focus (first | omega | (simp [drew_size']; done) | (simp [drew_size']; omega))); rfl)))⟩)
        | (go_simp; refine (H5.out.2.2.2.cell ?_).trans ?_; (focus (first | omega | (simp [drew_size']; done) | (simp [drew_size']; omega))); (repeat (first | rw [drew_cell'] | (rw [World.cell?_alloc_past]; rotate_left; (focus (first | omega | (simp [drew_size']; done) | (simp [drew_size']; omega)))) | (rw [World.cell?_alloc_at]; rotate_left; (focus (first | omega | (simp [drew_size']; done) | (simp [drew_size']; omega))); rfl))); done)
    · first
        | (go_simp; done)
        | exact World.cell?_setCell_same' _ _ _ (by rw [e0]; rfl)
        | exact World.cell?_setCell_same' _ _ _ (by rw [e1]; rfl)
        | exact World.cell?_setCell_same' _ _ _ (by rw [e2]; rfl)
        | (refine cell_set_same2 ?_; (repeat' (first | refine isSome_set ?_ | refine isSome_below H5.out.2.2.2 ?_ ?_)); (focus (first | omega | (simp [drew_size']; done) | (simp [drew_size']; omega))); exact ⟨_, by (repeat (first | rw [drew_cell'] | (rw [World.cell?_alloc_past]; rotate_left; (focus (first | omega | (simp [drew_size']; done) | (simp [drew_size']; omega)))) | (rw [World.cell?_alloc_at]; rotate_left; (focus (first | omega | (simp [drew_size']; done) | (simp [drew_size']; omega))); rfl)))⟩)
        | (refine (cell_set_ne ?_).trans ?_; (focus (first | omega | (simp [drew_size']; done) | (simp [drew_size']; omega))); refine cell_set_same2 ?_; (repeat' (first | refine isSome_set ?_ | refine isSome_below H5.out.2.2.2 ?_ ?_)); (focus (first | omega | (simp [drew_size']; done) | (simp [drew_size']; omega))); exact ⟨_, by (repeat (first | rw [drew_cell'] | (rw [World.cell?_alloc_past]; rotate_left; (focus (first | omega | (simp [drew_size']; done) | (simp [drew_size']; omega)))) | (rw [World.cell?_alloc_at]; rotate_left; (focus (first | omega | (simp [drew_size']; done) | (simp [drew_size']; omega))); rfl)))⟩)
        | (go_simp; refine (H5.out.2.2.2.cell ?_).trans ?_; (focus (first | omega | (simp [drew_size']; done) | (simp [drew_size']; omega))); (repeat (first | rw [drew_cell'] | (rw [World.cell?_alloc_past]; rotate_left; (focus (first | omega | (simp [drew_size']; done) | (simp [drew_size']; omega)))) | (rw [World.cell?_alloc_at]; rotate_left; (focus (first | omega | (simp [drew_size']; done) | (simp [drew_size']; omega))); rfl))); done)
    · obtain ⟨Bq, hq, hBq⟩ : ∃ Bq, Own w5 Bq (.slice a5 us5.length c5) 27 us5 ∧ Bq = _ := ⟨_, H5.out.1, rfl⟩
      simp only [World.size_alloc, drew_size'] at hBq
      refine Own.mono (B := Bq) ?_ (by omega)
      (repeat' (first | exact hq | refine Own.alloc ?_ _ | refine Own.lowset ?_ (by omega)))
end
end Go.Proofs.YtbejhkojdiadaaaGreat
