/- all, leaves and its closure: the labellings of a graph's leaves, handed to yield. -/
import Derived.Test.YtjjjohmppehejaaGreatWalkW
import Derived.Test.YtjjjohmppehejaaGreatCMat
import Derived.Test.YtjjjohmppehejaaGreatTryW
set_option linter.unusedSimpArgs false
set_option linter.unusedVariables false
namespace Go.Proofs.YtjjjohmppehejaaGreat
open Go.RowKit Plain PlainG PlainT
abbrev lvFn (A B C : Nat) : Value := .func (.func 78) #[] #[.pointer (some ⟨A, 0, none⟩), .pointer (some ⟨B, 0, none⟩), .pointer (some ⟨C, 0, none⟩)]
theorem leavesF_calls (n : Int) (a b : Option Addr) (c d l r : Nat) (w : World) :
    Calls Tryz.prog 63 #[.int .i64 n, .slice a l c, .slice b r d] w fun e w' => e = .returned (lvFn w.heap.size (w.heap.size + 1) (w.heap.size + 2)) ∧ w' = ((w.alloc (.cells #[.int .i64 n] 3)).alloc (.cells #[.slice a l c] 28)).alloc (.cells #[.slice b r d] 28) := by
  go_enter Tryz.func63, Tryz.ntmps63
  go_wp2
  go_ret
  exact ⟨rfl, rfl⟩
/-- The iterator's boxes and what they hold. -/
structure Lv (B0 : Nat) (w : World) (n : Nat) (m root : List (List Int)) (A B C G : Nat) (mc : Nat) (an : Option Addr) (cn : Nat) : Prop where
  a : w.cell? ⟨A, 0, none⟩ = some (.int .i64 (n : Int))
  b : w.cell? ⟨B, 0, none⟩ = some (.slice (some ⟨G, 0, none⟩) n mc)
  c : w.cell? ⟨C, 0, none⟩ = some (.slice an root.length cn)
  rm : RowsB B0 w (some ⟨G, 0, none⟩) m
  rr : RowsB B0 w an root
theorem leavesF_lv {B0 n : Nat} {m root : List (List Int)} {an : Option Addr} {G mc cn : Nat} {w : World} (hm : RowsB B0 w (some ⟨G, 0, none⟩) m) (hr : RowsB B0 w an root) :
    Calls Tryz.prog 63 #[.int .i64 (n : Int), .slice (some ⟨G, 0, none⟩) n mc, .slice an root.length cn] w fun e w' => ∃ A B C, e = .returned (lvFn A B C) ∧ Lv B0 w' n m root A B C G mc an cn ∧ w.heap.size ≤ A ∧ w.heap.size ≤ B ∧ w.heap.size ≤ C ∧ Below w.heap.size w w' := by
  refine (leavesF_calls (n : Int) (some ⟨G, 0, none⟩) an mc cn n root.length w).mono ?_
  rintro e w' ⟨rfl, rfl⟩
  have hb : Below w.heap.size w (((w.alloc (.cells #[.int .i64 (n : Int)] 3)).alloc (.cells #[.slice (some ⟨G, 0, none⟩) n mc] 28)).alloc (.cells #[.slice an root.length cn] 28)) := alloc_b (alloc_b (alloc_b (Below.refl _ _) _) _) _
  obtain ⟨W3, hW3⟩ : ∃ W3, ((w.alloc (.cells #[.int .i64 (n : Int)] 3)).alloc (.cells #[.slice (some ⟨G, 0, none⟩) n mc] 28)).alloc (.cells #[.slice an root.length cn] 28) = W3 := ⟨_, rfl⟩
  have q0 : W3.cell? ⟨w.heap.size, 0, none⟩ = some (.int .i64 (n : Int)) := by rw [← hW3, World.cell?_alloc_past _ _ _ (by simp; omega), World.cell?_alloc_past _ _ _ (by simp), World.cell?_alloc_at _ _ _ _ rfl]; rfl
  have q1 : W3.cell? ⟨w.heap.size + 1, 0, none⟩ = some (.slice (some ⟨G, 0, none⟩) n mc) := by rw [← hW3, World.cell?_alloc_past _ _ _ (by simp), World.cell?_alloc_at _ _ _ _ (by simp)]; rfl
  have q2 : W3.cell? ⟨w.heap.size + 2, 0, none⟩ = some (.slice an root.length cn) := by rw [← hW3, World.cell?_alloc_at _ _ _ _ (by simp)]; rfl
  rw [hW3] at hb ⊢
  refine ⟨w.heap.size, w.heap.size + 1, w.heap.size + 2, rfl, ⟨q0, q1, q2, hm.below hb, hr.below hb⟩, by omega, by omega, by omega, hb⟩
theorem Lv.below {B0 : Nat} {w w' : World} {n : Nat} {m root : List (List Int)} {A B C G mc : Nat} {an : Option Addr} {cn : Nat} (h : Lv B0 w n m root A B C G mc an cn) (k : Below w.heap.size w w') : Lv B0 w' n m root A B C G mc an cn :=
  ⟨(k.cell (block_lt_of_cell h.a)).trans h.a, (k.cell (block_lt_of_cell h.b)).trans h.b, (k.cell (block_lt_of_cell h.c)).trans h.c, h.rm.below k, h.rr.below k⟩
theorem leaves1_calls {n : Nat} (hn : n ≤ 64) {m root : List (List Int)} (hm : IsMat n m) (hg : GoodA n root) {B0 lp A B C G mc : Nat} {an : Option Addr} {cn : Nat} {S : List Nat} (hS : ∀ s ∈ S, s < B0) (J : List (List Int) → World → Prop)
    (hJ : ∀ pre W W', J pre W → Below W.heap.size W W' → J pre W')
    (hY : ∀ (nn : Nat) pre (v : Option Addr) (c : Nat) x W, J pre W → IntsB B0 W v x → IsP n x → YieldAt Fence.wide nn Tryz.prog lp #[.slice v n c] W fun e W' => e = .returned (.bool true) ∧ J (pre ++ [x]) W' ∧ Kept W W' S)
    (W : World) (hL : Lv B0 W n m root A B C G mc an cn) (hB : B0 ≤ W.heap.size) (hj : J [] W) :
    Calls Tryz.prog 78 #[.func (.yield lp) #[] #[], .pointer (some ⟨A, 0, none⟩), .pointer (some ⟨B, 0, none⟩), .pointer (some ⟨C, 0, none⟩)] W fun e W' => (∃ v, e = .returned v) ∧ J (leavesT n m n root) W' ∧ Kept W W' S := by
  have K := walk_calls (mc := mc) hn hm hS J hJ hY n root an cn W [] hg (by omega) hL.rr hL.rm hB hj
  obtain ⟨ca, cb, cc, _, _⟩ := hL
  obtain ⟨L, hL⟩ : ∃ L, root.length = L := ⟨_, rfl⟩
  rw [hL] at K cc
  have H := Lib.hid K
  clear K hL hY hJ
  go_enter Tryz.func78, Tryz.ntmps78
  go_wp2_with (go_at_call 79; refine H.out.mono ?_; rintro e w2 ⟨rfl, h2, h3⟩; have H2 := Lib.hid (And.intro h2 h3); clear h2 h3)
  go_end0
  exact ⟨⟨_, rfl⟩, by simpa using H2.out.1, H2.out.2⟩
theorem OwnMat.rowsB {w : World} {B G n : Nat} {cs : List Value} {f : Nat → Nat → Int} (h : OwnMat w B G n cs (matF n f)) (hn : n ≤ 1000) : RowsB B w (some ⟨G, 0, none⟩) (matF n f) := ⟨h.rowsF hn, h.rows.far h.top⟩
theorem drew_size (w : World) : w.drew.heap.size = w.heap.size := rfl
theorem keep3_last {P1 P2 P3 : Prop} {D : Nat} {W1 W : World} (h : P1 ∧ P2 ∧ P3 ∧ Below D W1 W) : Below D W1 W := h.2.2.2
theorem matT_eq (n : Nat) (es : List E2) : matF n (adjF es) = matT n es := rfl
theorem refinedA_eq {n : Nat} {g : Gr} (h : Vg n g) : refinedA g = (rootT n g, 0) := by
  have hc := h.cl
  have hle := h.le
  unfold refinedA
  rw [if_pos h.chk, h.num]
  have ho : ofA g.cs = (collect (g.cs.map fun x => [x]), 0) := by unfold ofA; rw [if_neg (by omega)]
  rw [ho]
  unfold matG
  rw [h.num]
  simp only [Int.toNat_natCast]
  rw [refineA_ok ((of_goodA hc).chk (by omega)) (matF_isMat n _)]
  rfl
set_option maxRecDepth 100000 in
set_option maxHeartbeats 1000000 in
theorem all_calls {w : World} {n : Nat} {g : Gr} {ea ca : Option Addr} {ec cc : Nat} (hv : Vg n g) (he : Edg w ea g.es) (hc : Ints w ca g.cs) :
    Calls Tryz.prog 42 #[.agg #[.int .i64 (n : Int), .slice ea g.es.length ec, .slice ca n cc]] w fun e w' =>
      ∃ A B C G mc an cn, e = .returned (lvFn A B C) ∧ Lv w.heap.size w' n (matT n g.es) (rootT n g) A B C G mc an cn ∧ w.heap.size ≤ A ∧ w.heap.size ≤ B ∧ w.heap.size ≤ C ∧ Below w.heap.size w w' := by
  obtain ⟨X, hX⟩ : ∃ X, w.heap.size = X := ⟨_, rfl⟩
  obtain ⟨L, hL⟩ : ∃ L, g.es.length = L := ⟨_, rfl⟩
  obtain ⟨W1, hW1⟩ : ∃ W1, w.alloc (.cells #[.int .i64 (n : Int), .slice ea L ec, .slice ca n cc] 25) = W1 := ⟨_, rfl⟩
  have hbw : Below w.heap.size w W1 := by rw [← hW1]; exact alloc_b (Below.refl _ _) _
  have hs1 : W1.heap.size = X + 1 := by rw [← hW1, ← hX]; simp
  have x0 : W1.cell? ⟨X, 0, none⟩ = some (.int .i64 (n : Int)) := by rw [← hW1, ← hX]; simp
  have x1 : W1.cell? ⟨X, 1, none⟩ = some (.slice ea L ec) := by rw [← hW1, ← hX]; simp
  have x2 : W1.cell? ⟨X, 2, none⟩ = some (.slice ca n cc) := by rw [← hW1, ← hX]; simp
  have K62 := grefined_callsB (g := g) (c := ec) (d := cc) (he.below hbw) (hc.below hbw)
  rw [refinedA_eq hv, hv.num, hL, hv.cl] at K62
  have K52 := fun (W : World) (k : Below (X + 1) W1 W) => cmatrix_calls (n := n) (c := ec) (d := cc) (b := ca) (M := n) ((he.below hbw).below (by rw [hs1]; exact k)) hL (by have := hv.le; omega) (fun x hx => by have := hv.ed x hx; omega)
  obtain ⟨R, hR⟩ : ∃ R, (rootT n g).length = R := ⟨_, rfl⟩
  simp only [hR] at K62
  have H := Lib.hid (And.intro K62 (And.intro K52 (And.intro hbw (And.intro hX hs1))))
  have HN := Lib.hid (show n ≤ 1000 by have := hv.le; omega)
  have HR := Lib.hid hR
  rw [hL]
  clear K62 K52 hbw he hc hR hL
  go_enter Tryz.func42, Tryz.ntmps42
  go_wp2_with (go_at_call 62; refine H.out.1.mono ?_; rintro e w2 ⟨a2, c2, rfl, hr2, hw2⟩; have y0 := (hw2.cell (block_lt_of_cell x0)).trans x0; have y1 := (hw2.cell (block_lt_of_cell x1)).trans x1; have y2 := (hw2.cell (block_lt_of_cell x2)).trans x2; have H2 := Lib.hid (And.intro hr2 hw2); clear hr2 hw2 x0 x1 x2)
  have hX1 : X + 1 ≤ w2.heap.size := by have h1 := H2.out.2.size; have h2 := H.out.2.2.2.2; omega
  have hb12 : Below (X + 1) W1 w2 := H2.out.2.mono (by have := H.out.2.2.2.2; omega)
  have hy := And.intro y0 (And.intro y1 (And.intro y2 (Below.refl w2.heap.size w2)))
  have keep : ∀ {W W' : World}, W.cell? ⟨X, 0, none⟩ = some (.int .i64 (n : Int)) ∧ W.cell? ⟨X, 1, none⟩ = some (.slice ea L ec) ∧ W.cell? ⟨X, 2, none⟩ = some (.slice ca n cc) ∧ Below w2.heap.size w2 W → Below W.heap.size W W' →
      W'.cell? ⟨X, 0, none⟩ = some (.int .i64 (n : Int)) ∧ W'.cell? ⟨X, 1, none⟩ = some (.slice ea L ec) ∧ W'.cell? ⟨X, 2, none⟩ = some (.slice ca n cc) ∧ Below w2.heap.size w2 W' := fun h k =>
    ⟨(k.cell (block_lt_of_cell h.1)).trans h.1, (k.cell (block_lt_of_cell h.2.1)).trans h.2.1, (k.cell (block_lt_of_cell h.2.2.1)).trans h.2.2.1, below_two h.2.2.2 k⟩
  have hwX : w.heap.size ≤ w2.heap.size := by have := H.out.2.2.2.1; omega
  have hwX2 : w.heap.size ≤ W1.heap.size := H.out.2.2.1.size
  have H63 := fun (W : World) (D G : Nat) (k : Below w2.heap.size w2 W) (hD : w.heap.size ≤ D) (hm : RowsB D W (some ⟨G, 0, none⟩) (matT n g.es)) => leavesF_lv (n := n) (mc := n) (cn := c2) (B0 := w.heap.size) (hm.mono hD) ((H2.out.1.mono hwX2).below k)
  rw [HR.out] at H63
  go_region_held3 (fun W => W.cell? ⟨X, 0, none⟩ = some (.int .i64 (n : Int)) ∧ W.cell? ⟨X, 1, none⟩ = some (.slice ea L ec) ∧ W.cell? ⟨X, 2, none⟩ = some (.slice ca n cc) ∧ Below w2.heap.size w2 W)
    (first
      | assumption
      | exact hy
      | exact keep (by assumption) (by first | assumption | exact below_self_drewN _ _)
      | exact keep hy (by first | assumption | exact below_self_drewN _ _))
    (first
      | (go_at_call 52; (with_reducible refine (H.out.2.1 _ (hb12.trans ((keep3_last (by assumption)).mono hX1))).mono ?_); rintro e w3 ⟨G, c3, rfl, hm3, hw3⟩; have r3 := hm3.rowsB HN.out; clear hm3)
      | (go_at_call 63; (with_reducible refine (H63 _ _ _ (keep3_last (by assumption)) (by first | omega | (rw [drew_size]; exact hwX)) r3).mono ?_); rintro e w4 ⟨A, B, C, rfl, hlv, hA, hB, hC, hw4⟩))
  all_goals
    have h23 : w2.heap.size ≤ w3.heap.size := by have := hw3.size; rw [drew_size] at this; exact this
    have hbe : Below w2.heap.size w2 w4 := keep3_last (by assumption)
    have HZ := Lib.hid (And.intro hlv (H.out.2.2.1.trans (((hb12.mono (B' := w.heap.size) (by omega)).trans (hbe.mono hwX)))))
    clear hlv hbe
    go_wp2
    go_ret
    exact ⟨A, B, C, G, n, a2, c2, rfl, HZ.out.1, by omega, by omega, by omega, HZ.out.2⟩
end Go.Proofs.YtjjjohmppehejaaGreat
