/- The reader's edge. -/
import Derived.StillTailTactics
import Derived.Test.YtifkieopaoooeaaGreatDoorVerts
set_option linter.unusedSimpArgs false
set_option linter.unusedVariables false
namespace Go.Proofs
theorem Tryz.info69 : (Tryz.prog.info? 69).map (fun i => (i.zero, i.size, i.bytes)) = some (some (.agg #[.int .i64 0, .int .i64 0]), 2, 16) := by kernel_rfl
end Go.Proofs
namespace Go.Proofs.YtifkieopaoooeaaGreatDoor
open Go.RowKit Plain PlainG
/-- A graph in a block of three cells. -/
structure GB (w : World) (q : Nat) (N : Nat) (v u : Value) : Prop where
  c0 : w.cell? ⟨q, 0, none⟩ = some (.int .i64 (N : Int))
  c1 : w.cell? ⟨q, 1, none⟩ = some v
  c2 : w.cell? ⟨q, 2, none⟩ = some u
  fr : ∀ o, w.frozen? ⟨q, o, none⟩ = false
  lt : q < w.heap.size
section
variable {w w' : World} {q N : Nat} {v u : Value}
theorem GB.block (h : GB w q N v u) (hb : w'.heap[q]? = w.heap[q]?) (hs : w.heap.size ≤ w'.heap.size) : GB w' q N v u := by
  have hc : ∀ o, w'.cell? ⟨q, o, none⟩ = w.cell? ⟨q, o, none⟩ := fun o => by unfold World.cell?; rw [hb]
  have hf : ∀ o, w'.frozen? ⟨q, o, none⟩ = w.frozen? ⟨q, o, none⟩ := fun o => by unfold World.frozen?; rw [hb]
  exact ⟨(hc 0).trans h.c0, (hc 1).trans h.c1, (hc 2).trans h.c2, fun o => (hf o).trans (h.fr o), Nat.lt_of_lt_of_le h.lt hs⟩
theorem GB.keptL {S : List Nat} (h : GB w q N v u) (k : Kept w w' S) (hq : q ∉ S) : GB w' q N v u := h.block (k.block q h.lt hq) k.size
theorem GB.grown {r : Option Nat} (h : GB w q N v u) (k : w.grownBy w' r) (hq : r ≠ some q) : GB w' q N v u := h.block (k.block q h.lt (fun e => hq e.symm)) k.size
theorem GB.set1 (h : GB w q N v u) (v' : Value) : GB (w.setCell ⟨q, 1, none⟩ v') q N v' u :=
  ⟨(World.cell?_setCell_other _ _ _ _ (by intro e; simp at e)).trans h.c0, World.cell?_setCell_same _ _ _ h.c1, (World.cell?_setCell_other _ _ _ _ (by intro e; simp at e)).trans h.c2, fun o => (World.frozen?_setCell _ _ _ _).trans (h.fr o), by simpa [World.setCell] using h.lt⟩
end
section
variable {w : World} {p : Nat} {b : ByteArray} {at_ a c : Nat} {top : Int} {i : Nat} {f : Flt}
theorem number_ok (h : Rg w p b at_ (0, 0)) (hF : at_ ≤ 100000) (hn : num (bytesOf b) at_ top = .ok (i, a)) :
    Calls Tryz.prog 57 #[.pointer (some ⟨p, 0, none⟩), .int .i64 top] w fun e w' => e = .returned (.tuple #[.int .i64 (i : Int), .bool true]) ∧ RgTo w w' p b a (0, 0) := by
  have := number_calls top h hF
  rw [hn] at this
  exact this
theorem number_bad (h : Rg w p b at_ (0, 0)) (hF : at_ ≤ 100000) (hn : num (bytesOf b) at_ top = .error f) :
    Calls Tryz.prog 57 #[.pointer (some ⟨p, 0, none⟩), .int .i64 top] w fun e w' => e = .returned (.tuple #[.int .i64 0, .bool false]) ∧ ∃ a, RgTo w w' p b a f := by
  have := number_calls top h hF
  rw [hn] at this
  exact this
theorem sign_yes (h : Rg w p b at_ (0, 0)) (hn : sgn (bytesOf b) at_ c = .ok a) :
    Calls Tryz.prog 60 #[.pointer (some ⟨p, 0, none⟩), .int .u8 (c : Int)] w fun e w' => e = .returned (.bool true) ∧ RgTo w w' p b a (0, 0) := by
  unfold sgn at hn
  split at hn
  · rename_i hc
    rw [bytesOf_len] at hc
    cases hn
    exact sign_ok h c hc.1 hc.2
  · cases hn
theorem sign_bad (h : Rg w p b at_ (0, 0)) (hF : at_ ≤ 100000) (hn : sgn (bytesOf b) at_ c = .error f) :
    Calls Tryz.prog 60 #[.pointer (some ⟨p, 0, none⟩), .int .u8 (c : Int)] w fun e w' => e = .returned (.bool false) ∧ ∃ a, RgTo w w' p b a f := by
  unfold sgn at hn
  split at hn
  · cases hn
  · rename_i hc
    rw [bytesOf_len] at hc
    cases hn
    refine (sign_no h c (by omega) hc).mono ?_
    rintro e w' ⟨rfl, h1⟩
    exact ⟨rfl, _, h1⟩
end
theorem RgTo.below {w w1 w2 : World} {p : Nat} {b : ByteArray} {a : Nat} {f : Int × Nat} (h : RgTo w w1 p b a f) (k : Below w1.heap.size w1 w2) : RgTo w w2 p b a f :=
  ⟨h.1.grown (row := none) ⟨k.os, k.tape, k.output, k.size, fun i hi _ => k.block i hi⟩ (by simp), h.2.trans ⟨k.os, k.tape, k.output, k.size, fun i hi _ => k.block i hi⟩⟩
theorem pair_new (w : World) (x y : Value) (T : TypeId) : (w.alloc (.cells #[x, y] T)).cell? ((⟨w.heap.size, 0, none⟩ : Addr).add 0) = some x ∧ (w.alloc (.cells #[x, y] T)).cell? ((⟨w.heap.size, 0, none⟩ : Addr).add 1) = some y := by
  rw [add_zero_addr, add_zero_addr]
  exact ⟨by simp, by simp⟩
/-- What edge gives. -/
def EdgeRes (w : World) (p q : Nat) (b : ByteArray) (B N : Nat) (v u : Value) (es : List (Int × Int)) (r : Except Flt ((Int × Int) × Nat)) (e : Ending) (w' : World) : Prop :=
  match r with
  | .ok x => e = .returned (.bool true) ∧ Rg w' p b x.2 (0, 0) ∧ ∃ v', GB w' q N v' u ∧ OwnE w' B 69 v' (es ++ [x.1]) ∧ (v'.ownBlock = v.ownBlock ∨ ∃ g, v'.ownBlock = some g ∧ w.heap.size ≤ g) ∧ Kept w w' (p :: q :: v.ownBlock.toList)
  | .error f => e = .returned (.bool false) ∧ ∃ a, RgTo w w' p b a f
theorem EdgeRes.bad {w w' : World} {p q : Nat} {b : ByteArray} {B N : Nat} {v u : Value} {es : List (Int × Int)} {r : Except Flt ((Int × Int) × Nat)} {f : Flt} (hr : r = .error f) (h : ∃ a, RgTo w w' p b a f) : EdgeRes w p q b B N v u es r (.returned (.bool false)) w' := by
  subst hr; exact ⟨rfl, h⟩
theorem below_grown {w w' : World} (k : Below w.heap.size w w') (r : Option Nat) : w.grownBy w' r := ⟨k.os, k.tape, k.output, k.size, fun i hi _ => k.block i hi⟩
theorem edge_mid {w w4 wn w6 : World} {p q : Nat} {b : ByteArray} {a N : Nat} {v u : Value} {o : Obj} (h4 : RgTo w w4 p b a (0, 0)) (hG : GB w4 q N v u) (hk : Below w4.heap.size w4 wn) (k3 : (wn.alloc o).grownBy w6 v.ownBlock) (hvp : v.ownBlock ≠ some p) (hvq : v.ownBlock ≠ some q) :
    GB w6 q N v u ∧ Rg w6 p b a (0, 0) := by
  refine ⟨((hG.grown (below_grown hk none) (by simp)).grown (grown_alloc wn o none) (by simp)).grown k3 hvq, ?_⟩
  exact ((h4.1.grown (below_grown hk none) (by simp)).grown (grown_alloc wn o none) (by simp)).grown k3 hvp
theorem EdgeRes.good {w w4 wn w6 : World} {p q : Nat} {b : ByteArray} {a B N n cap G : Nat} {v u : Value} {o : Obj} {es : List (Int × Int)} {x : Int × Int} (h4 : RgTo w w4 p b a (0, 0)) (hG : GB w4 q N v u) (hk : Below w4.heap.size w4 wn) (k3 : (wn.alloc o).grownBy w6 v.ownBlock) (hvp : v.ownBlock ≠ some p) (hvq : v.ownBlock ≠ some q)
    (hpq : p ≠ q) (hq : q < w.heap.size) (k2 : OwnE w6 B 69 (.slice (some ⟨G, 0, none⟩) n cap) (es ++ [x])) (k4 : v.ownBlock = some G ∨ (wn.alloc o).heap.size ≤ G) :
    EdgeRes w p q b B N v u es (.ok (x, a)) (.returned (.bool true)) (w6.setCell ⟨q, 1, none⟩ (.slice (some ⟨G, 0, none⟩) n cap)) := by
  obtain ⟨g6, r6⟩ := edge_mid h4 hG hk k3 hvp hvq
  have hs : w.heap.size ≤ wn.heap.size := Nat.le_trans h4.2.size hk.size
  have hGq : G ≠ q := by
    rcases k4 with k4 | k4
    · intro e; subst e; exact hvq k4
    · simp at k4; omega
  refine ⟨rfl, r6.grown (grown_put 1 _) (by intro e; cases e; exact hpq rfl), _, g6.set1 _, k2.kept (grown_put 1 _) (by right; intro e; cases e; exact hGq rfl), ?_, ?_⟩
  · rcases k4 with k4 | k4
    · left; rw [k4]; rfl
    · right; refine ⟨G, rfl, ?_⟩; simp at k4; omega
  · have h1 : Kept w w4 (p :: q :: v.ownBlock.toList) := Kept.ofGrown h4.2 (by intro k e; cases e; simp)
    have h2 : Kept w4 wn (p :: q :: v.ownBlock.toList) := Kept.ofBelow hk
    have h3 : Kept wn (wn.alloc o) (p :: q :: v.ownBlock.toList) := Kept.ofGrown (grown_alloc wn o none) (by simp)
    have h5 : Kept (wn.alloc o) w6 (p :: q :: v.ownBlock.toList) := Kept.ofGrown k3 (by intro k e; rw [e]; simp)
    exact (((h1.trans h2).trans h3).trans h5).trans (Kept.ofGrown (grown_put (g := q) 1 _) (by intro k e; cases e; simp))
set_option maxRecDepth 100000 in
set_option maxHeartbeats 4000000 in
theorem edge_calls {w : World} {p q : Nat} {b : ByteArray} {at_ B N : Nat} {v u : Value} {es : List (Int × Int)} (hr : Rg w p b at_ (0, 0)) (hF : at_ ≤ 30000) (hg : GB w q N v u) (he : OwnE w B 69 v es) (hpq : p ≠ q) (hvp : v.ownBlock ≠ some p) (hvq : v.ownBlock ≠ some q) (hN : N ≤ 24) (hl : es.length ≤ 100000) (hB : B ≤ w.heap.size) :
    Calls Tryz.prog 58 #[.pointer (some ⟨p, 0, none⟩), .pointer (some ⟨q, 0, none⟩)] w fun e w' => EdgeRes w p q b B N v u es (edgeP (bytesOf b) N at_ es.getLast?) e w' := by
  have c0 := hg.c0
  have r1 := hr.c1
  have hkeep : ∀ w1, w.grownBy w1 (some p) → GB w1 q N v u ∧ OwnE w1 B 69 v es := fun w1 h1 => ⟨hg.grown h1 (by intro e; cases e; exact hpq rfl), he.kept h1 (by
    right; exact hvp)⟩
  have hsz := hr.len
  have hbl := bytesOf_len b
  cases h1 : num (bytesOf b) at_ ((N : Int) - 1) with
  | error f =>
    have hE : edgeP (bytesOf b) N at_ es.getLast? = .error f := by unfold edgeP; rw [h1]
    have K1 := number_bad hr (by omega) h1
    rw [hE]
    have H := Lib.hid (And.intro K1 hkeep)
    clear K1 hkeep hE h1 hr hg he
    go_enter Tryz.func58, Tryz.ntmps58
    go_wp2_with (go_at_call 57; refine H.out.1.mono ?_; rintro e w2 ⟨rfl, hw2⟩; have HA := Lib.hid hw2; clear hw2)
    go_ret
    exact EdgeRes.bad rfl HA.out
  | ok x =>
    obtain ⟨i, a1⟩ := x
    obtain ⟨b1, b2, b3, _⟩ := num_inv h1 (by omega)
    have K1 := number_ok hr (by omega) h1
    cases h2 : sgn (bytesOf b) a1 45 with
    | error f =>
      have hE : edgeP (bytesOf b) N at_ es.getLast? = .error f := by unfold edgeP; rw [h1]; simp only; rw [h2]
      have K2 := fun w2 (h : RgTo w w2 p b a1 (0, 0)) => sign_bad h.1 (by omega) h2
      rw [hE]
      have H := Lib.hid (And.intro K1 (And.intro hkeep K2))
      clear K1 hkeep hE h1 h2 hr hg he K2
      go_enter Tryz.func58, Tryz.ntmps58
      go_wp2_with (first
        | (go_at_call 57; refine H.out.1.mono ?_; rintro e w2 ⟨rfl, hw2⟩; have HA := Lib.hid hw2; clear hw2)
        | (go_at_call 60; refine (H.out.2.2 _ HA.out).mono ?_; rintro e w3 ⟨rfl, hw3⟩; have HB := Lib.hid hw3; clear hw3))
      go_ret
      exact EdgeRes.bad rfl (by obtain ⟨a, ha⟩ := HB.out; exact ⟨a, HA.out.trans ha⟩)
    | ok a2 =>
      obtain ⟨s1, s2, _⟩ := sgn_inv h2
      have K2 := fun w2 (h : RgTo w w2 p b a1 (0, 0)) => sign_yes h.1 h2
      have hG := fun w3 (h : RgTo w w3 p b a2 (0, 0)) => (hkeep w3 h.2).1.c0
      cases h3 : num (bytesOf b) a2 ((N : Int) - 1) with
      | error f =>
        have hE : edgeP (bytesOf b) N at_ es.getLast? = .error f := by unfold edgeP; rw [h1]; simp only; rw [h2]; simp only; rw [h3]
        have K3 := fun w3 (h : RgTo w w3 p b a2 (0, 0)) => number_bad h.1 (by omega) h3
        rw [hE]
        have H := Lib.hid (And.intro K1 (And.intro hG (And.intro K2 K3)))
        clear K1 hkeep hE h1 h2 h3 hr hg he K2 K3 hG
        go_enter Tryz.func58, Tryz.ntmps58
        go_wp2_with (go_at_call 57; refine H.out.1.mono ?_; rintro e w2 ⟨rfl, hw2⟩; have HA := Lib.hid hw2; clear hw2)
        go_wp2_with (go_at_call 60; refine (H.out.2.2.1 _ HA.out).mono ?_; rintro e w3 ⟨rfl, hw3⟩; have HB := Lib.hid (HA.out.trans hw3); clear hw3; have d0 := H.out.2.1 _ HB.out)
        go_wp2_with (go_at_call 57; refine (H.out.2.2.2 _ HB.out).mono ?_; rintro e w4 ⟨rfl, hw4⟩; have HC := Lib.hid hw4; clear hw4)
        go_ret
        exact EdgeRes.bad rfl (by obtain ⟨a, ha⟩ := HC.out; exact ⟨a, HB.out.trans ha⟩)
      | ok y =>
        obtain ⟨k, a3⟩ := y
        obtain ⟨e1, e2, e3, _⟩ := num_inv h3 (by omega)
        have K3 := fun w3 (h : RgTo w w3 p b a2 (0, 0)) => number_ok h.1 (by omega) h3
        have K4 := fun (er : Int) w4 (h : RgTo w w4 p b a3 (0, 0)) => fail_calls h.1 er at_
        by_cases h4 : k ≤ i
        · have hE : edgeP (bytesOf b) N at_ es.getLast? = .error (3, at_) := by unfold edgeP; rw [h1]; simp only; rw [h2]; simp only; rw [h3]; simp only; rw [if_pos h4]
          rw [hE]
          have H := Lib.hid (And.intro K1 (And.intro hG (And.intro K2 (And.intro K3 (K4 3)))))
          clear K1 hkeep hE h1 h2 h3 hr hg he K2 K3 hG K4
          go_enter Tryz.func58, Tryz.ntmps58
          go_wp2_with (go_at_call 57; refine H.out.1.mono ?_; rintro e w2 ⟨rfl, hw2⟩; have HA := Lib.hid hw2; clear hw2)
          go_wp2_with (go_at_call 60; refine (H.out.2.2.1 _ HA.out).mono ?_; rintro e w3 ⟨rfl, hw3⟩; have HB := Lib.hid (HA.out.trans hw3); clear hw3; have d0 := H.out.2.1 _ HB.out)
          go_wp2_with (go_at_call 57; refine (H.out.2.2.2.1 _ HB.out).mono ?_; rintro e w4 ⟨rfl, hw4⟩; have HC := Lib.hid (HB.out.trans hw4); clear hw4)
          go_wp2_with (go_at_call 91; refine (H.out.2.2.2.2 _ HC.out).mono ?_; rintro e w5 ⟨rfl, hw5⟩; have HD := Lib.hid (HC.out.trans hw5); clear hw5)
          go_ret
          exact EdgeRes.bad rfl ⟨_, HD.out⟩
        · have hki : ¬ (k : Int) ≤ (i : Int) := by omega
          have h2c : ∀ w4, RgTo w w4 p b a3 (0, 0) → w4.cell? ⟨q, 1, none⟩ = some v := fun w4 h => (hkeep w4 h.2).1.c1
          have K5 := fun (er : Int) w4 (h : RgTo w w4 p b a3 (0, 0)) w5 (h5 : Below w4.heap.size w4 w5) => fail_calls (h.below h5).1 er at_
          obtain ⟨av, cv, hv⟩ := he.any_form
          obtain ⟨L, hL⟩ : ∃ L, es.length = L := ⟨_, rfl⟩
          rw [hL] at hv hl
          have hcase : es = [] ∨ ∃ j y, L = j + 1 ∧ es[j]? = some y ∧ es.getLast? = some y := by
            rcases Nat.eq_zero_or_pos L with h0 | h0
            · left; exact List.eq_nil_of_length_eq_zero (by omega)
            · right
              obtain ⟨y, hx⟩ : ∃ y, es[L - 1]? = some y := ⟨_, List.getElem?_eq_getElem (by omega)⟩
              exact ⟨L - 1, y, by omega, hx, by rw [List.getLast?_eq_getElem?, hL]; exact hx⟩
          rcases hcase with h0 | ⟨j, ⟨y1, y2⟩, rfl, hy, hlast⟩
          · subst h0
            have hE : edgeP (bytesOf b) N at_ ([] : List (Int × Int)).getLast? = .ok (((i : Int), (k : Int)), a3) := by unfold edgeP; rw [h1]; simp only; rw [h2]; simp only; rw [h3]; simp only; rw [if_neg h4]; simp
            rw [hE]
            obtain rfl : L = 0 := hL.symm
            subst hv
            obtain ⟨i0, hi, hz0, hz1, hz2⟩ := info_parts Tryz.info69
            have H := Lib.hid (And.intro K1 (And.intro hG (And.intro K2 (And.intro K3 h2c))))
            have H2 := Lib.hid (And.intro hkeep (And.intro hvp (And.intro hvq (And.intro hg.lt hB))))
            have I := Lib.hid (And.intro hi (And.intro hz0 (And.intro hz1 hz2)))
            clear K1 hkeep hE h1 h2 h3 hr hg he K2 K3 hG K4 K5 h2c hi hz0 hz1 hz2 hvp hvq hB hL
            go_enter Tryz.func58, Tryz.ntmps58
            go_wp2_with (go_at_call 57; refine H.out.1.mono ?_; rintro e w2 ⟨rfl, hw2⟩; have HA := Lib.hid hw2; clear hw2)
            go_wp2_with (go_at_call 60; refine (H.out.2.2.1 _ HA.out).mono ?_; rintro e w3 ⟨rfl, hw3⟩; have HB := Lib.hid (HA.out.trans hw3); clear hw3; have d0 := H.out.2.1 _ HB.out)
            go_wp2_with (go_at_call 57; refine (H.out.2.2.2.1 _ HB.out).mono ?_; rintro e w4 ⟨rfl, hw4⟩; have HC := Lib.hid (HB.out.trans hw4); clear hw4; have d1 := H.out.2.2.2.2 _ HC.out)
            go_wp2
            go_quiet (fail)
            go_wp2_with (at_builtin; refine appE rfl (.tmp 83) (.tmp 87) 22 69 rfl i0 _ 16 Tryz.underlying22 I.out.1 I.out.2.1 I.out.2.2.1 I.out.2.2.2 rfl (by omega) B (.slice av 0 cv) [] 0 rfl (((H2.out.1 _ HC.out.2).2.drewN _).alloc _) rfl _ 1 ((i : Int), (k : Int)) rfl (pair_new _ _ _ _).1 (pair_new _ _ _ _).2 (by omega) (by have h1 := HC.out.2.size; have h2 := H2.out.2.2.2.2; simp; omega) ?_; intro G cap w6 k2 k3 k4 k5 k6 k7; have HE := Lib.hid (And.intro k2 (And.intro k3 (And.intro k4 k5))); have d6 := (edge_mid HC.out (H2.out.1 _ HC.out.2).1 (below_drewN (Below.refl _ _) _) k3 H2.out.2.1 H2.out.2.2.1).1.c1; have f6 := (edge_mid HC.out (H2.out.1 _ HC.out.2).1 (below_drewN (Below.refl _ _) _) k3 H2.out.2.1 H2.out.2.2.1).1.fr 1; clear k2 k3 k4 k5 k6 k7)
            go_ret
            exact EdgeRes.good HC.out (H2.out.1 _ HC.out.2).1 (below_drewN (Below.refl _ _) _) HE.out.2.1 H2.out.2.1 H2.out.2.2.1 hpq H2.out.2.2.2.1 HE.out.1 HE.out.2.2.1
          · obtain ⟨G0, rfl, _, hG0, _, _⟩ := (show OwnE w B 69 (.slice av (j + 1) cv) es by rw [← hv]; exact he).at_cells hy
            subst hv
            have K6 : ∀ w4, RgTo w w4 p b a3 (0, 0) → w4.cell? ⟨G0, j * 2, none⟩ = some (.int .i64 y1) ∧ w4.cell? ⟨G0, j * 2 + 1, none⟩ = some (.int .i64 y2) := fun w4 h => by
              obtain ⟨g', e, _, _, c1, c2⟩ := (hkeep w4 h.2).2.at_cells hy
              cases e
              exact ⟨c1, c2⟩
            have hcb := cmp_bef (y1, y2) (((i : Int), (k : Int)))
            have hcall := fun w => edgeCmp_calls (y1, y2) (((i : Int), (k : Int))) w
            simp only at hcb hcall
            obtain ⟨z, hz⟩ : ∃ z, cmpL [y1, y2] [(i : Int), (k : Int)] = z := ⟨_, rfl⟩
            rw [hz] at hcb
            simp only [hz] at hcall
            have HQ := Lib.hid hcall
            have hd : decide ((0 : Int) < (j : Int) + 1) = true := decide_eq_true (by omega)
            have hjl : (j : Int) < j + 1 := by omega
            have hj0 : (0 : Int) ≤ j := by omega
            have hjs : IntKind.i64.wrap (j : Int) = (j : Int) := IntWalk.i64_in _ (by omega)
            cases hbf : bef (y1, y2) ((i : Int), (k : Int))
            · have hE : edgeP (bytesOf b) N at_ es.getLast? = .error (9, at_) := by unfold edgeP; rw [h1]; simp only; rw [h2]; simp only; rw [h3]; simp only; rw [if_neg h4, if_pos (by rw [hlast]; simp [hbf])]
              rw [hE]
              rw [hbf, Bool.not_false] at hcb
              have H := Lib.hid (And.intro K1 (And.intro hG (And.intro K2 (And.intro K3 (And.intro h2c (And.intro K6 (K5 9)))))))
              clear K1 hkeep hE h1 h2 h3 hr hg he K2 K3 hG K4 K5 h2c hvp hvq hB hL K6 hcall hz hbf hy hlast
              go_enter Tryz.func58, Tryz.ntmps58
              go_wp2_with (go_at_call 57; refine H.out.1.mono ?_; rintro e w2 ⟨rfl, hw2⟩; have HA := Lib.hid hw2; clear hw2)
              go_wp2_with (go_at_call 60; refine (H.out.2.2.1 _ HA.out).mono ?_; rintro e w3 ⟨rfl, hw3⟩; have HB := Lib.hid (HA.out.trans hw3); clear hw3; have d0 := H.out.2.1 _ HB.out)
              go_wp2_with (go_at_call 57; refine (H.out.2.2.2.1 _ HB.out).mono ?_; rintro e w4 ⟨rfl, hw4⟩; have HC := Lib.hid (HB.out.trans hw4); clear hw4; have d1 := H.out.2.2.2.2.1 _ HC.out; obtain ⟨d2, d3⟩ := H.out.2.2.2.2.2.1 _ HC.out)
              go_wp2
              go_still_tail 22, (by kernel_rfl)
              change wpList _ _ _ _ _ (w4.drewN 1)
              go_wp2_with (go_at_call 79; refine (HQ.out _).mono ?_; rintro e w5 ⟨rfl, hw5⟩; have HD := Lib.hid hw5; clear hw5)
              all_goals
                go_wp2_with (go_at_call 91; refine (H.out.2.2.2.2.2.2 _ HC.out _ ((below_drewN (Below.refl _ _) _).trans HD.out)).mono ?_; rintro e w6 ⟨rfl, hw6⟩; have HE := Lib.hid hw6; clear hw6)
                go_ret
                exact EdgeRes.bad rfl ⟨_, (HC.out.below ((below_drewN (Below.refl _ _) _).trans HD.out)).trans HE.out⟩
            · have hE : edgeP (bytesOf b) N at_ es.getLast? = .ok (((i : Int), (k : Int)), a3) := by unfold edgeP; rw [h1]; simp only; rw [h2]; simp only; rw [h3]; simp only; rw [if_neg h4, if_neg (by rw [hlast]; simp [hbf])]
              rw [hE]
              rw [hbf, Bool.not_true] at hcb
              obtain ⟨i0, hi, hz0, hz1, hz2⟩ := info_parts Tryz.info69
              have H := Lib.hid (And.intro K1 (And.intro hG (And.intro K2 (And.intro K3 (And.intro h2c K6)))))
              have H2 := Lib.hid (And.intro hkeep (And.intro hvp (And.intro hvq (And.intro hg.lt (And.intro hB hL)))))
              have I := Lib.hid (And.intro hi (And.intro hz0 (And.intro hz1 hz2)))
              clear K1 hkeep hE h1 h2 h3 hr hg he K2 K3 hG K4 K5 h2c hvp hvq hB hL K6 hcall hz hbf hy hlast hi hz0 hz1 hz2
              go_enter Tryz.func58, Tryz.ntmps58
              go_wp2_with (go_at_call 57; refine H.out.1.mono ?_; rintro e w2 ⟨rfl, hw2⟩; have HA := Lib.hid hw2; clear hw2)
              go_wp2_with (go_at_call 60; refine (H.out.2.2.1 _ HA.out).mono ?_; rintro e w3 ⟨rfl, hw3⟩; have HB := Lib.hid (HA.out.trans hw3); clear hw3; have d0 := H.out.2.1 _ HB.out)
              go_wp2_with (go_at_call 57; refine (H.out.2.2.2.1 _ HB.out).mono ?_; rintro e w4 ⟨rfl, hw4⟩; have HC := Lib.hid (HB.out.trans hw4); clear hw4; have d1 := H.out.2.2.2.2.1 _ HC.out; obtain ⟨d2, d3⟩ := H.out.2.2.2.2.2 _ HC.out)
              go_wp2
              go_still_tail 22, (by kernel_rfl)
              change wpList _ _ _ _ _ (w4.drewN 1)
              go_wp2_with (first
                | (go_at_call 79; refine (HQ.out _).mono ?_; rintro e w5 ⟨rfl, hw5⟩; have hk5 := Lib.hid ((below_drewN (Below.refl w4.heap.size w4) 1).trans hw5); clear hw5; have d1' := ((H2.out.1 _ HC.out.2).1.grown (below_grown hk5.out none) (by simp)).c1)
                | (at_builtin; refine appE rfl (.tmp 83) (.tmp 87) 22 69 rfl i0 _ 16 Tryz.underlying22 I.out.1 I.out.2.1 I.out.2.2.1 I.out.2.2.2 rfl (by omega) B (.slice (some ⟨G0, 0, none⟩) (j + 1) cv) es (j + 1) rfl (((H2.out.1 _ HC.out.2).2.kept (below_grown hk5.out none) (by right; intro e; cases e)).alloc _) H2.out.2.2.2.2.2 _ 1 ((i : Int), (k : Int)) rfl (pair_new _ _ _ _).1 (pair_new _ _ _ _).2 (by omega) (by have h1 := HC.out.2.size; have h2 := H2.out.2.2.2.2.1; have h3 := hk5.out.size; simp; omega) ?_; intro G cap w6 k2 k3 k4 k5 k6 k7; have HE := Lib.hid (And.intro k2 (And.intro k3 (And.intro k4 k5))); have d6 := (edge_mid HC.out (H2.out.1 _ HC.out.2).1 hk5.out k3 H2.out.2.1 H2.out.2.2.1).1.c1; have f6 := (edge_mid HC.out (H2.out.1 _ HC.out.2).1 hk5.out k3 H2.out.2.1 H2.out.2.2.1).1.fr 1; clear k2 k3 k4 k5 k6 k7))
              go_ret
              exact EdgeRes.good HC.out (H2.out.1 _ HC.out.2).1 hk5.out HE.out.2.1 H2.out.2.1 H2.out.2.2.1 hpq H2.out.2.2.2.1 HE.out.1 HE.out.2.2.1
end Go.Proofs.YtifkieopaoooeaaGreatDoor
