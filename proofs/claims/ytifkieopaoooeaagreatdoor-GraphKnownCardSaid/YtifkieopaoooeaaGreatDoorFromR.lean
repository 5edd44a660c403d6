/- from: the reference's distances from a vertex. -/
import Derived.Test.YtifkieopaoooeaaGreatDoorNear
import Derived.Test.YtifkieopaoooeaaGreatDoorPlainDist
set_option linter.unusedSimpArgs false
set_option linter.unusedVariables false
namespace Go.Proofs.YtifkieopaoooeaaGreatDoor
open Go.RowKit Plain PlainG
/-- A list given by a function. -/
def lsF (n : Nat) (f : Nat → Int) : List Int := (List.range n).map f
theorem lsF_len (n : Nat) (f : Nat → Int) : (lsF n f).length = n := by simp [lsF]
theorem lsF_get {n k : Nat} {f : Nat → Int} (h : k < n) : (lsF n f)[k]? = some (f k) := by unfold lsF; rw [List.getElem?_map, List.getElem?_range h]; rfl
theorem lsF_cong {n : Nat} {f g : Nat → Int} (h : ∀ u, u < n → f u = g u) : lsF n f = lsF n g := List.map_congr_left fun u hu => h u (List.mem_range.1 hu)
theorem lsF_set {n u : Nat} {f : Nat → Int} (x : Int) : (lsF n f).set u x = lsF n (fun a => if a = u then x else f a) := by
  apply List.ext_getElem?
  intro k
  by_cases h : k < n
  · rw [lsF_get h, List.getElem?_set, lsF_len]
    by_cases he : u = k
    · subst he; rw [if_pos rfl, if_pos h, if_pos rfl]
    · rw [if_neg he, lsF_get h, if_neg (fun e => he e.symm)]
  · rw [List.getElem?_eq_none (by simp [lsF_len]; omega), List.getElem?_eq_none (by rw [lsF_len]; omega)]
theorem lsF_zero (n : Nat) : List.replicate n (0 : Int) = lsF n (fun _ => 0) := by
  apply List.ext_getElem?
  intro k
  by_cases h : k < n
  · rw [lsF_get h]; simp [h]
  · rw [List.getElem?_eq_none (by simp; omega), List.getElem?_eq_none (by rw [lsF_len]; omega)]
/-- An own row given by a function. -/
theorem lsAt {w : World} {B G n c : Nat} {f : Nat → Int} (h : Own w B (.slice (some ⟨G, 0, none⟩) n c) 3 (ints (lsF n f))) {k : Nat} (hk : k < n) : w.cell? ⟨G, k, none⟩ = some (.int .i64 (f k)) ∧ w.frozen? ⟨G, k, none⟩ = false := by
  refine ⟨?_, h.frozen k⟩
  rw [h.cell k (by rw [ints_len, lsF_len]; exact hk), ints_get (by rw [lsF_len]; exact hk), lsF_get hk]; rfl
theorem lsPut {w : World} {B G n c : Nat} {f : Nat → Int} (h : Own w B (.slice (some ⟨G, 0, none⟩) n c) 3 (ints (lsF n f))) (k : Nat) (x : Int) : Own (w.setCell ⟨G, k, none⟩ (.int .i64 x)) B (.slice (some ⟨G, 0, none⟩) n c) 3 (ints (lsF n (fun a => if a = k then x else f a))) := by
  have := h.put k (.int .i64 x)
  rwa [ints_set, lsF_set] at this
def distL (N : Nat) (es : List E2) (v : Nat) : List Int := lsF N (lev N (adj es) v N)
def FromRes (w : World) (N : Nat) (l : List Int) (e : Ending) (w' : World) : Prop :=
  ∃ G, e = .returned (.slice (some ⟨G, 0, none⟩) N N) ∧ Own w' w.heap.size (.slice (some ⟨G, 0, none⟩) N N) 3 (ints l) ∧ Below w.heap.size w w'
set_option maxRecDepth 100000 in
set_option maxHeartbeats 8000000 in
theorem from_calls {w : World} {a b : Option Addr} {c d L M N : Nat} {es : List (Int × Int)} (v : Nat) (he : Edg w a es) (hL : es.length = L) (hN : N ≤ 24) (hev : ∀ x ∈ es, 0 ≤ x.1 ∧ x.1 < x.2 ∧ x.2 < N) (hv : v < N) :
    Calls Tryz.prog 80 #[.agg #[.int .i64 (N : Int), .slice a L c, .slice b M d], .int .i64 (v : Int)] w fun e w' => FromRes w N (distL N es v) e w' := by
  obtain ⟨i3, hi3, hz3, hs3, hb3⟩ := info_parts Tryz.info3
  have I3 := Lib.hid (And.intro hi3 (And.intro hz3 (And.intro hs3 hb3)))
  clear hi3 hz3 hs3 hb3
  obtain ⟨R, hR⟩ : ∃ R, w.heap.size = R := ⟨_, rfl⟩
  obtain ⟨W1, hW1⟩ : ∃ W1, W1 = w.alloc (.cells #[.int .i64 (N : Int), .slice a L c, .slice b M d] 25) := ⟨_, rfl⟩
  have hb1 : Below R w W1 := by rw [hW1, ← hR]; exact (Below.refl _ w).alloc (Nat.le_refl _) _
  have hx1 : Bx W1 R (.int .i64 (N : Int)) (.slice a L c) (.slice b M d) := by rw [hW1, ← hR]; exact Bx.new _ _ _ _
  have K71 := gmatrixR_calls (w := W1) (c := c) (b := b) (d := d) (L := L) (M := M) (n := N) (he.below (by rw [hR]; exact hb1)) hL (by omega) (fun x hx => by have := hev x hx; omega)
  have H := Lib.hid (And.intro K71 (And.intro hx1 (And.intro hb1 hR)))
  have HW := Lib.hid hW1
  obtain ⟨x0, x1, x2⟩ := hx1
  have hvI : (v : Int) < N := by omega
  clear K71 hb1 hW1 hR he hL hev
  go_enter Tryz.func80, Tryz.ntmps80
  go_upto_region 1 with (fail)
  rw [← HW.out]
  try rw [H.out.2.2.2]
  clear HW
  go_wp2_with (first
    | (go_at_call 71; refine H.out.1.mono ?_; rintro e w2 ⟨G, mc, rfl, hmat, hw2⟩; obtain ⟨x0, _, _⟩ := H.out.2.1.below hw2; have HA := Lib.hid (And.intro hmat hw2); clear hmat hw2 x1 x2)
    | (at_make; refine mk1 rfl _ _ 23 3 rfl i3 (.int .i64 0) 8 Tryz.underlying23 I3.out.1 I3.out.2.1 I3.out.2.2.1 I3.out.2.2.2 rfl (by omega) w2.heap.size N rfl rfl (by omega) (Nat.le_refl _) ?_; intro w3 hd hg hz1; have H1 := Lib.hid (And.intro hd (And.intro hg hz1)); clear hd hg hz1))
  obtain ⟨B, hB⟩ : ∃ B, w2.heap.size = B := ⟨_, rfl⟩
  rw [hB] at H1 ⊢
  have HB := Lib.hid hB
  rw [ints_zero, lsF_zero] at H1
  have hres : ∀ wi, w3.grownBy wi (some B) → wi.cell? ⟨R, 0, none⟩ = some (.int .i64 (N : Int)) ∧ OwnMat wi W1.heap.size G N mc (matF N (adjF es)) ∧ Below R w wi := fun wi h => by
    have h2 : Below w2.heap.size w2 w3 := (Below.refl _ w2).grown H1.out.2.1 (Nat.le_refl _) (by simp)
    have h3 : Below w2.heap.size w2 wi := h2.grown h h2.size (fun g e => by have := Option.some.inj e; omega)
    obtain ⟨z0, _, _⟩ := H.out.2.1.below (below_two HA.out.2 h3)
    exact ⟨z0, HA.out.1.belowB h3, H.out.2.2.1.trans ((below_two HA.out.2 h3).mono (by rw [← H.out.2.2.2]; exact H.out.2.2.1.size))⟩
  have HRS := Lib.hid hres
  clear hres hB x0
  obtain ⟨x0, _, _⟩ := HRS.out _ (grown_drewN w3 0 _)
  go_loopw [7] (fun i wi => ∃ k : Nat, k ≤ N ∧ i = .int .i64 (k : Int) ∧ Own wi B (.slice (some ⟨B, 0, none⟩) N N) 3 (ints (lsF N (fun u => if u < k then -1 else 0))) ∧ w3.grownBy wi (some B)) (fun i _ => N - (intOf i).toNat)
  case atStart => exact ⟨0, Nat.zero_le _, rfl, by simpa using H1.out.1, grown_drewN w3 0 _⟩
  case round =>
    obtain ⟨k, hk, rfl, hU, hg⟩ := hrel
    clear x0
    obtain ⟨x0, _, _⟩ := HRS.out _ hg
    by_cases hlt : k < N
    · have hkI : (k : Int) < N := by omega
      obtain ⟨g1, g2⟩ := lsAt hU hlt
      have hU2 := lsPut hU k (-1)
      have hcg : lsF N (fun a => if a = k then (-1 : Int) else if a < k then -1 else 0) = lsF N (fun u => if u < k + 1 then -1 else 0) := lsF_cong fun u _ => by
        by_cases h1 : u = k
        · subst h1; simp
        · by_cases h2 : u < k
          · rw [if_neg h1, if_pos h2, if_pos (by omega)]
          · rw [if_neg h1, if_neg h2, if_neg (by omega)]
      rw [hcg] at hU2
      have HY := Lib.hid (And.intro hU2 (hg.trans (grown_put k (.int .i64 (-1)))))
      clear hU hU2 hg hcg
      go_wp2
      exact ⟨⟨k + 1, by omega, by go_num, HY.out.1, HY.out.2⟩, by simp [intOf]; omega⟩
    · obtain rfl : k = N := by omega
      obtain ⟨g1, g2⟩ := lsAt hU hv
      have hU2 := lsPut hU v 0
      have hcg : lsF k (fun a => if a = v then (0 : Int) else if a < k then -1 else 0) = lsF k (lev k (adj es) v 0) := lsF_cong fun u hu => by
        rw [lev_zero]
        by_cases h1 : u = v
        · rw [if_pos h1, if_pos h1]
        · rw [if_neg h1, if_neg h1, if_pos hu]
      rw [hcg] at hU2
      have HY := Lib.hid (And.intro hU2 (hg.trans (grown_put v (.int .i64 0))))
      obtain ⟨W5, hW5⟩ : ∃ W5, W5 = wr.setCell ⟨B, v, none⟩ (.int .i64 0) := ⟨_, rfl⟩
      have HW5 := Lib.hid hW5
      clear hU hU2 hg hcg hW5
      go_upto_region 8 with (fail)
      rw [← HW5.out] at HY ⊢
      clear HW5 g1 g2 x0
      obtain ⟨x0, _, _⟩ := HRS.out _ HY.out.2
      go_wp2
      go_loopw [8] (fun i wi => ∃ D : Nat, D ≤ k ∧ i = .int .i64 (D : Int) ∧ Own wi B (.slice (some ⟨B, 0, none⟩) k k) 3 (ints (lsF k (lev k (adj es) v D))) ∧ w3.grownBy wi (some B)) (fun i _ => k - (intOf i).toNat)
      case atStart => exact ⟨0, Nat.zero_le _, rfl, HY.out.1, HY.out.2⟩
      case round =>
        obtain ⟨D, hD, rfl, hU, hg⟩ := hrel
        clear x0
        obtain ⟨x0, _, _⟩ := HRS.out _ hg
        by_cases hlt : D < k
        · have hDI : (D : Int) < k := by omega
          have hm0 : lsF k (lev k (adj es) v D) = lsF k (mid k (adj es) v D 0 0) := lsF_cong fun u _ => (mid_start D u).symm
          rw [hm0] at hU
          obtain ⟨wo, hwo⟩ : ∃ wo, wo = wr := ⟨_, rfl⟩
          subst hwo
          have HX := Lib.hid (And.intro hU hg)
          clear hU hg hm0
          go_wp2
          go_loopw [9] (fun i wi => ∃ p : Nat, p ≤ k ∧ i = .int .i64 (p : Int) ∧ Own wi B (.slice (some ⟨B, 0, none⟩) k k) 3 (ints (lsF k (mid k (adj es) v D p 0))) ∧ w3.grownBy wi (some B)) (fun i _ => k - (intOf i).toNat)
          case atStart => exact ⟨0, Nat.zero_le _, rfl, HX.out.1, HX.out.2⟩
          case round =>
            obtain ⟨p, hp, rfl, hU, hg⟩ := hrel
            clear x0
            obtain ⟨x0, _, _⟩ := HRS.out _ hg
            by_cases hlt2 : p < k
            · have hpI : (p : Int) < k := by omega
              obtain ⟨wq, hwq⟩ : ∃ wq, wq = wr := ⟨_, rfl⟩
              subst hwq
              have HP := Lib.hid (And.intro hU hg)
              clear hU hg
              go_wp2
              go_loopw [10] (fun i wi => ∃ q : Nat, q ≤ k ∧ i = .int .i64 (q : Int) ∧ Own wi B (.slice (some ⟨B, 0, none⟩) k k) 3 (ints (lsF k (mid k (adj es) v D p q))) ∧ w3.grownBy wi (some B)) (fun i _ => k - (intOf i).toNat)
              case atStart => exact ⟨0, Nat.zero_le _, rfl, HP.out.1, HP.out.2⟩
              case round =>
                obtain ⟨q, hq, rfl, hU, hg⟩ := hrel
                clear x0
                obtain ⟨x0, hmW, _⟩ := HRS.out _ hg
                by_cases hlt3 : q < k
                · have hqI : (q : Int) < k := by omega
                  obtain ⟨g1, _⟩ := lsAt hU hlt2
                  obtain ⟨g2, g3⟩ := lsAt hU hlt3
                  obtain ⟨rb, rc, _, m1, m2, _, _⟩ := hmW.entry hlt2 hlt3
                  have hst := fun u => mid_step (n := k) (A := adj es) (i := v) (D := D) (a := p) (b := q) (u := u) hlt2
                  obtain ⟨xa, hxa⟩ : ∃ xa, mid k (adj es) v D p q p = xa := ⟨_, rfl⟩
                  obtain ⟨xb, hxb⟩ : ∃ xb, mid k (adj es) v D p q q = xb := ⟨_, rfl⟩
                  rw [hxa] at g1
                  rw [hxb] at g2
                  rw [hxa, hxb] at hst
                  by_cases c1 : xa = (D : Int)
                  · cases hA : adj es p q
                    · have hav : adjF es p q = 0 := by unfold adjF; rw [hA]; rfl
                      rw [hav] at m2
                      have hc1 : (xa == (D : Int)) = true := by simp [c1]
                      have hcg : lsF k (mid k (adj es) v D p q) = lsF k (mid k (adj es) v D p (q + 1)) := lsF_cong fun u _ => by rw [hst u, if_neg (by rw [hA]; simp)]
                      rw [hcg] at hU
                      have HY := Lib.hid (And.intro hU hg)
                      clear hU hg hcg hst hxa hxb hav hA hmW c1
                      go_wp2
                      exact ⟨⟨q + 1, by omega, by go_num, HY.out.1, HY.out.2⟩, by simp [intOf]; omega⟩
                    · have hav : adjF es p q = 1 := by unfold adjF; rw [hA]; rfl
                      rw [hav] at m2
                      have hc1 : (xa == (D : Int)) = true := by simp [c1]
                      by_cases c3 : xb < 0
                      · have hcg : lsF k (fun a => if a = q then ((D : Int) + 1) else mid k (adj es) v D p q a) = lsF k (mid k (adj es) v D p (q + 1)) := lsF_cong fun u _ => by
                          rw [hst u]
                          by_cases h : u = q
                          · rw [if_pos h, if_pos ⟨h, c1, hA, c3⟩]
                          · rw [if_neg h, if_neg (fun hh => h hh.1)]
                        have hU2 := lsPut hU q ((D : Int) + 1)
                        rw [hcg] at hU2
                        have hc3 : decide (xb < 0) = true := by simp [c3]
                        have HY := Lib.hid (And.intro hU2 (hg.trans (grown_put q (.int .i64 ((D : Int) + 1)))))
                        clear hU hU2 hg hcg hst hxa hxb hav hA hmW c1
                        go_wp2
                        exact ⟨⟨q + 1, by omega, by go_num, HY.out.1, HY.out.2⟩, by simp [intOf]; omega⟩
                      · have hcg : lsF k (mid k (adj es) v D p q) = lsF k (mid k (adj es) v D p (q + 1)) := lsF_cong fun u _ => by rw [hst u, if_neg (fun hh => c3 hh.2.2.2)]
                        rw [hcg] at hU
                        have hc3 : decide (xb < 0) = false := by simp; omega
                        have HY := Lib.hid (And.intro hU hg)
                        clear hU hg hcg hst hxa hxb hav hA hmW c1
                        go_wp2
                        exact ⟨⟨q + 1, by omega, by go_num, HY.out.1, HY.out.2⟩, by simp [intOf]; omega⟩
                  · have hcg : lsF k (mid k (adj es) v D p q) = lsF k (mid k (adj es) v D p (q + 1)) := lsF_cong fun u _ => by rw [hst u, if_neg (fun hh => c1 hh.2.1)]
                    rw [hcg] at hU
                    have hc1 : (xa == (D : Int)) = false := by simp [c1]
                    have HY := Lib.hid (And.intro hU hg)
                    clear hU hg hcg hst hxa hxb hmW c1
                    go_wp2
                    exact ⟨⟨q + 1, by omega, by go_num, HY.out.1, HY.out.2⟩, by simp [intOf]; omega⟩
                · obtain rfl : q = k := by omega
                  have hcg : lsF q (mid q (adj es) v D p q) = lsF q (mid q (adj es) v D (p + 1) 0) := lsF_cong fun u hu => mid_row D p u hu
                  rw [hcg] at hU
                  have HY := Lib.hid (And.intro hU hg)
                  clear hU hg hcg hmW
                  go_wp2
                  exact ⟨⟨p + 1, by omega, by go_num, HY.out.1, HY.out.2⟩, by simp [intOf]; omega⟩
            · obtain rfl : p = k := by omega
              have hcg : lsF p (mid p (adj es) v D p 0) = lsF p (lev p (adj es) v (D + 1)) := lsF_cong fun u _ => mid_end D u
              rw [hcg] at hU
              have HY := Lib.hid (And.intro hU hg)
              clear hU hg hcg
              go_wp2
              exact ⟨⟨D + 1, by omega, by go_num, HY.out.1, HY.out.2⟩, by simp [intOf]; omega⟩
        · obtain rfl : D = k := by omega
          have hBw := (HRS.out _ hg).2.2
          have HY := Lib.hid (And.intro hU hBw)
          clear hU hg hBw
          go_wp2
          go_ret
          refine ⟨B, rfl, ?_, by rw [H.out.2.2.2]; exact HY.out.2⟩
          have h1 := HA.out.2.size
          have h2 := H.out.2.2.1.size
          exact HY.out.1.mono (by have := HB.out; omega)
end Go.Proofs.YtifkieopaoooeaaGreatDoor
