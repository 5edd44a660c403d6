/- Orbits. -/
import Derived.Test.YtlnikgcanimggaaGreatSorted
import Derived.Test.YtlnikgcanimggaaGreatForest
set_option linter.unusedSimpArgs false
set_option linter.unusedVariables false
namespace Go.Proofs.YtlnikgcanimggaaGreat
open Go.RowKit Plain

/-- The roots when the first j points of a permutation have been united with their images. -/
def uniP (r : Nat → Nat) (g : List Int) : Nat → (Nat → Nat)
  | 0 => r
  | j + 1 => uniteR (uniP r g j) j (g[j]?.getD 0).toNat
def uniG (l : List (List Int)) : Nat → (Nat → Nat)
  | 0 => id
  | k + 1 => uniP (uniG l k) (l[k]?.getD []) (l[k]?.getD []).length
/-- The list holds each number below its length. -/
def isP (g : List Int) : Bool := decide (srtI g = (List.range g.length).map Int.ofNat)

/-- Every list is a permutation of n points. -/
def allP (n : Nat) (l : List (List Int)) : Prop := ∀ g ∈ l, isP g = true ∧ g.length = n

theorem isP_at {n : Nat} {x : List Int} (h : srtI x = (List.range n).map Int.ofNat) {j : Nat} (hj : j < x.length) : ∃ q : Nat, x[j]?.getD 0 = (q : Int) ∧ q < n := by
  have hm : x[j] ∈ srtI x := (List.mergeSort_perm x _).mem_iff.2 (List.getElem_mem hj)
  rw [h] at hm
  obtain ⟨q, hq, e⟩ := List.mem_map.1 hm
  exact ⟨q, by rw [List.getElem?_eq_getElem hj, ← e]; rfl, List.mem_range.1 hq⟩

/-- What Orbits says: a partition, or ErrForm. -/
def OrbSay (n : Nat) (l : List (List Int)) (P : List (List Nat)) (E : Int) : Prop :=
  E = 0 ∧ allP n l ∧ IsPart (fun x => [(uniG l l.length x : Int)]) (· < n) P ∨ E = 3 ∧ P = [] ∧ ¬ allP n l

set_option maxRecDepth 100000 in
set_option maxHeartbeats 4000000 in
theorem orbits_calls (n : Nat) (hn : n ≤ 64) (a : Option Addr) (c : Nat) (l : List (List Int)) (w : World) (ha : Rows w a l) (hl : l.length ≤ 16) (hP : ∀ g ∈ l, g.length ≤ 1000) :
    Calls Tryz.prog 12 #[.int .i64 n, .slice a l.length c] w fun e w' => ∃ a c P E, e = .returned (.tuple #[.slice a (P.map (·.map Int.ofNat)).length c, .int .i64 E]) ∧ Rows w' a (P.map (·.map Int.ofNat)) ∧ OrbSay n l P E ∧ Below w.heap.size w w' := by
  have H0 := Lib.hid (And.intro ha hP)
  obtain ⟨L, hL⟩ : ∃ L, L = l.length := ⟨_, rfl⟩
  rw [← hL] at hl ⊢
  have HL := Lib.hid hL
  obtain ⟨D, hD⟩ : ∃ D, D = w.heap.size := ⟨_, rfl⟩
  rw [← hD]
  have HD := Lib.hid hD
  clear hL hD ha hP
  have hn1 : ¬ ((n : Int) < 0) := by omega
  have hn2 : ¬ ((64 : Int) < (n : Int)) := by omega
  have hl1 : ¬ ((16 : Int) < (L : Int)) := by omega
  go_enter Tryz.func12, Tryz.ntmps12
  go_wp2_with fail
  refine (forest_calls w).mono ?_
  rintro e w2 ⟨F, rfl, hF, hi2, hb2⟩
  have H2 := Lib.hid (And.intro hF (And.intro hi2 hb2))
  clear hF hi2 hb2
  go_wp2
  go_loopw [26] (fun i wr => ∃ k : Nat, k ≤ L ∧ i = .int .i64 k ∧ FInv F (uniG l k) wr ∧ w2.grownBy wr (some F) ∧ allP n (l.take k)) (fun i _ => L - (intOf i).toNat)
  case atStart => exact ⟨0, by omega, rfl, H2.out.2.1, World.grownBy.refl _ _, fun g hg => by simp at hg⟩
  case round =>
    obtain ⟨k, hk, rfl, hi, hg, hal⟩ := hrel
    have Hi := Lib.hid (And.intro hi hg)
    have Ha := Lib.hid hal
    clear hi hg hal
    by_cases hlt : k < L
    · have hB : Below D w wr := by
        have h := H2.out.2.2.grown Hi.out.2 H2.out.2.2.size (fun g hg => by cases hg; exact Nat.le_of_eq H2.out.1.symm)
        rw [HD.out]; exact h
      have har : Rows wr a l := H0.out.1.below (by rw [← HD.out]; exact hB)
      obtain ⟨g, o, b', cc, rfl, _, hcell, hints⟩ := har.at_ (k := k) (by rw [← HL.out]; exact hlt)
      obtain ⟨g0, o0, b0, cc0, e0, hg0, hcell0, hints0⟩ := H0.out.1.at_ (k := k) (by rw [← HL.out]; exact hlt)
      cases e0
      have hcb := hB.cell (p := ⟨g, o + k, none⟩) (by rw [HD.out]; exact hg0)
      rw [hcell, hcell0] at hcb
      injection hcb with hcb
      injection hcb with hcb1 hcb2 hcb3
      subst hcb1
      subst hcb3
      clear hcb2 hcell0 hg0
      obtain ⟨x, hx⟩ : ∃ x, l[k]?.getD [] = x := ⟨_, rfl⟩
      rw [hx] at hcell hints hints0
      have hxm : x ∈ l := by
        have hk2 : k < l.length := by rw [← HL.out]; exact hlt
        rw [List.getElem?_eq_getElem hk2] at hx; rw [← hx]; exact List.getElem_mem _
      obtain ⟨N, hN⟩ : ∃ N, x.length = N := ⟨_, rfl⟩
      have hxl := hN
      have hN1000 : N ≤ 1000 := by rw [← hN]; exact H0.out.2 x hxm
      have htk : l.take (k + 1) = l.take k ++ [x] := by
        have hk2 : k < l.length := by rw [← HL.out]; exact hlt
        rw [List.getElem?_eq_getElem hk2] at hx
        rw [List.take_succ_eq_append_getElem hk2]; rw [← hx]; rfl
      have Hm := Lib.hid (And.intro hxm htk)
      obtain ⟨sx, hsx⟩ : ∃ sx, srtI x = sx := ⟨_, rfl⟩
      have hsl : sx.length = N := by rw [← hsx, srtI_len, hN]
      rw [hxl] at hcell
      have hso := sorted_calls wr.heap.size b' cc x (wr.alloc (.cells #[.slice b' N cc] 37)) (hints.below ((Below.refl _ wr).alloc (Nat.le_refl _) _)) (by rw [hxl]; omega) (by rw [hxl]; simp [go_sem])
      rw [hsx] at hso
      have Hs := Lib.hid (And.intro hso (And.intro hx (And.intro hints (And.intro hxl hB))))
      have Hw := Lib.hid (And.intro hints0 (And.intro hsx hsl))
      clear hso hx hints hxl hsx hxm har hB hints0 hN hsl htk
      go_wp2_with fail
      refine (values_calls b' N cc wr).mono ?_
      rintro e w4 ⟨rfl, hw⟩
      replace hw := hw.symm
      subst hw
      go_wp2_with fail
      refine Hs.out.1.mono ?_
      rintro e w5 ⟨v, rfl, ho, hb5⟩
      have hln : (ints sx).length = N := by rw [ints_len, Hw.out.2.2]
      obtain ⟨av, cv, rfl, -⟩ := ho.row (by rw [hln]; unfold maxLen; omega)
      rw [hln] at ho ⊢
      have hg5 : wr.grownBy w5 (some F) := (grown_alloc wr _ (some F)).trans (grown_below hb5 (some F))
      have hi5 : FInv F (uniG l k) w5 := FInv.stable F _ _ _ none ((grown_alloc wr _ none).trans (grown_below hb5 none)) (by simp) Hi.out.1
      have H5 := Lib.hid (And.intro (ho.toInts (by rw [Hw.out.2.2]; unfold maxLen; omega)) (And.intro hg5 (And.intro hi5 (Hs.out.2.2.1.below ((((Below.refl _ wr).alloc (Nat.le_refl _) _)).trans (hb5.mono (by simp)))))))
      clear ho hb5 hg5 hi5 hln
      go_wp2
      go_loopw [35] (fun j wr => ∃ j' : Nat, j' ≤ N ∧ j = .int .i64 j' ∧ wr = w5 ∧ ∀ i, i < j' → sx[i]?.getD 0 = (i : Int)) (fun j _ => N - (intOf j).toNat)
      case atStart => exact ⟨0, by omega, rfl, rfl, fun i h => by omega⟩
      case round =>
        obtain ⟨j, hj, rfl, rfl, hal⟩ := hrel
        have Hal := Lib.hid hal
        clear hal
        by_cases hjl : j < N
        · obtain ⟨gb, ob, rfl, _, hcj⟩ := H5.out.1.at_ (k := j) (by rw [Hw.out.2.2]; exact hjl)
          obtain ⟨y, hy⟩ : ∃ y, sx[j]?.getD 0 = y := ⟨_, rfl⟩
          rw [hy] at hcj
          by_cases hyj : y = (j : Int)
          · have hal2 : ∀ i, i < j + 1 → sx[i]?.getD 0 = (i : Int) := fun i h => by
              by_cases e : i = j
              · rw [e, hy, hyj]
              · exact Hal.out i (by omega)
            have Hal2 := Lib.hid hal2
            clear hal2 hy
            subst hyj
            go_wp2
            exact ⟨⟨j + 1, by omega, by go_num, by first | rfl | trivial, Hal2.out⟩, by simp [intOf]; omega⟩
          · have hyjI : (y == (j : Int)) = false := by simpa using hyj
            have hbad : ¬ allP n l := fun h => by
              have h1 := of_decide_eq_true (h x Hm.out.1).1
              rw [Hw.out.2.1] at h1
              have h2 : sx[j]?.getD 0 = (j : Int) := by rw [h1, Hs.out.2.2.2.1]; simp [hjl]
              exact hyj (by rw [← hy, h2])
            have Hb := Lib.hid hbad
            have hB5 : Below D w wr := by
              have h := H2.out.2.2.grown (grown_new Hi.out.2 H5.out.2.1 (fun g hg => .inr (by cases hg; rfl))) H2.out.2.2.size (fun g hg => by cases hg; exact Nat.le_of_eq H2.out.1.symm)
              rw [HD.out]; exact h
            have HB5 := Lib.hid hB5
            clear hbad hB5 hy
            go_wp2
            go_ret2
            exact ⟨none, 0, [], 3, rfl, Rows.nil' _, .inr ⟨rfl, rfl, Hb.out⟩, HB5.out⟩
        · obtain rfl : j = N := by omega
          have hsx : srtI x = (List.range x.length).map Int.ofNat := by
            rw [Hw.out.2.1, Hs.out.2.2.2.1]
            apply List.ext_getElem?
            intro i
            by_cases hi : i < j
            · have h1 := Hal.out i hi
              rw [List.getElem?_eq_getElem (by rw [Hw.out.2.2]; exact hi)] at h1 ⊢
              simp only [Option.getD_some] at h1
              rw [h1]; simp [hi]
            · rw [List.getElem?_eq_none (by rw [Hw.out.2.2]; omega), List.getElem?_eq_none (by simp; omega)]
          have Hsx := Lib.hid hsx
          clear hsx
          by_cases hjn : ¬ j = n
          · have hjnI : ((j : Int) == (n : Int)) = false := by simp; omega
            have hbad : ¬ allP n l := fun h => hjn (by rw [← Hs.out.2.2.2.1]; exact (h x Hm.out.1).2)
            have Hb := Lib.hid hbad
            have hB5 : Below D w wr := by
              have h := H2.out.2.2.grown (grown_new Hi.out.2 H5.out.2.1 (fun g hg => .inr (by cases hg; rfl))) H2.out.2.2.size (fun g hg => by cases hg; exact Nat.le_of_eq H2.out.1.symm)
              rw [HD.out]; exact h
            have HB5 := Lib.hid hB5
            clear hbad hB5
            go_wp2
            go_ret2
            exact ⟨none, 0, [], 3, rfl, Rows.nil' _, .inr ⟨rfl, rfl, Hb.out⟩, HB5.out⟩
          obtain rfl : j = n := Decidable.not_not.1 hjn
          clear hjn
          have hal2 : allP j (l.take (k + 1)) := fun g hg => by
            rw [Hm.out.2] at hg
            rcases List.mem_append.1 hg with h | h
            · exact Ha.out g h
            · rw [List.mem_singleton.1 h]; exact ⟨decide_eq_true Hsx.out, Hs.out.2.2.2.1⟩
          have Hal2 := Lib.hid hal2
          clear hal2
          go_wp2
          go_loopw [50] (fun i wr => ∃ j' : Nat, j' ≤ j ∧ i = .int .i64 j' ∧ FInv F (uniP (uniG l k) x j') wr ∧ w2.grownBy wr (some F)) (fun i _ => j - (intOf i).toNat)
          case atStart => exact ⟨0, by omega, rfl, H5.out.2.2.1, grown_new Hi.out.2 H5.out.2.1 (fun g hg => .inr (by cases hg; rfl))⟩
          case round =>
            obtain ⟨i, hij, rfl, hi, hg⟩ := hrel
            by_cases hil : i < j
            · have hltT : decide (i < j) = true := decide_eq_true hil
              have hBn : Below D w wr := by
                have h := H2.out.2.2.grown hg H2.out.2.2.size (fun g hg => by cases hg; exact Nat.le_of_eq H2.out.1.symm)
                rw [HD.out]; exact h
              obtain ⟨gc, oc, rfl, _, hcc⟩ := (Hw.out.1.below (by rw [← HD.out]; exact hBn)).at_ (k := i) (by rw [Hs.out.2.2.2.1]; exact hil)
              obtain ⟨q, hq, hqn⟩ := isP_at (n := j) (by rw [Hsx.out, Hs.out.2.2.2.1]) (j := i) (by rw [Hs.out.2.2.2.1]; exact hil)
              rw [hq] at hcc
              have hun := unite_calls F i q (by omega) (by omega) (uniP (uniG l k) x i) wr hi
              have hnext : uniteR (uniP (uniG l k) x i) i q = uniP (uniG l k) x (i + 1) := by rw [uniP, hq]; rfl
              rw [hnext] at hun
              have Hu := Lib.hid (And.intro hun hg)
              clear hun hnext hq hi hg hBn
              go_wp2_with fail
              refine Hu.out.1.mono ?_
              rintro e9 w9 ⟨rfl, hg9, hi9⟩
              have H9 := Lib.hid (And.intro hi9 (grown_new Hu.out.2 hg9 (fun g hg => .inr (by cases hg; rfl))))
              clear hg9 hi9
              go_wp2
              exact ⟨⟨i + 1, by omega, by go_num, H9.out⟩, by simp [intOf]; omega⟩
            · have hltT : decide (i < j) = false := decide_eq_false hil
              obtain rfl : i = j := by omega
              have hend : uniP (uniG l k) x i = uniG l (k + 1) := by rw [uniG, Hs.out.2.1, Hs.out.2.2.2.1]
              rw [hend] at hi
              have H9 := Lib.hid (And.intro hi hg)
              clear hi hg hend
              go_wp2
              exact ⟨⟨k + 1, by omega, by go_num, H9.out.1, H9.out.2, Hal2.out⟩, by simp [intOf]; omega⟩
    · obtain rfl : k = L := by omega
      have hpF := partitionF_calls F n hn (uniG l k) wr Hi.out.1
      have hB : Below D w wr := by
        have h := H2.out.2.2.grown Hi.out.2 H2.out.2.2.size (fun g hg => by cases hg; exact Nat.le_of_eq H2.out.1.symm)
        rw [HD.out]; exact h
      have Hp := Lib.hid (And.intro hpF hB)
      clear hpF hB
      go_wp2_with fail
      refine Hp.out.1.mono ?_
      rintro e9 w9 ⟨a9, c9, P, rfl, hr9, hp9, hg9⟩
      have H9 := Lib.hid (And.intro hr9 (And.intro hp9 hg9))
      clear hr9 hp9 hg9
      go_wp2
      go_ret2
      refine ⟨a9, c9, P, 0, by rw [List.length_map]; rfl, H9.out.1, .inl ⟨rfl, by have := Ha.out; rwa [List.take_of_length_le (by rw [← HL.out]; exact Nat.le_refl _)] at this, by rw [← HL.out]; exact H9.out.2.1⟩, Hp.out.2.grown H9.out.2.2 (by have := Hp.out.2.size; have := HD.out; omega) (fun g hg => by cases hg; have := H2.out.1; have := HD.out; omega)⟩
end Go.Proofs.YtlnikgcanimggaaGreat
