/- An argument of type []Perm reads as rows. · CellsOrbits answers true, and leaves what stood. · CellsOrbits: the row, over its walk. -/
import Derived.Test.YtlnikgcanimggaaOpen
import Derived.Test.YtlnikgcanimggaaOrbitsR
import Derived.Test.YtlnikgcanimggaaAwake
import Derived.Test.YtlnikgcanimggaaRows
import Derived.Carry
import Derived.RowKit
import Derived.RowKit2
import Derived.RowKit3
import Derived.ProofKit
import Derived.JoinedFifth
import Derived.OpenShut
set_option linter.unusedSimpArgs false
set_option linter.unusedVariables false
namespace Go.Proofs.Ytlnikgcanimggaa
open Go.RowKit Go.WideShapes Go.ChangeShapes Go.Deep
theorem Try.cells32 : Try.prog.cellsOf 32 = 1 := by kernel_rfl
theorem Try.underlying50 : Try.prog.underlying 50 = some (.slice 32) := by kernel_rfl
theorem Try.underlying32 : Try.prog.underlying 32 = some (.slice 3) := by kernel_rfl
section
variable {H : Type} {enc : TypeId × Value → H}
set_option maxRecDepth 100000 in
theorem open_perms {W : World} {base b0 : Nat} {v : Value} {d : DataW H} {p : List MemPlace} (hv : Value.okWide Try.prog W .any base 50 v) (h : DataW.Trod enc Try.prog W b0 (fun _ => true) true 50 v d p) :
    ∃ a c l, v = .slice a (List.length l) c ∧ Rows W a l := by
  obtain ⟨a0, len, cap, rfl⟩ := okWide_slice Try.underlying50 hv
  obtain ⟨fuel, hf⟩ := h
  rcases open_int_rows Try.underlying50 Try.underlying32 Try.underlying3 Try.cells32 Try.cells3 hf with ⟨hcs0, hx⟩ | ⟨a, len', cap', A, L, C, Z, hcs0, _, hl, hm, hx, hrows⟩
  · simp [Value.cells] at hcs0
    obtain ⟨rfl, rfl, rfl⟩ := hcs0
    exact ⟨none, 0, [], rfl, [], Row.nil, rfl, fun i u xs h => by simp at h⟩
  · simp [Value.cells] at hcs0
    obtain ⟨rfl, rfl, rfl⟩ := hcs0
    refine ⟨some a, cap, (List.range len).map (fun r => (Z r).take (L r)), by simp, (List.range len).map (fun r => Value.slice (A r) (L r) (C r)), ?_, by simp, ?_⟩
    · refine ⟨by simp; omega, fun i u hu => ?_⟩
      have hi : i < len := by have := (List.getElem?_eq_some_iff.1 hu).1; simpa using this
      rw [List.getElem?_map, List.getElem?_range hi] at hu
      cases hu
      obtain ⟨b, o, rfl⟩ := spot_none (hrows 0 (by omega)).1
      have hc := (hrows i (by omega)).1
      rw [add_zero_addr] at hc
      exact ⟨b, o, rfl, block_lt_of_cell hc, hc⟩
    · intro i u xs hu hx
      have hi : i < len := by have := (List.getElem?_eq_some_iff.1 hu).1; simpa using this
      rw [List.getElem?_map, List.getElem?_range hi] at hu hx
      cases hu
      cases hx
      obtain ⟨_, h1, h2, h3, _, h5, h6⟩ := hrows i (by omega)
      have hlen : ((Z i).take (L i)).length = L i := by simp; omega
      refine ⟨A i, C i, by rw [hlen], ⟨by simp; omega, fun j u hu => ?_⟩⟩
      have hj : j < L i := by have := (List.getElem?_eq_some_iff.1 hu).1; simp at this; omega
      rw [List.getElem?_map, List.getElem?_take, if_pos hj, List.getElem?_eq_getElem (by omega)] at hu
      cases hu
      cases hA : A i with
      | none => have := h5 hA; omega
      | some a' =>
        obtain ⟨_, hcell⟩ := h6 a' hA
        obtain ⟨b, o, rfl⟩ := spot_none (hcell 0 (by omega))
        have hc := hcell j (by omega)
        rw [add_zero_addr] at hc
        have hz : (Z i).getD j 0 = (Z i)[j] := by simp [List.getD, List.getElem?_eq_getElem (show j < (Z i).length by omega)]
        rw [hz] at hc
        exact ⟨b, o, rfl, block_lt_of_cell hc, hc⟩
end
end Go.Proofs.Ytlnikgcanimggaa

namespace Go.Proofs.Ytlnikgcanimggaa
open Go.RowKit Plain
open Classical in
/-- What both Orbits answer. -/
noncomputable def orbA (n : Int) (l : List (List Int)) : List (List Int) × Int :=
  if n < 0 ∨ 64 < n then ([], 2) else if 16 < l.length then ([], 4)
  else if allQ n.toNat l then (collect ((List.range n.toNat).map fun i => [(uniG l l.length i : Int)]), 0) else ([], 3)
theorem orbA_1 {n : Int} {l : List (List Int)} (h : n < 0 ∨ 64 < n) : orbA n l = ([], 2) := by unfold orbA; rw [if_pos h]
theorem orbA_2 {n : Int} {l : List (List Int)} (h : ¬ (n < 0 ∨ 64 < n)) (h2 : 16 < l.length) : orbA n l = ([], 4) := by unfold orbA; rw [if_neg h, if_pos h2]
theorem orbA_3 {n : Int} {l : List (List Int)} (h : ¬ (n < 0 ∨ 64 < n)) (h2 : ¬ 16 < l.length) (h3 : allQ n.toNat l) : orbA n l = (collect ((List.range n.toNat).map fun i => [(uniG l l.length i : Int)]), 0) := by unfold orbA; rw [if_neg h, if_neg h2, if_pos h3]
theorem orbA_4 {n : Int} {l : List (List Int)} (h : ¬ (n < 0 ∨ 64 < n)) (h2 : ¬ 16 < l.length) (h3 : ¬ allQ n.toNat l) : orbA n l = ([], 3) := by unfold orbA; rw [if_neg h, if_neg h2, if_neg h3]
theorem getF {n : Nat} (f : Nat → Nat) (i : Nat) (h : i < n) : (fun x => [(f x : Int)]) i = ((List.range n).map fun i => [(f i : Int)])[i]?.getD [] := by simp [h]

set_option maxRecDepth 100000 in
set_option maxHeartbeats 2000000 in
theorem orbitsA_calls (n : Int) (a : Option Addr) (c : Nat) (l : List (List Int)) (w : World) (ha : Rows w a l) (hP : ∀ g ∈ l, g.length ≤ 1000) :
    Calls Try.prog 43 #[.int .i64 n, .slice a l.length c] w fun e w' => ∃ a c, e = .returned (.tuple #[.slice a (orbA n l).1.length c, .int .i64 (orbA n l).2]) ∧ Rows w' a (orbA n l).1 ∧ Below w.heap.size w w' := by
  have hm := ha.len
  by_cases h1 : n < 0 ∨ 64 < n
  · rw [orbA_1 h1]
    obtain ⟨L, hL⟩ : ∃ L, L = l.length := ⟨_, rfl⟩
    rw [← hL] at hm ⊢
    clear hL ha hP
    by_cases h2 : n < 0
    · clear h1
      have h2T : decide (n < 0) = true := decide_eq_true h2
      go_enter Try.func43, Try.ntmps43
      go_wp2
      go_ret2
      first | exact ⟨none, 0, rfl, Rows.nil' _, Below.refl _ _⟩ | exact ⟨none, ⟨0, rfl⟩, Rows.nil' _, Below.refl _ _⟩
    · have h2T : decide (n < 0) = false := decide_eq_false h2
      have h3 : 64 < n := by omega
      clear h1
      go_enter Try.func43, Try.ntmps43
      go_wp2
      go_ret2
      first | exact ⟨none, 0, rfl, Rows.nil' _, Below.refl _ _⟩ | exact ⟨none, ⟨0, rfl⟩, Rows.nil' _, Below.refl _ _⟩
  · by_cases h2 : 16 < l.length
    · rw [orbA_2 h1 h2]
      obtain ⟨L, hL⟩ : ∃ L, L = l.length := ⟨_, rfl⟩
      rw [← hL] at hm h2 ⊢
      have h3 : 0 ≤ n := by omega
      have h4 : n ≤ 64 := by omega
      have h2I : (16 : Int) < (L : Int) := by omega
      clear hL ha hP h1
      go_enter Try.func43, Try.ntmps43
      go_wp2
      go_ret2
      first | exact ⟨none, 0, rfl, Rows.nil' _, Below.refl _ _⟩ | exact ⟨none, ⟨0, rfl⟩, Rows.nil' _, Below.refl _ _⟩
    · obtain ⟨N, rfl⟩ := Int.eq_ofNat_of_zero_le (by omega : 0 ≤ n)
      refine (orbits_calls N (by omega) a c l w ha (by omega) hP).mono ?_
      rintro e w' ⟨a1, c1, P, E, rfl, hr, hs, hb⟩
      have e1 : (P.map (·.map Int.ofNat), E) = orbA N l := by
        rcases hs with ⟨rfl, hal, hp⟩ | ⟨rfl, rfl, hal⟩
        · rw [orbA_3 h1 h2 (by simpa using (all_iff N l).1 hal)]
          rw [part_collect (rows := (List.range N).map fun i => [(uniG l l.length i : Int)]) (by simp) (fun i hi => getF _ i hi) hp]
          rfl
        · rw [orbA_4 h1 h2 (fun h => hal ((all_iff N l).2 (by simpa using h)))]; rfl
      rw [← e1]
      exact ⟨a1, c1, rfl, hr, hb⟩
set_option maxRecDepth 100000 in
set_option maxHeartbeats 2000000 in
theorem orbitsRA_calls (n : Int) (a : Option Addr) (c : Nat) (l : List (List Int)) (w : World) (ha : Rows w a l) :
    Calls Try.prog 44 #[.int .i64 n, .slice a l.length c] w fun e w' => ∃ a c, e = .returned (.tuple #[.slice a (orbA n l).1.length c, .int .i64 (orbA n l).2]) ∧ Rows w' a (orbA n l).1 ∧ Below w.heap.size w w' := by
  have hm := ha.len
  by_cases h1 : n < 0 ∨ 64 < n
  · rw [orbA_1 h1]
    obtain ⟨L, hL⟩ : ∃ L, L = l.length := ⟨_, rfl⟩
    rw [← hL] at hm ⊢
    clear hL ha
    by_cases h2 : n < 0
    · clear h1
      have h2T : decide (n < 0) = true := decide_eq_true h2
      go_enter Try.func44, Try.ntmps44
      go_wp2
      go_ret2
      first | exact ⟨none, 0, rfl, Rows.nil' _, Below.refl _ _⟩ | exact ⟨none, ⟨0, rfl⟩, Rows.nil' _, Below.refl _ _⟩
    · have h2T : decide (n < 0) = false := decide_eq_false h2
      have h3 : 64 < n := by omega
      clear h1
      go_enter Try.func44, Try.ntmps44
      go_wp2
      go_ret2
      first | exact ⟨none, 0, rfl, Rows.nil' _, Below.refl _ _⟩ | exact ⟨none, ⟨0, rfl⟩, Rows.nil' _, Below.refl _ _⟩
  · by_cases h2 : 16 < l.length
    · rw [orbA_2 h1 h2]
      obtain ⟨L, hL⟩ : ∃ L, L = l.length := ⟨_, rfl⟩
      rw [← hL] at hm h2 ⊢
      have h3 : 0 ≤ n := by omega
      have h4 : n ≤ 64 := by omega
      have h2I : (16 : Int) < (L : Int) := by omega
      clear hL ha h1
      go_enter Try.func44, Try.ntmps44
      go_wp2
      go_ret2
      first | exact ⟨none, 0, rfl, Rows.nil' _, Below.refl _ _⟩ | exact ⟨none, ⟨0, rfl⟩, Rows.nil' _, Below.refl _ _⟩
    · obtain ⟨N, rfl⟩ := Int.eq_ofNat_of_zero_le (by omega : 0 ≤ n)
      refine (orbitsR_calls N (by omega) a c l w ha (by omega)).mono ?_
      rintro e w' ⟨a1, c1, A, E, rfl, hr, hs, hb⟩
      have e1 : (A, E) = orbA N l := by
        rcases hs with ⟨rfl, hal, f, rfl, hbk, hco⟩ | ⟨rfl, rfl, hal⟩
        · rw [orbA_3 h1 h2 (by simpa using hal)]
          have hu := uniK_least (linksG l l.length)
          rw [← uniG_K] at hu
          rw [least_eq hbk hco hu.1 hu.2]; rfl
        · rw [orbA_4 h1 h2 (by simpa using hal)]
      rw [← e1]
      exact ⟨a1, c1, rfl, hr, hb⟩

set_option maxRecDepth 100000 in
set_option maxHeartbeats 2000000 in
theorem cellsOrbits_calls (n : Int) (a : Option Addr) (c : Nat) (l : List (List Int)) (w : World) (ha : Rows w a l) :
    Calls Try.prog 9 #[.int .i64 n, .slice a l.length c] w fun e w' => e = .returned (.bool true) ∧ Below w.heap.size w w' := by
  have Haw := Lib.hid (awake_calls)
  have hm := ha.len
  have H0 := Lib.hid ha
  have hP : (∀ g ∈ l, g.length ≤ 1000) → l.length ≤ 20 → Calls Try.prog 43 #[.int .i64 n, .slice a l.length c] w fun e w' => ∃ a c, e = .returned (.tuple #[.slice a (orbA n l).1.length c, .int .i64 (orbA n l).2]) ∧ Rows w' a (orbA n l).1 ∧ Below w.heap.size w w' :=
    fun h _ => orbitsA_calls n a c l w ha h
  have hR := fun (w1 : World) (h : Below w.heap.size w w1) => orbitsRA_calls n a c l w1 (ha.below h)
  obtain ⟨L, hL⟩ : ∃ L, L = l.length := ⟨_, rfl⟩
  rw [← hL] at hm hP hR ⊢
  obtain ⟨A, hA⟩ : ∃ A, (orbA n l).1 = A := ⟨_, rfl⟩
  obtain ⟨E, hE⟩ : ∃ A, (orbA n l).2 = A := ⟨_, rfl⟩
  simp only [hA, hE] at hP hR
  have HP := Lib.hid hP
  have HR := Lib.hid hR
  have HL := Lib.hid hL
  clear hA hE hL ha hP hR
  go_enter Try.func9, Try.ntmps9
  go_wp2
  go_loopw [5] (fun i wr => ∃ k : Nat, k ≤ L ∧ k ≤ 21 ∧ i = .int .i64 k ∧ wr = w ∧ ∀ g ∈ l.take k, g.length ≤ 70) (fun i _ => L - (intOf i).toNat)
  case atStart => exact ⟨0, by omega, by omega, rfl, rfl, fun g hg => by simp at hg⟩
  case round =>
    obtain ⟨k, hk, hk21, rfl, rfl, hal⟩ := hrel
    have Ha := Lib.hid hal
    clear hal
    by_cases hlt : k < L ∧ k < 21
    · obtain ⟨h1, h2⟩ := hlt
      have h1T : decide (k < L) = true := decide_eq_true h1
      have h2I : (k : Int) < 21 := by omega
      obtain ⟨g, o, b, cc, rfl, hgl, hcell, hints⟩ := H0.out.at_ (k := k) (by rw [← HL.out]; exact h1)
      obtain ⟨x, hx⟩ : ∃ x, l[k]?.getD [] = x := ⟨_, rfl⟩
      rw [hx] at hcell hints
      have hxm := hints.len
      have htk : l.take (k + 1) = l.take k ++ [x] := by
        rw [List.take_succ_eq_append_getElem (by rw [← HL.out]; exact h1), ← hx, List.getElem?_eq_getElem (by rw [← HL.out]; exact h1)]; rfl
      obtain ⟨N, hN⟩ : ∃ N, N = x.length := ⟨_, rfl⟩
      rw [← hN] at hcell hxm
      have Hx := Lib.hid (And.intro htk hN)
      clear hx htk hN hints
      by_cases h70 : 70 < N
      · have h70I : (70 : Int) < (N : Int) := by omega
        go_wp2_with (go_at_call 11; refine (Haw.out _).mono ?_; rintro e w1 ⟨rfl, hb⟩; have H1 := Lib.hid hb; clear hb)
        go_ret
        exact ⟨rfl, H1.out⟩
      · have h70I : (N : Int) ≤ 70 := by omega
        go_wp2
        refine ⟨⟨k + 1, by omega, by omega, by go_num, by first | rfl | trivial, fun g hg => ?_⟩, by simp [intOf]; omega⟩
        rw [Hx.out.1] at hg
        rcases List.mem_append.1 hg with h | h
        · exact Ha.out g h
        · rw [List.mem_singleton.1 h, ← Hx.out.2]; omega
    · by_cases h20 : 20 < L
      · have h20I : (20 : Int) < (L : Int) := by omega
        have hk21 : k = 21 := by omega
        subst hk21
        by_cases hl21 : 21 < L
        · go_wp2_with (go_at_call 11; refine (Haw.out _).mono ?_; rintro e w1 ⟨rfl, hb⟩; have H1 := Lib.hid hb; clear hb)
          go_ret
          exact ⟨rfl, H1.out⟩
        · obtain rfl : L = 21 := by omega
          go_wp2_with (go_at_call 11; refine (Haw.out _).mono ?_; rintro e w1 ⟨rfl, hb⟩; have H1 := Lib.hid hb; clear hb)
          go_ret
          exact ⟨rfl, H1.out⟩
      · obtain rfl : k = L := by omega
        have h20I : (k : Int) ≤ 20 := by omega
        have hPP := HP.out (fun g hg => by
          have h := Ha.out g (by rw [List.take_of_length_le (by rw [← HL.out]; exact Nat.le_refl _)]; exact hg)
          omega) (by omega)
        have Hpp := Lib.hid hPP
        clear hPP
        go_wp2_with fail
        refine Hpp.out.mono ?_
        rintro e w2 ⟨a2, c2, rfl, hr2, hb2⟩
        have H2 := Lib.hid (And.intro hr2 hb2)
        clear hr2 hb2
        go_wp2_with fail
        refine (HR.out w2 H2.out.2).mono ?_
        rintro e w3 ⟨a3, c3, rfl, hr3, hb3⟩
        have H3 := Lib.hid (And.intro (same_true a2 a3 c2 c3 A w3 (H2.out.1.below hb3) hr3) (H2.out.2.trans (hb3.mono H2.out.2.size)))
        clear hr3 hb3 H2
        obtain ⟨M, hM⟩ : ∃ N, N = A.length := ⟨_, rfl⟩
        rw [← hM] at H3 ⊢
        clear hM
        go_wp2_with fail
        refine H3.out.1.mono ?_
        rintro e w4 ⟨rfl, hb4⟩
        have H4 := Lib.hid (H3.out.2.trans (hb4.mono H3.out.2.size))
        clear hb4
        go_wp2_with (go_at_call 11; refine (Haw.out _).mono ?_; rintro e w5 ⟨rfl, hb⟩; have H5 := Lib.hid (H4.out.trans (hb.mono H4.out.size)); clear hb)
        go_ret
        exact ⟨rfl, H5.out⟩
end Go.Proofs.Ytlnikgcanimggaa

namespace Go.Proofs.Ytlnikgcanimggaa
open Go.ChangeShapes Go.WideShapes Go.ChangeAt Go.RowKit
namespace LawCellsOrbits
theorem own : ownKnob Try.prog.godebug = none := by kernel_rfl
theorem laidOut : laidOutB Try.prog = true := by kernel_rfl
theorem params : Try.f9.params = #[3, 50] := by kernel_rfl
theorem results : Try.f9.resultTypes = #[4] := by kernel_rfl

set_option maxRecDepth 100000 in
theorem lifted (os : Os) (started : os.Started) (H : Type) (enc : TypeId × Value → H) :
    ReturnsInHanded {} Try.checked os 9 .any (Rows.cellsOrbitsSpec.pre6 enc Try.prog Try.f9 Rows.cellsOrbitsRow.domain false) (Rows.cellsOrbitsSpec.post enc Try.prog Try.f9 false true false false) := by
  refine returnsInHanded_of_change (C := Try.checked) own started (by kernel_rfl) Try.func9
    (ChangeSpec.witness6 (enc := enc) (C := Try.checked) false ⟨#[], #[.int .i64 0, .slice none 0 0], []⟩ 8 (by kernel_rfl) (by kernel_rfl) (by kernel_rfl) (by kernel_rfl)) ?_
  intro W base args ds gs before hval0 hW hcnd _
  have hval : ∀ (j : Nat) t v, Try.f9.params[j]? = some t → args[j]? = some v → Value.okWide Try.prog W .any base t v := hval0
  have hW' := hW
  obtain ⟨p, q, hA0, hV, rfl, hfz, hnd⟩ := hW
  have hA : DataW.TrodAll enc Try.prog W 0 (fun _ => true) true Try.f9.params.toList args.toList ds p := hA0
  have hV0 : DataW.TrodVars enc Try.prog W (fun _ => true) [] gs q := hV
  obtain ⟨rfl, rfl⟩ := trodVars_none hV0
  rw [params] at hA hval
  obtain ⟨v0, v1, d0, d1, p0, p1, rfl, rfl, rfl, h0, h1⟩ := trodAll_two hA
  have hlt : ∀ x ∈ (p0 ++ p1) ++ [], x.block < W.heap.size := fun x hx => hW'.lt x hx
  obtain ⟨n0, rfl, rfl, rfl, wn0⟩ := open_int Try.underlying3 (hval 0 3 v0 rfl rfl) h0
  obtain ⟨a1, c1, l1, rfl, hr1⟩ := open_perms (hval 1 50 v1 rfl rfl) h1
  refine (cellsOrbits_calls n0 a1 c1 l1 W hr1).mono fun e W' ⟨he, hb⟩ => ?_
  subst he
  refine ⟨_, rfl, _, _, _, [], [] ++ (p1), [], hW', ?_, ?_, ?_, ?_, fun h => by cases h⟩
  · rw [results]
    exact trodAll_mk1 (shut_bool Try.underlying4 _)
  · rw [params]
    exact trodAll_mk2 (shut_int Try.underlying3 wn0) (Below.trod laidOut (by kernel_rfl) (of_decide_eq_true (by kernel_rfl)) h1 hb (fun x hx => hlt x (by simp [hx])))
  · exact rfl
  · exact hb.frame _
end LawCellsOrbits

theorem orbits_true : Rows.CellsOrbitsSaid :=
  OpenClaim.holds_of_wide 9 Try.f9 rfl rfl rfl rfl rfl rfl rfl ⟨rfl, rfl, rfl, rfl, rfl⟩ rfl rfl rfl rfl rfl (by kernel_rfl) Try.func9 (by kernel_rfl)
    (of_decide_eq_true (by kernel_rfl)) (by unfold Func.isWrapper; first | (rw [if_pos (by decide +kernel)]; kernel_rfl) | (rw [if_neg (by decide +kernel)]; exact ⟨rfl, rfl⟩))
    (fun os started H enc _ => LawCellsOrbits.lifted os started H enc)
#print axioms orbits_true
end Go.Proofs.Ytlnikgcanimggaa
