/- perm.Times walked. · The reference's Times walked. · Ratio of perm and of its reference walked. · Index on both sides walked. · Index on both sides where it returns an error; what Index returns of any two chains. · chain.Strong walked. -/
import Derived.Test.YtbejhkojdiadaaaGreatDoorRk01
import Derived.Test.YtbejhkojdiadaaaGreatDoorRk02
import Derived.Test.YtbejhkojdiadaaaGreatDoorRk03
import Derived.Test.YtbejhkojdiadaaaGreatDoorRk04
import Derived.Test.YtbejhkojdiadaaaGreatDoorRk05
import Derived.Test.YtbejhkojdiadaaaGreatDoorRk06
import Derived.Test.YtbejhkojdiadaaaGreatDoorRk07
import Derived.Test.YtbejhkojdiadaaaGreatDoorRk08
import Derived.Test.YtbejhkojdiadaaaGreatDoorRk09
import Derived.Test.YtbejhkojdiadaaaGreatDoorRk10
import Derived.Test.YtbejhkojdiadaaaGreatDoorRk11
import Derived.Test.YtbejhkojdiadaaaGreatDoorRk12
import Derived.Test.YtbejhkojdiadaaaGreatDoorRk13
import Derived.Test.YtbejhkojdiadaaaGreatDoorRk14
import Derived.Test.YtbejhkojdiadaaaGreatDoorRk15
import Derived.Test.YtbejhkojdiadaaaGreatDoorRk16
import Derived.Test.YtbejhkojdiadaaaGreatDoorRk17
import Derived.Test.YtbejhkojdiadaaaGreatDoorRk18
import Derived.Test.YtbejhkojdiadaaaGreatDoorProg
import Derived.WalkKit
import Derived.WalkSpells
import Derived.BigQuiet
import Derived.Deep.QuietTactic
import Derived.Deep.LoopGhost
import Derived.Lib.Hide
import Derived.Maps.AppendAt
import Derived.Deep.AppendLies
import Derived.StillTailTactics
import Derived.Laws.CopyOwn
import Derived.Deep.OwnRows
import Derived.Deep.DeepCutAuto
import Derived.Laws.Cover3
import Derived.Deep.RegionHeld3
import Derived.Laws.BytesArg
import Derived.Laws.IdiomStrings
import Derived.RangeFuncBox
import Derived.RangeFuncRecord
import Derived.Lib.SlicesSearch
import Derived.RangeFuncLeaves
import Derived.RangeFuncWrites
import Derived.RangeFuncFrom
import Derived.Shelf.Abstract
import Derived.OwnWalkIn
import Derived.TacticsInMore
import Derived.LoopNIn
import Derived.LoopIn
import Derived.Shelf.GgSortFunc.Insertion
import Derived.Shelf.SlIter.Collect
import Derived.Shelf.Sort.Plain
import Derived.Deep.RegionLaw
import Derived.ControlIn
import Derived.Deep.AppendSrc
import Derived.Sort.BigQuietIn
set_option linter.unusedSimpArgs false
set_option linter.unusedVariables false
namespace Go.Proofs.YtbejhkojdiadaaaGreatDoor
open Go.RowKit
def dv (ps : List Nat) : List Value := ps.map fun d => .int .u8 ((48 + d : Nat) : Int)
theorem dv_len (ps : List Nat) : (dv ps).length = ps.length := by simp [dv]
theorem dv_app (ps : List Nat) (d : Nat) : dv ps ++ [.int .u8 ((48 + d : Nat) : Int)] = dv (ps ++ [d]) := by simp [dv]
theorem Tryz.info5 : (Tryz.prog.info? 5).map (fun i => (i.zero, i.size, i.bytes)) = some (some (.int .u8 0), 1, 1) := by kernel_rfl
def RevI (ps l : List Nat) (k : Nat) : Prop := l.length = ps.length ∧ ∀ t, t < ps.length → l[t]? = if t < k ∨ ps.length ≤ t + k then ps[ps.length - 1 - t]? else ps[t]?
theorem RevI.start (ps : List Nat) : RevI ps ps 0 := ⟨rfl, fun t ht => by rw [if_neg (by omega)]⟩
theorem RevI.done {ps l : List Nat} {k : Nat} (h : RevI ps l k) (hk : ps.length ≤ 2 * k + 1) : l = ps.reverse := by
  apply List.ext_getElem?
  intro t
  by_cases ht : t < ps.length
  · rw [h.2 t ht, List.getElem?_reverse ht]
    split
    · rfl
    · congr 1; omega
  · rw [List.getElem?_eq_none (by rw [h.1]; omega), List.getElem?_eq_none (by simp; omega)]
theorem RevI.step {ps l : List Nat} {k j a b : Nat} (h : RevI ps l k) (hk : k < j) (hj : j + k + 1 = ps.length) (ha : l[k]? = some a) (hb : l[j]? = some b) : RevI ps ((l.set k b).set j a) (k + 1) := by
  refine ⟨by simp [h.1], fun t ht => ?_⟩
  have h1 := h.2 k (by omega)
  have h2 := h.2 j (by omega)
  rw [if_neg (by omega), ha] at h1
  rw [if_neg (by omega), hb] at h2
  have hl := h.1
  by_cases e1 : t = j
  · rw [e1, List.getElem?_set_self (by simp; omega), if_pos (by omega), h1]; congr 1; omega
  · rw [List.getElem?_set_ne (by omega)]
    by_cases e2 : t = k
    · rw [e2, List.getElem?_set_self (by omega), if_pos (by omega), h2]; congr 1; omega
    · rw [List.getElem?_set_ne (by omega), h.2 t ht]
      by_cases e3 : t < k ∨ ps.length ≤ t + k
      · rw [if_pos e3, if_pos (by omega)]
      · rw [if_neg e3, if_neg (by omega)]
theorem dv_get {ps : List Nat} {k d : Nat} (h : ps[k]? = some d) : (dv ps)[k]? = some (.int .u8 ((48 + d : Nat) : Int)) := by simp [dv, List.getElem?_map, h]
theorem dv_set (ps : List Nat) (k d : Nat) : (dv ps).set k (.int .u8 ((48 + d : Nat) : Int)) = dv (ps.set k d) := by simp [dv, List.map_set]
set_option maxHeartbeats 4000000 in
theorem rev81 {w : World} {B g c N : Nat} {ps : List Nat} (hN : ps.length = N) (hl : N ≤ 1000) (h : Own w B (.slice (some ⟨g, 0, none⟩) N c) 5 (dv ps)) :
    Calls Tryz.prog 81 #[.slice (some ⟨g, 0, none⟩) N c] w fun e w' => e = .returned (.tuple #[]) ∧ Own w' B (.slice (some ⟨g, 0, none⟩) N c) 5 (dv ps.reverse) ∧ w.grownBy w' (some g) := by
  have H0 := Lib.hid (And.intro h hN)
  clear h hN
  have g0 : IntKind.i64.wrap ((N : Int) - 1) = (N : Int) - 1 := by rw [IntKind.wrap_i64]; omega
  go_enter Tryz.func81, Tryz.ntmps81
  go_wp2
  go_loopw [2, 3] (fun i j wr => ∃ (k : Nat) (l : List Nat), 2 * k ≤ N + 1 ∧ i = .int .i64 (k : Int) ∧ j = .int .i64 ((N : Int) - 1 - (k : Int)) ∧ RevI ps l k ∧ Own wr B (.slice (some ⟨g, 0, none⟩) N c) 5 (dv l) ∧ w.grownBy wr (some g)) (fun i _ _ => N - (intOf i).toNat)
  case atStart => exact ⟨0, ps, by omega, rfl, by simp, RevI.start _, H0.out.1, grown_drewN w 0 _⟩
  case round =>
    obtain ⟨k, l, hk, rfl, rfl, hR, ho, hg⟩ := hrel
    by_cases hlt : 2 * k + 1 < N
    · obtain ⟨j, hj⟩ : ∃ j : Nat, j + k + 1 = N := ⟨N - 1 - k, by omega⟩
      have hjI : (N : Int) - 1 - (k : Int) = (j : Int) := by omega
      rw [hjI]
      have hlN : l.length = N := hR.1.trans H0.out.2
      obtain ⟨a, ha⟩ : ∃ a, l[k]? = some a := ⟨_, List.getElem?_eq_getElem (by omega)⟩
      obtain ⟨b, hb⟩ : ∃ b, l[j]? = some b := ⟨_, List.getElem?_eq_getElem (by omega)⟩
      have hc1 := (ho.cell k (by rw [dv_len]; omega)).trans (dv_get ha)
      have hc2 := (ho.cell j (by rw [dv_len]; omega)).trans (dv_get hb)
      have hf1 := ho.frozen k
      have hf2 := ho.frozen j
      have ho1 := ho.put k (.int .u8 ((48 + b : Nat) : Int))
      rw [dv_set] at ho1
      have ho2 := ho1.put j (.int .u8 ((48 + a : Nat) : Int))
      rw [dv_set] at ho2
      obtain ⟨u5, hc5⟩ : ∃ u, (wr.setCell ⟨g, k, none⟩ (.int .u8 ((48 + b : Nat) : Int))).cell? ⟨g, j, none⟩ = some u := ⟨_, (ho1.cell j (by rw [dv_len]; simp; omega)).trans (dv_get (by rw [List.getElem?_set_ne (by omega)]; exact hb))⟩
      have hS := hR.step (by omega) (by rw [H0.out.2]; exact hj) ha hb
      have hg2 := (hg.trans (grown_put k (.int .u8 ((48 + b : Nat) : Int)))).trans (grown_put (w := wr.setCell ⟨g, k, none⟩ (.int .u8 ((48 + b : Nat) : Int))) j (.int .u8 ((48 + a : Nat) : Int)))
      have H := Lib.hid (And.intro hS (And.intro ho2 hg2))
      have hkj : (k : Int) < (j : Int) := by omega
      have hk0 : (k : Int) < (N : Int) := by omega
      have hj0 : (j : Int) < (N : Int) := by omega
      clear hR ho hg hS ho1 ho2 hg2 ha hb hjI hlN
      go_wp2
      go_region
      go_wp2
      refine ⟨⟨k + 1, _, by omega, by go_num, ?_, H.out.1, H.out.2.1.drewN 1, H.out.2.2.trans (grown_drewN _ 1 _)⟩, by simp [intOf]; omega⟩
      rw [show (j : Int) - 1 = (N : Int) - 1 - ((k + 1 : Nat) : Int) by omega]
    · have hnl : ¬ ((k : Int) < (N : Int) - 1 - (k : Int)) := by omega
      have hdn := hR.done (by rw [H0.out.2]; omega)
      rw [hdn] at ho
      have H := Lib.hid (And.intro ho hg)
      clear ho hg hdn hR
      go_wp2
      go_end0
      exact ⟨rfl, H.out.1, H.out.2⟩
theorem num_byte {s : ByteArray} {ds : List Nat} (h : s.data.toList = digB ds.reverse) (hd : ∀ d ∈ ds, d < 10) {j d L : Nat} (hj : j + L + 1 = ds.length) (he : ds[L]? = some d) (hs : j < s.size) : (s[j]'hs).toNat = 48 + d := by
  have h1 : ds.reverse[j]? = some d := by rw [List.getElem?_reverse (by omega), ← he]; congr 1; omega
  rw [← IsNum.byte h hd h1]
  unfold bytesOf
  rw [List.getElem?_map, List.getElem?_eq_getElem (by simpa using hs)]
  rfl
set_option maxRecDepth 100000 in
set_option maxHeartbeats 4000000 in
theorem times45a {w : World} {s : ByteArray} {ds : List Nat} {m : Nat} (h1 : IsD ds) (h3 : s.data.toList = digB ds.reverse) (hm : 1 ≤ m ∧ m ≤ 1000) (hk : valL ds * m < 10 ^ 18) :
    Calls Tryz.prog 45 #[.string s, .int .i64 (m : Int)] w fun e w' => ∃ t, e = .returned (.tuple #[.string t, .int .i64 0]) ∧ IsNum t (valL ds * m) ∧ Below w.heap.size w w' := by
  obtain ⟨i5, hi5, hz5, hs5, hb5⟩ := info_parts Tryz.info5
  have I5 := Lib.hid (And.intro hi5 (And.intro hz5 (And.intro hs5 hb5)))
  clear hi5 hz5 hs5 hb5
  have hk1 : valL ds < 10 ^ 18 := Nat.lt_of_le_of_lt (Nat.le_mul_of_pos_right _ hm.1) hk
  have ho := order80 (w := w) ⟨ds, h1, rfl, h3⟩ hk1
  have hs := num_size h3
  have hl := h1.len hk1
  have hpos : 0 < ds.length := List.length_pos_iff.2 h1.2.1
  obtain ⟨N, hN⟩ : ∃ N, ds.length = N := ⟨_, rfl⟩
  rw [hN] at hs hl hpos
  have HO := Lib.hid ho
  have H := Lib.hid (And.intro h1 (And.intro h3 (And.intro hN hk)))
  obtain ⟨hm1, hm2⟩ := hm
  have g1 : ¬ (m : Int) < 1 := by omega
  have g2 : ¬ (1000000000 : Int) < m := by omega
  have g3 : IntKind.i64.wrap ((N : Int) - 1) = (N : Int) - 1 := by rw [IntKind.wrap_i64]; omega
  clear ho hk hk1 h1 h3 hN
  go_enter Tryz.func45, Tryz.ntmps45
  go_wp2_with (go_at_call 80; (with_reducible refine HO.out.mono ?_); rintro e1 w1 ⟨rfl, k⟩; have H1 := Lib.hid k; clear k)
  go_loopw [6, 7, 8] (fun v c i wr => ∃ (ps : List Nat) (cN : Nat) (vv : Value), vv = v ∧ c = .int .i64 (cN : Int) ∧ i = .int .i64 ((N : Int) - 1 - (ps.length : Int)) ∧ TimI ds m (valL ds) ps cN ∧ Own wr w.heap.size v 5 (dv ps) ∧ Below w.heap.size w wr) (fun _ c i _ => (intOf i + 1).toNat * (m + 1) + (intOf c).toNat)
  case atStart => exact ⟨[], 0, _, rfl, rfl, by simp, TimI.start H.out.1, Own.nil _ _ _, H1.out⟩
  case round =>
    obtain ⟨ps, c, v, rfl, rfl, rfl, hT, ho, hb⟩ := hrel
    have hcm : c ≤ m := hT.2.2.1
    obtain ⟨L, hL⟩ : ∃ L, ps.length = L := ⟨_, rfl⟩
    have hL18 : L ≤ 18 := hL ▸ hT.len H.out.1 H.out.2.2.2 hm1
    rw [hL]
    have HR := Lib.hid (And.intro hT (And.intro ho (And.intro hb hL)))
    by_cases hLN : L < N
    · obtain ⟨j, hj⟩ : ∃ j : Nat, j + L + 1 = N := ⟨N - 1 - L, by omega⟩
      have hjI : (N : Int) - 1 - (L : Int) = (j : Int) := by omega
      obtain ⟨d, hd⟩ : ∃ d, ds[L]? = some d := ⟨_, List.getElem?_eq_getElem (by rw [H.out.2.2.1]; exact hLN)⟩
      have hd9 : d < 10 := H.out.1.1 d (List.mem_of_getElem? hd)
      have hjs : j < s.size := by omega
      have hby := num_byte H.out.2.1 H.out.1.1 (by rw [H.out.2.2.1]; exact hj) hd hjs
      have hst := (HR.out.1).step H.out.1 hm1 (by rw [hL]; exact hd)
      have hdm : d * m ≤ 9 * m := Nat.mul_le_mul_right m (by omega)
      obtain ⟨q, hq⟩ : ∃ q, d * m = q := ⟨_, rfl⟩
      have hqI : (d : Int) * (m : Int) = (q : Int) := by rw [← hq]; simp
      rw [hq] at hst hdm
      obtain ⟨r, hr⟩ : ∃ r, c + q = r := ⟨_, rfl⟩
      obtain ⟨x, hx⟩ : ∃ x, r % 10 = x := ⟨_, rfl⟩
      obtain ⟨y, hy⟩ : ∃ y, r / 10 = y := ⟨_, rfl⟩
      rw [hr, hx, hy] at hst
      have hx10 : x < 10 := by omega
      have hrl : r ≤ 10000 := by omega
      rw [hjI]
      have gj : (0 : Int) ≤ (j : Int) := by omega
      have a0 : (48 + (d : Int) - 48) = (d : Int) := by omega
      have a2 : IntKind.i64.wrap ((d : Int) * (m : Int)) = (q : Int) := by rw [hqI, IntKind.wrap_i64]; omega
      have a3 : IntKind.i64.wrap ((c : Int) + (q : Int)) = (r : Int) := by rw [IntKind.wrap_i64]; omega
      have a4 : Int.tmod (r : Int) 10 = (x : Int) := by rw [Int.tmod_eq_emod_of_nonneg (by omega)]; omega
      have a5 : Int.tdiv (r : Int) 10 = (y : Int) := by rw [Int.tdiv_eq_ediv_of_nonneg (by omega)]; omega
      have hrm : (y : Int) + 0 ≤ 1000 := by omega
      have hlt : (j + 1) * (m + 1) + c > j * (m + 1) + y := by
        have : y ≤ m := hst.2.2.1
        rw [Nat.add_mul]; omega
      have HS := Lib.hid (And.intro hst (And.intro hb hlt))
      clear hT ho hb hL hst hd hq hjI hr hx hy hqI hlt
      have hpl : (dv ps).length < 1099511627776 := by rw [dv_len, HR.out.2.2.2]; omega
      go_wp2_with (at_builtin; refine app1 rfl (.tmp 42) (.tmp 47) 109 5 rfl i5 (.int .u8 0) 1 Tryz.underlying109 I5.out.1 I5.out.2.1 I5.out.2.2.1 I5.out.2.2.2 rfl (by omega) w.heap.size (.int .u8 ((48 + x : Nat) : Int)) _ (dv ps) rfl HR.out.2.1 rfl rfl hpl HR.out.2.2.1.size ?_; intro v9 w9 k1 k2 k3; have H9 := Lib.hid (And.intro k1 (And.intro k2 k3)); clear k1 k2 k3)
      refine ⟨⟨ps ++ [x], y, _, rfl, rfl, ?_, HS.out.1, by rw [← dv_app]; exact H9.out.1, HS.out.2.1.grown H9.out.2.1 HS.out.2.1.size (fun g e => (HR.out.2.1.block_lt e).2)⟩, ?_⟩
      · rw [List.length_append, HR.out.2.2.2]; simp; omega
      · have := HS.out.2.2
        simp only [intOf, Int.toNat_natCast]
        rw [show ((j : Int) - 1 + 1).toNat = j by omega, show ((j : Int) + 1).toNat = j + 1 by omega]
        exact this
    · obtain ⟨z, hz⟩ : ∃ z : Int, (N : Int) - 1 - (L : Int) = z := ⟨_, rfl⟩
      have hz0 : z < 0 := by omega
      have hz9 : -100 < z := by omega
      rw [hz]
      have gz : ¬ (0 : Int) ≤ z := by omega
      have hNL : ds.length ≤ ps.length := by rw [H.out.2.2.1, hL]; omega
      by_cases hc : 0 < c
      · have hst := hT.more hNL hc
        obtain ⟨x, hx⟩ : ∃ x, c % 10 = x := ⟨_, rfl⟩
        obtain ⟨y, hy⟩ : ∃ y, c / 10 = y := ⟨_, rfl⟩
        rw [hx, hy] at hst
        have hx10 : x < 10 := by omega
        have a4 : Int.tmod (c : Int) 10 = (x : Int) := by rw [Int.tmod_eq_emod_of_nonneg (by omega)]; omega
        have a5 : Int.tdiv (c : Int) 10 = (y : Int) := by rw [Int.tdiv_eq_ediv_of_nonneg (by omega)]; omega
        have hyc : y < c := by omega
        have gc : (0 : Int) < (c : Int) := by omega
        have hzI : z - 1 = (N : Int) - 1 - ((L + 1 : Nat) : Int) := by omega
        have HS := Lib.hid (And.intro hst (And.intro hb (And.intro hyc hzI)))
        clear hT ho hb hL hst hx hy hz hNL hc hzI
        have hpl : (dv ps).length < 1099511627776 := by rw [dv_len, HR.out.2.2.2]; omega
        go_wp2_with (at_builtin; refine app1 rfl (.tmp 42) (.tmp 47) 109 5 rfl i5 (.int .u8 0) 1 Tryz.underlying109 I5.out.1 I5.out.2.1 I5.out.2.2.1 I5.out.2.2.2 rfl (by omega) w.heap.size (.int .u8 ((48 + x : Nat) : Int)) _ (dv ps) rfl HR.out.2.1 rfl rfl hpl HR.out.2.2.1.size ?_; intro v9 w9 k1 k2 k3; have H9 := Lib.hid (And.intro k1 (And.intro k2 k3)); clear k1 k2 k3)
        refine ⟨⟨ps ++ [x], y, _, rfl, rfl, ?_, HS.out.1, by rw [← dv_app]; exact H9.out.1, HS.out.2.1.grown H9.out.2.1 HS.out.2.1.size (fun g e => (HR.out.2.1.block_lt e).2)⟩, ?_⟩
        · rw [List.length_append, HR.out.2.2.2, List.length_singleton, HS.out.2.2.2]
        · simp only [intOf, Int.toNat_natCast]
          rw [show (z - 1 + 1).toNat = 0 by omega, show (z + 1).toNat = 0 by omega]
          have := HS.out.2.2.1
          omega
      · obtain rfl : c = 0 := by omega
        have hD := hT.done hNL H.out.1
        have hL1 : 0 < L := by omega
        obtain ⟨g, cap, rfl, hg1, hg2, hg3, hg4⟩ := ho.form (by rw [dv_len, hL]; exact hL1)
        rw [dv_len, hL] at ho hg3
        have HS := Lib.hid (And.intro hD (And.intro ho (And.intro hb hg1)))
        have hrv := fun (W : World) (hW : Own W w.heap.size (.slice (some ⟨g, 0, none⟩) L cap) 5 (dv ps)) => rev81 (c := cap) hL (by omega) hW
        have HV := Lib.hid hrv
        have hrl : ps.reverse.length = L := by rw [List.length_reverse, hL]
        clear hT ho hb hz hNL hc hD hrv hg1 hg2
        rw [dv_len, hL]
        have gL : ¬ (200 : Int) < (L : Int) := by omega
        go_wp2_with (go_at_call 81; (with_reducible refine (HV.out _ HS.out.2.1).mono ?_); rintro e2 w2 ⟨rfl, k1, k2⟩
                     have hcv := run_convert_bytes_arg (P := Tryz.prog) w2 109 5 Tryz.underlying109 Tryz.underlying5 g 0 L cap (ps.reverse.map fun d => ((48 + d : Nat) : Int)) (by rw [List.length_map, hrl]) (fun i hi => by
                       rw [Nat.zero_add]
                       refine (k1.cell i (by rw [dv_len, hrl]; exact hi)).trans ?_
                       rw [dv_get (List.getElem?_eq_getElem (by rw [hrl]; exact hi))]
                       rw [List.getD_eq_getElem?_getD, List.getElem?_map, List.getElem?_eq_getElem (by rw [hrl]; exact hi)]
                       rfl) 32 Tryz.underlying32
                     have H2 := Lib.hid k2; clear k1 k2)
        go_ret2
        refine ⟨_, rfl, ⟨ps, HS.out.1.1, HS.out.1.2, ?_⟩, ?_⟩
        · rw [strOfNums_data, digB, ← List.map_reverse, List.map_map]; rfl
        · exact HS.out.2.2.1.grown H2.out HS.out.2.2.1.size (fun q e => by cases e; exact HS.out.2.2.2)
end Go.Proofs.YtbejhkojdiadaaaGreatDoor
namespace Go.Proofs.YtbejhkojdiadaaaGreatDoor
open Go.RowKit
def sB (bs : List Nat) : ByteArray := ⟨(digB bs).toArray⟩
theorem sB_size (bs : List Nat) : (sB bs).size = bs.length := by simp [sB, ByteArray.size, digB]
end Go.Proofs.YtbejhkojdiadaaaGreatDoor
namespace Go.Proofs.YtbejhkojdiadaaaGreatDoor
open Go.RowKit
theorem sB_get {bs : List Nat} (hb : ∀ d ∈ bs, d < 10) {j d : Nat} (h : bs[j]? = some d) (hj : j < (sB bs).size) : ((sB bs)[j]'hj).toNat = 48 + d := by
  have h1 : (digB bs)[j]? = some (UInt8.ofNat (48 + d)) := by simp [digB, List.getElem?_map, h]
  have h2 : (sB bs).data[j]? = some (UInt8.ofNat (48 + d)) := by simpa [sB] using h1
  obtain ⟨h3, h4⟩ := Array.getElem?_eq_some_iff.1 h2
  have h5 : (sB bs)[j]'hj = UInt8.ofNat (48 + d) := h4
  have hd := hb d (List.mem_of_getElem? h)
  rw [h5, UInt8.toNat_ofNat']
  omega
theorem sB_tail {d : Nat} {bs : List Nat} : (sB (d :: bs)).extract 1 (sB (d :: bs)).size = sB bs := by
  ext1
  simp [sB, digB, ByteArray.size]
  rw [List.take_of_length_le (by simp)]
set_option maxRecDepth 100000 in
set_option maxHeartbeats 2000000 in
theorem trim116 {w : World} {bs : List Nat} (hb : ∀ d ∈ bs, d < 10) (hl : bs.length ≤ 1000) : Calls Tryz.prog 116 #[.string (sB bs), .int .u8 48] w fun e w' => e = .returned (.string (sB (bs.dropWhile (· == 0)))) ∧ Below w.heap.size w w' := by
  have H0 := Lib.hid hb
  clear hb
  go_enter Tryz.func116, Tryz.ntmps116
  go_wp2
  go_loopw [0] (fun s wr => ∃ k : Nat, k ≤ bs.length ∧ s = .string (sB (bs.drop k)) ∧ (bs.drop k).dropWhile (· == 0) = bs.dropWhile (· == 0) ∧ Below w.heap.size w wr) (fun s _ => match s with | .string t => t.size | _ => 0)
  case atStart => exact ⟨0, Nat.zero_le _, rfl, rfl, Below.refl _ _⟩
  case round =>
    obtain ⟨k, hk, rfl, hd, hb⟩ := hrel
    cases hc : bs.drop k with
    | nil =>
      rw [hc] at hd
      have hsz : (sB ([] : List Nat)).size = 0 := rfl
      obtain ⟨S, hS⟩ : ∃ S, sB ([] : List Nat) = S := ⟨_, rfl⟩
      rw [hS] at hsz ⊢
      have HS := Lib.hid (And.intro hS (And.intro hd hb))
      clear hS hd hb hc
      go_wp2
      go_ret
      exact ⟨by show Ending.returned (.string S) = _; rw [← HS.out.1, ← HS.out.2.1]; rfl, HS.out.2.2⟩
    | cons d r =>
      have hkl : k < bs.length := by
        rcases Nat.lt_or_ge k bs.length with h | h
        · exact h
        · rw [List.drop_eq_nil_of_le h] at hc; cases hc
      have hr : bs.drop (k + 1) = r := by rw [← List.drop_drop, hc]; rfl
      rw [hc] at hd
      have hsz : (sB (d :: r)).size = r.length + 1 := by rw [sB_size]; rfl
      have hrl : r.length ≤ 1000 := by rw [← hr, List.length_drop]; omega
      have hrb : ∀ x ∈ d :: r, x < 10 := fun x hx => H0.out x (List.mem_of_mem_drop (hc ▸ hx))
      have htl := sB_tail (d := d) (bs := r)
      rw [hsz] at htl
      obtain ⟨S, hS⟩ : ∃ S, sB (d :: r) = S := ⟨_, rfl⟩
      obtain ⟨R, hR⟩ : ∃ R, r.length = R := ⟨_, rfl⟩
      rw [hR] at hsz hrl htl
      simp only [hS] at hsz htl ⊢
      have h0 : 0 < S.size := by omega
      have hby : (S[0]'h0).toNat = 48 + d := by subst hS; exact sB_get hrb rfl h0
      have HS := Lib.hid (And.intro hS (And.intro hd (And.intro hb (And.intro hr (And.intro htl hR)))))
      clear hd hb hc hr hR htl
      by_cases hd0 : d = 0
      · subst hd0
        clear hS
        go_wp2
        refine ⟨⟨k + 1, hkl, ?_, ?_, HS.out.2.2.1⟩, ?_⟩
        · rw [HS.out.2.2.2.1]; exact congrArg _ HS.out.2.2.2.2.1
        · rw [HS.out.2.2.2.1, ← HS.out.2.1]; rfl
        · show (S.extract 1 (R + 1)).size < S.size
          rw [HS.out.2.2.2.2.1, hsz, sB_size, HS.out.2.2.2.2.2]
          omega
      · have hne : ((((48 + d : Nat) : Nat) : Int) == 48) = false := by simp; omega
        clear hS
        go_wp2
        go_ret
        exact ⟨by show Ending.returned (.string S) = _; rw [← HS.out.1, ← HS.out.2.1, List.dropWhile_cons_of_neg (by simpa using hd0)], HS.out.2.2.1⟩
theorem toList_loop (s : ByteArray) : ∀ (f i : Nat) (r : List UInt8), s.size - i = f → (ByteArray.toList.loop s i r).length = f + r.length
  | 0, i, r, h => by rw [ByteArray.toList.loop, if_neg (by omega)]; simp
  | f + 1, i, r, h => by rw [ByteArray.toList.loop, if_pos (by omega), toList_loop s f (i + 1) _ (by omega)]; simp; omega
theorem toList_ne {s : ByteArray} (h : 0 < s.size) : s.toList.isEmpty = false := by
  have h1 := toList_loop s (s.size - 0) 0 [] rfl
  cases e : s.toList with
  | nil => rw [ByteArray.toList] at e; rw [e] at h1; simp at h1; omega
  | cons a l => rfl
set_option maxRecDepth 100000 in
set_option maxHeartbeats 2000000 in
theorem trim82 {w : World} {bs : List Nat} (hb : ∀ d ∈ bs, d < 10) (hl : bs.length ≤ 1000) (hp : 0 < bs.length) : Calls Tryz.prog 82 #[.string (sB bs), .string ⟨#[48]⟩] w fun e w' => e = .returned (.string (sB (bs.dropWhile (· == 0)))) ∧ Below w.heap.size w w' := by
  have ht := trim116 (w := w) hb hl
  have hsz := sB_size bs
  have hne : ¬ sB bs = (⟨#[]⟩ : ByteArray) := by
    intro e
    rw [e] at hsz
    simp [ByteArray.size] at hsz
    omega
  obtain ⟨S, hS⟩ : ∃ S, sB bs = S := ⟨_, rfl⟩
  obtain ⟨R, hR⟩ : ∃ R, sB (bs.dropWhile (· == 0)) = R := ⟨_, rfl⟩
  obtain ⟨N, hN⟩ : ∃ N, bs.length = N := ⟨_, rfl⟩
  rw [hS] at hsz hne ⊢
  have h128 : ((({ data := #[48] } : ByteArray)[0].toNat : Nat) : Int) < 128 := by decide
  have hne2 : S.toList.isEmpty = false := toList_ne (by omega)
  rw [hS, hR] at ht
  rw [hN] at hsz hp
  have HT := Lib.hid ht
  rw [hR]
  clear ht hS hR hN hl hb
  go_enter Tryz.func82, Tryz.ntmps82
  go_wp2_with (go_at_call 116; refine HT.out.mono ?_; rintro e1 w1 ⟨rfl, k⟩; have H1 := Lib.hid k; clear k)
  go_ret
  exact ⟨rfl, H1.out⟩
set_option maxRecDepth 100000 in
set_option maxHeartbeats 4000000 in
theorem ratio46a {w : World} {s : ByteArray} {ds : List Nat} {m : Nat} (h1 : IsD ds) (h3 : s.data.toList = digB ds.reverse) (hm : 1 ≤ m ∧ m ≤ 1000) (hk : valL ds < 10 ^ 18) (hdv : m ∣ valL ds) :
    Calls Tryz.prog 46 #[.string s, .int .i64 (m : Int)] w fun e w' => ∃ t, e = .returned (.tuple #[.string t, .int .i64 0]) ∧ IsNum t (valL ds / m) ∧ Below w.heap.size w w' := by
  obtain ⟨i5, hi5, hz5, hs5, hb5⟩ := info_parts Tryz.info5
  have I5 := Lib.hid (And.intro hi5 (And.intro hz5 (And.intro hs5 hb5)))
  clear hi5 hz5 hs5 hb5
  have ho := order80 (w := w) ⟨ds, h1, rfl, h3⟩ hk
  have hs := num_size h3
  have hl := h1.len hk
  have hpos : 0 < ds.length := List.length_pos_iff.2 h1.2.1
  obtain ⟨N, hN⟩ : ∃ N, ds.length = N := ⟨_, rfl⟩
  rw [hN] at hs hl hpos
  have hvp := h1.pos
  have hbd : ∀ d ∈ ds.reverse, d < 10 := fun d hd => h1.1 d (List.mem_reverse.1 hd)
  have hby : ∀ j, j < N → ∃ d, ds.reverse[j]? = some d ∧ d < 10 ∧ (bytesOf s)[j]?.getD 0 = 48 + d := fun j hj => by
    have hjl : j < ds.reverse.length := by rw [List.length_reverse, hN]; exact hj
    exact ⟨ds.reverse[j], List.getElem?_eq_getElem hjl, hbd _ (List.getElem_mem hjl), IsNum.byte h3 h1.1 (List.getElem?_eq_getElem hjl)⟩
  have hvB : valB ds.reverse = valL ds := by rw [← valB_rev, List.reverse_reverse]
  have hbl : ds.reverse.length = N := by rw [List.length_reverse, hN]
  obtain ⟨bs, hbs⟩ : ∃ bs, ds.reverse = bs := ⟨_, rfl⟩
  rw [hbs] at hby hvB hbl hbd
  rw [← hvB] at hdv hvp ⊢
  have HO := Lib.hid ho
  have H := Lib.hid (And.intro hby (And.intro hdv (And.intro hvp (And.intro hbl hbd))))
  obtain ⟨hm1, hm2⟩ := hm
  have g0 : ((m : Int) == 0) = false := by simp; omega
  have g1 : ¬ (m : Int) < 0 := by omega
  have g2 : ¬ (1000000000 : Int) < m := by omega
  have HB := Lib.hid (fun w1 => bytes_of 32 Tryz.underlying32 w1 s)
  clear ho hk h1 h3 hN hbs hvB hvp hdv hby hbl hbd
  go_enter Tryz.func46, Tryz.ntmps46
  go_wp2_with (go_at_call 80; (with_reducible refine HO.out.mono ?_); rintro e1 w1 ⟨rfl, k⟩
               obtain ⟨W1, cap, hcv, hcap, hce, hbW⟩ := HB.out w1
               rw [hs] at hcv hce hcap
               obtain ⟨X, hX⟩ : ∃ X, w1.heap.size = X := ⟨_, rfl⟩
               rw [hX] at hcv hce hbW
               have hXw : w.heap.size ≤ X := by rw [← hX]; exact k.size
               have H1 := Lib.hid (And.intro (k.trans (hbW.mono hXw)) (And.intro hce hbW)); clear k hce hbW)
  go_loopw [6, 7, 27] (fun v c i wr => ∃ (j r : Nat) (qs : List Nat) (vv : Value), vv = v ∧ c = .int .i64 (r : Int) ∧ i = .int .i64 (j : Int) ∧ j ≤ N ∧ qs.length = j ∧ RatI bs m j qs r ∧ Own wr (X + 1) v 5 (dv qs) ∧ Below (X + 1) W1 wr) (fun _ _ i _ => N - (intOf i).toNat)
  case atStart => exact ⟨0, 0, [], _, rfl, rfl, rfl, by omega, rfl, RatI.start hm1, Own.nil _ _ _, Below.refl _ _⟩
  case round =>
    obtain ⟨j, r, qs, v, rfl, rfl, rfl, hj, hql, hR, ho, hb⟩ := hrel
    by_cases hjn : j < N
    · obtain ⟨d, hd, hd10, hbt⟩ := H.out.1 j hjn
      have c1 := (hb.cell (p := ⟨X, j, none⟩) (show X < X + 1 by omega)).trans (H1.out.2.1 j hjn)
      rw [hbt] at c1
      have hrm : r < m := hR.2.2
      obtain ⟨hst, hq10⟩ := hR.step hd hd10
      obtain ⟨u, hu⟩ : ∃ u, 10 * r + d = u := ⟨_, rfl⟩
      obtain ⟨x, hx⟩ : ∃ x, u / m = x := ⟨_, rfl⟩
      obtain ⟨y, hy⟩ : ∃ y, u % m = y := ⟨_, rfl⟩
      rw [hu, hx, hy] at hst
      rw [hu, hx] at hq10
      have hu9 : u ≤ 100000 := by omega
      have a0 : (48 + (d : Int) - 48) = (d : Int) := by omega
      have a3 : IntKind.i64.wrap (10 * (r : Int) + (d : Int)) = (u : Int) := by rw [IntKind.wrap_i64]; omega
      have a4 : Int.tdiv (u : Int) (m : Int) = (x : Int) := by rw [Int.tdiv_eq_ediv_of_nonneg (by omega), ← hx]; rfl
      have a5 : Int.tmod (u : Int) (m : Int) = (y : Int) := by rw [Int.tmod_eq_emod_of_nonneg (by omega), ← hy]; rfl
      have HS := Lib.hid (And.intro hst (And.intro hb (And.intro ho hql)))
      have hym : y < m := hst.2.2
      have hpl : (dv qs).length < 1099511627776 := by rw [dv_len, hql]; omega
      have hj0 : (j : Int) < (N : Int) := by omega
      have hXr : X + 1 ≤ wr.heap.size := Nat.le_trans (block_lt_of_cell (H1.out.2.1 0 hpos)) hb.size
      clear hst hb ho hql hR hd hbt hu hx hy
      go_wp2_with (at_builtin; refine app1 rfl (.tmp 37) (.tmp 43) 109 5 rfl i5 (.int .u8 0) 1 Tryz.underlying109 I5.out.1 I5.out.2.1 I5.out.2.2.1 I5.out.2.2.2 rfl (by omega) (X + 1) (.int .u8 ((48 + x : Nat) : Int)) _ (dv qs) rfl HS.out.2.2.1 rfl rfl hpl hXr ?_; intro v9 w9 k1 k2 k3; have H9 := Lib.hid (And.intro k1 (And.intro k2 k3)); clear k1 k2 k3)
      exact ⟨⟨j + 1, y, qs ++ [x], _, rfl, rfl, by go_num, by omega, by rw [List.length_append, HS.out.2.2.2]; rfl, HS.out.1, by rw [← dv_app]; exact H9.out.1, HS.out.2.1.grown H9.out.2.1 hXr (fun g e => (HS.out.2.2.1.block_lt e).2)⟩, by simp [intOf]; omega⟩
    · obtain rfl : j = N := by omega
      rw [← H.out.2.2.2.1] at hR
      obtain ⟨rfl, hv⟩ := hR.done H.out.2.1
      have hqd := hR.1
      have hqp : 0 < valB qs := by rw [hv]; exact Nat.div_pos (Nat.le_of_dvd H.out.2.2.1 H.out.2.1) (by omega)
      have hql' : qs.length = bs.length := hql.trans H.out.2.2.2.1.symm
      obtain ⟨L, hL⟩ : ∃ L, qs.length = L := ⟨_, rfl⟩
      have hL0 : 0 < L := by omega
      obtain ⟨g, cap, rfl, hg1, hg2, hg3, hg4⟩ := ho.form (by rw [dv_len, hL]; exact hL0)
      rw [dv_len, hL] at ho hg3
      have hcv2 := run_convert_bytes_arg (P := Tryz.prog) wr 109 5 Tryz.underlying109 Tryz.underlying5 g 0 L cap (qs.map fun d => ((48 + d : Nat) : Int)) (by rw [List.length_map, hL]) (fun i hi => by
        rw [Nat.zero_add]
        refine (ho.cell i (by rw [dv_len, hL]; exact hi)).trans ?_
        rw [dv_get (List.getElem?_eq_getElem (by rw [hL]; exact hi))]
        rw [List.getD_eq_getElem?_getD, List.getElem?_map, List.getElem?_eq_getElem (by rw [hL]; exact hi)]
        rfl) 9 Tryz.underlying9
      have hsn : strOfNums (qs.map fun d => ((48 + d : Nat) : Int)) = sB qs := by
        simp only [strOfNums, sB, digB, List.map_map]
        rfl
      rw [hsn] at hcv2
      have HT := Lib.hid (fun w2 => trim82 (w := w2) hqd (by omega) (by omega : 0 < qs.length))
      have HS := Lib.hid (And.intro (isD_drop hqd hqp) (And.intro (valB_drop qs) (And.intro hv hb)))
      obtain ⟨S, hS⟩ : ∃ S, sB qs = S := ⟨_, rfl⟩
      rw [hS] at hcv2 HT
      rw [dv_len, hL]
      clear ho hb hR hv hqd hqp hql hql' hS hsn
      go_wp2_with (go_at_call 82; (with_reducible refine (HT.out _).mono ?_); rintro e2 w2 ⟨rfl, k⟩; have H2 := Lib.hid k; clear k)
      go_ret2
      refine ⟨_, rfl, ⟨_, HS.out.1, ?_, ?_⟩, ?_⟩
      · rw [valB_rev, HS.out.2.1, HS.out.2.2.1]
      · rw [List.reverse_reverse]; rfl
      · have hb := HS.out.2.2.2
        have h9 : W1.heap.size ≤ wr.heap.size := hb.size
        exact (H1.out.1.trans (hb.mono (Nat.le_trans hXw (Nat.le_succ X)))).trans (H2.out.mono (Nat.le_trans (H1.out.1.size) h9))
end Go.Proofs.YtbejhkojdiadaaaGreatDoor
namespace Go.Proofs.YtbejhkojdiadaaaGreatDoor
open Go.RowKit Go.Shelf PlainPm
section
variable {w : World} {s : ByteArray} {k m : Nat}
theorem times45 (h : IsNum s k) (hm : 1 ≤ m ∧ m ≤ 1000) (hk : k * m < 10 ^ 18) : Calls Tryz.prog 45 #[.string s, .int .i64 (m : Int)] w fun e w' => ∃ t, e = .returned (.tuple #[.string t, .int .i64 0]) ∧ IsNum t (k * m) ∧ Below w.heap.size w w' := by
  obtain ⟨ds, h1, rfl, h3⟩ := h
  exact times45a h1 h3 hm hk
theorem ratio46 (h : IsNum s k) (hm : 1 ≤ m ∧ m ≤ 1000) (hk : k < 10 ^ 18) (hd : m ∣ k) : Calls Tryz.prog 46 #[.string s, .int .i64 (m : Int)] w fun e w' => ∃ t, e = .returned (.tuple #[.string t, .int .i64 0]) ∧ IsNum t (k / m) ∧ Below w.heap.size w w' := by
  obtain ⟨ds, h1, rfl, h3⟩ := h
  exact ratio46a h1 h3 hm hk hd
end
theorem isNum_one : IsNum ⟨#[49]⟩ 1 := ⟨[1], ⟨by simp, by simp, by simp⟩, rfl, rfl⟩
section
variable {n : Nat} {G G2 : Pm n → Prop} {O O2 : Nat → List Nat} {R R2 : Nat → Nat → Pm n}
theorem prodL_le (h : ChG G O R) (hn : n ≤ 8) : ∀ k, k ≤ n → prodL O k ≤ 8 ^ k
  | 0, _ => by simp [prodL]
  | k + 1, hk => by
    rw [prodL, Nat.pow_succ]
    exact Nat.mul_le_mul (prodL_le h hn k (by omega)) (Nat.le_trans (h.short (by omega)) hn)
theorem prodL_lt (h : ChG G O R) (hn : n ≤ 8) {k : Nat} (hk : k ≤ n) : prodL O k < 10 ^ 18 := by
  have h1 := prodL_le h hn k hk
  have h2 : 8 ^ k ≤ 8 ^ 8 := Nat.pow_le_pow_right (by omega) (by omega)
  omega
theorem prodL_mul_lt (h : ChG G O R) (hn : n ≤ 8) {k : Nat} (hk : k < n) : prodL O k * (O k).length < 10 ^ 18 := prodL_lt h hn (k := k + 1) (by omega)
theorem quo_next (h : ChG G O R) (h2 : ChG G2 O2 R2) (hs : ∀ x, G x → G2 x) {k : Nat} (hk : k < n) : (O k).length ∣ prodL O2 n / prodL O k ∧ prodL O2 n / prodL O k / (O k).length = prodL O2 n / prodL O (k + 1) := by
  have h3 : prodL O k * (O k).length ∣ prodL O2 n := Nat.dvd_trans (prodL_dvd hk) (by rw [prodL_all, prodL_all]; exact (sz_dvd h h2 hs).1)
  have h4 := prodL_pos h k (by omega)
  refine ⟨?_, by rw [Nat.div_div_eq_div_mul, prodL]⟩
  obtain ⟨t, ht⟩ := h3
  exact ⟨t, by rw [ht, Nat.mul_assoc, Nat.mul_div_cancel_left _ h4]⟩
theorem sz_uniq {O' : Nat → List Nat} {R' : Nat → Nat → Pm n} (h : ChG G O R) (h' : ChG G O' R') : szF O n 0 = szF O' n 0 := by
  rw [← els_len h (y := PlainPm.one n) (by omega), ← els_len h' (y := PlainPm.one n) (by omega)]
  exact Nat.le_antisymm (sub_len (els_nodup h) fun x hx => (mem_all h').2 ((mem_all h).1 hx)) (sub_len (els_nodup h') fun x hx => (mem_all h).2 ((mem_all h').1 hx))
end
set_option maxRecDepth 100000 in
set_option maxHeartbeats 2000000 in
theorem part44y {n : Nat} (hn : 0 < n ∧ n ≤ 64) {w : World} {v1 v2 : Value} {G1 G2 : Pm n → Prop} (hG1 : IsG G1) (hG2 : IsG G2) (h1 : GrG w v1 G1) (h2 : GrG w v2 G2) (hs : ∀ x, G1 x → G2 x) :
    Calls Tryz.prog 44 #[v1, v2] w fun r w' => r = .returned (.int .i64 0) ∧ Below w.heap.size w w' := by
  have hbl := fun (V : World) (hV : Below w.heap.size w V) => below79 hn hG1 hG2 (h1.below hV) (h2.below hV)
  obtain ⟨T, t, ab, ao, c, bb, bo, e, hv1, hl1⟩ := h1.lev hG1 ⟨hn.1, hn.2⟩
  obtain ⟨T', t', ab', ao', c', bb', bo', e', hv2, hl2⟩ := h2.lev hG2 ⟨hn.1, hn.2⟩
  subst hv1 hv2
  obtain ⟨X, hX⟩ : ∃ X, w.heap.size = X := ⟨_, rfl⟩
  obtain ⟨W0, hW0⟩ : ∃ W0, ((w.alloc (.cells #[.int .i64 (n : Int), .slice (some ⟨ab, ao, none⟩) n c, .slice (some ⟨bb, bo, none⟩) n e] 25)).alloc (.cells #[.int .i64 (n : Int), .slice (some ⟨ab', ao', none⟩) n c', .slice (some ⟨bb', bo', none⟩) n e'] 25)) = W0 := ⟨_, rfl⟩
  have hF : Below w.heap.size w W0 ∧ W0.heap[X]? = some (.cells #[.int .i64 (n : Int), .slice (some ⟨ab, ao, none⟩) n c, .slice (some ⟨bb, bo, none⟩) n e] 25) ∧ W0.heap[X + 1]? = some (.cells #[.int .i64 (n : Int), .slice (some ⟨ab', ao', none⟩) n c', .slice (some ⟨bb', bo', none⟩) n e'] 25) := by
    refine ⟨?_, ?_, ?_⟩
    · rw [← hW0]; exact alloc_b (alloc_b (Below.refl _ _) _) _
    · rw [← hW0, ← hX]; exact ((alloc_b (Below.refl _ _) _).block _ (by simp)).trans (box_al25 rfl _ _ _)
    · rw [← hW0]; exact box_al25 (by simp [hX]) _ _ _
  obtain ⟨q0, q1, q2, _⟩ := box_cells hF.2.1
  obtain ⟨p0, p1, p2, _⟩ := box_cells hF.2.2
  have hx6 := And.intro (And.intro q0 (And.intro q1 q2)) (And.intro (And.intro p0 (And.intro p1 p2)) (Below.refl W0.heap.size W0))
  have hwW := hF.1
  have H := Lib.hid (And.intro hbl hs)
  clear hbl hs h1 h2 hl1 hl2 hF
  unfold cv at H ⊢
  go_enter Tryz.func44, Tryz.ntmps44
  go_wp2_with (go_at_call 79; (with_reducible refine (H.out.1 _ hwW).mono ?_); rintro e1 w1 ⟨b, rfl, hb, k⟩; obtain rfl : b = true := by exact hb.2 H.out.2
               have H1 := Lib.hid k; clear k hb)
  go_ret
  exact ⟨rfl, below_trans hwW H1.out⟩
set_option maxRecDepth 100000 in
set_option maxHeartbeats 2000000 in
theorem part44n {n : Nat} (hn : 0 < n ∧ n ≤ 64) {w : World} {v1 v2 : Value} {G1 G2 : Pm n → Prop} (hG1 : IsG G1) (hG2 : IsG G2) (h1 : GrG w v1 G1) (h2 : GrG w v2 G2) (hs : ¬ ∀ x, G1 x → G2 x) :
    Calls Tryz.prog 44 #[v1, v2] w fun r w' => r = .returned (.int .i64 18) ∧ Below w.heap.size w w' := by
  have hbl := fun (V : World) (hV : Below w.heap.size w V) => below79 hn hG1 hG2 (h1.below hV) (h2.below hV)
  obtain ⟨T, t, ab, ao, c, bb, bo, e, hv1, hl1⟩ := h1.lev hG1 ⟨hn.1, hn.2⟩
  obtain ⟨T', t', ab', ao', c', bb', bo', e', hv2, hl2⟩ := h2.lev hG2 ⟨hn.1, hn.2⟩
  subst hv1 hv2
  obtain ⟨X, hX⟩ : ∃ X, w.heap.size = X := ⟨_, rfl⟩
  obtain ⟨W0, hW0⟩ : ∃ W0, ((w.alloc (.cells #[.int .i64 (n : Int), .slice (some ⟨ab, ao, none⟩) n c, .slice (some ⟨bb, bo, none⟩) n e] 25)).alloc (.cells #[.int .i64 (n : Int), .slice (some ⟨ab', ao', none⟩) n c', .slice (some ⟨bb', bo', none⟩) n e'] 25)) = W0 := ⟨_, rfl⟩
  have hF : Below w.heap.size w W0 ∧ W0.heap[X]? = some (.cells #[.int .i64 (n : Int), .slice (some ⟨ab, ao, none⟩) n c, .slice (some ⟨bb, bo, none⟩) n e] 25) ∧ W0.heap[X + 1]? = some (.cells #[.int .i64 (n : Int), .slice (some ⟨ab', ao', none⟩) n c', .slice (some ⟨bb', bo', none⟩) n e'] 25) := by
    refine ⟨?_, ?_, ?_⟩
    · rw [← hW0]; exact alloc_b (alloc_b (Below.refl _ _) _) _
    · rw [← hW0, ← hX]; exact ((alloc_b (Below.refl _ _) _).block _ (by simp)).trans (box_al25 rfl _ _ _)
    · rw [← hW0]; exact box_al25 (by simp [hX]) _ _ _
  obtain ⟨q0, q1, q2, _⟩ := box_cells hF.2.1
  obtain ⟨p0, p1, p2, _⟩ := box_cells hF.2.2
  have hx6 := And.intro (And.intro q0 (And.intro q1 q2)) (And.intro (And.intro p0 (And.intro p1 p2)) (Below.refl W0.heap.size W0))
  have hwW := hF.1
  have H := Lib.hid (And.intro hbl hs)
  clear hbl hs h1 h2 hl1 hl2 hF
  unfold cv at H ⊢
  go_enter Tryz.func44, Tryz.ntmps44
  go_wp2_with (go_at_call 79; (with_reducible refine (H.out.1 _ hwW).mono ?_); rintro e1 w1 ⟨b, rfl, hb, k⟩; obtain rfl : b = false := by cases b; rfl; exact absurd (hb.1 rfl) H.out.2
               have H1 := Lib.hid k; clear k hb)
  go_ret
  exact ⟨rfl, below_trans hwW H1.out⟩
set_option maxRecDepth 100000 in
set_option maxHeartbeats 4000000 in
theorem index12y {n : Nat} (hn' : 0 < n ∧ n ≤ 8) {w : World} {v1 v2 : Value} {G1 G2 : Pm n → Prop} (hG1 : IsG G1) (hG2 : IsG G2) (h1 : GrG w v1 G1) (h2 : GrG w v2 G2) (hs : ∀ x, G1 x → G2 x) :
    Calls Tryz.prog 12 #[v1, v2] w fun r w' => ∃ t, r = .returned (.tuple #[.string t, .int .i64 0]) ∧ (∀ O1 R1 O2 R2, ChG G1 O1 R1 → ChG G2 O2 R2 → IsNum t (szF O2 n 0 / szF O1 n 0)) ∧ Below w.heap.size w w' := by
  have hn : 0 < n ∧ n ≤ 64 := ⟨hn'.1, by omega⟩
  have hbl := fun (V : World) (hV : Below w.heap.size w V) => part44y hn hG1 hG2 (h1.below hV) (h2.below hV) hs
  obtain ⟨T, t, ab, ao, c, bb, bo, e, hv1, hl1⟩ := h1.lev hG1 ⟨hn.1, hn.2⟩
  obtain ⟨T', t', ab', ao', c', bb', bo', e', hv2, hl2⟩ := h2.lev hG2 ⟨hn.1, hn.2⟩
  subst hv1 hv2
  obtain ⟨X, hX⟩ : ∃ X, w.heap.size = X := ⟨_, rfl⟩
  obtain ⟨W0, hW0⟩ : ∃ W0, ((w.alloc (.cells #[.int .i64 (n : Int), .slice (some ⟨ab, ao, none⟩) n c, .slice (some ⟨bb, bo, none⟩) n e] 25)).alloc (.cells #[.int .i64 (n : Int), .slice (some ⟨ab', ao', none⟩) n c', .slice (some ⟨bb', bo', none⟩) n e'] 25)) = W0 := ⟨_, rfl⟩
  have hF : Below w.heap.size w W0 ∧ W0.heap[X]? = some (.cells #[.int .i64 (n : Int), .slice (some ⟨ab, ao, none⟩) n c, .slice (some ⟨bb, bo, none⟩) n e] 25) ∧ W0.heap[X + 1]? = some (.cells #[.int .i64 (n : Int), .slice (some ⟨ab', ao', none⟩) n c', .slice (some ⟨bb', bo', none⟩) n e'] 25) := by
    refine ⟨?_, ?_, ?_⟩
    · rw [← hW0]; exact alloc_b (alloc_b (Below.refl _ _) _) _
    · rw [← hW0, ← hX]; exact ((alloc_b (Below.refl _ _) _).block _ (by simp)).trans (box_al25 rfl _ _ _)
    · rw [← hW0]; exact box_al25 (by simp [hX]) _ _ _
  obtain ⟨q0, q1, q2, _⟩ := box_cells hF.2.1
  obtain ⟨p0, p1, p2, _⟩ := box_cells hF.2.2
  have hx6 := And.intro (And.intro q0 (And.intro q1 q2)) (And.intro (And.intro p0 (And.intro p1 p2)) (Below.refl W0.heap.size W0))
  have hwW := hF.1
  have hc1 := t.chG hG1
  have hc2 := t'.chG hG2
  have H := Lib.hid (And.intro hbl (And.intro hs (And.intro hl1 (And.intro hl2 (And.intro hc1 hc2)))))
  clear hbl hs h1 h2 hl1 hl2 hF hc1 hc2
  unfold cv at H ⊢
  go_enter Tryz.func12, Tryz.ntmps12
  go_wp2_with (go_at_call 44; (with_reducible refine (H.out.1 _ hwW).mono ?_); rintro e1 w1 ⟨rfl, k⟩
               obtain ⟨⟨j0, j1, j2⟩, ⟨j3, j4, j5⟩, bj⟩ := keepBB hx6 k
               have H1 := Lib.hid bj; clear k bj)
  clear q0 q1 q2 p0 p1 p2 j0 j1 j2 j3 j4 j5
  go_loopw [7, 21] (fun tt ii wr => ∃ (k : Nat) (s : ByteArray), k ≤ n ∧ tt = .string s ∧ ii = .int .i64 (k : Int) ∧ IsNum s (prodL (fun i => ptsOf n (T' i).orb) k) ∧ Below W0.heap.size W0 wr) (fun _ ii _ => n - (intOf ii).toNat)
  case atStart => exact ⟨0, _, by omega, rfl, rfl, isNum_one, H1.out⟩
  case round =>
    obtain ⟨k, s, hk, rfl, rfl, hN, hb⟩ := hrel
    obtain ⟨⟨j0, j1, j2⟩, ⟨j3, j4, j5⟩, bj⟩ := keepBB hx6 hb
    by_cases hkn : k < n
    · have hbw := below_trans hwW hb
      obtain ⟨go, oo, oc, gr, ro, rc, y1, _, _⟩ := H.out.2.2.2.1.at_ hbw hkn
      have hL1 := H.out.2.2.2.2.2.pos hkn
      have hL2 := H.out.2.2.2.2.2.short hkn
      have hpl := prodL_mul_lt H.out.2.2.2.2.2 hn'.2 hkn
      obtain ⟨L, hL⟩ : ∃ L, (orbO T' k).length = L := ⟨_, rfl⟩
      rw [hL] at y1
      rw [show (ptsOf n (T' k).orb).length = L from hL] at hL1 hL2 hpl
      have hcl := fun (V : World) => times45 (w := V) hN ⟨hL1, by omega⟩ hpl
      have hkI : (k : Int) < (n : Int) := by omega
      have HK := Lib.hid (And.intro hcl (And.intro hb hL))
      clear hcl hb hN hL hpl bj
      go_wp2_with (go_at_call 45; (refine (HK.out.1 _).mono ?_); rintro e5 w5 ⟨t5, rfl, k5, k⟩; have H5 := Lib.hid (And.intro k5 k); clear k5 k)
      exact ⟨⟨k + 1, _, by omega, rfl, by go_num, by rw [prodL, show (ptsOf n (T' k).orb).length = L from HK.out.2.2]; exact H5.out.1, below_trans HK.out.2.1 H5.out.2⟩, by simp [intOf]; omega⟩
    · obtain rfl : n = k := by omega
      have HK1 := Lib.hid (And.intro hN hb)
      clear hN hb bj
      go_wp2_with fail
      go_loopw [7, 36] (fun tt ii wr => ∃ (k : Nat) (s : ByteArray), k ≤ n ∧ tt = .string s ∧ ii = .int .i64 (k : Int) ∧ IsNum s (prodL (fun i => ptsOf n (T' i).orb) n / prodL (fun i => ptsOf n (T i).orb) k) ∧ Below W0.heap.size W0 wr) (fun _ ii _ => n - (intOf ii).toNat)
      case atStart => exact ⟨0, _, by omega, rfl, rfl, by rw [prodL, Nat.div_one]; exact HK1.out.1, HK1.out.2⟩
      case round =>
        obtain ⟨k, s, hk, rfl, rfl, hN, hb⟩ := hrel
        obtain ⟨⟨j0, j1, j2⟩, ⟨j3, j4, j5⟩, bj⟩ := keepBB hx6 hb
        by_cases hkn : k < n
        · have hbw := below_trans hwW hb
          obtain ⟨go, oo, oc, gr, ro, rc, y1, _, _⟩ := H.out.2.2.1.at_ hbw hkn
          have hL1 := H.out.2.2.2.2.1.pos hkn
          have hL2 := H.out.2.2.2.2.1.short hkn
          have hpl := quo_next H.out.2.2.2.2.1 H.out.2.2.2.2.2 H.out.2.1 hkn
          obtain ⟨L, hL⟩ : ∃ L, (orbO T k).length = L := ⟨_, rfl⟩
          rw [hL] at y1
          rw [show (ptsOf n (T k).orb).length = L from hL] at hL1 hL2 hpl
          have hcl := fun (V : World) => ratio46 (w := V) hN ⟨hL1, by omega⟩ (Nat.lt_of_le_of_lt (Nat.div_le_self _ _) (prodL_lt H.out.2.2.2.2.2 hn'.2 (Nat.le_refl _))) hpl.1
          have hkI : (k : Int) < (n : Int) := by omega
          have HK := Lib.hid (And.intro hcl (And.intro hb (And.intro hL hpl.2)))
          clear hcl hb hN hL hpl bj
          go_wp2_with (go_at_call 46; (refine (HK.out.1 _).mono ?_); rintro e5 w5 ⟨t5, rfl, k5, k⟩; have H5 := Lib.hid (And.intro k5 k); clear k5 k)
          exact ⟨⟨k + 1, _, by omega, rfl, by go_num, by rw [← HK.out.2.2.2]; exact H5.out.1, below_trans HK.out.2.1 H5.out.2⟩, by simp [intOf]; omega⟩
        · obtain rfl : n = k := by omega
          have HK2 := Lib.hid (And.intro hN hb)
          clear hN hb bj
          go_wp2_with fail
          go_ret2
          refine ⟨_, rfl, fun O1 R1 O2 R2 k1 k2 => ?_, below_trans hwW HK2.out.2⟩
          rw [sz_uniq k2 H.out.2.2.2.2.2, sz_uniq k1 H.out.2.2.2.2.1, ← prodL_all, ← prodL_all]
          exact HK2.out.1
end Go.Proofs.YtbejhkojdiadaaaGreatDoor
namespace Go.Proofs.YtbejhkojdiadaaaGreatDoor
open Go.RowKit PlainPm
section
variable {w : World} {v1 v2 : Value} {d1 d2 : Int} {os1 os2 : List (List Int)} {rs1 rs2 : List (List (List Int))}
end
set_option maxRecDepth 100000 in
set_option maxHeartbeats 2000000 in
theorem index12n {n : Nat} (hn' : 0 < n ∧ n ≤ 8) {w : World} {v1 v2 : Value} {G1 G2 : Pm n → Prop} (hG1 : IsG G1) (hG2 : IsG G2) (h1 : GrG w v1 G1) (h2 : GrG w v2 G2) (hs : ¬ ∀ x, G1 x → G2 x) :
    Calls Tryz.prog 12 #[v1, v2] w fun r w' => r = .returned (.tuple #[.string ⟨#[]⟩, .int .i64 18]) ∧ Below w.heap.size w w' := by
  have hn : 0 < n ∧ n ≤ 64 := ⟨hn'.1, by omega⟩
  have hbl := fun (V : World) (hV : Below w.heap.size w V) => part44n hn hG1 hG2 (h1.below hV) (h2.below hV) hs
  obtain ⟨T, t, ab, ao, c, bb, bo, e, hv1, hl1⟩ := h1.lev hG1 ⟨hn.1, hn.2⟩
  obtain ⟨T', t', ab', ao', c', bb', bo', e', hv2, hl2⟩ := h2.lev hG2 ⟨hn.1, hn.2⟩
  subst hv1 hv2
  unfold cv at hbl ⊢
  obtain ⟨X, hX⟩ : ∃ X, w.heap.size = X := ⟨_, rfl⟩
  obtain ⟨W0, hW0⟩ : ∃ W0, ((w.alloc (.cells #[.int .i64 (n : Int), .slice (some ⟨ab, ao, none⟩) n c, .slice (some ⟨bb, bo, none⟩) n e] 25)).alloc (.cells #[.int .i64 (n : Int), .slice (some ⟨ab', ao', none⟩) n c', .slice (some ⟨bb', bo', none⟩) n e'] 25)) = W0 := ⟨_, rfl⟩
  have hF : Below w.heap.size w W0 ∧ W0.heap[X]? = some (.cells #[.int .i64 (n : Int), .slice (some ⟨ab, ao, none⟩) n c, .slice (some ⟨bb, bo, none⟩) n e] 25) ∧ W0.heap[X + 1]? = some (.cells #[.int .i64 (n : Int), .slice (some ⟨ab', ao', none⟩) n c', .slice (some ⟨bb', bo', none⟩) n e'] 25) := by
    refine ⟨?_, ?_, ?_⟩
    · rw [← hW0]; exact alloc_b (alloc_b (Below.refl _ _) _) _
    · rw [← hW0, ← hX]; exact ((alloc_b (Below.refl _ _) _).block _ (by simp)).trans (box_al25 rfl _ _ _)
    · rw [← hW0]; exact box_al25 (by simp [hX]) _ _ _
  obtain ⟨q0, q1, q2, _⟩ := box_cells hF.2.1
  obtain ⟨p0, p1, p2, _⟩ := box_cells hF.2.2
  have hwW := hF.1
  have H := Lib.hid hbl
  clear hbl hF h1 h2 hl1 hl2
  go_enter Tryz.func12, Tryz.ntmps12
  go_wp2_with (go_at_call 44; (with_reducible refine (H.out _ hwW).mono ?_); rintro e1 w1 ⟨rfl, k⟩
               have H1 := Lib.hid k; clear k)
  go_ret2
  exact ⟨rfl, below_trans hwW H1.out⟩
end Go.Proofs.YtbejhkojdiadaaaGreatDoor
namespace Go.Proofs.YtbejhkojdiadaaaGreatDoor
open Go.RowKit Go.Shelf PlainPm
def gensOf {n m : Nat} (O : Nat → List Nat) (R : Nat → Nat → Pm n) (pre : List (Fin m)) : List (Pm n) := pre.flatMap fun i => ((O i.val).drop 1).map (R i.val)
theorem gensOf_snoc {n m : Nat} (O : Nat → List Nat) (R : Nat → Nat → Pm n) (pre : List (Fin m)) (i : Fin m) : gensOf O R (pre ++ [i]) = gensOf O R pre ++ ((O i.val).drop 1).map (R i.val) := by simp [gensOf, List.flatMap_append]
theorem gensOf_all {n m : Nat} (O : Nat → List Nat) (R : Nat → Nat → Pm n) : gensOf O R (List.finRange m) = sgen n O R m := by
  have h : List.range m = (List.finRange m).map Fin.val := by
    apply List.ext_getElem
    · simp
    · intro i h1 h2; simp
  unfold gensOf sgen
  rw [h, List.flatMap_map]
theorem gensOf_len {n m : Nat} {O : Nat → List Nat} (R : Nat → Nat → Pm n) (h : ∀ i : Fin m, (O i.val).length ≤ 8) : ∀ pre : List (Fin m), (gensOf O R pre).length ≤ 8 * pre.length
  | [] => by simp [gensOf]
  | i :: pre => by
    have h1 := gensOf_len R h pre
    have h2 := h i
    unfold gensOf at h1 ⊢
    rw [List.flatMap_cons, List.length_append, List.length_map, List.length_drop, List.length_cons]
    omega
theorem LsI.step {n : Nat} {X Y : Nat} {v : Value} {us : List Value} {s : List (Pm n)} {M M' : List Nat} {A B : World} (h : LsI [] Y (Y + 1) v us s M A) (hS : Stp A M B M') (hXY : X ≤ Y) : KeepsOthers A B ∧ Below X A B := by
  have hM : ∀ q ∈ M, X ≤ q ∧ ∃ c e f, A.heap[q]? = some (.cells c e f) := fun q hq => by
    rw [h.m] at hq
    rcases List.mem_cons.1 hq with e | hq
    · rw [e]; exact ⟨hXY, _, _, _, h.y⟩
    · have hq := mem_ob.1 hq
      have h2 := (h.own.block_lt hq).2
      rcases h.own.blk with e | ⟨g, cur, e, h3, h4, h5⟩
      · rw [e] at hq; cases hq
      · rw [e] at hq; cases hq; exact ⟨by omega, _, _, _, h5⟩
  refine ⟨⟨hS.kept.size, fun k o hk ho => ?_⟩, hS.kept.below (Nat.le_trans hXY (Nat.le_of_lt (Array.getElem?_eq_some_iff.1 h.y).1)) (fun q hq => (hM q hq).1)⟩
  by_cases hkM : k ∈ M
  · obtain ⟨_, c, e, f, hc⟩ := hM k hkM
    rw [hc] at hk; cases hk; cases ho
  · exact (hS.kept.block k (Array.getElem?_eq_some_iff.1 hk).1 hkM).trans hk
attribute [local go_sem] Oper.semAt_some
def frG (n X Y Z ab ao c bb bo e : Nat) (vs : List Value) (x : Fin vs.length) : Act := { tmps := #[.agg #[.int .i64 (n : Int), .slice (some ⟨ab, ao, none⟩) n c, .slice (some ⟨bb, bo, none⟩) n e], .pointer (some ⟨X, 0, none⟩), .slice none 0 0, .int .i64 0, .int .i64 0, .pointer (some ⟨Y, 0, none⟩), undef, vs[x.val], undef, undef, .agg #[.int .i64 (n : Int), .slice (some ⟨ab, ao, none⟩) n c, .slice (some ⟨bb, bo, none⟩) n e], .int .i64 0, .int .i64 0, .bool false, undef, .agg #[.int .i64 (n : Int), .slice (some ⟨ab, ao, none⟩) n c, .slice (some ⟨bb, bo, none⟩) n e], .func (.func 101) #[] #[.pointer (some ⟨Z, 0, none⟩)], .int .i64 (x.val : Int), vs[x.val], undef, undef, undef, undef, undef, undef, undef, undef, undef, undef, undef, undef, undef, undef], defers := [] }
set_option maxRecDepth 100000 in
set_option maxHeartbeats 8000000 in
theorem strong52 {n : Nat} (hn' : 0 < n ∧ n ≤ 8) {w : World} {v1 : Value} {G : Pm n → Prop} (hG : IsG G) (h1 : GrG w v1 G) :
    Calls Tryz.prog 52 #[v1] w fun r w' => ∃ v us L, r = .returned (.tuple #[v, .int .i64 0]) ∧ Own w' w.heap.size v 41 us ∧ PmL w' v.ownBlock.toList us L ∧ L.length ≤ 512 ∧ (∀ x, Grp (· ∈ L) x ↔ G x) ∧ Below w.heap.size w w' := by
  have hn : 0 < n ∧ n ≤ 64 := ⟨hn'.1, by omega⟩
  obtain ⟨os, rs, hch, hc0⟩ := h1.chk hn hG
  have hck := fun (V : World) (hV : Below w.heap.size w V) => chk54 (hch.below hV)
  simp only [hc0] at hck
  obtain ⟨T, t, ab, ao, c, bb, bo, e, hv1, hl1⟩ := h1.lev hG ⟨hn.1, hn.2⟩
  subst hv1
  obtain ⟨vs, hvn, hvr, hvp⟩ := lv_vals hl1 hn.2
  have hO := t.chG hG
  have hgr := sgen_grp hG t
  obtain ⟨O, eO⟩ : ∃ O, orbO T = O := ⟨_, rfl⟩
  obtain ⟨R, eR⟩ : ∃ R, PlainPm.repT T = R := ⟨_, rfl⟩
  have hO : ChG G O R := by rw [← eO, ← eR]; exact hO
  rw [eO, eR] at hgr
  rw [eO, eR] at hvp
  obtain ⟨i27, hi27, hz27, hs27, hb27⟩ := info_parts Tryz.info41
  have I27 := Lib.hid (And.intro hi27 (And.intro hz27 (And.intro hs27 hb27)))
  clear hi27 hz27 hs27 hb27
  obtain ⟨X, hX⟩ : ∃ X, w.heap.size = X := ⟨_, rfl⟩
  obtain ⟨W0, hW0⟩ : ∃ W0, w.alloc (.cells #[.int .i64 (n : Int), .slice (some ⟨ab, ao, none⟩) n c, .slice (some ⟨bb, bo, none⟩) n e] 25) = W0 := ⟨_, rfl⟩
  have k0 : W0.heap[X]? = some (.cells #[.int .i64 (n : Int), .slice (some ⟨ab, ao, none⟩) n c, .slice (some ⟨bb, bo, none⟩) n e] 25) := by rw [← hW0]; exact box_al25 hX _ _ _
  have hwW : Below w.heap.size w W0 := hW0 ▸ alloc_b (Below.refl _ _) _
  have hs0 : W0.heap.size = X + 1 := by rw [← hW0]; simp [hX]
  obtain ⟨x0, x1, x2, _⟩ := box_cells k0
  have H := Lib.hid (And.intro hvn (And.intro hvr (And.intro hvp (And.intro hO (And.intro hgr (And.intro hck (And.intro hwW hs0)))))))
  have HX := Lib.hid hX
  have hz0 := And.intro x0 (And.intro x1 (And.intro x2 (Below.refl W0.heap.size W0)))
  clear hvn hvr hvp hO hgr hck hwW hs0 k0 h1 hch hl1 t
  refine (callsIn_wide (n := 9)).1 ?_
  have w72 : Fence.wide.fn 72 := trivial
  have w37 : Fence.wide.fn 37 := trivial
  have w40 : Fence.wide.fn 40 := trivial
  have wd : Fence.wide.depth = none := rfl
  refine callsIn_of_wp_marks Tryz.func52 rfl trivial ?_ rfl
  simp only [Tryz.ntmps52, List.size_toArray, List.length_cons, List.length_nil, Nat.reduceAdd, Nat.reduceSub, Array.replicate_succ, Array.replicate_zero, List.push_toArray, List.append_toArray, List.nil_append, List.cons_append]
  unfold cv at H ⊢
  gi_wp2_with (first
    | (gi_at_call 37; (with_reducible refine (callsIn_wide.2 (H.out.2.2.2.2.2.1 _ H.out.2.2.2.2.2.2.1)).mono ?_); rintro e1 w1 ⟨rfl, k⟩
       obtain ⟨Y, hY⟩ : ∃ Y, w1.heap.size = Y := ⟨_, rfl⟩
       obtain ⟨w4, hw4⟩ : ∃ w4, w1.alloc (.cells #[.slice none 0 0] 28) = w4 := ⟨_, rfl⟩
       have b14 : Below w1.heap.size w1 w4 := hw4 ▸ alloc_b (Below.refl _ _) _
       obtain ⟨j0, j1, j2, bj⟩ := keep3b hz0 (below_trans k b14)
       have hXY : X + 1 ≤ Y := by rw [← hY]; have := k.size; rw [H.out.2.2.2.2.2.2.2] at this; exact this
       have y4 : w4.heap[Y]? = some (.cells #[.slice none 0 0] 28 (0, 0)) := by rw [← hw4]; exact al_at hY _
       have hs4 : w4.heap.size = Y + 1 := by rw [← hw4]; simp [hY]
       have H1 := Lib.hid (And.intro bj (And.intro hXY (And.intro y4 hs4))); clear k bj b14 hXY y4 hs4)
    | (gi_at_call 72; refine (callsIn_wide.2 (reps_calls _ _ _ _)).mono ?_; rintro e3 w3 ⟨rfl, hw3⟩))
  rw [H1.out.2.2.2]
  rw [← hw3]
  have hsz3 : w3.heap.size = Y + 2 := by rw [hw3]; simp [H1.out.2.2.2]
  have b43 : Below w4.heap.size w4 w3 := by rw [hw3]; exact alloc_b (Below.refl _ _) _
  have hcb : w3.cell? ⟨Y + 1, 2, none⟩ = some (.slice (some ⟨bb, bo, none⟩) n e) := by
    rw [hw3]
    exact (box_cells (a0 := .int .i64 (n : Int)) (a1 := .slice (some ⟨ab, ao, none⟩) n c) (a2 := .slice (some ⟨bb, bo, none⟩) n e) (by rw [← H1.out.2.2.2]; exact heap_new _ _)).2.2.1
  have hbX : Below X w w3 := by
    have h9 := below_trans (below_trans H.out.2.2.2.2.2.2.1 H1.out.1) b43
    rwa [HX.out] at h9
  have hI0 : LsI (n := n) [] Y (Y + 1) (.slice none 0 0) [] [] [Y] w3 := ⟨rfl, (b43.block Y (by rw [H1.out.2.2.2]; omega)).trans H1.out.2.2.1, Own.nil _ _ _, ⟨rfl, fun k x hx => by simp at hx⟩, by simp⟩
  have hXY := H1.out.2.1
  have HI := Lib.hid (And.intro hI0 (And.intro hbX hcb))
  clear hI0 hbX hcb b43 hw3
  clear x0 x1 x2 hz0
  clear j0 j1 j2
  refine wpIn_rangeFunc_ownF (n := 9) rfl (by omega) (gf := 101) (lb := #[.pointer (some ⟨Y + 1, 0, none⟩)]) rfl trivial (enters_of Tryz.func101 (by kernel_rfl) rfl)
    (reps_stopsO Fence.wide 8 trivial rfl (by omega) (Y + 1) X (some ⟨bb, bo, none⟩) e vs w _ (by rw [H.out.1]; exact HI.out.2.2) H.out.2.1 HX.out HI.out.2.1) belowK_t (belowK_b (by omega)) (Below.refl _ _) (fun _ => rfl)
    (fun pre W => ∃ v us M, LsI [] Y (Y + 1) v us (gensOf O R pre) M W ∧ Below X w W)
    (fun k pre W => False)
    ?own ?ownx ?start (frG n X Y (Y + 1) ab ao c bb bo e vs) ?assign ?body ?done ?stop
  case own =>
    rintro pre A B row ⟨v, us, M, h, hb⟩ hg hr
    have hXA : X ≤ A.heap.size := by rw [← HX.out]; exact hb.size
    exact ⟨v, us, M, h.turn ⟨hg, fun r e => (hr r e).2⟩, hb.grown hg hXA (fun r e => by have := (hr r e).1; omega)⟩
  case ownx => exact fun k pre A B row h hg hr => h
  case start => exact ⟨_, _, _, HI.out.1, HI.out.2.1⟩
  case assign =>
    intro l x W K hK
    unfold encR
    gi_wp2
    exact hK
  case body =>
    rintro l pre ⟨i, hi⟩ W ⟨v, us, M, hI, hbX⟩ hlen
    have hin : i < n := by have := H.out.1; omega
    obtain ⟨g, o, rc, hve, hg, h64, hcap, hcell⟩ := H.out.2.2.1 i vs[i] (List.getElem?_eq_getElem hi)
    have hpos := H.out.2.2.2.1.pos hin
    obtain ⟨m, hm⟩ : ∃ m, (O i).length = m + 1 := ⟨(O i).length - 1, by omega⟩
    rw [List.length_map, hm] at hve h64 hcap
    have hlen5 : (gensOf O R pre).length ≤ 512 := by
      have h8 := gensOf_len (n := n) R (m := vs.length) (O := O) (fun i => Nat.le_trans (H.out.2.2.2.1.short (by have := H.out.1; have := i.isLt; omega)) hn'.2) pre
      have h9 := H.out.1
      omega
    have hsrc : ∀ j x, (((O i).drop 1).map (R i))[j]? = some x → ∃ u, w.cell? ⟨g, o + 1 + j, none⟩ = some u ∧ PmV w [] u x := fun j x hx => by
      rw [List.map_drop, List.getElem?_drop] at hx
      obtain ⟨u, hu, hp⟩ := hcell _ _ hx
      exact ⟨u, by rw [show o + 1 + j = o + (1 + j) by omega]; exact hu, hp⟩
    unfold frG
    dsimp only
    rw [hve]
    have HB := Lib.hid (And.intro hI (And.intro hbX (And.intro hsrc (And.intro hm hlen5))))
    clear hI hbX hsrc hm hlen5 hcell hve
    by_cases hrc : rc = 1
    · subst hrc
      obtain rfl : m = 0 := by omega
      gi_wp2
      gi_loopw [22] (fun jj wr => jj = .int .i64 0 ∧ wr = W) (fun jj _ => 0)
      case atStart => exact ⟨rfl, rfl⟩
      case round =>
        obtain ⟨rfl, rfl⟩ := hrel
        gi_wp2
        refine ⟨KeepsOthers.refl _, Below.refl _ _, v, us, M, ?_, HB.out.2.1⟩
        have h9 := HB.out.1
        have h8 : ((O i).drop 1).map (R i) = [] := by
          rw [List.map_eq_nil_iff, List.drop_eq_nil_iff, HB.out.2.2.2.1]; exact Nat.le_refl _
        rw [gensOf_snoc, h8, List.append_nil]
        exact h9
    · gi_wp2
      gi_loopw [22] (fun jj wr => ∃ (j : Nat) (v : Value) (us : List Value) (M : List Nat), j ≤ m ∧ jj = .int .i64 (j : Int) ∧ LsI [] Y (Y + 1) v us (gensOf O R pre ++ (((O i).drop 1).map (R i)).take j) M wr ∧ Below X w wr ∧ KeepsOthers W wr ∧ Below X W wr) (fun jj _ => m - (intOf jj).toNat)
      case atStart => exact ⟨0, _, _, _, by omega, rfl, by rw [List.take_zero, List.append_nil]; exact HB.out.1, HB.out.2.1, KeepsOthers.refl _, Below.refl _ _⟩
      case round =>
        obtain ⟨j, v, us, M, hj, rfl, hI, hbA, hko, hbW⟩ := hrel
        obtain ⟨A, rfl⟩ : ∃ A, A = wr := ⟨_, rfl⟩
        by_cases hjm : j < m
        · obtain ⟨p, hp⟩ : ∃ p, ((O i).drop 1)[j]? = some p := ⟨_, List.getElem?_eq_getElem (by rw [List.length_drop, HB.out.2.2.2.1]; omega)⟩
          obtain ⟨ur, hur, hpr⟩ := HB.out.2.2.1 j (R i p) (by rw [List.getElem?_map, hp]; rfl)
          have hbw : Below w.heap.size w A := by rw [HX.out]; exact hbA
          have hurA := (hbw.cell (p := ⟨g, o + 1 + j, none⟩) (block_lt_of_cell hur)).trans hur
          have hpm : PmV A [] ur (R i p) := hpr.below hbw
          obtain ⟨xb', xo', xcp, rfl, _⟩ := id hpm
          have hsl : us.length < 5040 := by
            rw [hI.pml.1, List.length_append, List.length_take]
            have := HB.out.2.2.2.2
            omega
          obtain ⟨av, cv', ev, _⟩ := hI.own.row (by unfold maxLen; omega)
          subst ev
          obtain ⟨yc, yf⟩ := box1_cells hI.y
          have k67 := fun (V : World) (hV : Below A.heap.size A V) => clone67v hn (hpm.below hV)
          have hjI : (j : Int) < (m : Int) := by omega
          have HB2 := Lib.hid (And.intro hI (And.intro hpm (And.intro k67 hsl)))
          have HP := Lib.hid (And.intro hp (And.intro hbA (And.intro hko hbW)))
          clear hI hpm k67 hsl hp hbA hko hbW hbw hur hpr
          gi_wp2
          refine wpIn_region_any (by kernel_rfl) ?_
          change wpAnyIn _ _ _ _ _ _ _ _ _ (World.drew _)
          refine wpAnyIn_ready (rs := [0, 1]) (by kernel_rfl) (by simp) ?_
          refine AllReadyIn.cons rfl (fun K hK => ?_) (AllReadyIn.cons rfl (fun K hK => ?_) (AllReadyIn.nil))
          · go_simp
            refine hK _ _ ?_
            clear hK K
            refine wpAnyIn_ready (rs := [1]) (by kernel_rfl) (by simp) ?_
            refine AllReadyIn.cons rfl (fun K hK => ?_) (AllReadyIn.nil)
            go_simp
            refine hK _ _ ?_
            clear hK K
            refine wpAnyIn_ready (rs := [2]) (by kernel_rfl) (by simp) ?_
            refine AllReadyIn.cons rfl (fun K hK => ?_) (AllReadyIn.nil)
            go_simp
            (with_reducible refine (callsR (HB2.out.2.2.1 _ ?_)).mono ?_)
            · exact below_drw (Below.refl _ _)
            rintro e7 w7 ⟨v7, rfl, k1, k2⟩
            obtain ⟨cb, cc, rfl, k3⟩ := id k1
            have b7 : Below A.heap.size A w7 := below_trans (below_drw (Below.refl _ _)) k2
            have y7 : w7.heap[Y]? = some (.cells #[.slice av us.length cv'] 28 (0, 0)) := (b7.block Y (Array.getElem?_eq_some_iff.1 HB2.out.1.y).1).trans HB2.out.1.y
            have ltY7 : Y < w7.heap.size := (Array.getElem?_eq_some_iff.1 y7).1
            obtain ⟨y7c, y7f⟩ := box1_cells y7
            refine hK _ _ ?_
            clear hK K
            refine wpAnyIn_ready (rs := [3]) (by kernel_rfl) (by simp) ?_
            refine AllReadyIn.cons rfl (fun K hK => ?_) (AllReadyIn.nil)
            go_simp
            refine hK _ _ ?_
            clear hK K
            refine wpAnyIn_ready (rs := [4]) (by kernel_rfl) (by simp) ?_
            refine AllReadyIn.cons rfl (fun K hK => ?_) (AllReadyIn.nil)
            refine app1Op (.tmp 26) (.tmp 29) 28 41 rfl i27 (.slice none 0 0) 24 Tryz.underlying28 I27.out.1 I27.out.2.1 I27.out.2.2.1 I27.out.2.2.2 rfl (by omega) (Y + 1) (.slice (some ⟨cb, 0, none⟩) n cc) (.slice av us.length cv') us rfl (HB2.out.1.own.below b7) rfl rfl (by have := HB2.out.2.2.2; omega) (by omega) ?_
            intro v' w11 k4 k5 k6
            obtain ⟨G', cap, ev', -⟩ := k4.form (by simp)
            rw [List.length_append, List.length_singleton] at ev'
            subst ev'
            have y11 := (k5.block Y ltY7 (fun e => own_ne (HB2.out.1.own.below b7) y7 (by decide) e.symm)).trans y7
            obtain ⟨y11c, y11f⟩ := box1_cells y11
            obtain ⟨M', hI', hS'⟩ := HB2.out.1.grow (Nat.lt_succ_self _) b7 (k1.from (by simp [drew_size'])) k4 k5 k6
            refine hK _ _ ?_
            clear hK K
            refine wpAnyIn_ready (rs := [5]) (by kernel_rfl) (by simp) ?_
            refine AllReadyIn.cons rfl (fun K hK => ?_) (AllReadyIn.nil)
            go_simp
            refine hK _ _ ?_
            clear hK K
            refine wpAnyIn_done (by kernel_rfl) ?_ _
            obtain ⟨s1, s2⟩ := HB2.out.1.step hS' (show X ≤ Y by omega)
            gi_wp2
            refine ⟨⟨j + 1, .slice (some ⟨G', 0, none⟩) (us.length + 1) cap, us ++ [.slice (some ⟨cb, 0, none⟩) n cc], M', by omega, by go_num, ?_, HP.out.2.1.trans s2, HP.out.2.2.1.trans s1, HP.out.2.2.2.trans s2⟩, by simp [intOf]; omega⟩
            rw [List.take_add_one, List.getElem?_map, HP.out.1, ← List.append_assoc]
            exact hI'
          · go_simp
            refine hK _ _ ?_
            clear hK K
            refine wpAnyIn_ready (rs := [0, 2]) (by kernel_rfl) (by simp) ?_
            refine AllReadyIn.cons rfl (fun K hK => ?_) (AllReadyIn.cons rfl (fun K hK => ?_) (AllReadyIn.nil))
            · go_simp
              refine hK _ _ ?_
              clear hK K
              refine wpAnyIn_ready (rs := [2]) (by kernel_rfl) (by simp) ?_
              refine AllReadyIn.cons rfl (fun K hK => ?_) (AllReadyIn.nil)
              go_simp
              (with_reducible refine (callsR (HB2.out.2.2.1 _ ?_)).mono ?_)
              · exact below_drw (Below.refl _ _)
              rintro e7 w7 ⟨v7, rfl, k1, k2⟩
              obtain ⟨cb, cc, rfl, k3⟩ := id k1
              have b7 : Below A.heap.size A w7 := below_trans (below_drw (Below.refl _ _)) k2
              have y7 : w7.heap[Y]? = some (.cells #[.slice av us.length cv'] 28 (0, 0)) := (b7.block Y (Array.getElem?_eq_some_iff.1 HB2.out.1.y).1).trans HB2.out.1.y
              have ltY7 : Y < w7.heap.size := (Array.getElem?_eq_some_iff.1 y7).1
              obtain ⟨y7c, y7f⟩ := box1_cells y7
              refine hK _ _ ?_
              clear hK K
              refine wpAnyIn_ready (rs := [3]) (by kernel_rfl) (by simp) ?_
              refine AllReadyIn.cons rfl (fun K hK => ?_) (AllReadyIn.nil)
              go_simp
              refine hK _ _ ?_
              clear hK K
              refine wpAnyIn_ready (rs := [4]) (by kernel_rfl) (by simp) ?_
              refine AllReadyIn.cons rfl (fun K hK => ?_) (AllReadyIn.nil)
              refine app1Op (.tmp 26) (.tmp 29) 28 41 rfl i27 (.slice none 0 0) 24 Tryz.underlying28 I27.out.1 I27.out.2.1 I27.out.2.2.1 I27.out.2.2.2 rfl (by omega) (Y + 1) (.slice (some ⟨cb, 0, none⟩) n cc) (.slice av us.length cv') us rfl (HB2.out.1.own.below b7) rfl rfl (by have := HB2.out.2.2.2; omega) (by omega) ?_
              intro v' w11 k4 k5 k6
              obtain ⟨G', cap, ev', -⟩ := k4.form (by simp)
              rw [List.length_append, List.length_singleton] at ev'
              subst ev'
              have y11 := (k5.block Y ltY7 (fun e => own_ne (HB2.out.1.own.below b7) y7 (by decide) e.symm)).trans y7
              obtain ⟨y11c, y11f⟩ := box1_cells y11
              obtain ⟨M', hI', hS'⟩ := HB2.out.1.grow (Nat.lt_succ_self _) b7 (k1.from (by simp [drew_size'])) k4 k5 k6
              refine hK _ _ ?_
              clear hK K
              refine wpAnyIn_ready (rs := [5]) (by kernel_rfl) (by simp) ?_
              refine AllReadyIn.cons rfl (fun K hK => ?_) (AllReadyIn.nil)
              go_simp
              refine hK _ _ ?_
              clear hK K
              refine wpAnyIn_done (by kernel_rfl) ?_ _
              obtain ⟨s1, s2⟩ := HB2.out.1.step hS' (show X ≤ Y by omega)
              gi_wp2
              refine ⟨⟨j + 1, .slice (some ⟨G', 0, none⟩) (us.length + 1) cap, us ++ [.slice (some ⟨cb, 0, none⟩) n cc], M', by omega, by go_num, ?_, HP.out.2.1.trans s2, HP.out.2.2.1.trans s1, HP.out.2.2.2.trans s2⟩, by simp [intOf]; omega⟩
              rw [List.take_add_one, List.getElem?_map, HP.out.1, ← List.append_assoc]
              exact hI'
            · go_simp
              (with_reducible refine (callsR (HB2.out.2.2.1 _ ?_)).mono ?_)
              · exact below_drw (Below.refl _ _)
              rintro e7 w7 ⟨v7, rfl, k1, k2⟩
              obtain ⟨cb, cc, rfl, k3⟩ := id k1
              have b7 : Below A.heap.size A w7 := below_trans (below_drw (Below.refl _ _)) k2
              have y7 : w7.heap[Y]? = some (.cells #[.slice av us.length cv'] 28 (0, 0)) := (b7.block Y (Array.getElem?_eq_some_iff.1 HB2.out.1.y).1).trans HB2.out.1.y
              have ltY7 : Y < w7.heap.size := (Array.getElem?_eq_some_iff.1 y7).1
              obtain ⟨y7c, y7f⟩ := box1_cells y7
              refine hK _ _ ?_
              clear hK K
              refine wpAnyIn_ready (rs := [0, 3]) (by kernel_rfl) (by simp) ?_
              refine AllReadyIn.cons rfl (fun K hK => ?_) (AllReadyIn.cons rfl (fun K hK => ?_) (AllReadyIn.nil))
              · go_simp
                refine hK _ _ ?_
                clear hK K
                refine wpAnyIn_ready (rs := [3]) (by kernel_rfl) (by simp) ?_
                refine AllReadyIn.cons rfl (fun K hK => ?_) (AllReadyIn.nil)
                go_simp
                refine hK _ _ ?_
                clear hK K
                refine wpAnyIn_ready (rs := [4]) (by kernel_rfl) (by simp) ?_
                refine AllReadyIn.cons rfl (fun K hK => ?_) (AllReadyIn.nil)
                refine app1Op (.tmp 26) (.tmp 29) 28 41 rfl i27 (.slice none 0 0) 24 Tryz.underlying28 I27.out.1 I27.out.2.1 I27.out.2.2.1 I27.out.2.2.2 rfl (by omega) (Y + 1) (.slice (some ⟨cb, 0, none⟩) n cc) (.slice av us.length cv') us rfl (HB2.out.1.own.below b7) rfl rfl (by have := HB2.out.2.2.2; omega) (by omega) ?_
                intro v' w11 k4 k5 k6
                obtain ⟨G', cap, ev', -⟩ := k4.form (by simp)
                rw [List.length_append, List.length_singleton] at ev'
                subst ev'
                have y11 := (k5.block Y ltY7 (fun e => own_ne (HB2.out.1.own.below b7) y7 (by decide) e.symm)).trans y7
                obtain ⟨y11c, y11f⟩ := box1_cells y11
                obtain ⟨M', hI', hS'⟩ := HB2.out.1.grow (Nat.lt_succ_self _) b7 (k1.from (by simp [drew_size'])) k4 k5 k6
                refine hK _ _ ?_
                clear hK K
                refine wpAnyIn_ready (rs := [5]) (by kernel_rfl) (by simp) ?_
                refine AllReadyIn.cons rfl (fun K hK => ?_) (AllReadyIn.nil)
                go_simp
                refine hK _ _ ?_
                clear hK K
                refine wpAnyIn_done (by kernel_rfl) ?_ _
                obtain ⟨s1, s2⟩ := HB2.out.1.step hS' (show X ≤ Y by omega)
                gi_wp2
                refine ⟨⟨j + 1, .slice (some ⟨G', 0, none⟩) (us.length + 1) cap, us ++ [.slice (some ⟨cb, 0, none⟩) n cc], M', by omega, by go_num, ?_, HP.out.2.1.trans s2, HP.out.2.2.1.trans s1, HP.out.2.2.2.trans s2⟩, by simp [intOf]; omega⟩
                rw [List.take_add_one, List.getElem?_map, HP.out.1, ← List.append_assoc]
                exact hI'
              · go_simp
                refine hK _ _ ?_
                clear hK K
                refine wpAnyIn_ready (rs := [0]) (by kernel_rfl) (by simp) ?_
                refine AllReadyIn.cons rfl (fun K hK => ?_) (AllReadyIn.nil)
                go_simp
                refine hK _ _ ?_
                clear hK K
                refine wpAnyIn_ready (rs := [4]) (by kernel_rfl) (by simp) ?_
                refine AllReadyIn.cons rfl (fun K hK => ?_) (AllReadyIn.nil)
                refine app1Op (.tmp 26) (.tmp 29) 28 41 rfl i27 (.slice none 0 0) 24 Tryz.underlying28 I27.out.1 I27.out.2.1 I27.out.2.2.1 I27.out.2.2.2 rfl (by omega) (Y + 1) (.slice (some ⟨cb, 0, none⟩) n cc) (.slice av us.length cv') us rfl (HB2.out.1.own.below b7) rfl rfl (by have := HB2.out.2.2.2; omega) (by omega) ?_
                intro v' w11 k4 k5 k6
                obtain ⟨G', cap, ev', -⟩ := k4.form (by simp)
                rw [List.length_append, List.length_singleton] at ev'
                subst ev'
                have y11 := (k5.block Y ltY7 (fun e => own_ne (HB2.out.1.own.below b7) y7 (by decide) e.symm)).trans y7
                obtain ⟨y11c, y11f⟩ := box1_cells y11
                obtain ⟨M', hI', hS'⟩ := HB2.out.1.grow (Nat.lt_succ_self _) b7 (k1.from (by simp [drew_size'])) k4 k5 k6
                refine hK _ _ ?_
                clear hK K
                refine wpAnyIn_ready (rs := [5]) (by kernel_rfl) (by simp) ?_
                refine AllReadyIn.cons rfl (fun K hK => ?_) (AllReadyIn.nil)
                go_simp
                refine hK _ _ ?_
                clear hK K
                refine wpAnyIn_done (by kernel_rfl) ?_ _
                obtain ⟨s1, s2⟩ := HB2.out.1.step hS' (show X ≤ Y by omega)
                gi_wp2
                refine ⟨⟨j + 1, .slice (some ⟨G', 0, none⟩) (us.length + 1) cap, us ++ [.slice (some ⟨cb, 0, none⟩) n cc], M', by omega, by go_num, ?_, HP.out.2.1.trans s2, HP.out.2.2.1.trans s1, HP.out.2.2.2.trans s2⟩, by simp [intOf]; omega⟩
                rw [List.take_add_one, List.getElem?_map, HP.out.1, ← List.append_assoc]
                exact hI'
        · obtain rfl : j = m := by omega
          have HP := Lib.hid (And.intro hI (And.intro hbA (And.intro hko hbW)))
          clear hI hbA hko hbW
          gi_wp2
          refine ⟨HP.out.2.2.1, HP.out.2.2.2, v, us, M, ?_, HP.out.2.1⟩
          have h9 := HP.out.1
          rw [List.take_of_length_le (by rw [List.length_map, List.length_drop, HB.out.2.2.2.1]; omega)] at h9
          rw [gensOf_snoc]
          exact h9
  case done =>
    rintro D pre W hD rfl ⟨v, us, M, hI, hb⟩ hK
    obtain ⟨yc, yf⟩ := box1_cells hI.y
    have hlen5 : (gensOf O R (List.finRange vs.length)).length ≤ 512 := by
      have h8 := gensOf_len (n := n) R (m := vs.length) (O := O) (fun i => Nat.le_trans (H.out.2.2.2.1.short (by have := H.out.1; have := i.isLt; omega)) hn'.2) (List.finRange vs.length)
      rw [List.length_finRange] at h8
      have h9 := H.out.1
      omega
    obtain ⟨av, cv', ev, _⟩ := hI.own.row (by rw [hI.pml.1]; unfold maxLen; omega)
    subst ev
    have HE := Lib.hid (And.intro hI (And.intro hb (And.intro hK hlen5)))
    clear hI hb hK hlen5
    gi_wp2
    refine ⟨by simp, .inl ⟨_, _, rfl, run_takeDeferred HE.out.2.2.1, ?_⟩⟩
    have hKp : KeepsOthers W W := KeepsOthers.refl _
    have hT : Turn W (W.putObj D (.deferred none)) (some D) := ⟨grownBy_putObj' _ D _, fun r e => by cases e; exact ⟨_, HE.out.2.2.1, rfl⟩⟩
    have hI9 := HE.out.1.turn hT
    refine ⟨.tuple #[.slice av us.length cv', .int .i64 0], by simp [results, Tryz.results52, go_sem], _, us, gensOf O R (List.finRange vs.length), rfl, (hI9.own.mono (by rw [HX.out]; omega)), ?_, HE.out.2.2.2, ?_, ?_⟩
    · have h9 := hI9.pml
      rw [hI9.m, List.nil_append] at h9
      exact ⟨h9.1, fun k x hx => by
        obtain ⟨u, hu, hp⟩ := h9.2 k x hx
        exact ⟨u, hu, hp.ext (fun q hq => .inl (List.mem_cons_of_mem _ hq))⟩⟩
    · intro x
      rw [gensOf_all, H.out.1]
      exact H.out.2.2.2.2.1 x
    · rw [HX.out]
      exact HE.out.2.1.trans (below_obj (by omega) HE.out.2.2.1 rfl)
  case stop => exact fun D k pre W hD hp h => h.elim
end Go.Proofs.YtbejhkojdiadaaaGreatDoor
