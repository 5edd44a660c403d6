/- walk: the tree's leaves, handed to yield one after another. -/
import Derived.Test.YtjjjohmppehejaaGreatCell2
import Derived.Test.YtjjjohmppehejaaGreatRefP
import Derived.Test.YtjjjohmppehejaaGreatLawKit
import Derived.Test.YtjjjohmppehejaaGreatPlainT
set_option linter.unusedSimpArgs false
set_option linter.unusedVariables false
namespace Go.Proofs.YtjjjohmppehejaaGreat
open Go.RowKit Plain PlainG PlainT
attribute [local go_sem] Oper.semAt_some
theorem RowsB.at_ {B : Nat} {w : World} {a : Option Addr} {xss : List (List Int)} (h : RowsB B w a xss) {k : Nat} (hk : k < xss.length) :
    ∃ g o b c, a = some ⟨g, o, Option.none⟩ ∧ g < w.heap.size ∧ w.cell? ⟨g, o + k, Option.none⟩ = some (.slice b (xss[k]?.getD []).length c) ∧ IntsB B w b (xss[k]?.getD []) := by
  obtain ⟨g, o, b, c, e, hg, hc, hi⟩ := h.1.at_ hk
  refine ⟨g, o, b, c, e, hg, hc, hi, fun ad ea hp => ?_⟩
  subst ea
  refine (h.2 _ e (by omega)).2 k hk ad _ c ?_ hp
  rw [add_zero_addr]; exact hc
theorem RowsB.keptS {B : Nat} {w w' : World} {a : Option Addr} {xss : List (List Int)} {S : List Nat} (h : RowsB B w a xss) (k : Kept w w' S) (hS : ∀ s ∈ S, s < B) : RowsB B w' a xss :=
  h.kept k.size fun i hi hl => k.block i hl (fun hm => by have := hS i hm; omega)
theorem IntsB.keptS {B : Nat} {w w' : World} {a : Option Addr} {xs : List Int} {S : List Nat} (h : IntsB B w a xs) (k : Kept w w' S) (hS : ∀ s ∈ S, s < B) : IntsB B w' a xs :=
  h.kept k.size fun i hi hl => k.block i hl (fun hm => by have := hS i hm; omega)
theorem good_chk {n : Nat} {l : List (List Int)} (h : GoodA n l) (hn : n ≤ 64) : chk n l = 0 := h.chk hn
/-- A permutation, as a list. -/
def IsP (n : Nat) (x : List Int) : Prop := ∃ s t, PermOf n s t ∧ x = permL n s
set_option maxRecDepth 100000 in
set_option maxHeartbeats 4000000 in
theorem walk_leaf {n : Nat} (hn : n ≤ 64) {m : List (List Int)} (hm : IsMat n m) {B0 lp G mc : Nat} {S : List Nat} (hS : ∀ s ∈ S, s < B0) (J : List (List Int) → World → Prop)
    (hJ : ∀ pre W W', J pre W → Below W.heap.size W W' → J pre W')
    (hY : ∀ (nn : Nat) pre (v : Option Addr) (c : Nat) x W, J pre W → IntsB B0 W v x → IsP n x → YieldAt Fence.wide nn Tryz.prog lp #[.slice v n c] W fun e W' => e = .returned (.bool true) ∧ J (pre ++ [x]) W' ∧ Kept W W' S)
    (node : List (List Int)) (an : Option Addr) (cn : Nat) (W : World) (pre : List (List Int)) (hg : GoodA n node) (hto : tgtTo node node.length = none) (hr : RowsB B0 W an node) (hB : B0 ≤ W.heap.size) (hj : J pre W) :
      Calls Tryz.prog 79 #[.int .i64 (n : Int), .slice (some ⟨G, 0, none⟩) n mc, .slice an node.length cn, .func (.yield lp) #[] #[]] W fun e W' => e = .returned (.bool true) ∧ J (pre ++ [labelsL n node]) W' ∧ Kept W W' S := by
  have HY := Lib.hid hY
  have HJ := Lib.hid hJ
  clear hY hJ
  refine (callsIn_wide (n := 5)).1 ?_
  have hck := good_chk hg hn
  have K99 := target_calls (n : Int) an cn node W hr.1
  have ht : tgtA (n : Int) node = encOpt (tgtTo node node.length) := by unfold tgtA; rw [if_neg (by simp [hck])]
  rw [hck, ht, hto] at K99
  simp only [encOpt] at K99
  have hlb : labA (n : Int) node = labelsL n node := by unfold labA; rw [if_neg (by simp [hck])]; simp
  have K100 := fun W' (k : Below W.heap.size W W') => labelsE_callsB (n : Int) an cn node W' (hr.1.below k)
  simp only [hck, hlb, labelsL_len] at K100
  obtain ⟨L, hL⟩ : ∃ L, node.length = L := ⟨_, rfl⟩
  rw [hL] at K99 K100 ⊢
  obtain ⟨x, hx⟩ : ∃ x, labelsL n node = x := ⟨_, rfl⟩
  have hxl : IsP n x := by rw [← hx]; exact leaf_perm hg hto
  rw [hx] at K100 ⊢
  have H := Lib.hid (And.intro K99 (And.intro K100 (And.intro hj (And.intro hB hxl))))
  clear K99 K100 hj hr hg hck ht hto hlb hL hx hxl hm
  have w99 : Fence.wide.fn 99 := trivial
  have w100 : Fence.wide.fn 100 := trivial
  refine callsIn_of_wp Tryz.func79 rfl trivial ?_ rfl
  simp only [Tryz.ntmps79, List.size_toArray, List.length_cons, List.length_nil, Nat.reduceAdd, Nat.reduceSub, Array.replicate_succ, Array.replicate_zero, List.push_toArray, List.append_toArray, List.nil_append, List.cons_append]
  gi_wp2_with (first
    | (gi_at_call 99; refine (callsIn_wide.2 H.out.1).mono ?_; rintro e w2 ⟨rfl, hw2⟩; have H2 := Lib.hid hw2; clear hw2)
    | (gi_at_call 100; refine (callsIn_wide.2 (H.out.2.1 _ H2.out)).mono ?_; rintro e w3 ⟨a3, c3, rfl, hi3, hw3⟩; have hj3 := HJ.out _ _ _ H.out.2.2.1 (below_two H2.out hw3); have hy := HY.out 4 pre a3 c3 x w3 hj3 (hi3.mono (Nat.le_trans H.out.2.2.2.1 H2.out.size)) H.out.2.2.2.2; obtain ⟨fn, tmps, assign, body, hy, hR⟩ := hy; have H3 := Lib.hid (below_two H2.out hw3); clear hi3 hj3 hw3))
  refine hR.mono ?_
  rintro e w4 ⟨rfl, hj4, hk4⟩
  have H4 := Lib.hid (And.intro hj4 ((Kept.ofBelow H3.out).trans hk4))
  clear hj4 hk4 hR hy
  gi_wp2
  go_ret
  exact ⟨rfl, H4.out.1, H4.out.2⟩
set_option maxRecDepth 100000 in
set_option maxHeartbeats 4000000 in
theorem walk_calls {n : Nat} (hn : n ≤ 64) {m : List (List Int)} (hm : IsMat n m) {B0 lp G mc : Nat} {S : List Nat} (hS : ∀ s ∈ S, s < B0) (J : List (List Int) → World → Prop)
    (hJ : ∀ pre W W', J pre W → Below W.heap.size W W' → J pre W')
    (hY : ∀ (nn : Nat) pre (v : Option Addr) (c : Nat) x W, J pre W → IntsB B0 W v x → IsP n x → YieldAt Fence.wide nn Tryz.prog lp #[.slice v n c] W fun e W' => e = .returned (.bool true) ∧ J (pre ++ [x]) W' ∧ Kept W W' S) :
    ∀ (f : Nat) (node : List (List Int)) (an : Option Addr) (cn : Nat) (W : World) (pre : List (List Int)), GoodA n node → n ≤ node.length + f → RowsB B0 W an node → RowsB B0 W (some ⟨G, 0, none⟩) m → B0 ≤ W.heap.size → J pre W →
      Calls Tryz.prog 79 #[.int .i64 (n : Int), .slice (some ⟨G, 0, none⟩) n mc, .slice an node.length cn, .func (.yield lp) #[] #[]] W fun e W' => e = .returned (.bool true) ∧ J (pre ++ leavesT n m f node) W' ∧ Kept W W' S := by
  intro f
  induction f with
  | zero =>
    intro node an cn W pre hg hf hr hrm hB hj
    exact walk_leaf hn hm hS J hJ hY node an cn W pre hg (tgt_full hg (by omega)) hr hB hj
  | succ f ih =>
    intro node an cn W pre hg hf hr hrm hB hj
    cases hto : tgtTo node node.length with
    | none =>
      have hl : leavesT n m (f + 1) node = [labelsL n node] := by simp [leavesT, hto]
      rw [hl]
      exact walk_leaf hn hm hS J hJ hY node an cn W pre hg hto hr hB hj
    | some b =>
      have HJ := Lib.hid hJ
      clear hY hJ
      have hl : leavesT n m (f + 1) node = (node[b]?.getD []).flatMap fun v => leavesT n m f (stepN n m node v) := by simp [leavesT, hto]
      rw [hl]
      refine (callsIn_wide (n := 5)).1 ?_
      have hck := good_chk hg hn
      have K99 := target_calls (n : Int) an cn node W hr.1
      have ht : tgtA (n : Int) node = encOpt (tgtTo node node.length) := by unfold tgtA; rw [if_neg (by simp [hck])]
      rw [hck, ht, hto] at K99
      simp only [encOpt] at K99
      have hbl := tgtTo_lt hto
      have hmore := fun v hv => step_more (m := m) (v := v) hg hto hv
      have hvr : ∀ v ∈ node[b]?.getD [], 0 ≤ v ∧ v < (n : Int) := fun v hv => by
        rw [List.getElem?_eq_getElem hbl] at hv
        exact hg.good.inr _ (List.getElem_mem hbl) v hv
      have hb24 : b < 9223372036854775807 := by have := hg.good.len_le; omega
      have hsp : ∀ v ∈ node[b]?.getD [], splitA (n : Int) node [v] = (splitL [v] node, 0) := fun v hv => by
        have := hvr v hv
        have hb2 : badPt (n : Int) [v] = false := by simp [badPt]; omega
        unfold splitA
        rw [if_neg (by simp [hck]), if_neg (by simp [hb2])]
      have href : ∀ v, refineA (n : Int) (splitL [v] node) m = (stepN n m node v, 0) := fun v => by
        rw [refineA_ok ((split_goodA hg).chk hn) hm]; rfl
      obtain ⟨g, o, ca, cc, rfl, hgl, hc0, hci⟩ := hr.at_ hbl
      have K101 := fun W' (k : RowsB B0 W' (some ⟨g, o, none⟩) node) (v : Int) (hv : v ∈ node[b]?.getD []) => by
        have := single_callsB (n : Int) (some ⟨g, o, none⟩) cn node v W' k.1
        rw [hsp v hv] at this
        exact this
      have K77 := fun W' (a : Option Addr) (c : Nat) (v : Int) (h1 : RowsB B0 W' a (splitL [v] node)) (h2 : RowsB B0 W' (some ⟨G, 0, none⟩) m) => by
        have := refine_callsB (n : Int) a (some ⟨G, 0, none⟩) c mc (splitL [v] node) m W' h1.1 h2.1
        rw [href v, hm.1] at this
        exact this
      obtain ⟨L, hL⟩ : ∃ L, node.length = L := ⟨_, rfl⟩
      rw [hL] at K99 hbl K101 ⊢
      rw [hL] at hf
      simp only [hL] at hmore
      obtain ⟨cell, hcell⟩ : ∃ c, node[b]?.getD [] = c := ⟨_, rfl⟩
      rw [hcell] at hmore hvr hc0 hci K101 ⊢
      have hcl := hci.1.len
      obtain ⟨M, hM⟩ : ∃ M, cell.length = M := ⟨_, rfl⟩
      rw [hM] at hcl hc0
      have H := Lib.hid (And.intro K99 (And.intro K101 (And.intro K77 (And.intro hr (And.intro hrm (And.intro hj (And.intro hB hci)))))))
      have HG := Lib.hid (And.intro hg (And.intro hmore hM))
      clear K99 K101 K77 hr hrm hj hci hg hmore hck ht hto hl hL hcell hsp href hM hvr hm
      have w99 : Fence.wide.fn 99 := trivial
      have w101 : Fence.wide.fn 101 := trivial
      have w77 : Fence.wide.fn 77 := trivial
      have w79 : Fence.wide.fn 79 := trivial
      refine callsIn_of_wp Tryz.func79 rfl trivial ?_ rfl
      simp only [Tryz.ntmps79, List.size_toArray, List.length_cons, List.length_nil, Nat.reduceAdd, Nat.reduceSub, Array.replicate_succ, Array.replicate_zero, List.push_toArray, List.append_toArray, List.nil_append, List.cons_append]
      gi_wp2_with (gi_at_call 99; refine (callsIn_wide.2 H.out.1).mono ?_; rintro e w2 ⟨rfl, hw2⟩; have hc2 := (hw2.cell hgl).trans hc0; have H2 := Lib.hid hw2; clear hw2 hc0)
      gi_loopw [39] (fun i wr => ∃ k : Nat, k ≤ M ∧ i = .int .i64 (k : Int) ∧ J (pre ++ (cell.take k).flatMap fun v => leavesT n m f (stepN n m node v)) wr ∧ Kept W wr S) (fun i _ => M - (intOf i).toNat)
      case atStart => exact ⟨0, Nat.zero_le _, rfl, by simpa using HJ.out _ _ _ H.out.2.2.2.2.2.1 H2.out, Kept.ofBelow H2.out⟩
      case round =>
        obtain ⟨k, hk, rfl, hjr, hkr⟩ := hrel
        by_cases hlt : k < M
        · have hkc : k < cell.length := by rw [HG.out.2.2]; exact hlt
          have hci := H.out.2.2.2.2.2.2.2.keptS hkr hS
          obtain ⟨cb, co, rfl, _, ck⟩ := hci.1.at_ hkc
          have hv : cell[k]?.getD 0 ∈ cell := by rw [List.getElem?_eq_getElem hkc]; exact List.getElem_mem hkc
          have hnext : cell.take (k + 1) = cell.take k ++ [cell[k]?.getD 0] := by rw [List.take_add_one, List.getElem?_eq_getElem hkc]; rfl
          obtain ⟨v, hvv⟩ : ∃ v, cell[k]?.getD 0 = v := ⟨_, rfl⟩
          rw [hvv] at ck hv hnext
          have hrn := H.out.2.2.2.1.keptS hkr hS
          have hrm := H.out.2.2.2.2.1.keptS hkr hS
          have hBr : B0 ≤ wr.heap.size := Nat.le_trans hB hkr.size
          have C1 := H.out.2.1 wr hrn v hv
          have C2 := fun W' a c (k : Below wr.heap.size wr W') (h : RowsB wr.heap.size W' a (splitL [v] node)) => H.out.2.2.1 W' a c v (h.mono hBr) (hrm.below k)
          have C3 := fun W' a c (kb : Below wr.heap.size wr W') (h : RowsB wr.heap.size W' a (stepN n m node v)) => ih (stepN n m node v) a c W' (pre ++ (cell.take k).flatMap fun v => leavesT n m f (stepN n m node v)) (step_goodA HG.out.1) (by have := HG.out.2.1 v hv; omega) (h.mono hBr) (hrm.below kb) (Nat.le_trans hBr kb.size) (HJ.out _ _ _ hjr kb)
          obtain ⟨S1, hS1⟩ : ∃ S1, (splitL [v] node).length = S1 := ⟨_, rfl⟩
          obtain ⟨S2, hS2⟩ : ∃ S2, (stepN n m node v).length = S2 := ⟨_, rfl⟩
          rw [hS1] at C1
          simp only [hS1, hS2] at C2 C3
          have HC := Lib.hid (And.intro C1 (And.intro C2 (And.intro C3 (And.intro hkr (And.intro hnext hBr)))))
          clear C1 C2 C3 hkr hjr hnext hBr hrn hrm hci hvv hS1 hS2 hv
          gi_wp2_with (first
            | (gi_at_call 101; refine (callsIn_wide.2 HC.out.1).mono ?_; rintro e w3 ⟨a3, c3, rfl, hr3, hw3⟩; have H3 := Lib.hid (And.intro hr3 hw3); clear hr3 hw3)
            | (gi_at_call 77; refine (callsIn_wide.2 (HC.out.2.1 _ _ _ H3.out.2 H3.out.1)).mono ?_; rintro e w4 ⟨a4, c4, rfl, hr4, hw4⟩; have H4 := Lib.hid (And.intro (hr4.mono H3.out.2.size) (below_two H3.out.2 hw4)); clear hr4 hw4)
            | (gi_at_call 79; refine (callsIn_wide.2 (HC.out.2.2.1 _ _ _ H4.out.2 H4.out.1)).mono ?_; rintro e w5 ⟨rfl, hj5, hk5⟩; have H5 := Lib.hid (And.intro hj5 ((HC.out.2.2.2.1.trans (Kept.ofBelow H4.out.2)).trans hk5)); clear hj5 hk5))
          refine ⟨⟨k + 1, by omega, by go_num, ?_, H5.out.2⟩, by simp [intOf]; omega⟩
          rw [HC.out.2.2.2.2.1, List.flatMap_append, ← List.append_assoc]
          simpa using H5.out.1
        · have HE := Lib.hid (And.intro hjr hkr)
          clear hjr hkr
          gi_wp2
          go_ret
          refine ⟨rfl, ?_, HE.out.2⟩
          have := HE.out.1
          rwa [List.take_of_length_le (by rw [HG.out.2.2]; omega)] at this
end Go.Proofs.YtjjjohmppehejaaGreat
