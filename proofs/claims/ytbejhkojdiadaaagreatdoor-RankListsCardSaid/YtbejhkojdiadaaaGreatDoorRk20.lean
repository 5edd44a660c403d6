/- Plain: all cosets found from one by generators. · least on both sides: its permutation is new. · closure's word: a permutation's images as bytes. · A map of the call's own from words to true: a set of permutations. · perm.Cmp walked: permutations compared image by image. · slices.SortFunc at permutations: what the shelf's laying command writes, as plain text. · slices.SortFunc over permutations: the row put in order. · rank.Cosets walked. -/
import Derived.Test.YtbejhkojdiadaaaGreatDoorRk01
import Derived.Test.YtbejhkojdiadaaaGreatDoorRk02
import Derived.Test.YtbejhkojdiadaaaGreatDoorRk03
import Derived.Test.YtbejhkojdiadaaaGreatDoorRk04
import Derived.Test.YtbejhkojdiadaaaGreatDoorRk05
import Derived.Test.YtbejhkojdiadaaaGreatDoorRk06
import Derived.Test.YtbejhkojdiadaaaGreatDoorRk07
import Derived.Test.YtbejhkojdiadaaaGreatDoorRk08
import Derived.Test.YtbejhkojdiadaaaGreatDoorRk09
import Derived.Test.YtbejhkojdiadaaaGreatDoorRk10
import Derived.Test.YtbejhkojdiadaaaGreatDoorRk11
import Derived.Test.YtbejhkojdiadaaaGreatDoorRk12
import Derived.Test.YtbejhkojdiadaaaGreatDoorRk13
import Derived.Test.YtbejhkojdiadaaaGreatDoorRk14
import Derived.Test.YtbejhkojdiadaaaGreatDoorRk15
import Derived.Test.YtbejhkojdiadaaaGreatDoorRk16
import Derived.Test.YtbejhkojdiadaaaGreatDoorRk17
import Derived.Test.YtbejhkojdiadaaaGreatDoorRk18
import Derived.Test.YtbejhkojdiadaaaGreatDoorRk19
import Derived.Test.YtbejhkojdiadaaaGreatDoorProg
import Derived.Laws.BytesArg
import Derived.Maps.OwnSet
import Derived.Carry
import Derived.Shelf.SlLaysF
import Derived.Shelf.SlSortCmp.Whole1
import Derived.WalkKit
import Derived.WalkSpells
import Derived.BigQuiet
import Derived.Deep.QuietTactic
import Derived.Deep.LoopGhost
import Derived.Lib.Hide
import Derived.Maps.AppendAt
import Derived.Deep.AppendLies
import Derived.StillTailTactics
import Derived.Laws.CopyOwn
import Derived.Deep.OwnRows
import Derived.Deep.DeepCutAuto
import Derived.Laws.Cover3
import Derived.Deep.RegionHeld3
import Derived.RangeFuncRecord
import Derived.Lib.SlicesSearch
import Derived.RangeFuncBox
import Derived.RangeFuncLeaves
import Derived.RangeFuncWrites
import Derived.RangeFuncFrom
import Derived.Shelf.Abstract
import Derived.OwnWalkIn
import Derived.TacticsInMore
import Derived.LoopNIn
import Derived.LoopIn
import Derived.Shelf.GgSortFunc.Insertion
import Derived.Shelf.SlIter.Collect
import Derived.Shelf.Sort.Plain
import Derived.Deep.RegionLaw
import Derived.ControlIn
import Derived.Deep.AppendSrc
import Derived.Sort.BigQuietIn
import Derived.Laws.IdiomStrings
set_option linter.unusedSimpArgs false
set_option linter.unusedVariables false
namespace Go.Proofs.YtbejhkojdiadaaaGreatDoor
open PlainPm
variable {n : Nat} {G G2 : Pm n → Prop} {O : Nat → List Nat} {R : Nat → Nat → Pm n} {Lg CL fs : List (Pm n)} {i j : Nat}
def CosI (O : Nat → List Nat) (R : Nat → Nat → Pm n) (Lg CL fs : List (Pm n)) (i j : Nat) : Prop :=
  fs.Nodup ∧ (∀ x ∈ fs, x ∈ CL) ∧ lstC O R (PlainPm.one n) ∈ fs ∧ (∀ k x s, k < i → fs[k]? = some x → s ∈ Lg → lstC O R (x.mul s) ∈ fs) ∧ (∀ x k s, fs[i]? = some x → k < j → Lg[k]? = some s → lstC O R (x.mul s) ∈ fs)
theorem cos_in (h : ChG G O R) (hG2 : IsG G2) (hs : ∀ x, G x → G2 x) (hC : ∀ x, x ∈ CL ↔ G2 x ∧ lstC O R x = x) {x : Pm n} (hx : G2 x) : lstC O R x ∈ CL := by
  obtain ⟨g, hg, e⟩ := lstC_mem h x
  exact (hC _).2 ⟨by rw [e]; exact hG2.mul (hs g hg) hx, lstC_idem h x⟩
theorem CosI.start (hC : lstC O R (PlainPm.one n) ∈ CL) : CosI O R Lg CL [lstC O R (PlainPm.one n)] 0 0 :=
  ⟨by simp, fun x hx => by rw [List.mem_singleton.1 hx]; exact hC, by simp, fun k x s hk => absurd hk (by omega), fun x k s _ hk => absurd hk (by omega)⟩
theorem CosI.old (h : CosI O R Lg CL fs i j) {x s : Pm n} (hx : fs[i]? = some x) (hs : Lg[j]? = some s) (hin : lstC O R (x.mul s) ∈ fs) : CosI O R Lg CL fs i (j + 1) := by
  obtain ⟨h1, h2, h3, h4, h5⟩ := h
  refine ⟨h1, h2, h3, h4, fun x' k s' hx' hk hs' => ?_⟩
  rcases Nat.lt_or_ge k j with hkj | hkj
  · exact h5 x' k s' hx' hkj hs'
  · have e : k = j := by omega
    subst e
    rw [hx] at hx'; cases hx'
    rw [hs] at hs'; cases hs'
    exact hin
theorem CosI.new (h : CosI O R Lg CL fs i j) (hi : i < fs.length) {y : Pm n} (hy : y ∈ CL) (hn : y ∉ fs) : CosI O R Lg CL (fs ++ [y]) i j := by
  obtain ⟨h1, h2, h3, h4, h5⟩ := h
  refine ⟨?_, fun x hx => ?_, List.mem_append_left _ h3, fun k x s hk hx hs => ?_, fun x k s hx hk hs => ?_⟩
  · rw [List.nodup_append]
    exact ⟨h1, by simp, fun a ha b hb => by rw [List.mem_singleton.1 hb]; exact fun e => hn (e ▸ ha)⟩
  · rcases List.mem_append.1 hx with hx | hx
    · exact h2 x hx
    · rw [List.mem_singleton.1 hx]; exact hy
  · rw [List.getElem?_append_left (by omega)] at hx
    exact List.mem_append_left _ (h4 k x s hk hx hs)
  · rw [List.getElem?_append_left hi] at hx
    exact List.mem_append_left _ (h5 x k s hx hk hs)
theorem CosI.next (h : CosI O R Lg CL fs i Lg.length) : CosI O R Lg CL fs (i + 1) 0 := by
  obtain ⟨h1, h2, h3, h4, h5⟩ := h
  refine ⟨h1, h2, h3, fun k x s hk hx hs => ?_, fun x k s _ hk => absurd hk (by omega)⟩
  rcases Nat.lt_or_ge k i with hki | hki
  · exact h4 k x s hki hx hs
  · have e : k = i := by omega
    subst e
    obtain ⟨q, hq, hqs⟩ := List.mem_iff_getElem.1 hs
    exact h5 x q s hx hq (by rw [List.getElem?_eq_getElem hq, hqs])
theorem CosI.done (h : CosI O R Lg CL fs i 0) (hi : fs.length ≤ i) (hc : ChG G O R) (hC : ∀ x, x ∈ CL ↔ G2 x ∧ lstC O R x = x) (hL : ∀ x, Grp (· ∈ Lg) x ↔ G2 x) : ∀ x ∈ CL, x ∈ fs := by
  obtain ⟨h1, h2, h3, h4, h5⟩ := h
  have step : ∀ x s, lstC O R x ∈ fs → s ∈ Lg → lstC O R (x.mul s) ∈ fs := by
    intro x s ih hs
    obtain ⟨k, hk, hkx⟩ := List.mem_iff_getElem.1 ih
    have h6 := h4 k (lstC O R x) s (by omega) (by rw [List.getElem?_eq_getElem hk, hkx]) hs
    obtain ⟨g, hg, e⟩ := lstC_mem hc x
    rwa [e, Pm.mul_assoc, lstC_coset hc hg] at h6
  have pws : ∀ k x s, lstC O R x ∈ fs → s ∈ Lg → lstC O R (x.mul (pw s k)) ∈ fs := by
    intro k
    induction k with
    | zero => intro x s hx hs; rw [show pw s 0 = PlainPm.one n from rfl, Pm.mul_one]; exact hx
    | succ k ih =>
      intro x s hx hs
      have h7 := step _ s (ih x s hx hs) hs
      rw [Pm.mul_assoc] at h7
      have h8 := pw_add s k 1
      have h9 : pw s 1 = s := by simp [pw, Pm.one_mul, Pm.mul_one]
      rw [h9] at h8
      rw [h8]
      exact h7
  have key : ∀ x, Grp (· ∈ Lg) x → lstC O R x ∈ fs := by
    intro x hx
    induction hx with
    | one => exact h3
    | mul x s hx hs ih => exact step x s ih hs
    | inv x s hx hs ih =>
      obtain ⟨k, hk⟩ := pw_order s
      rw [hk]
      exact pws k x s ih hs
  intro x hx
  obtain ⟨h6, h7⟩ := (hC x).1 hx
  have := key x ((hL x).2 h6)
  rwa [h7] at this
theorem CosI.le (h : CosI O R Lg CL fs i j) : fs.length ≤ CL.length := sub_len h.1 h.2.1
theorem CosI.all (h : CosI O R Lg CL fs i 0) (hi : fs.length ≤ i) (hc : ChG G O R) (hn : CL.Nodup) (hC : ∀ x, x ∈ CL ↔ G2 x ∧ lstC O R x = x) (hL : ∀ x, Grp (· ∈ Lg) x ↔ G2 x) : CL.length = fs.length ∧ ∀ x, x ∈ fs ↔ x ∈ CL :=
  ⟨Nat.le_antisymm (sub_len hn (h.done hi hc hC hL)) h.le, fun x => ⟨h.2.1 x, h.done hi hc hC hL x⟩⟩
end Go.Proofs.YtbejhkojdiadaaaGreatDoor
namespace Go.Proofs.YtbejhkojdiadaaaGreatDoor
open Go.RowKit PlainPm
theorem newpm_box {n : Nat} (hn : 0 < n) {w W : World} {k : Nat} {a : Option Addr} {l c : Nat} {u v : Value} {x : Pm n} (h : NewPm w W v x) (hk : W.heap[k]? = some (.cells #[.slice a l c] 41 (0, 0))) : NewPm w (W.setCell ⟨k, 0, none⟩ u) v x := by
  obtain ⟨b, c', rfl, h1, h2, h3⟩ := h
  have hne : b ≠ k := by
    rintro rfl
    have := h3 0 hn
    simp only [World.cell?, hk] at this
    simp at this
  refine ⟨b, c', rfl, h1, by simpa [World.setCell] using h2, fun i hi => ?_⟩
  rw [← h3 i hi]
  exact World.cell?_of_block (w := W) (Below.heap_setCell _ _ _ _ hne)
set_option maxRecDepth 100000 in
set_option maxHeartbeats 1000000 in
theorem least50n {n ab ao c bb bo e : Nat} {G : Pm n → Prop} {O : Nat → List Nat} {R : Nat → Nat → Pm n} (hn0 : 0 < n) (hn : n ≤ 64) (hG : ChG G O R) {y : Pm n} {va : Value} {w : World} (h : LvW n w O R ab ao bb bo) (hy : PmV w [] va y) :
    Calls Tryz.prog 50 #[cv n ab ao c bb bo e, va] w fun e w' => ∃ v, e = .returned v ∧ NewPm w w' v (lstF O R n 0 y) ∧ Below w.heap.size w w' := by
  obtain ⟨X, hX⟩ : ∃ X, w.heap.size = X := ⟨_, rfl⟩
  have hB0 := BoxW.start w X n ab ao c bb bo e hX
  obtain ⟨W2, hW2⟩ : ∃ W2, W2 = (w.alloc (.cells #[.int .i64 (n : Int), .slice (some ⟨ab, ao, none⟩) n c, .slice (some ⟨bb, bo, none⟩) n e] 25)).alloc (.cells #[va] 41) := ⟨_, rfl⟩
  have hB2 : BoxW w X n ab ao c bb bo e W2 := by rw [hW2]; exact hB0.below (alloc_b (Below.refl _ _) _ (by simp; omega))
  have k1 : W2.heap[X + 1]? = some (.cells #[va] 41 (0, 0)) := by
    have := World.alloc_heap_new (w.alloc (.cells #[.int .i64 (n : Int), .slice (some ⟨ab, ao, none⟩) n c, .slice (some ⟨bb, bo, none⟩) n e] 25)) (.cells #[va] 41)
    rw [show (w.alloc (.cells #[.int .i64 (n : Int), .slice (some ⟨ab, ao, none⟩) n c, .slice (some ⟨bb, bo, none⟩) n e] 25)).heap.size = X + 1 by simp; omega] at this
    rw [hW2]; exact this
  have hwW : Below w.heap.size w W2 := by rw [hX]; exact hB2.bel
  have H := Lib.hid (And.intro h (And.intro (hy.below hwW) (And.intro hB2 (And.intro k1 (And.intro hX (And.intro hwW hG))))))
  clear h hy hB2 k1 hwW hG hB0
  obtain ⟨b, o, c', rfl, _⟩ := id H.out.2.1
  go_enter Tryz.func50, Tryz.ntmps50
  try rw [hX]
  go_wp2_with fail
  try rw [← hW2]
  clear hW2
  go_loopw [5, 6, 9] (fun _ _ i wr => ∃ (k : Nat) (va' : Value) (z : Pm n), k ≤ n ∧ i = .int .i64 (k : Int) ∧ BoxW w X n ab ao c bb bo e wr ∧ wr.heap[X + 1]? = some (.cells #[va'] 41 (0, 0)) ∧ PmV wr [] va' z ∧ lstF O R (n - k) k z = lstF O R n 0 y ∧ (0 < k → NewPm w wr va' z)) (fun _ _ i _ => n - (intOf i).toNat)
  case atStart => exact ⟨0, _, y, by omega, rfl, H.out.2.2.1, H.out.2.2.2.1, H.out.2.1, rfl, fun h => absurd h (by omega)⟩
  case round =>
    obtain ⟨k, va', z, hk, rfl, hb, hc, hz, he, hnw⟩ := hrel
    by_cases hkn : k < n
    · have hwr : Below w.heap.size w wr := by rw [hX]; exact hb.bel
      obtain ⟨vo, ho, hpo⟩ := (H.out.1.below hwr).orb k hkn
      have hbm := H.out.2.2.2.2.2.2.best_mem hkn z
      have hpos := H.out.2.2.2.2.2.2.pos hkn
      have hlt := H.out.2.2.2.2.2.2.lt k hkn
      have x0 := hb.c0
      have x1 := hb.c1
      have x2 := hb.c2
      have y1 : wr.cell? ⟨X + 1, 0, none⟩ = some va' := by simp [World.cell?, hc]
      have hlow := low113 (p1 := X + 1) hlt hpos hpo y1 hz
      obtain ⟨q, hq⟩ : ∃ q, best z (O k) ((O k).headD 0) = q := ⟨_, rfl⟩
      rw [hq] at hlow hbm
      have hqn := hlt q hbm
      have hst := fun (V : World) (hv : Below wr.heap.size wr V) => (step62 (c := c) (e := e) hn hkn hlt hbm (H.out.1.below (below_trans hwr hv)) (hz.below hv)).mono (fun e1 w6 h6 => (show ∃ v, e1 = .returned v ∧ NewPm w w6 v ((R k q).mul z) ∧ Below wr.heap.size wr w6 ∧ w6.heap[X + 1]? = some (.cells #[va'] 41 (0, 0)) from by
        obtain ⟨v, h1, h2, h3⟩ := h6
        have h4 := below_trans hv h3
        exact ⟨v, h1, h2.from (Nat.le_trans hwr.size hv.size), h4, (h4.block (X + 1) (Array.getElem?_eq_some_iff.1 hc).1).trans hc⟩))
      have hnx : lstF O R (n - (k + 1)) (k + 1) ((R k q).mul z) = lstF O R n 0 y := by
        rw [← he, show n - k = n - (k + 1) + 1 by omega, lstF, hq]
      obtain ⟨zb, zo, zc, rfl, _, hzb, hzc⟩ := id hz
      have y2 := hzc q hqn
      obtain ⟨gg, og, cg, rfl, _⟩ := id hpo
      obtain ⟨L, hL⟩ : ∃ L, (O k).length = L := ⟨_, rfl⟩
      rw [hL] at hlow ho
      have HC := Lib.hid (And.intro hlow (And.intro hst (And.intro hnx (And.intro hb (And.intro hc hwr)))))
      have hk1 : (k : Int) < n := by omega
      clear hlow hst hnx hb hc hwr hpo hbm hpos hlt hz hzc he hq hL hnw
      go_wp2_with (go_at_call 86; (with_reducible refine HC.out.1.mono ?_); rintro e1 w4 ⟨rfl, rfl⟩)
      go_region_with (first
        | (go_at_call 61; (with_reducible refine (HC.out.2.1 _ (by first | exact Below.refl _ _ | exact below_drew (Below.refl _ _) | exact below_self_drewN _ _)).mono ?_); rintro e1 w6 ⟨v6, rfl, k1, k2, g6⟩; obtain ⟨sb, sc, rfl, _⟩ := id k1; obtain ⟨g7, g8⟩ := bx1 g6; have H6 := Lib.hid (And.intro k1 (And.intro k2 g6)); clear k1 k2 g6))
      all_goals
        go_wp2_with fail
        refine ⟨⟨k + 1, _, _, by omega, by go_num, ?_, heap_setCell_box_a _ H6.out.2.2, (newpm_box hn0 H6.out.1 H6.out.2.2).pm (by simp), HC.out.2.2.1, fun _ => newpm_box hn0 H6.out.1 H6.out.2.2⟩, by simp [intOf]; omega⟩
        have h1 := HC.out.2.2.2.1.lt
        exact HC.out.2.2.2.1.below ((H6.out.2.1.mono h1).setCell (p := ⟨X + 1, 0, none⟩) (Nat.le_refl _) _)
    · obtain rfl : k = n := by omega
      have hk1 : ¬ (k : Int) < k := by omega
      have y1 : wr.cell? ⟨X + 1, 0, none⟩ = some va' := by simp [World.cell?, hc]
      have HC := Lib.hid (And.intro (hnw hn0) (And.intro hb he))
      clear hz hb he hc hnw
      go_wp2_with fail
      go_ret
      have he := HC.out.2.2
      rw [Nat.sub_self] at he
      exact ⟨_, rfl, by rw [← he]; exact HC.out.1, HC.out.2.1.bel⟩
end Go.Proofs.YtbejhkojdiadaaaGreatDoor
namespace Go.Proofs.YtbejhkojdiadaaaGreatDoor
open Go.RowKit PlainPm
def byts (l : List Int) : List Value := l.map (Value.int .u8)
theorem byts_len (l : List Int) : (byts l).length = l.length := by simp [byts]
theorem byts_get {xs : List Int} {k : Nat} (h : k < xs.length) : (byts xs)[k]? = some (.int .u8 (xs[k]?.getD 0)) := by simp [byts, List.getElem?_map, h]
theorem byts_set (xs : List Int) (k : Nat) (x : Int) : (byts xs).set k (.int .u8 x) = byts (xs.set k x) := by simp [byts, List.map_set]
theorem byts_zero (n : Nat) : List.replicate n (Value.int .u8 0) = byts (List.replicate n 0) := by simp [byts]
def wordB {n : Nat} (x : Pm n) : ByteArray := strOfNums x.l
theorem ofF_all {n : Nat} (x : Pm n) : ofF n x.at = x.l := by
  have hl := x.ok.1
  apply List.ext_getElem?
  intro i
  by_cases hi : i < n
  · rw [ofF_get hi]; exact (atL_get x.ok hi).1.symm
  · rw [List.getElem?_eq_none (by simp [ofF]; omega), List.getElem?_eq_none (by omega)]
theorem wordB_inj {n : Nat} (hn : n ≤ 64) {x y : Pm n} (h : wordB x = wordB y) : x = y := by
  apply Pm.ext
  intro i hi
  have h1 := congrArg (fun b : ByteArray => b.data.toList) h
  simp only [wordB, strOfNums_data] at h1
  have h2 := congrArg (fun l : List UInt8 => l[i]?) h1
  simp only [List.getElem?_map, (atL_get x.ok hi).1, (atL_get y.ok hi).1, Option.map_some, Option.some.injEq, Int.toNat_natCast] at h2
  have h3 := congrArg UInt8.toNat h2
  rw [UInt8.toNat_ofNat', UInt8.toNat_ofNat'] at h3
  have h4 := (atL_get x.ok hi).2
  have h5 := (atL_get y.ok hi).2
  show atL x.l i = atL y.l i
  omega
theorem info5' : (Tryz.prog.info? 5).map (fun i => (i.zero, i.size, i.bytes)) = some (some (.int .u8 0), 1, 1) := by kernel_rfl
set_option maxHeartbeats 400000 in
theorem word85 {n : Nat} (hn : n ≤ 64) {x : Pm n} {va : Value} {M : List Nat} {w : World} (ha : PmV w M va x) :
    Calls Tryz.prog 51 #[va] w fun e w' => e = .returned (.string (wordB x)) ∧ Below w.heap.size w w' := by
  obtain ⟨i5, hi5, hz5, hs5, hb5⟩ := info_parts info5'
  have I5 := Lib.hid (And.intro hi5 (And.intro hz5 (And.intro hs5 hb5)))
  clear hi5 hz5 hs5 hb5
  obtain ⟨ba, oa, ca, rfl, _, hal, hac⟩ := ha
  have H := Lib.hid (And.intro hal hac)
  clear hal hac
  go_enter Tryz.func51, Tryz.ntmps51
  go_wp2_with (at_make; refine mk1 rfl _ _ 109 5 rfl i5 (.int .u8 0) 1 Tryz.underlying109 I5.out.1 I5.out.2.1 I5.out.2.2.1 I5.out.2.2.2 rfl (by omega) w.heap.size n rfl rfl (by omega) (Nat.le_refl _) ?_; intro w1 hd hg hz1; have H1 := Lib.hid (And.intro hd (And.intro hg hz1)); clear hd hg hz1)
  go_loopw [11] (fun i wr => ∃ k : Nat, k ≤ n ∧ i = .int .i64 (k : Int) ∧ Own wr w.heap.size (.slice (some ⟨w.heap.size, 0, none⟩) n n) 5 (byts (upF n k x.at)) ∧ Below w.heap.size w wr) (fun i _ => n - (intOf i).toNat)
  case atStart => exact ⟨0, by omega, rfl, by rw [upF_zero, ← byts_zero]; exact H1.out.1, (Below.refl _ w).grown H1.out.2.1 (Nat.le_refl _) (by simp)⟩
  case round =>
    obtain ⟨k, hk, rfl, ho, hb⟩ := hrel
    by_cases hkn : k < n
    · have c1 : wr.cell? ⟨ba, oa + k, none⟩ = some (.int .i64 (x.at k : Int)) := (hb.cell (p := ⟨ba, oa + k, none⟩) H.out.1).trans (H.out.2 k hkn)
      have hp : x.at k < n := x.lt hkn
      have f1 := ho.frozen k
      have d1 := (ho.cell k (by rw [byts_len, upF_len]; exact hkn)).trans (byts_get (by rw [upF_len]; exact hkn))
      obtain ⟨p, hpe⟩ : ∃ p, x.at k = p := ⟨_, rfl⟩
      have HP := Lib.hid (And.intro ho (And.intro hb hpe))
      rw [hpe] at c1 hp
      have hw8 : IntKind.u8.wrap (p : Int) = (p : Int) := by rw [IntKind.wrap_u8]; omega
      clear ho hb hpe
      go_wp2
      refine ⟨⟨k + 1, by omega, by go_num, ?_, ?_⟩, by simp [intOf]; omega⟩
      · have := HP.out.1.put k (.int .u8 (p : Int))
        rw [← HP.out.2.2, byts_set, upF_set] at this
        rw [← HP.out.2.2]
        exact this
      · exact HP.out.2.1.setCell (p := ⟨w.heap.size, k, none⟩) (Nat.le_refl _) _
    · obtain rfl : k = n := by omega
      have hcv := run_convert_bytes_arg (P := Tryz.prog) wr 109 5 Tryz.underlying109 Tryz.underlying5 w.heap.size 0 k k x.l x.ok.1 (fun i hi => by
        rw [Nat.zero_add]
        refine (ho.cell i (by rw [byts_len, upF_len]; exact hi)).trans ?_
        rw [byts_get (by rw [upF_len]; exact hi), upF_all, ofF_all]
        simp [List.getD]) 9 Tryz.underlying9
      have HP := Lib.hid (And.intro ho hb)
      clear ho hb
      go_wp2
      go_ret
      exact ⟨rfl, HP.out.2⟩
end Go.Proofs.YtbejhkojdiadaaaGreatDoor
namespace Go.Proofs.YtbejhkojdiadaaaGreatDoor
open Go.RowKit PlainPm Go.Maps
def wkey {n : Nat} (x : Pm n) : Lit := .string (wordB x).data.toList
def Rv (v : Value) : Option (DataW Value × List MemPlace) := some (.held v, [])
section
variable {n : Nat}
theorem wkey_inj (hn : n ≤ 64) {x y : Pm n} (h : wkey x = wkey y) : x = y := by
  unfold wkey at h
  injection h with h
  apply wordB_inj hn
  have h2 : (wordB x).data = (wordB y).data := Array.toList_inj.1 h
  cases hx : wordB x
  cases hy : wordB y
  rw [hx, hy] at h2
  exact congrArg ByteArray.mk h2
theorem wkey_of (hn : n ≤ 64) (x : Pm n) : keyOf Tryz.prog 9 (.string (wordB x)) = some (wkey x) := by
  have hl := x.ok.1
  exact WideMaps.keyOf_string_mk (P := Tryz.prog) Tryz.underlying9 (by unfold wordB; rw [strOfNums_size]; unfold maxLen; omega)
theorem law9 : Keyed Tryz.prog 9 := string_keyed Tryz.underlying9
theorem zero4 (w : World) : (zeroValue 4).run Tryz.prog w = .ok (.bool false) w := by kernel_rfl
def SeenM (w : World) (b N : Nat) (A : Pm n → Prop) : Prop :=
  ∃ D : DataW Value, w.ownsMap Tryz.prog 9 Rv b N D ∧ (∀ kl, has D kl = true → ∃ x, A x ∧ kl = wkey x) ∧ ∀ x, A x → has D (wkey x) = true ∧ ∀ z, D.atKey (wkey x) z = .held (.bool true)
theorem SeenM.made (w : World) : SeenM (n := n) (w.alloc (.map #[] 0)) w.heap.size 0 (fun _ => False) :=
  ⟨.map [], World.ownsMap_made _ _ _ _, ⟨fun kl (h : has (.map []) kl = true) => by simp [has] at h, fun x h => h.elim⟩⟩
theorem SeenM.blk {w : World} {b N : Nat} {A : Pm n → Prop} (h : SeenM w b N A) : ∃ es clock, w.heap[b]? = some (.map es clock) := by
  obtain ⟨D, ⟨es, clock, h1, _⟩, _⟩ := h
  exact ⟨es, clock, h1⟩
theorem SeenM.kept {w w' : World} {b N : Nat} {A : Pm n → Prop} {row : Option Nat} (h : SeenM w b N A) (hg : w.grownBy w' row) (hne : some b ≠ row) : SeenM w' b N A := by
  obtain ⟨D, h1, h2⟩ := h
  exact ⟨D, h1.kept hg hne, h2⟩
theorem SeenM.below {w w' : World} {b N : Nat} {A : Pm n → Prop} (h : SeenM w b N A) (k : Below w.heap.size w w') : SeenM w' b N A := h.kept (grown_below k none) (by simp)
theorem SeenM.congr {w : World} {b N : Nat} {A B : Pm n → Prop} (h : SeenM w b N A) (e : ∀ x, A x ↔ B x) : SeenM w b N B := by
  obtain ⟨D, h1, h2, h3⟩ := h
  exact ⟨D, h1, fun kl hk => by obtain ⟨x, hx, he⟩ := h2 kl hk; exact ⟨x, (e x).1 hx, he⟩, fun x hx => h3 x ((e x).2 hx)⟩
theorem SeenM.put (hn : n ≤ 64) {w : World} {b N : Nat} {A : Pm n → Prop} {x : Pm n} (h : SeenM w b N A) (hN : N < 1000000) :
    ∃ w', (Instr.mapUpdate 86 (.map (some b)) (.string (wordB x)) (.bool true)).run Tryz.prog w = .ok () w' ∧ SeenM w' b (N + 1) (fun z => A z ∨ z = x) ∧ w.grownBy w' (some b) := by
  obtain ⟨D, h1, h2, h3⟩ := h
  obtain ⟨w', hrun, hown, hg⟩ := h1.update law9 Tryz.underlying86 (by unfold maxLen; omega) (wkey_of hn x) (show Rv (.bool true) = some (.held (.bool true), []) from rfl)
  refine ⟨w', hrun, ⟨_, hown, fun kl hk => ?_, fun z hz => ?_⟩, hg⟩
  · by_cases e : kl = wkey x
    · exact ⟨x, .inr rfl, e⟩
    · rw [has_put_other e] at hk
      obtain ⟨z, hz, he⟩ := h2 kl hk
      exact ⟨z, .inl hz, he⟩
  · by_cases e : z = x
    · subst e
      exact ⟨has_put_same h1.isMap (show WideAt.IsKeyLit (wkey z) from trivial) _, fun u => atKey_put_same h1.isMap (show WideAt.IsKeyLit (wkey z) from trivial) _ _⟩
    · have hne : wkey z ≠ wkey x := fun h => e (wkey_inj hn h)
      obtain ⟨h4, h6⟩ := h3 z (hz.resolve_right e)
      exact ⟨(has_put_other hne _).trans h4, fun q => (atKey_put_other hne _ _).trans (h6 q)⟩
open Classical in
theorem SeenM.look (hn : n ≤ 64) {w : World} {b N : Nat} {A : Pm n → Prop} (h : SeenM w b N A) (x : Pm n) :
    (Instr.lookup 86 (.map (some b)) (.string (wordB x)) false).run Tryz.prog w = .ok (.bool (decide (A x))) w := by
  obtain ⟨D, ⟨es, clock, hb, F, hs, rfl⟩, h2, h3⟩ := h
  rcases Maps.fit_look false law9 Tryz.underlying86 (zero4 w) hb F (wkey_of hn x) with ⟨hrun, _, hat⟩ | ⟨e0, y, _, _, hrun, hRv, hat, _⟩
  · rw [hrun]
    have hA : ¬ A x := fun hx => by
      have h4 := (h3 x hx).1
      rw [Maps.has_false_of_atKey hat] at h4
      cases h4
    simp [hA]
  · have h4 := Maps.has_true_of_atKey hat
    obtain ⟨z, hz, he⟩ := h2 _ h4
    have := wkey_inj hn he
    subst this
    have h5 := (h3 x hz).2 (.held (.bool false))
    rw [hat] at h5
    have h6 : y.1 = .held e0.val := by
      simp only [Rv, Option.some.injEq] at hRv
      rw [← hRv]
    have h7 : e0.val = .bool true := DataW.held.inj (h6.symm.trans h5)
    rw [hrun, decide_eq_true hz, ← h7]
    rfl
theorem makeMap86 (w : World) : (Instr.makeMap 86 none).run Tryz.prog w = .ok (.map (some w.heap.size)) (w.alloc (.map #[] 0)) := by
  simp [Instr.makeMap, run_underlying Tryz.underlying86, Sem.run_pure]
end
end Go.Proofs.YtbejhkojdiadaaaGreatDoor
namespace Go.Proofs.YtbejhkojdiadaaaGreatDoor
open Go.RowKit PlainPm
variable {n : Nat}
def cmpF (x y : Pm n) : Nat → Nat → Int
  | 0, _ => 0
  | f + 1, k => if x.at k < y.at k then -1 else if y.at k < x.at k then 1 else cmpF x y f (k + 1)
def cmpPm (x y : Pm n) : Int := cmpF x y n 0
theorem cmpF_lt (x y : Pm n) : ∀ f k : Nat, k + f = n → (∀ j, j < k → x.at j = y.at j) → (cmpF x y f k < 0 ↔ lexLt x y)
  | 0, k, hf, he => by
    have : x = y := Pm.ext fun i hi => he i (by omega)
    subst this
    simp [cmpF, lexLt_irrefl]
  | f + 1, k, hf, he => by
    have hk : k < n := by omega
    rw [cmpF]
    split
    · rename_i h
      exact ⟨fun _ => ⟨k, hk, he, h⟩, fun _ => by omega⟩
    · split
      · rename_i h1 h
        refine ⟨fun h => by omega, fun hl => ?_⟩
        exact (lexLt_asymm hl ⟨k, hk, fun j hj => (he j hj).symm, h⟩).elim
      · refine cmpF_lt x y f (k + 1) (by omega) fun j hj => ?_
        rcases Nat.lt_or_ge j k with h | h
        · exact he j h
        · have : j = k := by omega
          rw [this]; omega
theorem cmpPm_lt (x y : Pm n) : cmpPm x y < 0 ↔ lexLt x y := cmpF_lt x y n 0 (by omega) (fun j hj => absurd hj (by omega))
set_option maxHeartbeats 1000000 in
theorem cmp130 {w : World} {a b : Int} : Calls Tryz.prog 130 #[.int .i64 a, .int .i64 b] w fun e w' => e = .returned (.int .i64 (if a < b then -1 else if b < a then 1 else 0)) ∧ ∃ q, w' = w.drewN q := by
  by_cases h1 : a < b
  · rw [if_pos h1]
    go_enter Tryz.func130, Tryz.ntmps130
    go_wp2
    go_ret
    exact ⟨rfl, 0, rfl⟩
  · rw [if_neg h1]
    by_cases h2 : b < a
    · rw [if_pos h2]
      go_enter Tryz.func130, Tryz.ntmps130
      go_wp2
      go_ret
      exact ⟨rfl, 0, rfl⟩
    · rw [if_neg h2]
      go_enter Tryz.func130, Tryz.ntmps130
      go_wp2
      go_ret
      exact ⟨rfl, 0, rfl⟩
set_option maxHeartbeats 2000000 in
theorem compare90 (hn : n ≤ 64) {w : World} {M M' : List Nat} {v v' : Value} {x y : Pm n} (hx : PmV w M v x) (hy : PmV w M' v' y) :
    Calls Tryz.prog 90 #[v, v'] w fun e w' => e = .returned (.int .i64 (cmpPm x y)) ∧ ∃ q, w' = w.drewN q := by
  obtain ⟨xb, xo, xc, rfl, _, xl, hxc⟩ := hx
  obtain ⟨yb, yo, yc, rfl, _, yl, hyc⟩ := hy
  have H := Lib.hid (And.intro hxc hyc)
  clear hxc hyc
  go_enter Tryz.func90, Tryz.ntmps90
  go_wp2
  go_loopw [11] (fun i wr => ∃ k q : Nat, k ≤ n ∧ i = .int .i64 (k : Int) ∧ wr = w.drewN q ∧ cmpPm x y = cmpF x y (n - k) k) (fun i _ => n - (intOf i).toNat)
  case atStart => exact ⟨0, 0, Nat.zero_le _, rfl, rfl, rfl⟩
  case round =>
    obtain ⟨k, q, hk, rfl, rfl, he⟩ := hrel
    by_cases hkn : k < n
    · have c1 := H.out.1 k hkn
      have c2 := H.out.2 k hkn
      obtain ⟨f, hf⟩ : ∃ f, n - k = f + 1 := ⟨n - k - 1, by omega⟩
      rw [hf, cmpF] at he
      obtain ⟨a, ha⟩ : ∃ a, x.at k = a := ⟨_, rfl⟩
      obtain ⟨b, hb⟩ : ∃ b, y.at k = b := ⟨_, rfl⟩
      rw [ha] at c1
      rw [hb] at c2
      rw [ha, hb] at he
      have hcm := fun (W : World) => cmp130 (w := W) (a := (a : Int)) (b := (b : Int))
      have hkI : (k : Int) < (n : Int) := by omega
      have hkI2 : ¬ (n : Int) ≤ (k : Int) := by omega
      obtain ⟨r, hr⟩ : ∃ r : Int, (if (a : Int) < (b : Int) then (-1 : Int) else if (b : Int) < (a : Int) then 1 else 0) = r := ⟨_, rfl⟩
      simp only [hr] at hcm
      by_cases h1 : a < b
      · rw [if_pos h1] at he
        have hr1 : r = -1 := by rw [← hr, if_pos (by omega)]
        subst hr1
        have HC := Lib.hid (And.intro hcm he)
        clear hcm he hr
        go_wp2_with (go_at_call 130; (with_reducible refine (HC.out.1 _).mono ?_); rintro e1 w1 ⟨rfl, q1, rfl⟩)
        go_ret
        exact ⟨by rw [HC.out.2]; rfl, _, rfl⟩
      · rw [if_neg h1] at he
        by_cases h2 : b < a
        · rw [if_pos h2] at he
          have hr1 : r = 1 := by rw [← hr, if_neg (by omega), if_pos (by omega)]
          subst hr1
          have HC := Lib.hid (And.intro hcm he)
          clear hcm he hr
          go_wp2_with (go_at_call 130; (with_reducible refine (HC.out.1 _).mono ?_); rintro e1 w1 ⟨rfl, q1, rfl⟩)
          go_ret
          exact ⟨by rw [HC.out.2]; rfl, _, rfl⟩
        · rw [if_neg h2] at he
          have hr1 : r = 0 := by rw [← hr, if_neg (by omega), if_neg (by omega)]
          subst hr1
          have HC := Lib.hid (And.intro hcm he)
          clear hcm he hr
          go_wp2_with (go_at_call 130; (with_reducible refine (HC.out.1 _).mono ?_); rintro e1 w1 ⟨rfl, q1, rfl⟩)
          refine ⟨⟨k + 1, q + q1, by omega, by go_num, rfl, ?_⟩, by simp [intOf]; omega⟩
          rw [HC.out.2, show n - (k + 1) = f by omega]
    · obtain rfl : n = k := by omega
      rw [Nat.sub_self, cmpF] at he
      have hni : ¬ (n : Int) < (n : Int) := by omega
      have HC := Lib.hid he
      clear he
      go_wp2
      go_ret
      exact ⟨by rw [HC.out]; rfl, q, rfl⟩
theorem cmp55 (hn : n ≤ 64) {w : World} {M M' : List Nat} {v v' : Value} {x y : Pm n} (hx : PmV w M v x) (hy : PmV w M' v' y) :
    Calls Tryz.prog 55 #[v, v'] w fun e w' => e = .returned (.int .i64 (cmpPm x y)) ∧ ∃ q, w' = w.drewN q := by
  have h := compare90 hn hx hy
  obtain ⟨xb, xo, xc, rfl, _⟩ := id hx
  obtain ⟨yb, yo, yc, rfl, _⟩ := id hy
  have H := Lib.hid h
  clear h hx hy
  go_enter Tryz.func55, Tryz.ntmps55
  go_wp2_with (go_at_call 90; (with_reducible refine H.out.mono ?_); rintro e1 w1 ⟨rfl, q1, rfl⟩)
  go_ret
  exact ⟨rfl, q1, rfl⟩
end Go.Proofs.YtbejhkojdiadaaaGreatDoor
namespace Go.Proofs
open Go.Shelf
def Tryz.sortP_ren : Go.Shelf.Ren := ⟨fun | 6 => 54 | 15 => 89 | 14 => 88 | 28 => 128 | 29 => 129 | 20 => 120 | 21 => 121 | 22 => 122 | 23 => 123 | 24 => 124 | 25 => 125 | 26 => 126 | 27 => 127 | 46 => 143 | 47 => 144 | 48 => 145 | 49 => 146 | 50 => 147 | 57 => 159 | n => n, fun | 22 => 28 | 24 => 41 | 25 => 88 | 3 => 3 | 39 => 118 | 0 => 0 | 53 => 162 | 55 => 164 | 4 => 4 | 46 => 156 | 45 => 155 | 50 => 93 | 5 => 5 | 9 => 9 | 66 => 174 | 70 => 178 | 76 => 187 | 77 => 188 | n => n, fun | n => n⟩
theorem Tryz.sortP : Go.Proofs.SlLaysF.n6 Tryz.prog Tryz.sortP_ren :=
  {
    mixed := by kernel_rfl,
    f6 := ⟨Tryz.f54.name, by decide, Tryz.func54.trans (congrArg some (by kernel_rfl))⟩,
    f14 := ⟨Tryz.f88.name, by decide, Tryz.func88.trans (congrArg some (by kernel_rfl))⟩,
    f15 := Tryz.func89.trans (congrArg some (by kernel_rfl)),
    f20 := ⟨Tryz.f120.name, by decide, Tryz.func120.trans (congrArg some (by kernel_rfl))⟩,
    f21 := ⟨Tryz.f121.name, by decide, Tryz.func121.trans (congrArg some (by kernel_rfl))⟩,
    f22 := ⟨Tryz.f122.name, by decide, Tryz.func122.trans (congrArg some (by kernel_rfl))⟩,
    f23 := ⟨Tryz.f123.name, by decide, Tryz.func123.trans (congrArg some (by kernel_rfl))⟩,
    f24 := ⟨Tryz.f124.name, by decide, Tryz.func124.trans (congrArg some (by kernel_rfl))⟩,
    f25 := ⟨Tryz.f125.name, by decide, Tryz.func125.trans (congrArg some (by kernel_rfl))⟩,
    f26 := ⟨Tryz.f126.name, by decide, Tryz.func126.trans (congrArg some (by kernel_rfl))⟩,
    f27 := ⟨Tryz.f127.name, by decide, Tryz.func127.trans (congrArg some (by kernel_rfl))⟩,
    f28 := Tryz.func128.trans (congrArg some (by kernel_rfl)),
    f29 := Tryz.func129.trans (congrArg some (by kernel_rfl)),
    f46 := ⟨Tryz.f143.name, by decide, Tryz.func143.trans (congrArg some (by kernel_rfl))⟩,
    f47 := Tryz.func144.trans (congrArg some (by kernel_rfl)),
    f48 := Tryz.func145.trans (congrArg some (by kernel_rfl)),
    f49 := ⟨Tryz.f146.name, by decide, Tryz.func146.trans (congrArg some (by kernel_rfl))⟩,
    f50 := ⟨Tryz.f147.name, by decide, Tryz.func147.trans (congrArg some (by kernel_rfl))⟩,
    f57 := ⟨Tryz.f159.name, by decide, Tryz.func159.trans (congrArg some (by kernel_rfl))⟩,
    t0 := Tryz.underlying0,
    a0 := Tryz.isAgg0,
    z0 := Tryz.sizeOf0,
    v0 := Tryz.zeroValue0,
    t3 := Tryz.underlying3,
    a3 := Tryz.isAgg3,
    z3 := Tryz.sizeOf3,
    v3 := Tryz.zeroValue3,
    t4 := Tryz.underlying4,
    a4 := Tryz.isAgg4,
    z4 := Tryz.sizeOf4,
    v4 := Tryz.zeroValue4,
    t5 := Tryz.underlying5,
    a5 := Tryz.isAgg5,
    z5 := Tryz.sizeOf5,
    v5 := Tryz.zeroValue5,
    t9 := Tryz.underlying9,
    a9 := Tryz.isAgg9,
    z9 := Tryz.sizeOf9,
    v9 := Tryz.zeroValue9,
    t22 := Tryz.underlying28,
    a22 := Tryz.isAgg28,
    z22 := Tryz.sizeOf28,
    v22 := Tryz.zeroValue28,
    a24 := Tryz.isAgg41,
    z24 := Tryz.sizeOf41,
    t25 := Tryz.underlying88,
    a25 := Tryz.isAgg88,
    z25 := Tryz.sizeOf88,
    v25 := Tryz.zeroValue88,
    t39 := Tryz.underlying118,
    a39 := Tryz.isAgg118,
    z39 := Tryz.sizeOf118,
    v39 := Tryz.zeroValue118,
    t45 := Tryz.underlying155,
    a45 := Tryz.isAgg155,
    z45 := Tryz.sizeOf155,
    v45 := Tryz.zeroValue155,
    t46 := Tryz.underlying156,
    a46 := Tryz.isAgg156,
    z46 := Tryz.sizeOf156,
    v46 := Tryz.zeroValue156,
    t50 := Tryz.underlying93,
    a50 := Tryz.isAgg93,
    z50 := Tryz.sizeOf93,
    v50 := Tryz.zeroValue93,
    t53 := Tryz.underlying162,
    a53 := Tryz.isAgg162,
    z53 := Tryz.sizeOf162,
    v53 := Tryz.zeroValue162,
    t55 := Tryz.underlying164,
    a55 := Tryz.isAgg164,
    z55 := Tryz.sizeOf164,
    v55 := Tryz.zeroValue164,
    t66 := Tryz.underlying174,
    a66 := Tryz.isAgg174,
    z66 := Tryz.sizeOf174,
    v66 := Tryz.zeroValue174,
    t70 := Tryz.underlying178,
    a70 := Tryz.isAgg178,
    z70 := Tryz.sizeOf178,
    v70 := Tryz.zeroValue178,
    t76 := Tryz.underlying187,
    a76 := Tryz.isAgg187,
    z76 := Tryz.sizeOf187,
    v76 := Tryz.zeroValue187,
    t77 := Tryz.underlying188,
    a77 := Tryz.isAgg188,
    z77 := Tryz.sizeOf188,
    v77 := Tryz.zeroValue188 }
end Go.Proofs
namespace Go.Proofs.YtbejhkojdiadaaaGreatDoor
open Go.RowKit Go.Sort Go.Shelf PlainPm
theorem swo_lex {n m : Nat} (F : Fin m → Pm n) : SWO (ltOf fun i j => cmpPm (F i) (F j)) := by
  have hlt : ∀ x y : Fin m, ltOf (fun i j => cmpPm (F i) (F j)) x y = true ↔ lexLt (F x) (F y) := fun x y => by
    show decide (_ < 0) = true ↔ _
    rw [decide_eq_true_iff]
    exact cmpPm_lt _ _
  have hltf : ∀ x y : Fin m, ltOf (fun i j => cmpPm (F i) (F j)) x y = false ↔ ¬ lexLt (F x) (F y) := fun x y => by
    rw [← hlt]; simp
  refine ⟨fun x => (hltf x x).2 (lexLt_irrefl _), fun x y z h k => (hlt x z).2 (lexLt_trans ((hlt x y).1 h) ((hlt y z).1 k)), fun x y z h k => (hltf x z).2 (fun hxz => ?_)⟩
  have h1 := (hltf x y).1 h
  have h2 := (hltf y z).1 k
  rcases Classical.em (F x = F y) with e | e
  · rw [e] at hxz; exact h2 hxz
  · exact h2 (lexLt_trans (lexLt_total h1 e) hxz)
set_option maxHeartbeats 1000000 in
theorem sort54 {n : Nat} (hn : 0 < n ∧ n ≤ 64) {w : World} {D g c m : Nat} {us : List Value} {fs : List (Pm n)} (ho : Own w D (.slice (some ⟨g, 0, none⟩) m c) 41 us) (hp : PmL w [g] us fs) (hm : fs.length = m) (h5 : m ≤ 5040) (h0 : 0 < m) :
    Calls Tryz.prog 54 #[.slice (some ⟨g, 0, none⟩) m c, .func (.func 55) #[] #[]] w fun e w' => e = .returned (.tuple #[]) ∧ ∃ us' fs', fs'.Perm fs ∧ fs'.Pairwise (fun a b => ¬ lexLt b a) ∧ Own w' D (.slice (some ⟨g, 0, none⟩) m c) 41 us' ∧ PmL w' [g] us' fs' ∧ w.grownBy w' (some g) := by
  obtain ⟨k, hk⟩ : ∃ k, m = k + 1 := ⟨m - 1, by omega⟩
  subst hk
  obtain ⟨blk, e, -, hblt, -⟩ := ho.at_form (by omega)
  cases e
  have hul : us.length = k + 1 := by rw [hp.1, hm]
  let enc : Fin (k + 1) → Value := fun i => us[i.val]'(by have := i.isLt; omega)
  let F : Fin (k + 1) → Pm n := fun i => fs[i.val]'(by have := i.isLt; omega)
  have hpe : ∀ i : Fin (k + 1), PmV w [g] (enc i) (F i) := fun i => by
    obtain ⟨v, h1, h2⟩ := hp.2 i.val (F i) (List.getElem?_eq_getElem (by have := i.isLt; omega))
    rw [List.getElem?_eq_getElem (by have := i.isLt; omega)] at h1
    injection h1 with h1
    show PmV w [g] (us[i.val]'_) _
    rw [h1]; exact h2
  let d : Array (Fin (k + 1)) := Array.ofFn (fun i : Fin (k + 1) => i)
  have hds : d.size = k + 1 := by simp [d]
  have hdu : d.toList.map enc = us := by
    apply List.ext_getElem
    · simp [d, hul]
    · intro j h1 h2
      simp only [d, enc, List.getElem_map, Array.getElem_toList, Array.getElem_ofFn]
  have hdf : d.toList.map F = fs := by
    apply List.ext_getElem
    · simp [d, hm]
    · intro j h1 h2
      simp only [d, F, List.getElem_map, Array.getElem_toList, Array.getElem_ofFn]
  have hown : Own w D (.slice (some ⟨g, 0, none⟩) (k + 1) c) 41 (d.toList.map enc) := by rw [hdu]; exact ho
  have hcmp : CmpLays1 Tryz.prog 55 #[] enc (fun i j => cmpPm (F i) (F j)) g 0 d.size w := by
    intro m os dk hdk x y
    have hg1 := grown_sortWorld enc w g 0 m dk os
    have hK : Kept w (sortWorld enc w g 0 m dk os) [g] := Kept.ofGrown hg1 (fun k e => by cases e; simp)
    have hc := cmp55 hn.2 (w := sortWorld enc w g 0 m dk os) ((hpe x).kept hK) ((hpe y).kept hK)
    exact hc.mono fun e w' ⟨he, q, hw⟩ => ⟨he, q, #[], by rw [hw, grow_empty]⟩
  have hcon := Any.slices_SortFunc Tryz.sortP enc (fun _ => ?_) (fun i j => cmpPm (F i) (F j)) (swo_lex F) 55 #[] g 0 c d w (enters_of Tryz.func55 (by kernel_rfl) rfl) hcmp (holds_own enc d hown) hblt (by rw [hds]; omega)
  · rw [hds] at hcon
    change Calls Tryz.prog 54 _ _ _ at hcon
    refine hcon.mono ?_
    rintro e w' ⟨he, d', m, os, hp', hs, rfl⟩
    have hd's : d'.size = k + 1 := by rw [hp'.1, hds]
    have hg1 := grown_sortWorld enc w g 0 m d' os
    have hK : Kept w (sortWorld enc w g 0 m d' os) [g] := Kept.ofGrown hg1 (fun k e => by cases e; simp)
    have hperm : d'.toList.Perm d.toList := by
      have e0 : ∀ (z : Array (Fin (k + 1))), z.size = k + 1 → (z.extract 0 (k + 1)).toList = z.toList := fun z hz => by
        rw [Array.toList_extract, List.extract_eq_take_drop, List.drop_zero, Nat.sub_zero]
        exact List.take_of_length_le (by simp [hz])
      have h1 := hp'.2.2
      rw [e0 d' hd's, e0 d hds] at h1
      exact h1
    refine ⟨he, d'.toList.map enc, d'.toList.map F, ?_, ?_, own_sortWorld enc hown m os d' hd's, ⟨by simp, fun j s hj => ?_⟩, hg1⟩
    · have := hperm.map F
      rwa [hdf] at this
    · rw [List.pairwise_iff_getElem]
      intro i j hi hj hij
      simp only [List.length_map, Array.length_toList] at hi hj
      have h1 := hs i j (by omega) hij (by omega)
      rw [getElem!_pos d' j hj, getElem!_pos d' i hi] at h1
      simp only [List.getElem_map, Array.getElem_toList]
      intro hl
      have h2 : ltOf (fun i j => cmpPm (F i) (F j)) d'[j] d'[i] = true := by
        show decide (_ < 0) = true
        rw [decide_eq_true_iff]
        exact (cmpPm_lt _ _).2 hl
      rw [h2] at h1
      cases h1
    · rw [List.getElem?_map] at hj ⊢
      cases h1 : d'.toList[j]? with
      | none => rw [h1] at hj; cases hj
      | some i =>
        rw [h1] at hj
        simp only [Option.map_some, Option.some.injEq] at hj
        subst hj
        exact ⟨enc i, rfl, (hpe i).kept hK⟩
  · obtain ⟨b, o, c', h1, _⟩ := id (hpe ‹_›)
    rw [h1]
    rfl
end Go.Proofs.YtbejhkojdiadaaaGreatDoor
namespace Go.Proofs.YtbejhkojdiadaaaGreatDoor
open Go.RowKit PlainPm Go.Maps
variable {n : Nat}
def LeastC (G : Pm n → Prop) (x : Pm n) : Prop := ∀ g, G g → g.mul x = x ∨ lexLt x (g.mul x)
theorem leastC_iff {G : Pm n → Prop} {O : Nat → List Nat} {R : Nat → Nat → Pm n} (h : ChG G O R) (x : Pm n) : LeastC G x ↔ lstC O R x = x := by
  constructor
  · intro hl
    obtain ⟨g, hg, e⟩ := lstC_mem h x
    have h1 := hl g hg
    rw [← e] at h1
    have h2 := lstC_least h (x := x) h.isG.one
    rw [Pm.one_mul] at h2
    rcases h1 with h1 | h1
    · exact h1
    · rcases h2 with h2 | h2
      · exact h2.symm
      · exact (lexLt_asymm h1 h2).elim
  · intro e g hg
    have h1 := lstC_least h (x := x) hg
    rwa [e] at h1
def CosSet (G1 G2 : Pm n → Prop) (CL : List (Pm n)) : Prop := CL.Pairwise lexLt ∧ ∀ x, x ∈ CL ↔ G2 x ∧ LeastC G1 x
theorem pm_apart (hn : 0 < n) {W : World} {u : Value} {x : Pm n} {M : List Nat} (h : PmV W [] u x) (hM : ∀ q ∈ M, ∀ j i, W.cell? ⟨q, j, none⟩ ≠ some (.int .i64 i)) : PmV W M u x := by
  obtain ⟨b, o, c, rfl, h1, h2, h3⟩ := h
  exact ⟨b, o, c, rfl, fun hb => hM b hb _ _ (h3 0 hn), h2, h3⟩
structure CosW (w : World) (X : Nat) (Wb : World) (b g0 N : Nat) (wr : World) (A : Pm n → Prop) (v : Value) (us : List Value) (fs : List (Pm n)) : Prop where
  gl : GrowL [] wr X v us fs
  sm : SeenM wr b N A
  kp : Kept Wb wr [b, g0]
  ob : ∀ g, v.ownBlock = some g → g = g0 ∨ Wb.heap.size ≤ g
  bl : Below X w wr
theorem CosW.below {w : World} {X : Nat} {Wb : World} {b g0 N : Nat} {wr w' : World} {A : Pm n → Prop} {v : Value} {us : List Value} {fs : List (Pm n)} (h : CosW w X Wb b g0 N wr A v us fs) (k : Below wr.heap.size wr w') (hX : X ≤ wr.heap.size) : CosW w X Wb b g0 N w' A v us fs :=
  ⟨h.gl.below k, h.sm.below k, h.kp.trans (Kept.ofBelow k), h.ob, h.bl.trans (k.mono hX)⟩
theorem GrowL.turn {W W' : World} {D : Nat} {v : Value} {us : List Value} {l : List (Pm n)} {row : Option Nat} (h : GrowL [] W D v us l) (k : Turn W W' row) : GrowL [] W' D v us l :=
  ⟨h.1.turn k, h.2.1.up k.up, fun m hm => by simp at hm⟩
theorem CosW.put (hn : n ≤ 64) {w : World} {X : Nat} {Wb : World} {b g0 N : Nat} {wr : World} {A : Pm n → Prop} {v : Value} {us : List Value} {fs : List (Pm n)} (h : CosW w X Wb b g0 N wr A v us fs) (hN : N < 1000000) (hXb : X ≤ b) (hX : X ≤ wr.heap.size) (y : Pm n) :
    ∃ w', (Instr.mapUpdate 86 (.map (some b)) (.string (wordB y)) (.bool true)).run Tryz.prog wr = .ok () w' ∧ CosW w X Wb b g0 (N + 1) w' (fun z => A z ∨ z = y) v us fs ∧ Turn wr w' (some b) := by
  obtain ⟨es, clock, hb⟩ := h.sm.blk
  obtain ⟨w', hrun, hs, hg⟩ := h.sm.put hn (x := y) hN
  have hT : Turn wr w' (some b) := ⟨hg, fun r e => by cases e; exact ⟨_, hb, rfl⟩⟩
  exact ⟨w', hrun, ⟨h.gl.turn hT, hs, h.kp.trans (Kept.ofGrown hg (fun k e => by cases e; simp)), h.ob, h.bl.grown hg hX (fun k e => by cases e; exact hXb)⟩, hT⟩
theorem CosW.app {w : World} {X : Nat} {Wb : World} {b g0 N : Nat} {wr w' : World} {A : Pm n → Prop} {v v' u : Value} {us : List Value} {fs : List (Pm n)} {y : Pm n} (h : CosW w X Wb b g0 N wr A v us fs) (hz : PmV wr (v.ownBlock.toList ++ []) u y) (hX : X ≤ wr.heap.size) (hWb : Wb.heap.size ≤ wr.heap.size)
    (o : Own w' X v' 41 (us ++ [u])) (g : wr.grownBy w' v.ownBlock) (loc : v'.ownBlock = v.ownBlock ∨ ∃ g, v'.ownBlock = some g ∧ wr.heap.size ≤ g) : CosW w X Wb b g0 N w' A v' (us ++ [u]) (fs ++ [y]) := by
  obtain ⟨es, clock, hb⟩ := h.sm.blk
  have hnb : some b ≠ v.ownBlock := fun e => by
    rcases h.gl.1.blk with h1 | ⟨q, cur, h1, _, _, h2⟩
    · rw [h1] at e; cases e
    · rw [h1] at e; cases e; rw [hb] at h2; cases h2
  refine ⟨h.gl.app hz o g loc, h.sm.kept g hnb, ⟨g.os.trans h.kp.os, g.tape.trans h.kp.tape, g.output.trans h.kp.output, Nat.le_trans h.kp.size g.size, fun k hk hn => ?_⟩, fun q hq => ?_, h.bl.grown g hX (fun k e => (h.gl.1.block_lt e).2)⟩
  · have hk2 : some k ≠ v.ownBlock := fun e => by
      rcases h.ob k e.symm with h1 | h1
      · exact hn (by rw [h1]; simp)
      · omega
    exact (g.block k (Nat.lt_of_lt_of_le hk hWb) hk2).trans (h.kp.block k hk hn)
  · rcases loc with h1 | ⟨q', h1, h2⟩
    · exact h.ob q (by rw [← h1]; exact hq)
    · rw [h1] at hq; cases hq; exact .inr (by omega)

set_option maxRecDepth 100000 in
set_option maxHeartbeats 4000000 in
theorem cosets14 {n : Nat} (hn' : 0 < n ∧ n ≤ 8) {w : World} {v1 v2 : Value} {G1 G2 : Pm n → Prop} (hG1 : IsG G1) (hG2 : IsG G2) (h1 : GrG w v1 G1) (h2 : GrG w v2 G2) (hs : ∀ x, G1 x → G2 x) {CL : List (Pm n)} (hCL : CosSet G1 G2 CL) :
    Calls Tryz.prog 14 #[v1, v2] w fun r w' => ∃ v c, r = .returned (.tuple #[v, .int .i64 c]) ∧ ((CL.length ≤ 5040 ∧ c = 0 ∧ ∃ us, Own w' w.heap.size v 41 us ∧ PmL w' [] us CL) ∨ (5040 < CL.length ∧ c = 5 ∧ v = .slice none 0 0)) ∧ Below w.heap.size w w' := by
  have hn : 0 < n ∧ n ≤ 64 := ⟨hn'.1, by omega⟩
  have hbl := fun (V : World) (hV : Below w.heap.size w V) => part44y hn hG1 hG2 (h1.below hV) (h2.below hV) hs
  have hst := fun (V : World) (hV : Below w.heap.size w V) => strong52 hn' hG2 (h2.below hV)
  obtain ⟨T, t, ab, ao, c, bb, bo, e, hv1, hl1⟩ := h1.lev hG1 ⟨hn.1, hn.2⟩
  obtain ⟨T', t', ab', ao', c', bb', bo', e', hv2, hl2⟩ := h2.lev hG2 ⟨hn.1, hn.2⟩
  subst hv1 hv2
  have hO := t.chG hG1
  obtain ⟨O, eO⟩ : ∃ O, orbO T = O := ⟨_, rfl⟩
  obtain ⟨R, eR⟩ : ∃ R, PlainPm.repT T = R := ⟨_, rfl⟩
  have hO : ChG G1 O R := by rw [← eO, ← eR]; exact hO
  have hl1 : LvW n w O R ab ao bb bo := by rw [← eO, ← eR]; exact hl1
  obtain ⟨i27, hi27, hz27, hs27, hb27⟩ := info_parts Tryz.info41
  have I27 := Lib.hid (And.intro hi27 (And.intro hz27 (And.intro hs27 hb27)))
  clear hi27 hz27 hs27 hb27
  obtain ⟨X, hX⟩ : ∃ X, w.heap.size = X := ⟨_, rfl⟩
  obtain ⟨W0, hW0⟩ : ∃ W0, ((w.alloc (.cells #[.int .i64 (n : Int), .slice (some ⟨ab, ao, none⟩) n c, .slice (some ⟨bb, bo, none⟩) n e] 25)).alloc (.cells #[.int .i64 (n : Int), .slice (some ⟨ab', ao', none⟩) n c', .slice (some ⟨bb', bo', none⟩) n e'] 25)) = W0 := ⟨_, rfl⟩
  have hF : Below w.heap.size w W0 ∧ W0.heap[X]? = some (.cells #[.int .i64 (n : Int), .slice (some ⟨ab, ao, none⟩) n c, .slice (some ⟨bb, bo, none⟩) n e] 25) ∧ W0.heap[X + 1]? = some (.cells #[.int .i64 (n : Int), .slice (some ⟨ab', ao', none⟩) n c', .slice (some ⟨bb', bo', none⟩) n e'] 25) := by
    refine ⟨?_, ?_, ?_⟩
    · rw [← hW0]; exact alloc_b (alloc_b (Below.refl _ _) _) _
    · rw [← hW0, ← hX]; exact ((alloc_b (Below.refl _ _) _).block _ (by simp)).trans (box_al25 rfl _ _ _)
    · rw [← hW0]; exact box_al25 (by simp [hX]) _ _ _
  obtain ⟨q0, q1, q2, _⟩ := box_cells hF.2.1
  obtain ⟨p0, p1, p2, _⟩ := box_cells hF.2.2
  have hx6 := And.intro (And.intro q0 (And.intro q1 q2)) (And.intro (And.intro p0 (And.intro p1 p2)) (Below.refl W0.heap.size W0))
  have hwW := hF.1
  have hW0s : W0.heap.size = X + 2 := by rw [← hW0]; simp [hX]
  have hls := fun (V : World) (hV : Below w.heap.size w V) (v : Value) (y : Pm n) (hy : PmV V [] v y) => least50n (c := c) (e := e) hn.1 hn.2 hO (hl1.below hV) hy
  unfold cv at hls
  have hCi : ∀ x, x ∈ CL ↔ G2 x ∧ lstC O R x = x := fun x => (hCL.2 x).trans (by rw [leastC_iff hO])
  have HCL := Lib.hid (And.intro (show ∀ z, G2 z → lstC O R z ∈ CL from fun z hz => cos_in hO hG2 hs hCi hz) (And.intro hCL.1 hCi))
  clear hCi hCL
  have H := Lib.hid (And.intro hbl (And.intro hst (And.intro hls (And.intro hO (And.intro hwW hW0s)))))
  clear hbl hs h1 h2 hl1 hl2 hF hst hls hW0s
  unfold cv at H ⊢
  go_enter Tryz.func14, Tryz.ntmps14
  go_wp2_with (go_at_call 44; (with_reducible refine (H.out.1 _ hwW).mono ?_); rintro e1 w1 ⟨rfl, k⟩
               obtain ⟨⟨j0, j1, j2⟩, ⟨j3, j4, j5⟩, bj⟩ := keepBB hx6 k
               have hx7 := And.intro (And.intro j0 (And.intro j1 j2)) (And.intro (And.intro j3 (And.intro j4 j5)) (Below.refl w1.heap.size w1))
               have hw1 := below_trans hwW bj
               clear k bj)
  clear q0 q1 q2 p0 p1 p2
  have HW := Lib.hid hw1
  clear hw1 hwW hx6 hW0
  have hlsw := fun (V : World) (hV : Below w1.heap.size w1 V) (v : Value) (y : Pm n) (hy : PmV V [] v y) => H.out.2.2.1 V (below_trans HW.out hV) v y hy
  go_region_held3 (fun W => (W.cell? ⟨X, 0, none⟩ = some (.int .i64 (n : Int)) ∧ W.cell? ⟨X, 1, none⟩ = some (.slice (some ⟨ab, ao, none⟩) n c) ∧ W.cell? ⟨X, 2, none⟩ = some (.slice (some ⟨bb, bo, none⟩) n e)) ∧ (W.cell? ⟨X + 1, 0, none⟩ = some (.int .i64 (n : Int)) ∧ W.cell? ⟨X + 1, 1, none⟩ = some (.slice (some ⟨ab', ao', none⟩) n c') ∧ W.cell? ⟨X + 1, 2, none⟩ = some (.slice (some ⟨bb', bo', none⟩) n e')) ∧ Below w1.heap.size w1 W)
    (first
      | with_reducible assumption
      | with_reducible exact hx7
      | exact keepBB hx7 (below_drw (Below.refl _ _))
      | exact keepBB hx7 (below_self_drewN _ _)
      | exact keepBB hx7 b5
      | exact keepBB hx7 (below_drw b5)
      | exact keepBB hx7 (below_trans b5 (below_self_drewN _ _))
      | exact keepBB hx7 b3
      | exact keepBB hx7 (below_drw b3)
      | exact keepBB hx7 (below_trans b3 (below_self_drewN _ _))
      | fail)
    (first
      | (go_at_call 39; (with_reducible refine (one59 hn.2).mono ?_); rintro e3 w3 ⟨v3, rfl, k1, k⟩; have b3 : Below w1.heap.size w1 w3 := below_trans (by first | exact Below.refl _ _ | exact below_drw (Below.refl _ _) | exact below_self_drewN _ _) k; have k3 : PmV w3 [] v3 (PlainPm.one n) := k1.pm (by simp); clear k k1)
      | (go_at_call 50; (with_reducible refine (hlsw _ (by first | exact b3 | exact below_drw b3 | exact below_trans b3 (below_self_drewN _ _)) _ _ (by first | exact k3 | exact k3.drewN _)).mono ?_); rintro e5 w5 ⟨v5, rfl, k1, k⟩; have b5 : Below w1.heap.size w1 w5 := below_trans (by first | exact b3 | exact below_drw b3 | exact below_trans b3 (below_self_drewN _ _)) k; have k5 : NewPm w1 w5 v5 (lstC O R (PlainPm.one n)) := k1.from (by first | exact b3.size | exact (below_drw b3).size | exact (below_trans b3 (below_self_drewN _ _)).size); clear k k1))
  obtain ⟨⟨j0, j1, j2⟩, ⟨j3, j4, j5⟩, bj⟩ := keepBB hx7 b5
  have hx8 := And.intro (And.intro j0 (And.intro j1 j2)) (And.intro (And.intro j3 (And.intro j4 j5)) (Below.refl w5.heap.size w5))
  have mk5 := fun V => makeMap86 V
  obtain ⟨fb, fc, hv5, _⟩ := id k5
  subst hv5
  obtain ⟨b, hbb⟩ : ∃ b, w5.heap.size = b := ⟨_, rfl⟩
  have sm6 := SeenM.made (n := n) w5
  have H5 := Lib.hid (And.intro b5 (And.intro k5 (And.intro bj sm6)))
  have HX7 := Lib.hid hx7
  clear hx7 b5 k5 bj sm6 b3 k3
  obtain ⟨w6, hw6⟩ : ∃ w6, w5.alloc (.map #[] 0) = w6 := ⟨_, rfl⟩
  have hbe : Below w5.heap.size w5 w6 := hw6 ▸ alloc_b (Below.refl _ _) _
  have p6 : PmV w6 [] (.slice (some ⟨fb, 0, none⟩) n fc) (lstC O R (PlainPm.one n)) := (H5.out.2.1.pm (by simp)).below hbe
  have b6s : w6.heap.size = b + 1 := by rw [← hw6, ← hbb]; simp
  have sm6 : SeenM (n := n) w6 b 0 (fun _ => False) := by rw [← hw6, ← hbb]; exact H5.out.2.2.2
  have H6 := Lib.hid (And.intro hbe (And.intro p6 (And.intro b6s (And.intro sm6 hx8))))
  clear hbe p6 b6s sm6 j0 j1 j2 j3 j4 j5 hx8
  go_wp2_with fail
  go_at_call 51
  (with_reducible refine (word85 hn.2 H6.out.2.1).mono ?_)
  rintro e7 w7 ⟨rfl, k7⟩
  obtain ⟨w8, hrun8, hs8, hg8⟩ := (H6.out.2.2.2.1.below k7).put hn.2 (x := lstC O R (PlainPm.one n)) (by omega)
  obtain ⟨w9, hw9⟩ : ∃ w9, w8.alloc (.cells #[.slice (some ⟨fb, 0, none⟩) n fc] 41) = w9 := ⟨_, rfl⟩
  obtain ⟨g0, hg0⟩ : ∃ g0, w8.heap.size = g0 := ⟨_, rfl⟩
  have hD1 : w1.heap.size ≤ b := by rw [← hbb]; exact H5.out.1.size
  have hb18 : Below w1.heap.size w1 w8 := (below_trans (below_trans H5.out.1 H6.out.1) k7).grown hg8 (below_trans (below_trans H5.out.1 H6.out.1) k7).size (fun k e => by cases e; exact hD1)
  have hb19 : Below w1.heap.size w1 w9 := hw9 ▸ alloc_b hb18 _
  have hob9 : Own w9 w1.heap.size (.slice (some ⟨g0, 0, none⟩) 1 1) 41 [.slice (some ⟨fb, 0, none⟩) n fc] := by
    rw [← hw9, ← hg0]; exact Own.new (w := w8) (B := w1.heap.size) 41 [.slice (some ⟨fb, 0, none⟩) n fc] hb18.size (by simp [maxLen])
  have hk9 : Kept w6 w9 [b] := (Kept.ofBelow k7).trans ((Kept.ofGrown hg8 (fun k e => by cases e; simp)).trans (Kept.ofBelow (hw9 ▸ alloc_b (Below.refl _ _) _)))
  have hs9 : SeenM (n := n) w9 b 1 (fun z => False ∨ z = lstC O R (PlainPm.one n)) := hs8.below (hw9 ▸ alloc_b (Below.refl _ _) _)
  have hgb : b < g0 := by rw [← hg0]; have := hg8.size; have := k7.size; have := H6.out.2.2.1; omega
  have k57 : Below w5.heap.size w5 w7 := below_trans H6.out.1 k7
  have k58 : Below w5.heap.size w5 w8 := k57.grown hg8 k57.size (fun k e => by cases e; exact Nat.le_of_eq hbb)
  obtain ⟨⟨i0, i1, i2⟩, ⟨i3, i4, i5⟩, _⟩ := keepBB H6.out.2.2.2.2 (show Below w5.heap.size w5 w9 from hw9 ▸ alloc_b k58 _)
  clear k57 k58
  have H8 := Lib.hid (And.intro hb19 (And.intro hob9 (And.intro hk9 (And.intro hs9 hgb)))); clear k7 hs8 hg8 hb18 hb19 hob9 hk9 hs9 hgb hD1
  go_wp2_with (first
    | (go_at_call 52; (with_reducible refine (H.out.2.1 _ (below_trans HW.out H8.out.1)).mono ?_); rintro e10 w10 ⟨vG, uG, L, rfl, kk⟩; have H10 := Lib.hid kk; clear kk))
  have hfirst : lstC O R (PlainPm.one n) ∈ CL := HCL.out.1 _ hG2.one
  have hcw : CosW w1 w1.heap.size w10 b g0 1 w10 (fun z => z ∈ [lstC O R (PlainPm.one n)]) (.slice (some ⟨g0, 0, none⟩) 1 1) [.slice (some ⟨fb, 0, none⟩) n fc] [lstC O R (PlainPm.one n)] := by
    have kp : Kept w5 w10 [b, g0] := ((Kept.ofBelow H6.out.1).trans ((H8.out.2.2.1).mono (by simp))).trans (Kept.ofBelow H10.out.2.2.2.2)
    have p5 : PmV w5 [] (.slice (some ⟨fb, 0, none⟩) n fc) (lstC O R (PlainPm.one n)) := H5.out.2.1.pm (by simp)
    have p10 : PmV w10 [b, g0] (.slice (some ⟨fb, 0, none⟩) n fc) (lstC O R (PlainPm.one n)) := (p5.ext (M' := [b, g0]) (fun m hm => .inr (by
      have := H8.out.2.2.2.2
      rcases List.mem_cons.1 hm with rfl | hm
      · exact Nat.le_of_eq hbb
      · rw [List.mem_singleton.1 hm]; omega))).kept kp
    refine ⟨⟨H8.out.2.1.below H10.out.2.2.2.2, ⟨rfl, fun k s hk => ?_⟩, by simp⟩, (H8.out.2.2.2.1.below H10.out.2.2.2.2).congr (fun z => by simp), Kept.ofBelow (Below.refl _ _), fun q hq => ?_, below_trans H8.out.1 H10.out.2.2.2.2⟩
    · match k, hk with
      | 0, hk =>
        cases hk
        exact ⟨_, rfl, p10.ext (fun m hm => .inl (by simp [Value.ownBlock] at hm; simp [hm]))⟩
    · simp [Value.ownBlock] at hq
      exact .inl hq.symm
  obtain ⟨aG, cG, hvG, _⟩ := H10.out.1.row (by have := H10.out.2.1.1; have := H10.out.2.2.1; unfold maxLen; omega)
  subst hvG
  have huL : uG.length = L.length := H10.out.2.1.1
  rw [huL] at H10
  have hL512 := H10.out.2.2.1
  have hgen : ∀ wr, Kept w10 wr [b, g0] → Own wr w9.heap.size (.slice aG L.length cG) 41 uG ∧ PmL wr [] uG L := by
    intro wr hk
    refine ⟨H10.out.1.keptL hk (fun q hq hm => ?_), H10.out.2.1.1, fun k s hks => ?_⟩
    · have h1 := (H10.out.1.block_lt hq).2
      have h2 := H8.out.2.2.2.2
      have h3 : g0 < w9.heap.size := by rw [← hw9, ← hg0]; simp
      rcases List.mem_cons.1 hm with rfl | hm
      · omega
      · rw [List.mem_singleton.1 hm] at h1; omega
    · obtain ⟨v, hv, hp⟩ := H10.out.2.1.2 k s hks
      refine ⟨v, hv, ((pm_apart hn.1 hp.weak (M := [b, g0]) (fun q hq j i => ?_)).kept hk).weak⟩
      rcases List.mem_cons.1 hq with rfl | hq
      · obtain ⟨es, clock, hb⟩ := hcw.sm.blk
        simp [World.cell?, hb]
      · rw [List.mem_singleton.1 hq]
        have hh : w10.heap[g0]? = some (.cells #[.slice (some ⟨fb, 0, none⟩) n fc] 41) := by
          rw [H10.out.2.2.2.2.block g0 (by rw [← hw9, ← hg0]; simp), ← hw9, ← hg0]
          exact heap_new _ _
        rcases Nat.eq_zero_or_pos j with rfl | hj
        · simp [World.cell?, hh]
        · match j, hj with
          | j + 1, _ => simp [World.cell?, hh]
  have HL := Lib.hid (show w1.heap.size ≤ b from by rw [← hbb]; exact H5.out.1.size)
  have HG := Lib.hid (And.intro hgen (And.intro HX7.out (And.intro hcw.kp hL512)))
  clear hgen
  have hstart := CosI.start (Lg := L) hfirst
  obtain ⟨ll, hll⟩ : ∃ ll, L.length = ll := ⟨_, rfl⟩
  rw [hll] at HG
  rw [huL, hll]
  clear i0 i1 i2 i3 i4 i5
  go_loopw [9, 12] (fun vf ii wr => ∃ (us : List Value) (fs : List (Pm n)) (i : Nat), ii = .int .i64 (i : Int) ∧ i ≤ fs.length ∧ fs.length ≤ 5040 ∧ CosI O R L CL fs i 0 ∧ CosW w1 w1.heap.size w10 b g0 fs.length wr (· ∈ fs) vf us fs) (fun _ ii _ => 5041 - (intOf ii).toNat)
  case atStart => exact ⟨_, _, 0, rfl, by simp, by simp, hstart, hcw⟩
  case round =>
    obtain ⟨us, fs, i, rfl, hi, hm, hI, hC⟩ := hrel
    obtain ⟨g, cp, rfl, hg1, hg2, hg3, hg4⟩ := hC.gl.1.form (by rw [hC.gl.2.1.1]; exact List.length_pos_of_mem hI.2.2.1)
    have hul : us.length = fs.length := hC.gl.2.1.1
    obtain ⟨m, hmm⟩ : ∃ m, fs.length = m := ⟨_, rfl⟩
    rw [hmm] at hul hi hm hC
    rw [hul] at hC hg3 ⊢
    by_cases hlt : i < m
    · have hI1 : (i : Int) < (m : Int) := by omega
      have HC := Lib.hid (And.intro hC (And.intro hI (And.intro hi hm)))
      clear hC hI hi hm
      go_wp2_with fail
      go_loopw [9, 47] (fun vf jj wr => ∃ (us : List Value) (fs : List (Pm n)) (j : Nat), jj = .int .i64 (j : Int) ∧ j ≤ ll ∧ i < fs.length ∧ fs.length ≤ 5040 ∧ CosI O R L CL fs i j ∧ CosW w1 w1.heap.size w10 b g0 fs.length wr (· ∈ fs) vf us fs) (fun _ jj _ => ll - (intOf jj).toNat)
      case atStart => exact ⟨us, fs, 0, rfl, by omega, by omega, by have := HC.out.2.2.2; omega, HC.out.2.1, by rw [hmm]; exact HC.out.1⟩
      case round =>
        obtain ⟨us, fs, j, rfl, hj, hi, hm, hI, hC⟩ := hrel
        obtain ⟨g, cp, rfl, hg1, hg2, hg3, hg4⟩ := hC.gl.1.form (by rw [hC.gl.2.1.1]; omega)
        have hul : us.length = fs.length := hC.gl.2.1.1
        obtain ⟨m, hmm⟩ : ∃ m, fs.length = m := ⟨_, rfl⟩
        rw [hmm] at hul hi hm hC
        rw [hul] at hC hg3 ⊢
        by_cases hjl : j < ll
        · obtain ⟨oG, pG⟩ := HG.out.1 _ hC.kp
          obtain ⟨gg, rfl, -, hgg, -⟩ := oG.at_form (by omega)
          obtain ⟨s, hs⟩ : ∃ s, L[j]? = some s := ⟨_, List.getElem?_eq_getElem (by omega)⟩
          obtain ⟨x, hx⟩ : ∃ x, fs[i]? = some x := ⟨_, List.getElem?_eq_getElem (by omega)⟩
          obtain ⟨su, hsu, hps⟩ := pG.2 j s hs
          obtain ⟨xu, hxu, hpx⟩ := hC.gl.2.1.2 i x hx
          have c1 := (oG.cell j (by omega)).trans hsu
          have c2 := (hC.gl.1.cell i (by omega)).trans hxu
          obtain ⟨⟨j0, j1, j2⟩, _, _⟩ := keepBB HG.out.2.1 hC.bl
          have hls5 := fun (V : World) (hV : Below wr.heap.size wr V) (v : Value) (y : Pm n) (hy : PmV V [] v y) => H.out.2.2.1 V (below_trans HW.out (hC.bl.trans (hV.mono hC.bl.size))) v y hy
          have hmu := fun (V : World) (hV : Below wr.heap.size wr V) => mul110 (w := V) hn.2 (hpx.weak.below hV) (hps.weak.below hV)
          obtain ⟨sb, so, sc, rfl, _⟩ := id hps
          obtain ⟨xb, xo, xc, rfl, _⟩ := id hpx
          have hz0 := And.intro c2 (And.intro (And.intro j0 (And.intro j1 j2)) (Below.refl wr.heap.size wr))
          have hjI : (j : Int) < (ll : Int) := by omega
          have hiI : (i : Int) < (m : Int) := by omega
          have HJ := Lib.hid (And.intro hC (And.intro hI (And.intro hi (And.intro hm (And.intro hs (And.intro hx (And.intro hmm hul)))))))
          clear hC hI hm hs hx hps hpx hul oG pG hsu hxu
          go_wp2_with fail
          go_region_held3 (fun W => W.cell? ⟨g, i, none⟩ = some (.slice (some ⟨xb, xo, none⟩) n xc) ∧ (W.cell? ⟨X, 0, none⟩ = some (.int .i64 (n : Int)) ∧ W.cell? ⟨X, 1, none⟩ = some (.slice (some ⟨ab, ao, none⟩) n c) ∧ W.cell? ⟨X, 2, none⟩ = some (.slice (some ⟨bb, bo, none⟩) n e)) ∧ Below wr.heap.size wr W)
            (first
              | with_reducible assumption
              | with_reducible exact hz0
              | exact keep4z hz0 (below_drw (Below.refl _ _))
              | exact keep4z hz0 (below_self_drewN _ _)
              | exact keep4z hz0 b5
              | exact keep4z hz0 (below_drw b5)
              | exact keep4z hz0 (below_trans b5 (below_self_drewN _ _))
              | exact keep4z hz0 b3
              | exact keep4z hz0 (below_drw b3)
              | exact keep4z hz0 (below_trans b3 (below_self_drewN _ _))
              | fail)
            (first
              | (go_at_call 53; (with_reducible refine (hmu _ (by first | exact Below.refl _ _ | exact below_drw (Below.refl _ _) | exact below_self_drewN _ _)).mono ?_); rintro e3 w3 ⟨v3, rfl, k1, k⟩; have b3 : Below wr.heap.size wr w3 := below_trans (by first | exact Below.refl _ _ | exact below_drw (Below.refl _ _) | exact below_self_drewN _ _) k; have k3 : PmV w3 [] v3 (x.mul s) := k1.pm (by simp); clear k k1)
              | (go_at_call 50; (with_reducible refine (hls5 _ (by first | exact b3 | exact below_drw b3 | exact below_trans b3 (below_self_drewN _ _)) _ _ (by first | exact k3 | exact k3.drewN _)).mono ?_); rintro e5 w5 ⟨v5, rfl, k1, k⟩; have b5 : Below wr.heap.size wr w5 := below_trans (by first | exact b3 | exact below_drw b3 | exact below_trans b3 (below_self_drewN _ _)) k; have k5 : NewPm wr w5 v5 (lstC O R (x.mul s)) := k1.from (by first | exact b3.size | exact (below_drw b3).size | exact (below_trans b3 (below_self_drewN _ _)).size); clear k k1))
          obtain ⟨zb, zc, rfl, _⟩ := id k5
          have h5s := b5.size
          have p5 : PmV w5 [] (.slice (some ⟨zb, 0, none⟩) n zc) (lstC O R (x.mul s)) := k5.pm (by simp)
          have hC5 := HJ.out.1.below b5 HJ.out.1.bl.size
          have H5 := Lib.hid (And.intro b5 (And.intro k5 (And.intro p5 hC5)))
          clear b5 k5 p5 hC5 b3 k3
          have hyC : lstC O R (x.mul s) ∈ CL := HCL.out.1 _ (hG2.mul ((HCL.out.2.2 x).1 (HJ.out.2.1.2.1 x (List.mem_of_getElem? HJ.out.2.2.2.2.2.1))).1 ((H10.out.2.2.2.1 s).1 (Grp.base (List.mem_of_getElem? HJ.out.2.2.2.2.1))))
          have HY := Lib.hid hyC
          clear hyC
          have hbw6 := fun (V : World) (hV : Below w5.heap.size w5 V) => HW.out.trans ((H5.out.2.2.2.bl.trans (hV.mono H5.out.2.2.2.bl.size)).mono HW.out.size)
          have HB := Lib.hid hbw6
          clear hbw6
          by_cases hin : lstC O R (x.mul s) ∈ fs
          · go_wp2_with fail
            go_at_call 51
            (with_reducible refine (word85 hn.2 H5.out.2.2.1).mono ?_)
            rintro e6 w6 ⟨rfl, k6⟩
            have hrun6 := (H5.out.2.2.2.sm.below k6).look hn.2 (lstC O R (x.mul s))
            simp only [hin, decide_true] at hrun6
            have H6x := Lib.hid (And.intro k6 hin)
            clear k6 hin
            go_wp2_with fail
            refine ⟨⟨us, fs, j + 1, by go_num, by omega, by omega, by have := HJ.out.2.2.2.1; omega, HJ.out.2.1.old HJ.out.2.2.2.2.2.1 HJ.out.2.2.2.2.1 H6x.out.2, ?_⟩, by simp [intOf]; omega⟩
            rw [hmm]
            exact H5.out.2.2.2.below H6x.out.1 H5.out.2.2.2.bl.size
          · have HN := Lib.hid hin
            by_cases hful : m = 5040
            · have hfI : (m : Int) = 5040 := by omega
              go_wp2_with fail
              go_at_call 51
              (with_reducible refine (word85 hn.2 H5.out.2.2.1).mono ?_)
              rintro e6 w6 ⟨rfl, k6⟩
              have hrun6 := (H5.out.2.2.2.sm.below k6).look hn.2 (lstC O R (x.mul s))
              simp only [hin, decide_false] at hrun6
              have H6x := Lib.hid k6
              clear k6 hin
              go_wp2_with fail
              go_ret2
              refine ⟨_, 5, rfl, .inr ⟨?_, rfl, rfl⟩, HB.out _ H6x.out⟩
              have h9 := (HJ.out.2.1.new (by omega) HY.out HN.out).le
              simp only [List.length_append, List.length_cons, List.length_nil] at h9
              omega
            · have hfI : ¬ (m : Int) = 5040 := by omega
              go_wp2_with fail
              go_at_call 51
              (with_reducible refine (word85 hn.2 H5.out.2.2.1).mono ?_)
              rintro e6 w6 ⟨rfl, k6⟩
              have hrun6 := (H5.out.2.2.2.sm.below k6).look hn.2 (lstC O R (x.mul s))
              simp only [hin, decide_false] at hrun6
              have hX5 := H5.out.2.2.2.bl.size
              have hX6 : w1.heap.size ≤ w6.heap.size := Nat.le_trans hX5 k6.size
              have hC6 := H5.out.2.2.2.below k6 hX5
              have hm4 := HJ.out.2.2.2.1
              obtain ⟨w7, hrun7, hC7, hT7⟩ := hC6.put hn.2 (by omega) HL.out hX6 (lstC O R (x.mul s))
              have hX7 : w1.heap.size ≤ w7.heap.size := hC7.bl.size
              have hul := HJ.out.2.2.2.2.2.2.2
              have h57 : w10.heap.size ≤ w7.heap.size := hC7.kp.size
              have hp7 : PmV w7 [g] (.slice (some ⟨zb, 0, none⟩) n zc) (lstC O R (x.mul s)) := by
                have p5b : PmV w5 [b, g] (.slice (some ⟨zb, 0, none⟩) n zc) (lstC O R (x.mul s)) := H5.out.2.1.pm (fun q hq => by
                  rcases List.mem_cons.1 hq with rfl | hq
                  · obtain ⟨es, clock, hb⟩ := HJ.out.1.sm.blk
                    exact (Array.getElem?_eq_some_iff.1 hb).1
                  · rw [List.mem_singleton.1 hq]; exact hg2)
                exact ((p5b.below k6).kept (Kept.ofGrown hT7.1 (fun k e => by cases e; simp))).ext (fun q hq => .inl (by rw [List.mem_singleton.1 hq]; simp))
              have H7 := Lib.hid (And.intro k6 (And.intro hC7 (And.intro hX7 (And.intro hul (And.intro h57 hp7)))))
              clear k6 hin hX5 hX6 hC6 hC7 hT7 hX7 hul h57 hp7
              go_wp2_with (first
                | (at_builtin; refine app1 rfl (.tmp 70) (.tmp 72) 28 41 rfl i27 (.slice none 0 0) 24 Tryz.underlying28 I27.out.1 I27.out.2.1 I27.out.2.2.1 I27.out.2.2.2 rfl (by omega) w1.heap.size (.slice (some ⟨zb, 0, none⟩) n zc) (.slice (some ⟨g, 0, none⟩) m cp) us rfl H7.out.2.1.gl.1 rfl rfl (by rw [H7.out.2.2.2.1]; omega) H7.out.2.2.1 ?_; intro v8 w8 k1 k2 k3; have H8x := Lib.hid (And.intro k1 (And.intro k2 k3)); clear k1 k2 k3))
              have hA := CosW.app (u := .slice (some ⟨zb, 0, none⟩) n zc) H7.out.2.1 (by simpa [Value.ownBlock] using H7.out.2.2.2.2.2) H7.out.2.2.1 H7.out.2.2.2.2.1 H8x.out.1 H8x.out.2.1 H8x.out.2.2
              have hxi : (fs ++ [lstC O R (x.mul s)])[i]? = some x := by rw [List.getElem?_append_left (by omega)]; exact HJ.out.2.2.2.2.2.1
              have hm9 := HJ.out.2.2.2.1
              refine ⟨⟨us ++ [.slice (some ⟨zb, 0, none⟩) n zc], fs ++ [lstC O R (x.mul s)], j + 1, by go_num, by omega, by simp; omega, by simp; omega, (HJ.out.2.1.new (by omega) HY.out HN.out).old hxi HJ.out.2.2.2.2.1 (by simp), ?_⟩, by simp [intOf]; omega⟩
              rw [List.length_append, hmm]
              exact { hA with sm := hA.sm.congr (fun z => by simp) }
        · go_wp2_with fail
          refine ⟨⟨us, fs, i + 1, by go_num, by omega, by omega, ?_, by rw [hmm]; exact hC⟩, by simp [intOf]; omega⟩
          have e9 : j = L.length := by omega
          subst e9
          exact hI.next
    · have hfp := List.length_pos_of_mem hI.2.2.1
      obtain ⟨hO9, hP9, _⟩ := id hC.gl
      have hP9 : PmL wr [g] us fs := by simpa [Value.ownBlock] using hP9
      have hS := sort54 hn hO9 hP9 hmm hm (by omega)
      have HS := Lib.hid (And.intro hS (And.intro hC (And.intro hI (And.intro hmm (And.intro hi hlt)))))
      clear hS hC hI hO9 hP9
      go_wp2_with fail
      go_at_call 54
      (with_reducible refine HS.out.1.mono ?_)
      rintro e9 w9' ⟨rfl, us', fs', h1, h2, h3, h4, h5⟩
      go_wp2_with fail
      go_ret2
      obtain ⟨-, hC, hI, hmm, hi, hlt⟩ := HS.out
      have hcn : CL.Nodup := HCL.out.2.1.imp (S := fun a b => a ≠ b) (fun {a b} h e => by subst e; exact lexLt_irrefl _ h)
      have hall := hI.all (by omega) H.out.2.2.2.1 hcn HCL.out.2.2 H10.out.2.2.2.1
      have hnd : fs'.Nodup := h1.nodup_iff.2 hI.1
      have hlt' : fs'.Pairwise lexLt := (h2.and hnd).imp (fun h => lexLt_total h.1 (Ne.symm h.2))
      have hfe : fs' = CL := sorted_ext hlt' HCL.out.2.1 (fun z => h1.mem_iff.trans (hall.2 z))
      subst hfe
      refine ⟨_, 0, rfl, .inl ⟨by omega, rfl, us', h3.mono HW.out.size, h4.weakM⟩, HW.out.trans ((hC.bl.grown h5 hC.bl.size (fun k e => by cases e; exact hg1)).mono HW.out.size)⟩
end Go.Proofs.YtbejhkojdiadaaaGreatDoor
