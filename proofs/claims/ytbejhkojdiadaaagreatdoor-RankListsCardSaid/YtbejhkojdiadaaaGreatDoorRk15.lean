/- Conjugates and commutators of permutations; the least group that contains some and is normalised by others: plain. · closure.Join. · The kit's SamePerms. · The kit's Less of two permutations. · kit: place, Index: a search in a sorted list of permutations. · The list of all elements of a chain's group, by its levels and by ranks: plain. · Drawn groups and lists of elements: plain. · All representatives of a chain generate its group; the kit's Strong as a list of them. · A range over a function whose yield hands a value that the body reads in memory: the law by states and by a list of the blocks that the body writes, with a return out of the body. · conjugates: an iterator over the conjugates of a list that may grow meanwhile. · What reads cells alone lasts while blocks that are no cells turn. · closed: the builder of the least group that contains permutations and is normalised by others. · closure: the reference's. · Small lemmas: cells that stay. · Conj, on both sides. -/
import Derived.Test.YtbejhkojdiadaaaGreatDoorRk01
import Derived.Test.YtbejhkojdiadaaaGreatDoorRk02
import Derived.Test.YtbejhkojdiadaaaGreatDoorRk03
import Derived.Test.YtbejhkojdiadaaaGreatDoorRk04
import Derived.Test.YtbejhkojdiadaaaGreatDoorRk05
import Derived.Test.YtbejhkojdiadaaaGreatDoorRk06
import Derived.Test.YtbejhkojdiadaaaGreatDoorRk07
import Derived.Test.YtbejhkojdiadaaaGreatDoorRk08
import Derived.Test.YtbejhkojdiadaaaGreatDoorRk09
import Derived.Test.YtbejhkojdiadaaaGreatDoorRk10
import Derived.Test.YtbejhkojdiadaaaGreatDoorRk11
import Derived.Test.YtbejhkojdiadaaaGreatDoorRk12
import Derived.Test.YtbejhkojdiadaaaGreatDoorRk13
import Derived.Test.YtbejhkojdiadaaaGreatDoorRk14
import Derived.Test.YtbejhkojdiadaaaGreatDoorProg
import Derived.RangeFuncFrom
import Derived.WalkKit
import Derived.WalkSpells
import Derived.BigQuiet
import Derived.Deep.QuietTactic
import Derived.Deep.LoopGhost
import Derived.Lib.Hide
import Derived.Maps.AppendAt
import Derived.Deep.AppendLies
import Derived.StillTailTactics
import Derived.Laws.CopyOwn
import Derived.Deep.OwnRows
import Derived.Deep.DeepCutAuto
import Derived.Laws.Cover3
import Derived.Deep.RegionHeld3
import Derived.RangeFuncRecord
import Derived.Lib.SlicesSearch
import Derived.RangeFuncBox
import Derived.RangeFuncLeaves
import Derived.RangeFuncWrites
import Derived.Shelf.Abstract
import Derived.OwnWalkIn
import Derived.TacticsInMore
import Derived.LoopNIn
import Derived.LoopIn
import Derived.Shelf.GgSortFunc.Insertion
import Derived.Shelf.SlIter.Collect
import Derived.Shelf.Sort.Plain
import Derived.Deep.RegionLaw
import Derived.ControlIn
import Derived.Deep.AppendSrc
set_option linter.unusedSimpArgs false
set_option linter.unusedVariables false
namespace Go.Proofs.YtbejhkojdiadaaaGreatDoor.PlainPm
variable {n : Nat}
def cm (x y : Pm n) : Pm n := (x.inv.mul y.inv).mul (x.mul y)
theorem Pm.inv_mul_mul (x y : Pm n) : x.inv.mul (x.mul y) = y := by rw [← Pm.mul_assoc, Pm.inv_mul, Pm.one_mul]
def pw (y : Pm n) : Nat → Pm n
  | 0 => PlainPm.one n
  | k + 1 => (pw y k).mul y
theorem pw_add (y : Pm n) (i k : Nat) : pw y (i + k) = (pw y i).mul (pw y k) := by
  induction k with
  | zero => exact (Pm.mul_one _).symm
  | succ k ih => show (pw y (i + k)).mul y = _; rw [ih, Pm.mul_assoc]; rfl
def allL (n : Nat) : Nat → List (List Int)
  | 0 => [[]]
  | k + 1 => (allL n k).flatMap fun l => (List.range n).map fun p : Nat => (p : Int) :: l
theorem mem_allL : ∀ (k : Nat) (l : List Int), l.length = k → (∀ x ∈ l, 0 ≤ x ∧ x < n) → l ∈ allL n k
  | 0, l, h, _ => by cases l <;> simp_all [allL]
  | k + 1, [], h, _ => by simp at h
  | k + 1, x :: l, h, hx => by
    have h1 := hx x (List.mem_cons_self ..)
    refine List.mem_flatMap.2 ⟨l, mem_allL k l (by simpa using h) (fun z hz => hx z (List.mem_cons_of_mem _ hz)), List.mem_map.2 ⟨x.toNat, List.mem_range.2 (by omega), ?_⟩⟩
    rw [Int.toNat_of_nonneg h1.1]
theorem pw_order (y : Pm n) : ∃ k, y.inv = pw y k := by
  have hnd : ¬ (((List.range ((allL n n).length + 1)).map fun i => (pw y i).l).Nodup) := fun hd => by
    have := sub_len hd (m := allL n n) (fun l hl => by
      obtain ⟨i, _, rfl⟩ := List.mem_map.1 hl
      exact mem_allL n _ (pw y i).ok.1 (pw y i).ok.2.1)
    simp at this
    omega
  have hex : ∃ i k, i < k ∧ pw y i = pw y k := by
    refine Classical.byContradiction fun hno => hnd (nodup_map_on List.nodup_range fun i _ k _ he => ?_)
    rcases Nat.lt_trichotomy i k with h | h | h
    · exact absurd ⟨i, k, h, Pm.ext' he⟩ hno
    · exact h
    · exact absurd ⟨k, i, h, (Pm.ext' he).symm⟩ hno
  obtain ⟨i, k, hlt, he⟩ := hex
  obtain ⟨m, rfl⟩ : ∃ m, k = i + (m + 1) := ⟨k - i - 1, by omega⟩
  have h1 : pw y (m + 1) = PlainPm.one n := by
    have := congrArg (fun z => (pw y i).inv.mul z) he
    simp only [pw_add y i, Pm.inv_mul, Pm.inv_mul_mul] at this
    exact this.symm
  refine ⟨m, ?_⟩
  have h2 : (pw y m).mul y = PlainPm.one n := h1
  have h3 := congrArg (fun z => z.mul y.inv) h2
  simp only [Pm.mul_inv_cancel, Pm.one_mul] at h3
  exact h3.symm
section
variable {L B : Pm n → Prop}
end
section
variable {G G' : Pm n → Prop} {O O' : Nat → List Nat} {R R' : Nat → Nat → Pm n}
end
end Go.Proofs.YtbejhkojdiadaaaGreatDoor.PlainPm
namespace Go.Proofs.YtbejhkojdiadaaaGreatDoor
open Go.RowKit PlainPm
theorem GrG.below {n : Nat} {w w' : World} {v : Value} {G : Pm n → Prop} (h : GrG w v G) (k : Below w.heap.size w w') : GrG w' v G := by
  obtain ⟨T, a, c, b, d, h1, h2, h3, h4, h5, h6⟩ := h
  have q : ∀ {a : Option Addr} {vs : List Value}, Row w a vs → vs.length = n → ∀ i, i < n → ∃ b o, a = some ⟨b, o, none⟩ ∧ b < w.heap.size := fun {a vs} hr hl i hi => by
    obtain ⟨b, o, e, hb, _⟩ := hr.2 i _ (List.getElem?_eq_getElem (by rw [hl]; exact hi))
    exact ⟨b, o, e, hb⟩
  obtain ⟨vs, r1, r2, _⟩ := id h3
  obtain ⟨vs', r1', r2', _⟩ := id h4
  exact ⟨T, a, c, b, d, h1, h2, h3.below k, h4.below k, h5.below k (q r1 (by rw [r2]; simp [orbI])), h6.below k (q r1' (by rw [r2']; simp [repI]))⟩
theorem Kept.below1 {w w' : World} {bk D : Nat} (h : Kept w w' [bk]) (hd : D ≤ w.heap.size) (hb : D ≤ bk) : Below D w w' := h.below hd (fun q hq => by rw [List.mem_singleton.1 hq]; exact hb)
end Go.Proofs.YtbejhkojdiadaaaGreatDoor
namespace Go.Proofs.YtbejhkojdiadaaaGreatDoor
open Go.RowKit PlainPm
set_option maxRecDepth 100000 in
set_option maxHeartbeats 2000000 in
theorem same47p {n : Nat} (hn : n ≤ 64) {w : World} {v v' : Value} {L L' : List (Pm n)} (hl : L.length ≤ 1000000) (hl' : L'.length ≤ 1000000) (hv : PmsV w [] v L) (hv' : PmsV w [] v' L') :
    Calls Tryz.prog 16 #[v, v'] w fun e w' => BoolIs e (L = L') ∧ Below w.heap.size w w' := by
  obtain ⟨va, vc, vs, rfl, hr, hp⟩ := hv
  obtain ⟨va', vc', vs', rfl, hr', hp'⟩ := hv'
  obtain ⟨m, hm⟩ : ∃ m, L.length = m := ⟨_, rfl⟩
  obtain ⟨m', hm'⟩ : ∃ m, L'.length = m := ⟨_, rfl⟩
  have H := Lib.hid (And.intro hr (And.intro hp (And.intro hm (And.intro hr' (And.intro hp' hm')))))
  rw [hm] at hl ⊢
  rw [hm'] at hl' ⊢
  clear hr hp hm hr' hp' hm'
  by_cases hmm : m = m'
  · subst hmm
    have g1 : ((m : Int) != (m : Int)) = false := by simp
    go_enter Tryz.func16, Tryz.ntmps16
    go_wp2_with fail
    go_loopw [4, 5] (fun _ i wr => ∃ (k : Nat), k ≤ m ∧ i = .int .i64 (k : Int) ∧ Below w.heap.size w wr ∧ ∀ j y z, j < k → L[j]? = some y → L'[j]? = some z → y = z) (fun _ i _ => m - (intOf i).toNat)
    case atStart => exact ⟨0, by omega, rfl, Below.refl _ _, fun j y z hj => by omega⟩
    case round =>
      obtain ⟨k, hk, rfl, hb, hno⟩ := hrel
      by_cases hkm : k < m
      · obtain ⟨y, hy⟩ : ∃ y, L[k]? = some y := ⟨_, List.getElem?_eq_getElem (by rw [H.out.2.2.1]; exact hkm)⟩
        obtain ⟨z, hz⟩ : ∃ y, L'[k]? = some y := ⟨_, List.getElem?_eq_getElem (by rw [H.out.2.2.2.2.2]; exact hkm)⟩
        obtain ⟨u, hu, hpm⟩ := H.out.2.1.2 k y hy
        obtain ⟨u', hu', hpm'⟩ := H.out.2.2.2.2.1.2 k z hz
        obtain ⟨rb, ro, hae, _, hrc⟩ := (H.out.1.below hb).2 k u hu
        obtain ⟨rb', ro', hae', _, hrc'⟩ := (H.out.2.2.2.1.below hb).2 k u' hu'
        subst hae
        subst hae'
        obtain ⟨ya, yc, rfl, hyi⟩ := (hpm.below hb).ints (by omega)
        obtain ⟨za, zc, rfl, hzi⟩ := (hpm'.below hb).ints (by omega)
        have h20 := fun q => same20 _ _ yc zc _ _ (wr.drewN q) (hyi.drewN q) (hzi.drewN q)
        rw [y.ok.1, z.ok.1] at h20
        rw [y.ok.1] at hrc
        rw [z.ok.1] at hrc'
        have hk1 : (k : Int) < m := by omega
        by_cases hyz : y = z
        · rw [show decide (y.l = z.l) = true by rw [hyz]; simp] at h20
          have HC := Lib.hid (And.intro hb (And.intro hno (And.intro hy (And.intro hz (And.intro hyz h20)))))
          clear hb hno hy hyz h20 hu hpm hyi hz hu' hpm' hzi
          go_wp2_with fail
          go_quiet ((go_at_call 20; exact Calls.quiet_of (HC.out.2.2.2.2.2 _)))
          go_wp2_with fail
          refine ⟨⟨k + 1, by omega, by go_num, below_trans HC.out.1 (below_self_drewN _ _), fun j a b hj ha hb => ?_⟩, by simp [intOf]; omega⟩
          by_cases e : j = k
          · subst e; rw [HC.out.2.2.1] at ha; rw [HC.out.2.2.2.1] at hb; cases ha; cases hb; exact HC.out.2.2.2.2.1
          · exact HC.out.2.1 j a b (by omega) ha hb
        · rw [show decide (y.l = z.l) = false by simp; exact fun h => hyz (Pm.ext fun i hi => by unfold Pm.at; rw [h])] at h20
          have HC := Lib.hid (And.intro hb (And.intro hno (And.intro hy (And.intro hz (And.intro hyz h20)))))
          clear hb hno hy hyz h20 hu hpm hyi hz hu' hpm' hzi
          go_wp2_with fail
          go_quiet ((go_at_call 20; exact Calls.quiet_of (HC.out.2.2.2.2.2 _)))
          go_wp2_with fail
          refine bodyPost_ret (v := .bool false) (by simp [results, Tryz.results16, go_sem]) rfl ?_
          refine ⟨BoolIs.no fun hL => ?_, below_trans HC.out.1 (below_self_drewN _ _)⟩
          have h1 := HC.out.2.2.1
          rw [hL, HC.out.2.2.2.1] at h1
          cases h1
          exact HC.out.2.2.2.2.1 rfl
      · obtain rfl : k = m := by omega
        have hk1 : ¬ (k : Int) < k := by omega
        have HC := Lib.hid (And.intro hb hno)
        clear hb hno
        go_wp2_with fail
        refine bodyPost_ret (v := .bool true) (by simp [results, Tryz.results16, go_sem]) rfl ?_
        refine ⟨BoolIs.yes ?_, HC.out.1⟩
        refine List.ext_getElem (by rw [H.out.2.2.1, H.out.2.2.2.2.2]) fun j h1 h2 => ?_
        exact HC.out.2 j _ _ (by rw [H.out.2.2.1] at h1; exact h1) (List.getElem?_eq_getElem h1) (List.getElem?_eq_getElem h2)
  · have g1 : ((m : Int) != (m' : Int)) = true := by simp; omega
    have Hm := Lib.hid hmm
    clear hmm
    go_enter Tryz.func16, Tryz.ntmps16
    go_wp2_with fail
    refine bodyPost_ret (v := .bool false) (by simp [results, Tryz.results16, go_sem]) rfl ?_
    exact ⟨BoolIs.no fun hL => Hm.out (by rw [← H.out.2.2.1, ← H.out.2.2.2.2.2, hL]), Below.refl _ _⟩
end Go.Proofs.YtbejhkojdiadaaaGreatDoor
namespace Go.Proofs.YtbejhkojdiadaaaGreatDoor
open Go.RowKit PlainPm
def lexLt {n : Nat} (x y : Pm n) : Prop := ∃ i, i < n ∧ (∀ j, j < i → x.at j = y.at j) ∧ x.at i < y.at i
set_option maxRecDepth 100000 in
set_option maxHeartbeats 2000000 in
theorem less135 {n : Nat} (hn : n ≤ 64) {w : World} {v v' : Value} {x y : Pm n} (hx : PmV w [] v x) (hy : PmV w [] v' y) :
    Calls Tryz.prog 29 #[v, v'] w fun e w' => BoolIs e (lexLt x y) ∧ Below w.heap.size w w' := by
  obtain ⟨xb, xo, xc, rfl, _, xl, hxc⟩ := hx
  obtain ⟨yb, yo, yc, rfl, _, yl, hyc⟩ := hy
  have H := Lib.hid (And.intro xl (And.intro hxc (And.intro yl hyc)))
  clear xl hxc yl hyc
  go_enter Tryz.func29, Tryz.ntmps29
  go_wp2_with fail
  go_loopw [4, 5] (fun _ i wr => ∃ (k : Nat), k ≤ n ∧ i = .int .i64 (k : Int) ∧ Below w.heap.size w wr ∧ ∀ j, j < k → x.at j = y.at j) (fun _ i _ => n - (intOf i).toNat)
  case atStart => exact ⟨0, by omega, rfl, Below.refl _ _, fun j hj => by omega⟩
  case round =>
    obtain ⟨k, hk, rfl, hb, hno⟩ := hrel
    by_cases hkn : k < n
    · have c1 := (hb.cell (p := ⟨xb, xo + k, none⟩) H.out.1).trans (H.out.2.1 k hkn)
      have c2 := (hb.cell (p := ⟨yb, yo + k, none⟩) H.out.2.2.1).trans (H.out.2.2.2 k hkn)
      obtain ⟨a, ha⟩ : ∃ a, x.at k = a := ⟨_, rfl⟩
      obtain ⟨b, hb'⟩ : ∃ b, y.at k = b := ⟨_, rfl⟩
      rw [ha] at c1
      rw [hb'] at c2
      have HC := Lib.hid (And.intro hb (And.intro hno (And.intro ha hb')))
      have hk1 : (k : Int) < n := by omega
      clear hb hno ha hb'
      by_cases hab : a = b
      · subst hab
        have g1 : ((a : Int) != (a : Int)) = false := by simp
        go_wp2_with fail
        go_quiet (fail)
        go_wp2_with fail
        refine ⟨⟨k + 1, by omega, by go_num, below_trans HC.out.1 (below_self_drewN _ _), fun j hj => ?_⟩, by simp [intOf]; omega⟩
        by_cases e : j = k
        · subst e; rw [HC.out.2.2.1, HC.out.2.2.2]
        · exact HC.out.2.1 j (by omega)
      · have g1 : ((a : Int) != (b : Int)) = true := by simp; omega
        have Hab := Lib.hid hab
        clear hab
        go_wp2_with fail
        go_quiet (fail)
        go_wp2_with fail
        go_quiet (fail)
        go_wp2_with fail
        refine bodyPost_ret (v := .bool (decide ((a : Int) < b))) (by simp [results, Tryz.results29, go_sem]) rfl ?_
        refine ⟨⟨_, rfl, ?_⟩, below_trans HC.out.1 (Below.trans (below_self_drewN _ _) (below_self_drewN _ _))⟩
        rw [decide_eq_true_iff]
        constructor
        · intro h
          exact ⟨k, hkn, HC.out.2.1, by rw [HC.out.2.2.1, HC.out.2.2.2]; omega⟩
        · rintro ⟨i, hi, h1, h2⟩
          rcases Nat.lt_trichotomy i k with h3 | h3 | h3
          · have := HC.out.2.1 i h3; omega
          · subst h3; rw [HC.out.2.2.1, HC.out.2.2.2] at h2; omega
          · have := h1 k h3; rw [HC.out.2.2.1, HC.out.2.2.2] at this; exact absurd this Hab.out
    · obtain rfl : k = n := by omega
      have hk1 : ¬ (k : Int) < k := by omega
      have HC := Lib.hid (And.intro hb hno)
      clear hb hno
      go_wp2_with fail
      refine bodyPost_ret (v := .bool false) (by simp [results, Tryz.results29, go_sem]) rfl ?_
      refine ⟨BoolIs.no ?_, HC.out.1⟩
      rintro ⟨i, hi, h1, h2⟩
      have := HC.out.2 i hi
      omega
end Go.Proofs.YtbejhkojdiadaaaGreatDoor
namespace Go.Proofs.YtbejhkojdiadaaaGreatDoor
open Go.RowKit PlainPm
section
variable {n : Nat}
theorem lexLt_irrefl (x : Pm n) : ¬ lexLt x x := fun ⟨i, _, _, h⟩ => by omega
theorem lexLt_trans {x y z : Pm n} (h : lexLt x y) (k : lexLt y z) : lexLt x z := by
  obtain ⟨i, hi, h1, h2⟩ := h
  obtain ⟨j, hj, k1, k2⟩ := k
  rcases Nat.lt_trichotomy i j with h | h | h
  · exact ⟨i, hi, fun q hq => (h1 q hq).trans (k1 q (by omega)), by rw [← k1 i h]; exact h2⟩
  · subst h; exact ⟨i, hi, fun q hq => (h1 q hq).trans (k1 q hq), by omega⟩
  · exact ⟨j, hj, fun q hq => (h1 q (by omega)).trans (k1 q hq), by rw [h1 j h]; exact k2⟩
theorem place_mem {L : List (Pm n)} (hs : L.Pairwise lexLt) {x : Pm n} {lo : Nat} (h1 : ∀ j y, j < lo → L[j]? = some y → lexLt y x) (h2 : ∀ j y, lo ≤ j → L[j]? = some y → ¬ lexLt y x) : x ∈ L ↔ L[lo]? = some x := by
  constructor
  · intro hx
    obtain ⟨j, hj⟩ := List.mem_iff_getElem?.1 hx
    rcases Nat.lt_trichotomy j lo with h | h | h
    · exact absurd (h1 j x h hj) (lexLt_irrefl x)
    · rw [← h]; exact hj
    · have hjl := (List.getElem?_eq_some_iff.1 hj).1
      have hlo : L[lo]? = some L[lo] := List.getElem?_eq_getElem (by omega)
      have := List.pairwise_iff_getElem.1 hs lo j (by omega) hjl h
      rw [(List.getElem?_eq_some_iff.1 hj).2] at this
      exact absurd this (h2 lo _ (Nat.le_refl _) hlo)
  · exact List.mem_of_getElem?
set_option maxRecDepth 100000 in
set_option maxHeartbeats 4000000 in
theorem place100c (hn : n ≤ 64) {w : World} {v vx : Value} {L : List (Pm n)} {x : Pm n} (hl : L.length ≤ 1000000) (hs : L.Pairwise lexLt) (hv : PmsV w [] v L) (hx : PmV w [] vx x) :
    Calls Tryz.prog 65 #[v, vx] w fun e w' => ∃ (lo : Nat) (t : Bool), e = .returned (.tuple #[.int .i64 (lo : Int), .bool t]) ∧ lo ≤ L.length ∧ (t = true ↔ x ∈ L) ∧ (x ∈ L ↔ L[lo]? = some x) ∧ Below w.heap.size w w' ∧ (∀ j y, j < lo → L[j]? = some y → lexLt y x) ∧ ∀ j y, lo ≤ j → L[j]? = some y → ¬ lexLt y x := by
  obtain ⟨va, vc, vs, rfl, hr, hp⟩ := hv
  obtain ⟨m, hm⟩ : ∃ m, L.length = m := ⟨_, rfl⟩
  obtain ⟨xb, xo, xc, rfl, _⟩ := id hx
  have H := Lib.hid (And.intro hr (And.intro hp (And.intro hm (And.intro hx hs))))
  rw [hm] at hl ⊢
  clear hr hp hm hx hs
  go_enter Tryz.func65, Tryz.ntmps65
  go_wp2_with fail
  go_loopw [6, 7] (fun a b wr => ∃ lo hi : Nat, a = .int .i64 (lo : Int) ∧ b = .int .i64 (hi : Int) ∧ lo ≤ hi ∧ hi ≤ m ∧ Below w.heap.size w wr ∧ (∀ j y, j < lo → L[j]? = some y → lexLt y x) ∧ (∀ j y, hi ≤ j → L[j]? = some y → ¬ lexLt y x)) (fun a b _ => (intOf b).toNat - (intOf a).toNat)
  case atStart => exact ⟨0, m, rfl, rfl, Nat.zero_le _, Nat.le_refl _, Below.refl _ _, fun j y hj => by omega, fun j y hj hy => by have h1 := (List.getElem?_eq_some_iff.1 hy).1; have h2 := H.out.2.2.1; omega⟩
  case round =>
    obtain ⟨lo, hi, rfl, rfl, hlh, hhm, hb, h1, h2⟩ := hrel
    by_cases hlt : lo < hi
    · obtain ⟨mid, hmid⟩ : ∃ mid, (lo + hi) / 2 = mid := ⟨_, rfl⟩
      have hm1 : lo ≤ mid := by omega
      have hm2 : mid < hi := by omega
      obtain ⟨y, hy⟩ : ∃ y, L[mid]? = some y := ⟨_, List.getElem?_eq_getElem (by rw [H.out.2.2.1]; omega)⟩
      obtain ⟨u, hu, hpm⟩ := H.out.2.1.2 mid y hy
      obtain ⟨rb, ro, hae, _, hrc⟩ := (H.out.1.below hb).2 mid u hu
      subst hae
      have hpy := hpm.below hb
      obtain ⟨yb, yo, yc, rfl, _⟩ := id hpy
      have h135 := less135 hn hpy (H.out.2.2.2.1.below hb)
      have hlt1 : (lo : Int) < hi := by omega
      have hq : (((lo : Int) + (hi : Int)) / 2) = (mid : Int) := by omega
      have hq' : (((lo : Int) + (hi : Int)).tdiv 2) = (mid : Int) := by rw [Int.tdiv_eq_ediv_of_nonneg (by omega)]; omega
      have HC := Lib.hid (And.intro hb (And.intro h1 (And.intro h2 (And.intro hy h135))))
      clear hb h1 h2 hy h135 hpm hpy hu
      have hpw : ∀ i j u v, i < j → L[i]? = some u → L[j]? = some v → lexLt u v := fun i j u v hij hu hv => by
        obtain ⟨hi', rfl⟩ := List.getElem?_eq_some_iff.1 hu
        obtain ⟨hj', rfl⟩ := List.getElem?_eq_some_iff.1 hv
        exact List.pairwise_iff_getElem.1 H.out.2.2.2.2 i j hi' hj' hij
      have HW := Lib.hid hpw
      clear hpw
      by_cases hx : lexLt y x
      · have HG := Lib.hid hx
        clear hx
        go_wp2_with (go_at_call 29; (with_reducible refine HC.out.2.2.2.2.mono ?_); rintro e2 w2 ⟨h1, k⟩; have h2 := h1.true_ HG.out; subst h2; have H2 := Lib.hid k; clear h1 k)
        refine ⟨⟨mid + 1, hi, by go_num, rfl, by omega, hhm, below_trans HC.out.1 H2.out, fun j z hj hz => ?_, HC.out.2.2.1⟩, by simp [intOf]; omega⟩
        rcases Nat.lt_or_ge j mid with h | h
        · exact lexLt_trans (HW.out j mid z y h hz HC.out.2.2.2.1) HG.out
        · have : j = mid := by omega
          subst this
          rw [HC.out.2.2.2.1] at hz; cases hz; exact HG.out
      · have HG := Lib.hid hx
        clear hx
        go_wp2_with (go_at_call 29; (with_reducible refine HC.out.2.2.2.2.mono ?_); rintro e2 w2 ⟨h1, k⟩; have h2 := h1.false_ HG.out; subst h2; have H2 := Lib.hid k; clear h1 k)
        refine ⟨⟨lo, mid, rfl, rfl, hm1, by omega, below_trans HC.out.1 H2.out, HC.out.2.1, fun j z hj hz hzx => ?_⟩, by simp [intOf]; omega⟩
        rcases Nat.lt_or_ge mid j with h | h
        · exact HG.out (lexLt_trans (HW.out mid j y z h HC.out.2.2.2.1 hz) hzx)
        · have : j = mid := by omega
          subst this
          rw [HC.out.2.2.2.1] at hz; cases hz; exact HG.out hzx
    · obtain rfl : lo = hi := by omega
      have hlt1 : ¬ (lo : Int) < lo := by omega
      have hpm := place_mem H.out.2.2.2.2 h1 h2
      by_cases hlm : lo < m
      · obtain ⟨y, hy⟩ : ∃ y, L[lo]? = some y := ⟨_, List.getElem?_eq_getElem (by rw [H.out.2.2.1]; exact hlm)⟩
        obtain ⟨u, hu, hpy0⟩ := H.out.2.1.2 lo y hy
        obtain ⟨rb, ro, hae, _, hrc⟩ := (H.out.1.below hb).2 lo u hu
        subst hae
        obtain ⟨ya, yc, rfl, hyi⟩ := (hpy0.below hb).ints (by omega)
        have hyl := y.ok.1
        have hxl := x.ok.1
        obtain ⟨xa, xc', hxe, hxi⟩ := (H.out.2.2.2.1.below hb).ints (by omega)
        rw [hxl] at hxe
        simp only [Value.slice.injEq] at hxe
        obtain ⟨rfl, -, rfl⟩ := hxe
        have h20 := same20 _ _ yc xc _ _ wr hyi hxi
        rw [hyl, hxl] at h20
        rw [hyl] at hrc
        have hd : decide (y.l = x.l) = decide (y = x) := by
          by_cases e : y = x
          · rw [e]; simp
          · rw [decide_eq_false e]; simp; exact fun h => e (Pm.ext' h)
        rw [hd] at h20
        have hk1 : (lo : Int) < m := by omega
        have HC := Lib.hid (And.intro hb (And.intro hpm (And.intro hy (And.intro h20 (And.intro h1 h2)))))
        clear hb hpm hy h20 h1 h2 hu hpy0 hyi hxi hyl hxl hd
        go_wp2_with (go_at_call 20; (with_reducible refine HC.out.2.2.2.1.mono ?_); rintro e2 w2 ⟨rfl, q, rfl⟩)
        refine bodyPost_ret (v := .tuple #[.int .i64 (lo : Int), .bool (decide (y = x))]) (by simp [results, Tryz.results65, go_sem]) rfl ?_
        refine ⟨lo, _, rfl, hhm, ?_, HC.out.2.1, below_trans HC.out.1 (below_self_drewN _ _), HC.out.2.2.2.2⟩
        rw [HC.out.2.1, HC.out.2.2.1]; simp
      · have hk1 : ¬ (lo : Int) < m := by omega
        have HC := Lib.hid (And.intro hb (And.intro hpm (And.intro h1 h2)))
        clear hb hpm h1 h2
        go_wp2_with fail
        refine bodyPost_ret (v := .tuple #[.int .i64 (lo : Int), .bool false]) (by simp [results, Tryz.results65, go_sem]) rfl ?_
        have hno : ¬ x ∈ L := by rw [HC.out.2.1, List.getElem?_eq_none (by rw [H.out.2.2.1]; omega)]; simp
        exact ⟨lo, .inl ⟨rfl, hhm, hno, HC.out.2.1, HC.out.1, HC.out.2.2⟩⟩
theorem place100 (hn : n ≤ 64) {w : World} {v vx : Value} {L : List (Pm n)} {x : Pm n} (hl : L.length ≤ 1000000) (hs : L.Pairwise lexLt) (hv : PmsV w [] v L) (hx : PmV w [] vx x) :
    Calls Tryz.prog 65 #[v, vx] w fun e w' => ∃ (lo : Nat) (t : Bool), e = .returned (.tuple #[.int .i64 (lo : Int), .bool t]) ∧ lo ≤ L.length ∧ (t = true ↔ x ∈ L) ∧ (x ∈ L ↔ L[lo]? = some x) ∧ Below w.heap.size w w' :=
  (place100c hn hl hs hv hx).mono fun _ _ ⟨lo, t, h1, h2, h3, h4, h5, _⟩ => ⟨lo, t, h1, h2, h3, h4, h5⟩
theorem index43 (hn : n ≤ 64) {w : World} {v vx : Value} {L : List (Pm n)} {x : Pm n} (hl : L.length ≤ 1000000) (hs : L.Pairwise lexLt) (hv : PmsV w [] v L) (hx : PmV w [] vx x) :
    Calls Tryz.prog 34 #[v, vx] w fun e w' => ∃ i : Int, e = .returned (.int .i64 i) ∧ ((x ∈ L ∧ ∃ k : Nat, i = (k : Int) ∧ L[k]? = some x) ∨ (¬ x ∈ L ∧ i = -1)) ∧ Below w.heap.size w w' := by
  have h100 := place100 hn hl hs hv hx
  obtain ⟨va, vc, vs, rfl, hr, hp⟩ := hv
  obtain ⟨xb, xo, xc, rfl, _⟩ := id hx
  have H := Lib.hid h100
  clear h100 hr hp hx
  by_cases hm : x ∈ L
  · have HG := Lib.hid hm
    clear hm
    go_enter Tryz.func34, Tryz.ntmps34
    go_wp2_with (go_at_call 65; (with_reducible refine H.out.mono ?_); rintro e2 w2 ⟨lo, t, rfl, k1, k2, k3, k4⟩; have ht := k2.2 HG.out; subst ht; have H2 := Lib.hid (And.intro k3 k4); clear k1 k2 k3 k4)
    go_ret
    exact ⟨_, rfl, .inl ⟨HG.out, lo, rfl, H2.out.1.1 HG.out⟩, H2.out.2⟩
  · have HG := Lib.hid hm
    clear hm
    go_enter Tryz.func34, Tryz.ntmps34
    go_wp2_with (go_at_call 65; (with_reducible refine H.out.mono ?_); rintro e2 w2 ⟨lo, t, rfl, k1, k2, k3, k4⟩; have ht : t = false := by cases t with | false => rfl | true => exact absurd (k2.1 rfl) HG.out
                 subst ht; have H2 := Lib.hid k4; clear k1 k2 k3 k4)
    go_ret
    exact ⟨_, rfl, .inr ⟨HG.out, rfl⟩, H2.out⟩
end
end Go.Proofs.YtbejhkojdiadaaaGreatDoor
namespace Go.Proofs.YtbejhkojdiadaaaGreatDoor.PlainPm
variable {n : Nat} {G : Pm n → Prop} {O : Nat → List Nat} {R : Nat → Nat → Pm n}
theorem sel_mem {y : Pm n} {l : List Nat} (hl : ∀ p ∈ l, p < n) (hd : l.Nodup) {s : Nat} (h : s < l.length) : selQ y l s ∈ l ∧ cnt y l (y.at (selQ y l s)) = s := by
  have := sel_sorted (y := y) hl hd (m := (l.map fun q => (y.at q : Int)).mergeSort (fun a b => decide (a ≤ b))) (List.mergeSort_perm _ _)
    ((List.pairwise_mergeSort (fun a b c h1 h2 => by simp at *; omega) (fun a b => by simp; omega) _).imp (by simp)) h
  exact ⟨this.1, this.2.1⟩
theorem cnt_lt {y : Pm n} {l : List Nat} {q : Nat} (hq : q ∈ l) : cnt y l (y.at q) < l.length := by
  rcases Nat.lt_or_ge (cnt y l (y.at q)) l.length with h | h
  · exact h
  · have h1 : cnt y l (y.at q) = l.length := Nat.le_antisymm (cnt_le ..) h
    have := (List.countP_eq_length.1 h1) q hq
    simp at this
def elsF (O : Nat → List Nat) (R : Nat → Nat → Pm n) : Nat → Nat → Pm n → List (Pm n)
  | 0, _, y => [y]
  | f + 1, i, y => (List.range (O i).length).flatMap fun s => elsF O R f (i + 1) ((R i (selQ y (O i) s)).mul y)
theorem range_mul {α : Type} (g : Nat → α) (m : Nat) : ∀ L, (List.range (L * m)).map g = (List.range L).flatMap fun s => (List.range m).map fun j => g (s * m + j)
  | 0 => by simp
  | L + 1 => by
    rw [List.range_succ, List.flatMap_append, ← range_mul g m L, Nat.succ_mul, List.range_add, List.map_append]
    simp [List.map_map, Function.comp_def]
theorem els_un (h : ChG G O R) : ∀ {f i : Nat} {y : Pm n}, i + f = n → elsF O R f i y = (List.range (szF O f i)).map (unF O R f i y)
  | 0, i, y, _ => by simp [elsF, szF, unF]
  | f + 1, i, y, hf => by
    have hp := h.sz_pos (f := f) (i := i + 1) (by omega)
    rw [elsF, szF, range_mul]
    refine congrArg (fun g => (List.range (O i).length).flatMap g) (funext fun s => ?_)
    rw [els_un h (f := f) (by omega)]
    refine List.map_congr_left fun j hj => ?_
    have hj' := List.mem_range.1 hj
    rw [unF]
    have h1 : (s * szF O f (i + 1) + j) / szF O f (i + 1) = s := by
      rw [Nat.mul_comm, Nat.mul_add_div hp, Nat.div_eq_of_lt hj', Nat.add_zero]
    have h2 : (s * szF O f (i + 1) + j) % szF O f (i + 1) = j := by
      rw [Nat.mul_comm, Nat.mul_add_mod, Nat.mod_eq_of_lt hj']
    rw [h1, h2]
theorem mem_els (h : ChG G O R) : ∀ {f i : Nat} {x y : Pm n}, i + f = n → G y → (x ∈ elsF O R f i y ↔ G x ∧ ∀ j, j < i → x.at j = y.at j)
  | 0, i, x, y, hf, hy => by
    have : i = n := by omega
    subst this
    rw [elsF, List.mem_singleton]
    exact ⟨fun e => by subst e; exact ⟨hy, fun _ _ => rfl⟩, fun e => Pm.ext e.2⟩
  | f + 1, i, x, y, hf, hy => by
    have hi : i < n := by omega
    rw [elsF, List.mem_flatMap]
    constructor
    · rintro ⟨s, hs, hx⟩
      obtain ⟨h1, h2⟩ := sel_mem (y := y) (h.lt i hi) (h.nd i hi) (List.mem_range.1 hs)
      obtain ⟨s1, s2, s3⟩ := h.step hi hy h1
      obtain ⟨k1, k2⟩ := (mem_els h (f := f) (by omega) s1).1 hx
      exact ⟨k1, fun j hj => by rw [k2 j (by omega), s2 j hj]⟩
    · rintro ⟨hx, hxy⟩
      have hp := h.pick hi hy hx (fun j hj => (hxy j hj).symm)
      have hsel := selQ_eq (y := y) (h.lt i hi) hp rfl
      refine ⟨cnt y (O i) (y.at (y.inv.at (x.at i))), List.mem_range.2 (cnt_lt hp), ?_⟩
      rw [hsel]
      obtain ⟨s1, s2, s3⟩ := h.step hi hy hp
      refine (mem_els h (f := f) (by omega) s1).2 ⟨hx, fun j hj => ?_⟩
      rcases Nat.lt_or_ge j i with h1 | h1
      · rw [s2 j h1]; exact hxy j h1
      · have : j = i := by omega
        subst this
        rw [s3, (y.inv_at (x.lt hi)).2]
theorem els_len (h : ChG G O R) {f i : Nat} {y : Pm n} (hf : i + f = n) : (elsF O R f i y).length = szF O f i := by
  rw [els_un h hf]; simp
def lexLt' (x y : Pm n) : Prop := ∃ k, k < n ∧ (∀ j, j < k → x.at j = y.at j) ∧ x.at k < y.at k
theorem pairwise_flatMap {α β : Type} {r : β → β → Prop} {l : List α} {f : α → List β} {q : α → α → Prop} (hq : l.Pairwise q) (h1 : ∀ a ∈ l, (f a).Pairwise r) (h2 : ∀ a ∈ l, ∀ b ∈ l, q a b → ∀ x ∈ f a, ∀ y ∈ f b, r x y) : (l.flatMap f).Pairwise r := by
  induction l with
  | nil => simp
  | cons a l ih =>
    rw [List.pairwise_cons] at hq
    rw [List.flatMap_cons, List.pairwise_append]
    refine ⟨h1 a (List.mem_cons_self ..), ih hq.2 (fun b hb => h1 b (List.mem_cons_of_mem _ hb)) (fun b hb c hc => h2 b (List.mem_cons_of_mem _ hb) c (List.mem_cons_of_mem _ hc)), ?_⟩
    intro x hx y hy
    obtain ⟨b, hb, hy⟩ := List.mem_flatMap.1 hy
    exact h2 a (List.mem_cons_self ..) b (List.mem_cons_of_mem _ hb) (hq.1 b hb) x hx y hy
theorem cnt_mono {y : Pm n} {l : List Nat} {a b : Nat} (h : cnt y l a < cnt y l b) : a < b := by
  rcases Nat.lt_or_ge a b with h1 | h1
  · exact h1
  · have : cnt y l b ≤ cnt y l a := List.countP_mono_left fun q _ hq => by rw [decide_eq_true_iff] at hq ⊢; omega
    omega
theorem els_lt (h : ChG G O R) : ∀ {f i : Nat} {y : Pm n}, i + f = n → G y → (elsF O R f i y).Pairwise lexLt'
  | 0, i, y, _, _ => by simp [elsF]
  | f + 1, i, y, hf, hy => by
    have hi : i < n := by omega
    rw [elsF]
    refine pairwise_flatMap (q := fun s t => s < t) List.pairwise_lt_range (fun s hs => ?_) (fun s hs t ht hst x hx z hz => ?_)
    · obtain ⟨h1, _⟩ := sel_mem (y := y) (h.lt i hi) (h.nd i hi) (List.mem_range.1 hs)
      exact els_lt h (f := f) (by omega) (h.step hi hy h1).1
    · obtain ⟨h1, c1⟩ := sel_mem (y := y) (h.lt i hi) (h.nd i hi) (List.mem_range.1 hs)
      obtain ⟨h2, c2⟩ := sel_mem (y := y) (h.lt i hi) (h.nd i hi) (List.mem_range.1 ht)
      obtain ⟨s1, s2, s3⟩ := h.step hi hy h1
      obtain ⟨t1, t2, t3⟩ := h.step hi hy h2
      obtain ⟨_, k1⟩ := (mem_els h (f := f) (by omega) s1).1 hx
      obtain ⟨_, k2⟩ := (mem_els h (f := f) (by omega) t1).1 hz
      refine ⟨i, hi, fun j hj => by rw [k1 j (by omega), k2 j (by omega), s2 j hj, t2 j hj], ?_⟩
      rw [k1 i (by omega), k2 i (by omega), s3, t3]
      exact cnt_mono (l := O i) (by rw [c1, c2]; exact hst)
theorem lexLt'.ne {x y : Pm n} (h : lexLt' x y) : x ≠ y := fun e => by
  obtain ⟨k, _, _, hlt⟩ := h
  rw [e] at hlt; omega
theorem els_nodup (h : ChG G O R) : (elsF O R n 0 (PlainPm.one n)).Nodup := (els_lt h (Nat.zero_add n) h.isG.one).imp fun h => h.ne
theorem mem_all (h : ChG G O R) {x : Pm n} : x ∈ elsF O R n 0 (PlainPm.one n) ↔ G x := by
  rw [mem_els h (Nat.zero_add n) h.isG.one]
  exact ⟨fun e => e.1, fun e => ⟨e, fun j hj => by omega⟩⟩
end Go.Proofs.YtbejhkojdiadaaaGreatDoor.PlainPm
namespace Go.Proofs.YtbejhkojdiadaaaGreatDoor
open PlainPm
theorem least_ex {P : Nat → Prop} {i : Nat} (h : P i) : ∃ k, P k ∧ k ≤ i ∧ ∀ j, j < k → ¬ P j := by
  induction i using Nat.strongRecOn with
  | _ i ih =>
    by_cases hj : ∃ j, j < i ∧ P j
    · obtain ⟨j, h1, h2⟩ := hj
      obtain ⟨k, k1, k2, k3⟩ := ih j h1 h2
      exact ⟨k, k1, by omega, k3⟩
    · exact ⟨i, h, Nat.le_refl _, fun j h1 h2 => hj ⟨j, h1, h2⟩⟩
section
variable {n : Nat}
theorem lexLt_total {x y : Pm n} (h : ¬ lexLt x y) (hne : x ≠ y) : lexLt y x := by
  have h1 : ∃ i, i < n ∧ x.at i ≠ y.at i := Classical.byContradiction fun hno => hne (Pm.ext fun i hi => Classical.byContradiction fun h2 => hno ⟨i, hi, h2⟩)
  obtain ⟨i, hi, h2⟩ := h1
  obtain ⟨k, k1, k2, k3⟩ := least_ex (P := fun i => x.at i ≠ y.at i) h2
  have hk : k < n := by omega
  have heq : ∀ j, j < k → x.at j = y.at j := fun j hj => Classical.byContradiction fun h3 => k3 j hj h3
  rcases Nat.lt_or_ge (x.at k) (y.at k) with h3 | h3
  · exact absurd ⟨k, hk, heq, h3⟩ h
  · exact ⟨k, hk, fun j hj => (heq j hj).symm, by omega⟩
theorem lexLt_asymm {x y : Pm n} (h : lexLt x y) (k : lexLt y x) : False := lexLt_irrefl x (lexLt_trans h k)
theorem sorted_ext : ∀ {L L' : List (Pm n)}, L.Pairwise lexLt → L'.Pairwise lexLt → (∀ x, x ∈ L ↔ x ∈ L') → L = L'
  | [], [], _, _, _ => rfl
  | [], y :: L', _, _, h => absurd ((h y).2 (List.mem_cons_self ..)) (by simp)
  | x :: L, [], _, _, h => absurd ((h x).1 (List.mem_cons_self ..)) (by simp)
  | x :: L, y :: L', h1, h2, h => by
    rw [List.pairwise_cons] at h1 h2
    have e : x = y := by
      rcases List.mem_cons.1 ((h x).1 (List.mem_cons_self ..)) with e | hx
      · exact e
      · rcases List.mem_cons.1 ((h y).2 (List.mem_cons_self ..)) with e | hy
        · exact e.symm
        · exact (lexLt_asymm (h1.1 y hy) (h2.1 x hx)).elim
    subst e
    rw [sorted_ext h1.2 h2.2 fun z => ?_]
    constructor
    · intro hz
      rcases List.mem_cons.1 ((h z).1 (List.mem_cons_of_mem _ hz)) with e | h3
      · subst e; exact absurd (h1.1 z hz) (lexLt_irrefl z)
      · exact h3
    · intro hz
      rcases List.mem_cons.1 ((h z).2 (List.mem_cons_of_mem _ hz)) with e | h3
      · subst e; exact absurd (h2.1 z hz) (lexLt_irrefl z)
      · exact h3
theorem sorted_nodup {L : List (Pm n)} (h : L.Pairwise lexLt) : L.Nodup := h.imp fun hxy e => by subst e; exact lexLt_irrefl _ hxy
def insAt (L : List (Pm n)) (lo : Nat) (y : Pm n) : List (Pm n) := L.take lo ++ y :: L.drop lo
theorem mem_insAt {L : List (Pm n)} {lo : Nat} {y z : Pm n} : z ∈ insAt L lo y ↔ z = y ∨ z ∈ L := by
  unfold insAt
  rw [List.mem_append, List.mem_cons]
  constructor
  · rintro (h | h | h)
    · exact .inr (List.mem_of_mem_take h)
    · exact .inl h
    · exact .inr (List.mem_of_mem_drop h)
  · rintro (h | h)
    · exact .inr (.inl h)
    · rw [← List.take_append_drop lo L] at h
      rcases List.mem_append.1 h with h | h
      · exact .inl h
      · exact .inr (.inr h)
theorem insAt_len {L : List (Pm n)} {lo : Nat} {y : Pm n} (h : lo ≤ L.length) : (insAt L lo y).length = L.length + 1 := by
  unfold insAt; simp; omega
theorem insAt_srt {L : List (Pm n)} {lo : Nat} {y : Pm n} (hs : L.Pairwise lexLt) (h1 : ∀ j z, j < lo → L[j]? = some z → lexLt z y) (h2 : ∀ j z, lo ≤ j → L[j]? = some z → ¬ lexLt z y) (hy : ¬ y ∈ L) : (insAt L lo y).Pairwise lexLt := by
  unfold insAt
  have ht : ∀ z ∈ L.take lo, lexLt z y := fun z hz => by
    obtain ⟨j, hj⟩ := List.mem_iff_getElem?.1 hz
    rw [List.getElem?_take] at hj
    by_cases hjl : j < lo
    · rw [if_pos hjl] at hj; exact h1 j z hjl hj
    · rw [if_neg hjl] at hj; cases hj
  have hd : ∀ z ∈ L.drop lo, lexLt y z := fun z hz => by
    obtain ⟨j, hj⟩ := List.mem_iff_getElem?.1 hz
    rw [List.getElem?_drop] at hj
    exact lexLt_total (h2 _ z (by omega) hj) (fun e => hy (e ▸ List.mem_of_mem_drop hz))
  have hs' := hs
  rw [← List.take_append_drop lo L, List.pairwise_append] at hs'
  rw [List.pairwise_append, List.pairwise_cons]
  refine ⟨hs'.1, ⟨hd, hs'.2.1⟩, fun a ha b hb => ?_⟩
  rcases List.mem_cons.1 hb with e | hb
  · rw [e]; exact ht a ha
  · exact hs'.2.2 a ha b hb
def cycF (f m j : Nat) : Nat := if f ≤ j ∧ j < m then j + 1 else j
def cycG (f t j : Nat) : Nat := if f ≤ j ∧ j + 1 < t then j + 1 else if f ≤ j ∧ j + 1 = t then f else j
def cycP (n f t : Nat) (hf : f < t) (ht : t ≤ n) : Pm n := ⟨ofF n (cycG f t), ofF_ok (fun i h => by
  unfold cycG
  split
  · omega
  · split <;> omega) (fun i k hi hk h => by
  unfold cycG at h
  split at h <;> split at h <;> (try split at h) <;> (try split at h) <;> omega)⟩
theorem swp_lt {n i k j : Nat} (hi : i < n) (hk : k < n) (hj : j < n) : (if j = i then k else if j = k then i else j) < n := by
  split
  · exact hk
  · split
    · exact hi
    · exact hj
def swpP (x : Pm n) (i k : Nat) (hi : i < n) (hk : k < n) : Pm n := ⟨ofF n fun j => x.at (if j = i then k else if j = k then i else j), ofF_ok (fun j h => x.lt (swp_lt hi hk h)) (fun j m hj hm h => by
  have h1 := x.inj (swp_lt hi hk hj) (swp_lt hi hk hm) h
  split at h1 <;> split at h1 <;> (try split at h1) <;> (try split at h1) <;> omega)⟩
def facN : Nat → Nat
  | 0 => 1
  | f + 1 => (f + 1) * facN f
def trans (n i p : Nat) : Pm n := if h : i < n ∧ p < n then swpP (PlainPm.one n) i p h.1 h.2 else PlainPm.one n
theorem trans_at {i p : Nat} (hi : i < n) (hp : p < n) : (trans n i p).at i = p := by
  unfold trans
  rw [dif_pos ⟨hi, hp⟩]
  show atL (ofF n _) i = p
  rw [show atL (ofF n fun j => (PlainPm.one n).at (if j = i then p else if j = p then i else j)) i = (PlainPm.one n).at (if i = i then p else if i = p then i else i) from ofF_at hi, if_pos rfl, one_at hp]
theorem trans_fx {i p : Nat} (hi : i < n) (hp : p < n) (hip : i ≤ p) : Fx i (trans n i p) := fun j hj => by
  unfold trans
  rw [dif_pos ⟨hi, hp⟩]
  show atL (ofF n _) j = j
  rw [show atL (ofF n fun j => (PlainPm.one n).at (if j = i then p else if j = p then i else j)) j = (PlainPm.one n).at (if j = i then p else if j = p then i else j) from ofF_at (by omega), if_neg (by omega), if_neg (by omega), one_at (by omega)]
theorem chAll : ChG (n := n) (fun _ => True) (fun i => List.range' i (n - i)) (fun i p => trans n i p) := by
  refine ⟨⟨trivial, fun _ _ => trivial, fun _ => trivial⟩, fun i hi => List.nodup_range' , fun i hi p hp => ?_, fun i hi p => ?_, fun i hi p hp => ?_⟩
  · have := List.mem_range'_1.1 hp; omega
  · rw [List.mem_range'_1]
    constructor
    · intro h
      exact ⟨trans n i p, trivial, trans_fx hi (by omega) (by omega), trans_at hi (by omega)⟩
    · rintro ⟨y, _, hf, rfl⟩
      have hl := y.lt hi
      refine ⟨?_, by omega⟩
      rcases Nat.lt_or_ge (y.at i) i with h | h
      · have h2 := y.inj hi (by omega : y.at i < n) (hf _ h).symm
        omega
      · exact h
  · have := List.mem_range'_1.1 hp
    exact ⟨trivial, trans_fx hi (by omega) (by omega), trans_at hi (by omega)⟩
theorem szAll : ∀ {f i : Nat}, i + f = n → szF (fun i => List.range' i (n - i)) f i = facN f
  | 0, _, _ => rfl
  | f + 1, i, h => by
    show (List.range' i (n - i)).length * _ = _
    rw [List.length_range', szAll (f := f) (i := i + 1) (by omega), show n - i = f + 1 by omega]
    rfl
theorem fac_le6 {n : Nat} (h : n ≤ 6) : facN n ≤ 720 := by
  match n, h with
  | 0, _ => decide
  | 1, _ => decide
  | 2, _ => decide
  | 3, _ => decide
  | 4, _ => decide
  | 5, _ => decide
  | 6, _ => decide
theorem pm_card {L : List (Pm n)} (h : L.Nodup) : L.length ≤ facN n := by
  have hc := chAll (n := n)
  have hm : ∀ x : Pm n, x ∈ elsF (fun i => List.range' i (n - i)) (fun i p => trans n i p) n 0 (PlainPm.one n) := fun x => (mem_all hc).2 trivial
  have h1 := sub_len h (fun x _ => hm x)
  rw [els_len hc (Nat.zero_add n), szAll (Nat.zero_add n)] at h1
  exact h1
structure Bfs (gens L todo : List (Pm n)) : Prop where
  one : PlainPm.one n ∈ L
  grp : ∀ x ∈ L, Grp (· ∈ gens) x
  srt : L.Pairwise lexLt
  sub : ∀ x ∈ todo, x ∈ L
  clo : ∀ x ∈ L, x ∈ todo ∨ ∀ g ∈ gens, x.mul g ∈ L
structure BfsI (gens L todo : List (Pm n)) (x : Pm n) (i : Nat) : Prop where
  one : PlainPm.one n ∈ L
  grp : ∀ x ∈ L, Grp (· ∈ gens) x
  srt : L.Pairwise lexLt
  sub : ∀ x ∈ todo, x ∈ L
  mem : x ∈ L
  clo : ∀ z ∈ L, z ∈ todo ∨ z = x ∨ ∀ g ∈ gens, z.mul g ∈ L
  cur : ∀ j g, j < i → gens[j]? = some g → x.mul g ∈ L
theorem Bfs.start (gens : List (Pm n)) : Bfs gens [PlainPm.one n] [PlainPm.one n] :=
  ⟨List.mem_singleton.2 rfl, fun x hx => by rw [List.mem_singleton.1 hx]; exact Grp.one, List.pairwise_singleton _ _, fun x hx => hx, fun x hx => .inl hx⟩
theorem Bfs.pop {gens L todo : List (Pm n)} {x : Pm n} (h : Bfs gens L (todo ++ [x])) : BfsI gens L todo x 0 :=
  ⟨h.one, h.grp, h.srt, fun z hz => h.sub z (List.mem_append_left _ hz), h.sub x (List.mem_append_right _ (List.mem_singleton.2 rfl)), fun z hz => by
    rcases h.clo z hz with h1 | h1
    · rcases List.mem_append.1 h1 with h2 | h2
      · exact .inl h2
      · exact .inr (.inl (List.mem_singleton.1 h2))
    · exact .inr (.inr h1), fun j g hj => by omega⟩
theorem BfsI.old {gens L todo : List (Pm n)} {x g : Pm n} {i : Nat} (h : BfsI gens L todo x i) (hg : gens[i]? = some g) (hm : x.mul g ∈ L) : BfsI gens L todo x (i + 1) :=
  ⟨h.one, h.grp, h.srt, h.sub, h.mem, h.clo, fun j g' hj hg' => by
    by_cases e : j = i
    · subst e; rw [hg] at hg'; cases hg'; exact hm
    · exact h.cur j g' (by omega) hg'⟩
theorem BfsI.new {gens L todo : List (Pm n)} {x g : Pm n} {i lo : Nat} (h : BfsI gens L todo x i) (hg : gens[i]? = some g) (hm : ¬ x.mul g ∈ L) (h1 : ∀ j z, j < lo → L[j]? = some z → lexLt z (x.mul g)) (h2 : ∀ j z, lo ≤ j → L[j]? = some z → ¬ lexLt z (x.mul g)) :
    BfsI gens (insAt L lo (x.mul g)) (todo ++ [x.mul g]) x (i + 1) := by
  refine ⟨mem_insAt.2 (.inr h.one), fun z hz => ?_, insAt_srt h.srt h1 h2 hm, fun z hz => ?_, mem_insAt.2 (.inr h.mem), fun z hz => ?_, fun j g' hj hg' => ?_⟩
  · rcases mem_insAt.1 hz with e | hz
    · rw [e]; exact .mul _ _ (h.grp x h.mem) (List.mem_of_getElem? hg)
    · exact h.grp z hz
  · rcases List.mem_append.1 hz with hz | hz
    · exact mem_insAt.2 (.inr (h.sub z hz))
    · exact mem_insAt.2 (.inl (List.mem_singleton.1 hz))
  · rcases mem_insAt.1 hz with e | hz
    · exact .inl (List.mem_append_right _ (List.mem_singleton.2 e))
    · rcases h.clo z hz with h3 | h3 | h3
      · exact .inl (List.mem_append_left _ h3)
      · exact .inr (.inl h3)
      · exact .inr (.inr fun g' hg' => mem_insAt.2 (.inr (h3 g' hg')))
  · by_cases e : j = i
    · subst e; rw [hg] at hg'; cases hg'; exact mem_insAt.2 (.inl rfl)
    · exact mem_insAt.2 (.inr (h.cur j g' (by omega) hg'))
theorem BfsI.done {gens L todo : List (Pm n)} {x : Pm n} (h : BfsI gens L todo x gens.length) : Bfs gens L todo :=
  ⟨h.one, h.grp, h.srt, h.sub, fun z hz => by
    rcases h.clo z hz with h1 | h1 | h1
    · exact .inl h1
    · refine .inr fun g hg => ?_
      obtain ⟨j, hj⟩ := List.mem_iff_getElem?.1 hg
      rw [h1]
      exact h.cur j g (List.getElem?_eq_some_iff.1 hj).1 hj
    · exact .inr h1⟩
theorem Bfs.fin {gens L : List (Pm n)} (h : Bfs gens L []) (x : Pm n) : x ∈ L ↔ Grp (· ∈ gens) x := by
  refine ⟨h.grp x, fun hx => ?_⟩
  have hcl : ∀ z ∈ L, ∀ g ∈ gens, z.mul g ∈ L := fun z hz => by
    rcases h.clo z hz with h1 | h1
    · cases h1
    · exact h1
  have hpw : ∀ z ∈ L, ∀ g ∈ gens, ∀ k, z.mul (PlainPm.pw g k) ∈ L := fun z hz g hg k => by
    induction k with
    | zero => show z.mul (PlainPm.one n) ∈ L; rw [Pm.mul_one]; exact hz
    | succ k ih => show z.mul ((PlainPm.pw g k).mul g) ∈ L; rw [← Pm.mul_assoc]; exact hcl _ ih g hg
  induction hx with
  | one => exact h.one
  | mul z g _ hg ih => exact hcl z ih g hg
  | inv z g _ hg ih =>
    obtain ⟨k, hk⟩ := pw_order g
    rw [hk]
    exact hpw z ih g hg k
end
end Go.Proofs.YtbejhkojdiadaaaGreatDoor
namespace Go.Proofs.YtbejhkojdiadaaaGreatDoor
open Go.RowKit PlainPm
namespace PlainPm
section
variable {n : Nat} {G : Pm n → Prop} {T : Tw n}
def agen (T : Tw n) : List (Pm n) := (List.range n).flatMap fun i => (orbO T i).map (PlainPm.repT T i)
theorem agen_grp (hG : IsG G) (h : Of G T) (x : Pm n) : Grp (· ∈ agen T) x ↔ G x := by
  have hc := h.chG hG
  constructor
  · refine Grp.sub hG fun s hs => ?_
    obtain ⟨i, hi, hs⟩ := List.mem_flatMap.1 hs
    obtain ⟨p, hp, rfl⟩ := List.mem_map.1 hs
    exact (hc.rep i (List.mem_range.1 hi) p hp).1
  · intro hx
    exact hc.gen (M := fun y => y ∈ agen T) (fun i hi p hp => List.mem_flatMap.2 ⟨i, List.mem_range.2 hi, List.mem_map.2 ⟨p, hp, rfl⟩⟩) (f := n) (i := 0) (by omega) (fun j hj => by omega) hx
theorem agen_flat (T : Tw n) : (agen T).map (·.l) = (repI T n).flatten := by
  unfold agen repI
  rw [List.map_flatMap, List.flatMap_def]
  congr 1
  simp [Function.comp_def]
  exact fun a _ => rfl
end
end PlainPm
end Go.Proofs.YtbejhkojdiadaaaGreatDoor
namespace Go.Proofs.YtbejhkojdiadaaaGreatDoor
open Go.RowKit
def OwnFromS {σ : Type} (B : Nat) (I : σ → List Nat → World → Prop) : Prop := OwnFrom B (fun (s : σ × List Nat) => I s.1 s.2)
def OwnFromW (B : Nat) (I : World → Prop) : Prop := OwnFrom B (fun (_ : Unit) => I)
def postY {σ : Type} (I : σ → List Nat → World → Prop) (Ix : World → Prop) (M : List Nat) (R : σ → Prop) (W : World) : Exit → Act → World → Prop
  | .normal, _, W' => ∃ s M', R s ∧ I s M' W' ∧ Stp W M W' M'
  | .ret, _, W' => Ix W' ∧ Kept W W' M
  | _, _, _ => False
def SeqY {α σ : Type} (P : Program) (gf : Nat) (lb : Array Value) (enc : α → Value) (Core : σ → List Nat → World → Prop) (Good : σ → List Nat → α → World → Prop) (nx : σ → α → σ → Prop) (Fin : σ → Prop) (s0 : σ) (M0 : List Nat) (w : World) : Prop :=
  ∀ (l : Nat) (J : σ → List Nat → World → Prop) (Jx : World → Prop) (W : World), Below w.heap.size w W → w.heap.size ≤ l → l < W.heap.size → OwnFromS W.heap.size J → OwnFromW W.heap.size Jx → (∀ s M A, J s M A → Core s M A ∧ ∀ m ∈ M, m < A.heap.size) →
      (∀ (nn : Nat) s M x A, J s M A → Good s M x A → YieldAt Fence.wide nn P l #[enc x] A fun e B => (e = .returned (.bool true) ∧ ∃ s' M', nx s x s' ∧ J s' M' B ∧ Stp A M B M') ∨ (e = .returned (.bool false) ∧ Jx B ∧ Kept A B (l :: M))) → J s0 M0 W →
      Calls P gf (#[.func (.yield l) #[] #[]] ++ lb) W fun e B => (∃ v, e = .returned v) ∧ ((∃ s M, Fin s ∧ J s M B ∧ Stp W M0 B M) ∨ (Jx B ∧ Kept W B (l :: M0)))
theorem wpIn_rangeYD {P : Program} {α σ : Type} {g : Operand} {ps : Array Tmp} {assign body : Code} {Q : Exit → Act → World → Prop} {a : Act} {w : World} {n : Nat}
    {gf : Nat} {lb : Array Value} (hg : a.eval g = .func (.func gf) #[] lb) (eg : ∀ args w, (callFunc gf args).run P w = .ok (.enter gf args) w)
    (enc : α → Value) (hps : ps.size = 1) (M0 : List Nat) (hM0 : ∀ m ∈ M0, m < w.heap.size) (I : σ → List Nat → World → Prop) (Ix : World → Prop) (Core : σ → List Nat → World → Prop) (Good : σ → List Nat → α → World → Prop) (nx : σ → α → σ → Prop) (Fin : σ → Prop) (s0 : σ)
    (hseq : SeqY P gf lb enc Core Good nx Fin s0 M0 w)
    (hI : OwnFromS w.heap.size I) (hIx : OwnFromW w.heap.size Ix) (hG : ∀ s M, OwnFrom w.heap.size (Good s M)) (hC : ∀ s M A, I s M A → Core s M A ∧ ∀ m ∈ M, m < A.heap.size) (h0 : I s0 M0 w) (a₁ : α → Act)
    (hassign : ∀ (nn l : Nat) (x : α) (W : World) (K : Act → World → Prop), K (a₁ x) W →
      assign.wpIn (Fence.wide.inRound l) nn P (Exit.then K (fun _ _ _ => False)) { tmps := (ps.zip #[enc x]).foldl (fun t (p, v) => t.setIfInBounds p v) a.tmps, defers := [] } W)
    (hbody : ∀ (nn l : Nat) (s : σ) (M : List Nat) (x : α) (W : World), I s M W → Good s M x W → Stp w M0 W M → body.wpIn (Fence.wide.inRound l) nn P (postY I Ix M (nx s x) W) (a₁ x) W)
    (hdone : ∀ (D : Nat) (s : σ) (M : List Nat) (W : World), w.heap.size ≤ D → Fin s → I s M W → Stp w M0 W M → W.heap[D]? = some (.deferred (some [])) → D ∉ M → Q .normal { a with defers := { target := .collected D, args := #[] } :: a.defers } W)
    (hstop : ∀ (D : Nat) (W : World), w.heap.size ≤ D → Ix W → Kept w W M0 → W.heap[D]? = some (.deferred (some [])) → Code.ret.wpIn Fence.wide n P Q { a with defers := { target := .collected D, args := #[] } :: a.defers } W) :
    (Code.rangeFunc g ps assign body).wpIn Fence.wide n P Q a w := by
  refine wpIn_rangeFunc fun fn _ => ?_
  obtain ⟨rec, hrec⟩ : ∃ rec : LoopState → Option Code → Loop, rec = fun st pe => { state := st, pending := pe, fn, tmps := a.tmps, params := ps, assign, body, defers := w.heap.size } := ⟨_, rfl⟩
  obtain ⟨D, hD⟩ : ∃ D, w.heap.size = D := ⟨_, rfl⟩
  obtain ⟨W1, hW1⟩ : ∃ W1, (w.alloc (.deferred (some []))).alloc (.loop (rec .ready none)) = W1 := ⟨_, rfl⟩
  have hL1 : W1.heap[D + 1]? = some (.loop (rec .ready none)) := by
    rw [← hW1, ← hD]; have := World.alloc_heap_new (w.alloc (.deferred (some []))) (.loop (rec .ready none)); rwa [World.size_alloc] at this
  have hK1 : W1.heap[D]? = some (.deferred (some [])) := by
    rw [← hW1, ← hD]; exact (Below.heap_alloc _ _ _ (by simp)).trans (World.alloc_heap_new w _)
  have hI1 : I s0 M0 W1 := by rw [← hW1]; exact OwnFrom.alloc hI (s := (s0, M0)) _ (OwnFrom.alloc hI (s := (s0, M0)) _ h0)
  have hs1 : W1.heap.size = D + 2 := by rw [← hW1, ← hD]; simp
  have hb1 : Below w.heap.size w W1 := by
    rw [← hW1]; exact ((Below.refl _ w).alloc (Nat.le_refl _) _).alloc (by simp) _
  have hround : Fence.wide.round = none := rfl
  rw [hround]
  refine ⟨D + 1, [{ target := .collected D, args := #[] }], W1, { target := .fn (.func gf) lb, args := #[.func (.yield (D + 1)) #[] #[]] }, W1, gf,
    #[.func (.yield (D + 1)) #[] #[]] ++ lb, W1, ?_, ?_, fun _ _ => trivial, ?_, (fun h => by cases h), ?_⟩
  · rw [← hW1, ← hD, hrec]; exact run_enterLoop_outer _ _ _ _ _
  · simp only [resolve, hg]
    simp [go_sem]
  · simp [invoke, go_sem, eg]
  · have hle : w.heap.size ≤ W1.heap.size := by omega
    have keepB : ∀ {A B : World} {row : Option Nat} {k : Nat} {o : Obj}, A.heap[k]? = some o → k < W1.heap.size → A.grownBy B row → (∀ r, row = some r → W1.heap.size ≤ r ∧ ∃ o : Obj, A.heap[r]? = some o ∧ o.isCells = false) → B.heap[k]? = some o := fun {A B row k o} hk hlt hg' hr =>
      (hg'.block k (Array.getElem?_eq_some_iff.1 hk).1 (fun e => by have := (hr k e.symm).1; omega)).trans hk
    refine callsIn_wide.2 ((hseq (D + 1) (fun s M W => (I s M W ∧ Stp w M0 W M) ∧ W.heap[D + 1]? = some (.loop (rec .ready none)) ∧ W.heap[D]? = some (.deferred (some [])) ∧ D ∉ M ∧ D + 1 ∉ M)
      (fun W => Ix W ∧ W.heap[D + 1]? = some (.loop (rec .done (some .ret))) ∧ W.heap[D]? = some (.deferred (some []))) W1 hb1 (by omega) (by omega) ?_ ?_ (fun s M A h => hC s M A h.1.1) ?_ ⟨⟨hI1, Stp.below hb1⟩, hL1, hK1, fun hm => by have := hM0 _ hm; omega, fun hm => by have := hM0 _ hm; omega⟩).mono ?_)
    · rintro ⟨s, M⟩ A B row ⟨⟨h1, hst⟩, h2, h3, h4⟩ hAB hr
      refine ⟨⟨hI (s, M) A B row h1 hAB (fun r e => ⟨Nat.le_trans hle (hr r e).1, (hr r e).2⟩), ⟨⟨hAB.os.trans hst.kept.os, hAB.tape.trans hst.kept.tape, hAB.output.trans hst.kept.output, Nat.le_trans hst.kept.size hAB.size, fun k hk hn => ?_⟩, hst.new⟩⟩, keepB h2 (by omega) hAB hr, keepB h3 (by omega) hAB hr, h4⟩
      exact (hAB.block k (Nat.lt_of_lt_of_le hk hst.kept.size) (fun e => by have := (hr k e.symm).1; omega)).trans (hst.kept.block k hk hn)
    · rintro u A B row ⟨h1, h2, h3⟩ hAB hr
      exact ⟨hIx u A B row h1 hAB (fun r e => ⟨Nat.le_trans hle (hr r e).1, (hr r e).2⟩), keepB h2 (by omega) hAB hr, keepB h3 (by omega) hAB hr⟩
    · rintro nn s M x A ⟨⟨h1, hst⟩, h2, h3, nD, nL⟩ hx
      have hlt : D + 1 < A.heap.size := (Array.getElem?_eq_some_iff.1 h2).1
      have hy := run_yield (P := P) (args := #[enc x]) h2 (by rw [hrec]; simp [hps])
      rw [hrec] at hy
      refine ⟨fn, _, assign, body, hy, roundIn_of_wpIn trivial (hassign nn _ x A _ ⟨_, run_beginRound h2 (by rw [hrec]), ?_⟩)⟩
      obtain ⟨A2, hA2⟩ : ∃ A2, A.putObj (D + 1) (.loop { rec .ready none with state := .busy }) = A2 := ⟨_, rfl⟩
      have hl2 : A2.heap[D + 1]? = some (.loop { rec .ready none with state := .busy }) := by rw [← hA2]; exact World.putObj_heap_same hlt
      have hk2 : ∀ k, k ≠ D + 1 → A2.heap[k]? = A.heap[k]? := fun k hk => by rw [← hA2]; exact World.putObj_heap_other hk
      have hs2 : A2.heap.size = A.heap.size := by rw [← hA2]; simp
      have g2 : A.grownBy A2 (some (D + 1)) := by rw [← hA2]; exact grownBy_putObj' A (D + 1) _
      have hcl : ∀ r, some (D + 1) = some r → w.heap.size ≤ r ∧ ∃ o : Obj, A.heap[r]? = some o ∧ o.isCells = false := fun r e => by
        cases e; exact ⟨by omega, _, h2, rfl⟩
      have hst2 : Stp w M0 A2 M := ⟨⟨g2.os.trans hst.kept.os, g2.tape.trans hst.kept.tape, g2.output.trans hst.kept.output, by rw [hs2]; exact hst.kept.size, fun k hk hn => (hk2 k (by omega)).trans (hst.kept.block k hk hn)⟩, hst.new⟩
      rw [hA2]
      have fin : ∀ (jump : Option Code) (W3 : World), Kept A2 W3 M →
          (Instr.endRound (D + 1) jump).run P W3 = .ok (.bool jump.isNone) (W3.putObj (D + 1) (.loop (rec (if jump.isNone then .ready else .done) jump))) ∧
          W3.heap[D + 1]? = some (.loop { rec .ready none with state := .busy }) ∧
          (W3.putObj (D + 1) (.loop (rec (if jump.isNone then .ready else .done) jump))).heap[D + 1]? = some (.loop (rec (if jump.isNone then .ready else .done) jump)) ∧
          (W3.putObj (D + 1) (.loop (rec (if jump.isNone then .ready else .done) jump))).heap[D]? = some (.deferred (some [])) := fun jump W3 hk3 => by
        have hl3 : W3.heap[D + 1]? = some (.loop { rec .ready none with state := .busy }) := (hk3.block _ (by omega) nL).trans hl2
        have := run_endRound (P := P) jump hl3
        rw [hrec] at this ⊢
        exact ⟨this, by rw [hrec] at hl3; exact hl3, World.putObj_heap_same (Array.getElem?_eq_some_iff.1 hl3).1, (World.putObj_heap_other (by omega)).trans ((hk3.block _ (by omega) nD).trans ((hk2 D (by omega)).trans h3))⟩
      have kk : ∀ (W3 : World) (o : Obj), Kept A2 W3 M → (∀ k, k < A.heap.size → k ∉ M → k ≠ D + 1 → (W3.putObj (D + 1) o).heap[k]? = A.heap[k]?) := fun W3 o hk3 k hk hn hne => by
        rw [World.putObj_heap_other hne, hk3.block k (by omega) hn, hk2 k hne]
      refine wpIn_mono (hbody nn _ s M x A2 (hI (s, M) _ _ _ h1 g2 hcl) (hG s M _ _ _ _ hx g2 hcl) hst2) ?_
      intro e a3 W3 hp
      cases e with
      | normal =>
        obtain ⟨s', M', hr', hi3, hs3⟩ := hp
        have hk3 := hs3.kept
        obtain ⟨hr, hl3, hl4, hk4⟩ := fin none W3 hk3
        have hl3' : D + 1 < W3.heap.size := (Array.getElem?_eq_some_iff.1 hl3).1
        have hnew : ∀ m ∈ M', m ∈ M ∨ A.heap.size ≤ m := fun m hm => by rw [← hs2]; exact hs3.new m hm
        have hAW : Kept A (W3.putObj (D + 1) (.loop (rec .ready none))) M := by
          refine ⟨hk3.os.trans (g2.os), hk3.tape.trans g2.tape, hk3.output.trans g2.output, ?_, fun k hk hn => ?_⟩
          · have := hk3.size; simp only [World.putObj_size]; omega
          · by_cases e : k = D + 1
            · subst e; exact hl4.trans h2.symm
            · exact kk W3 _ hk3 k hk hn e
        refine ⟨_, _, hr, .inl ⟨rfl, s', M', hr', ⟨⟨OwnFrom.putObj hI (s := (s', M')) _ hi3 (by omega) hl3 rfl, hst.trans ⟨hAW, hnew⟩⟩, hl4, hk4, fun hm => ?_, fun hm => ?_⟩, ⟨hAW, hnew⟩⟩⟩
        · rcases hnew _ hm with h | h
          · exact nD h
          · omega
        · rcases hnew _ hm with h | h
          · exact nL h
          · omega
      | ret =>
        obtain ⟨hi3, hk3⟩ := hp
        obtain ⟨hr, hl3, hl4, hk4⟩ := fin (some .ret) W3 hk3
        refine ⟨_, _, hr, .inr ⟨rfl, ⟨?_, hl4, hk4⟩, ?_⟩⟩
        · exact OwnFrom.putObj hIx (s := ()) _ hi3 (by omega) hl3 rfl
        · refine ⟨hk3.os.trans (g2.os), hk3.tape.trans g2.tape, hk3.output.trans g2.output, ?_, fun k hk hn => ?_⟩
          · have := hk3.size; simp only [World.putObj_size]; omega
          · exact kk W3 _ hk3 k hk (fun h => hn (List.mem_cons_of_mem _ h)) (fun h => hn (h ▸ List.mem_cons_self ..))
      | exit id => exact hp.elim
      | goto t => exact hp.elim
      | panic ch => exact hp.elim
      | outgrown => exact hp.elim
    · rintro e W2 ⟨⟨v, rfl⟩, h⟩
      rcases h with ⟨s, M, hfin, ⟨⟨hi, hst⟩, hl, hk, nD, nL⟩, _⟩ | ⟨⟨hi, hl, hk⟩, hkk⟩
      · refine ⟨none, _, by have := run_endLoop (P := P) hl (by rw [hrec]; simp); rw [hrec] at this; exact this, hdone D s M _ (by omega) hfin (OwnFrom.putObj hI (s := (s, M)) _ hi (by omega) hl rfl) ?_ ((World.putObj_heap_other (by omega)).trans hk) nD⟩
        refine ⟨⟨hst.kept.os, hst.kept.tape, hst.kept.output, by have := hst.kept.size; simp only [World.putObj_size]; omega, fun k hk9 hn => ?_⟩, hst.new⟩
        rw [World.putObj_heap_other (by omega)]
        exact hst.kept.block k hk9 hn
      · refine ⟨some .ret, _, by have := run_endLoop (P := P) hl (by rw [hrec]; simp); rw [hrec] at this; exact this, (hstop D _ (by omega) (OwnFrom.putObj hIx (s := ()) _ hi (by omega) hl rfl) ?_ ((World.putObj_heap_other (by omega)).trans hk))⟩
        refine ⟨hkk.os.trans hb1.os, hkk.tape.trans hb1.tape, hkk.output.trans hb1.output, ?_, fun k hk9 hn => ?_⟩
        · have := hkk.size; simp only [World.putObj_size]; omega
        · rw [World.putObj_heap_other (by omega), hkk.block k (by omega) (fun h => by rcases List.mem_cons.1 h with h | h; omega; exact hn h)]
          exact hb1.block k hk9
theorem wpIn_rangeY {P : Program} {α σ : Type} {g : Operand} {ps : Array Tmp} {assign body : Code} {Q : Exit → Act → World → Prop} {a : Act} {w : World} {n : Nat}
    {gf : Nat} {lb : Array Value} (hg : a.eval g = .func (.func gf) #[] lb) (eg : ∀ args w, (callFunc gf args).run P w = .ok (.enter gf args) w)
    (enc : α → Value) (hps : ps.size = 1) (M0 : List Nat) (hM0 : ∀ m ∈ M0, m < w.heap.size) (I : σ → List Nat → World → Prop) (Ix : World → Prop) (Core : σ → List Nat → World → Prop) (Good : σ → List Nat → α → World → Prop) (nx : σ → α → σ → Prop) (Fin : σ → Prop) (s0 : σ)
    (hseq : SeqY P gf lb enc Core Good nx Fin s0 M0 w)
    (hI : OwnFromS w.heap.size I) (hIx : OwnFromW w.heap.size Ix) (hG : ∀ s M, OwnFrom w.heap.size (Good s M)) (hC : ∀ s M A, I s M A → Core s M A ∧ ∀ m ∈ M, m < A.heap.size) (h0 : I s0 M0 w) (a₁ : α → Act)
    (hassign : ∀ (nn l : Nat) (x : α) (W : World) (K : Act → World → Prop), K (a₁ x) W →
      assign.wpIn (Fence.wide.inRound l) nn P (Exit.then K (fun _ _ _ => False)) { tmps := (ps.zip #[enc x]).foldl (fun t (p, v) => t.setIfInBounds p v) a.tmps, defers := [] } W)
    (hbody : ∀ (nn l : Nat) (s : σ) (M : List Nat) (x : α) (W : World), I s M W → Good s M x W → Stp w M0 W M → body.wpIn (Fence.wide.inRound l) nn P (postY I Ix M (nx s x) W) (a₁ x) W)
    (hdone : ∀ (D : Nat) (s : σ) (M : List Nat) (W : World), w.heap.size ≤ D → Fin s → I s M W → Stp w M0 W M → W.heap[D]? = some (.deferred (some [])) → Q .normal { a with defers := { target := .collected D, args := #[] } :: a.defers } W)
    (hstop : ∀ (D : Nat) (W : World), w.heap.size ≤ D → Ix W → Kept w W M0 → W.heap[D]? = some (.deferred (some [])) → Code.ret.wpIn Fence.wide n P Q { a with defers := { target := .collected D, args := #[] } :: a.defers } W) :
    (Code.rangeFunc g ps assign body).wpIn Fence.wide n P Q a w :=
  wpIn_rangeYD hg eg enc hps M0 hM0 I Ix Core Good nx Fin s0 hseq hI hIx hG hC h0 a₁ hassign hbody (fun D s M W h1 h2 h3 h4 h5 _ => hdone D s M W h1 h2 h3 h4 h5) hstop
end Go.Proofs.YtbejhkojdiadaaaGreatDoor
namespace Go.Proofs.YtbejhkojdiadaaaGreatDoor
open Go.RowKit PlainPm
attribute [local go_sem] Oper.semAt_some
section
variable {n : Nat}
theorem ownS_below {σ : Type} {D : Nat} {J : σ → List Nat → World → Prop} (hJ : OwnFromS D J) {s : σ} {M : List Nat} {A B : World} (h : J s M A) (k : Below A.heap.size A B) : J s M B :=
  hJ (s, M) A B none h (grown_below k none) (fun r e => by cases e)
theorem pms_at {w : World} {v : Value} {l : List (Pm n)} (h : PmsV w [] v l) : ∃ a c, v = .slice a l.length c ∧ l.length ≤ 9223372036854775807 ∧ ∀ k x, l[k]? = some x → ∃ g o u, a = some ⟨g, o, none⟩ ∧ w.cell? ⟨g, o + k, none⟩ = some u ∧ PmV w [] u x := by
  obtain ⟨a, c, vs, rfl, h1, h2⟩ := h
  refine ⟨a, c, rfl, by rw [← h2.1]; exact h1.len', fun k x hk => ?_⟩
  obtain ⟨u, hu, hp⟩ := h2.2 k x hk
  obtain ⟨g, o, rfl, _, hc⟩ := h1.2 k u hu
  exact ⟨g, o, u, rfl, hc, hp⟩
theorem PmsN.v {w : World} {M : List Nat} {v : Value} {l : List (Pm n)} (h : PmsN w M v l) : PmsV w [] v l := by
  obtain ⟨a, c, vs, rfl, h1, h2⟩ := h
  exact ⟨a, c, vs, rfl, h1 w (Kept.refl _ _), ⟨h2.1, fun i x hx => by obtain ⟨u, hu, hp⟩ := h2.2 i x hx; exact ⟨u, hu, hp.weak⟩⟩⟩
end
end Go.Proofs.YtbejhkojdiadaaaGreatDoor
namespace Go.Proofs.YtbejhkojdiadaaaGreatDoor
open Go.RowKit PlainPm
structure Up (w w' : World) : Prop where
  size : w.heap.size ≤ w'.heap.size
  cell : ∀ p u, w.cell? p = some u → w'.cell? p = some u
section
variable {n : Nat} {w w' : World} {a : Option Addr}
theorem PmV.up {M : List Nat} {v : Value} {x : Pm n} (h : PmV w M v x) (k : Up w w') : PmV w' M v x := by
  obtain ⟨b, o, c, e, h1, h2, h3⟩ := h
  exact ⟨b, o, c, e, h1, Nat.lt_of_lt_of_le h2 k.size, fun i hi => k.cell _ _ (h3 i hi)⟩
theorem PmL.up {M : List Nat} {us : List Value} {l : List (Pm n)} (h : PmL w M us l) (k : Up w w') : PmL w' M us l :=
  ⟨h.1, fun i x hx => by obtain ⟨u, hu, hp⟩ := h.2 i x hx; exact ⟨u, hu, hp.up k⟩⟩
structure Turn (w w' : World) (row : Option Nat) : Prop where
  g : w.grownBy w' row
  r : ∀ r, row = some r → ∃ o : Obj, w.heap[r]? = some o ∧ o.isCells = false
theorem Turn.up {row : Option Nat} (h : Turn w w' row) : Up w w' :=
  ⟨h.g.size, fun p u hc => by
    have hlt := block_lt_of_cell hc
    have hne : some p.block ≠ row := fun e => by
      obtain ⟨o, ho, hcl⟩ := h.r _ e.symm
      unfold World.cell? at hc
      rw [ho] at hc
      cases o <;> simp [Obj.isCells] at hcl hc
    unfold World.cell? at hc ⊢
    rw [h.g.block p.block hlt hne]
    exact hc⟩
theorem Turn.cells {row : Option Nat} (h : Turn w w' row) {k : Nat} {cur : Array Value} {e : TypeId} {fr : Nat × Nat} (hk : w.heap[k]? = some (.cells cur e fr)) : w'.heap[k]? = some (.cells cur e fr) := by
  refine (h.g.block k (Array.getElem?_eq_some_iff.1 hk).1 (fun e => ?_)).trans hk
  obtain ⟨o, ho, hcl⟩ := h.r _ e.symm
  rw [hk] at ho
  cases ho
  simp [Obj.isCells] at hcl
theorem Own.turn {row : Option Nat} {B : Nat} {v : Value} {e : TypeId} {xs : List Value} (h : Own w B v e xs) (k : Turn w w' row) : Own w' B v e xs := by
  refine h.kept k.g ?_
  rcases h.blk with h1 | ⟨g, cur, h1, _, _, h2⟩
  · exact .inl h1
  · refine .inr fun e => ?_
    rw [h1] at e
    obtain ⟨o, ho, hcl⟩ := k.r g e.symm
    rw [h2] at ho
    cases ho
    simp [Obj.isCells] at hcl
end
end Go.Proofs.YtbejhkojdiadaaaGreatDoor
namespace Go.Proofs.YtbejhkojdiadaaaGreatDoor
open Go.RowKit PlainPm
attribute [local go_sem] Oper.semAt_some
section
variable {n : Nat}
theorem own_ne {W : World} {B : Nat} {v : Value} {e e' : TypeId} {xs : List Value} {k : Nat} {cur : Array Value} (h : Own W B v e xs) (hk : W.heap[k]? = some (.cells cur e' (0, 0))) (hne : e' ≠ e) : v.ownBlock ≠ some k := fun hv => by
  rcases h.blk with h1 | ⟨g, cur', h1, _, _, h2⟩
  · rw [h1] at hv; cases hv
  · rw [h1] at hv; cases hv
    rw [hk] at h2
    injection h2 with h2
    injection h2 with _ h3 _
    exact hne h3
theorem box1_set {W : World} {Y : Nat} {v v' : Value} {t : TypeId} (h : W.heap[Y]? = some (.cells #[v] t (0, 0))) : (W.setCell ⟨Y, 0, none⟩ v').heap[Y]? = some (.cells #[v'] t (0, 0)) := by
  have hl := (Array.getElem?_eq_some_iff.1 h).1
  have h2 : W.heap[Y] = .cells #[v] t (0, 0) := by rw [Array.getElem?_eq_getElem hl] at h; exact Option.some.inj h
  simp [World.setCell, Array.getElem_modify, hl, h2]
theorem mem_ob {v : Value} {g : Nat} : g ∈ v.ownBlock.toList ↔ v.ownBlock = some g := by cases v.ownBlock <;> simp [eq_comm]
theorem pms_ownB {D : Nat} {W : World} {M : List Nat} {v : Value} {us : List Value} {l : List (Pm n)} (ho : Own W D v 41 us) (hp : PmL W M us l) (hl : l.length ≤ 1000000) : PmsV W [] v l := by
  obtain ⟨a, c, rfl, hr⟩ := ho.row (by rw [hp.1]; unfold maxLen; omega)
  exact ⟨a, c, us, by rw [hp.1], hr, hp.1, fun i x hx => by obtain ⟨u, hu, hpm⟩ := hp.2 i x hx; exact ⟨u, hu, hpm.weak⟩⟩
theorem box1_cells {W : World} {Y : Nat} {v : Value} {t : TypeId} (h : W.heap[Y]? = some (.cells #[v] t (0, 0))) : W.cell? ⟨Y, 0, none⟩ = some v ∧ W.frozen? ⟨Y, 0, none⟩ = false := by
  constructor <;> simp [World.cell?, World.frozen?, h]
end
end Go.Proofs.YtbejhkojdiadaaaGreatDoor
namespace Go.Proofs.YtbejhkojdiadaaaGreatDoor
open Go.RowKit PlainPm
section
variable {n : Nat}
theorem PmL.weakM {w : World} {M : List Nat} {us : List Value} {l : List (Pm n)} (h : PmL w M us l) : PmL w [] us l := ⟨h.1, fun i x hx => by obtain ⟨u, hu, hp⟩ := h.2 i x hx; exact ⟨u, hu, hp.weak⟩⟩
theorem keep2c {V A B : World} {p q : Addr} {s t : Value} (h : A.cell? p = some s ∧ A.cell? q = some t ∧ Below V.heap.size V A) (k : Below A.heap.size A B) : B.cell? p = some s ∧ B.cell? q = some t ∧ Below V.heap.size V B :=
  ⟨(k.cell (block_lt_of_cell h.1)).trans h.1, (k.cell (block_lt_of_cell h.2.1)).trans h.2.1, below_trans h.2.2 k⟩
def GrowL (N : List Nat) (W : World) (D : Nat) (v : Value) (us : List Value) (l : List (Pm n)) : Prop := Own W D v 41 us ∧ PmL W (v.ownBlock.toList ++ N) us l ∧ ∀ m ∈ N, m < W.heap.size
theorem GrowL.nil {N : List Nat} {W : World} (D : Nat) (h : ∀ m ∈ N, m < W.heap.size) : GrowL (n := n) N W D (.slice none 0 0) [] [] := ⟨Own.nil _ _ _, ⟨rfl, fun i x hx => by simp at hx⟩, h⟩
section
variable {N : List Nat} {W W' W0 : World} {D : Nat} {v v' u : Value} {us : List Value} {l : List (Pm n)} {z : Pm n}
theorem GrowL.below (h : GrowL N W D v us l) (k : Below W.heap.size W W') : GrowL N W' D v us l := ⟨h.1.below k, h.2.1.stp (Stp.below k), fun m hm => Nat.lt_of_lt_of_le (h.2.2 m hm) k.size⟩
theorem GrowL.app (h : GrowL N W D v us l) (hz : PmV W (v.ownBlock.toList ++ N) u z) (o : Own W' D v' 41 (us ++ [u])) (g : W.grownBy W' v.ownBlock) (loc : v'.ownBlock = v.ownBlock ∨ ∃ g, v'.ownBlock = some g ∧ W.heap.size ≤ g) :
    GrowL N W' D v' (us ++ [u]) (l ++ [z]) :=
  ⟨o, (h.2.1.snoc hz).stp ⟨Kept.ofGrown g (fun k e => List.mem_append_left _ (mem_ob.2 e)), fun m hm => by
    rcases List.mem_append.1 hm with hm | hm
    · have hm := mem_ob.1 hm
      rcases loc with e | ⟨q, e, hq⟩
      · exact .inl (List.mem_append_left _ (mem_ob.2 (by rw [← e]; exact hm)))
      · rw [hm] at e; cases e; exact .inr hq
    · exact .inl (List.mem_append_right _ hm)⟩, fun m hm => Nat.lt_of_lt_of_le (h.2.2 m hm) g.size⟩
theorem NewPm.growV (h : GrowL N W0 D v us l) (hz : NewPm W0 W u z) : PmV W (v.ownBlock.toList ++ N) u z :=
  hz.pm fun m hm => by
    rcases List.mem_append.1 hm with hm | hm
    · exact (h.1.block_lt (mem_ob.1 hm)).1
    · exact h.2.2 m hm
theorem GrowL.len (h : GrowL N W D v us l) : us.length = l.length := h.2.1.1
end
end
end Go.Proofs.YtbejhkojdiadaaaGreatDoor
namespace Go.Proofs.YtbejhkojdiadaaaGreatDoor
open Go.RowKit PlainPm
section
variable {n : Nat}
theorem Own.lowset {w : World} {B b : Nat} {v u : Value} {e : TypeId} {xs : List Value} (h : Own w B v e xs) (hb : b < B) : Own (w.setCell ⟨b, 0, none⟩ u) B v e xs :=
  h.kept (grown_put 0 u) (by
    rcases h.blk with h1 | ⟨g, cur, h1, h2, _, _⟩
    · exact .inl h1
    · exact .inr (fun e => by rw [h1] at e; cases e; omega))
theorem drew_size' (w : World) : w.drew.heap.size = w.heap.size := rfl
theorem al_at {w : World} {X : Nat} (hX : w.heap.size = X) (o : Obj) : (w.alloc o).heap[X]? = some o := hX ▸ World.alloc_heap_new w o
theorem keep3b {X : Nat} {V A B : World} {u0 u1 u2 : Value} (h : A.cell? ⟨X, 0, none⟩ = some u0 ∧ A.cell? ⟨X, 1, none⟩ = some u1 ∧ A.cell? ⟨X, 2, none⟩ = some u2 ∧ Below V.heap.size V A) (k : Below A.heap.size A B) :
    B.cell? ⟨X, 0, none⟩ = some u0 ∧ B.cell? ⟨X, 1, none⟩ = some u1 ∧ B.cell? ⟨X, 2, none⟩ = some u2 ∧ Below V.heap.size V B :=
  ⟨(k.cell (block_lt_of_cell h.1)).trans h.1, (k.cell (block_lt_of_cell h.2.1)).trans h.2.1, (k.cell (block_lt_of_cell h.2.2.1)).trans h.2.2.1, below_trans h.2.2.2 k⟩
end
end Go.Proofs.YtbejhkojdiadaaaGreatDoor
namespace Go.Proofs.YtbejhkojdiadaaaGreatDoor
open Go.RowKit PlainPm
section
variable {n : Nat}
theorem GrG.chk {w : World} {v : Value} {G : Pm n → Prop} (hn : 0 < n ∧ n ≤ 64) (hG : IsG G) (h : GrG w v G) : ∃ os rs, ChV w v n os rs ∧ chkE n os rs = 0 := by
  obtain ⟨T, t, c, _⟩ := h.ch
  refine ⟨_, _, c, ?_⟩
  unfold chkE
  rw [if_pos (by omega), Int.toNat_natCast, if_pos (valid_ofG hG t)]
theorem chkP_l (hn : 0 < n ∧ n ≤ 64) (x : Pm n) : chkPerm x.l = 0 := (chk_iff x.ok.1 (by omega) hn.2).2 x.ok
end
end Go.Proofs.YtbejhkojdiadaaaGreatDoor
