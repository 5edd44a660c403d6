/- The sort of all points by a comparison. -/
import Derived.Test.YtifkieopaoooeaaDoorSortW
import Derived.Test.YtifkieopaoooeaaDoorPlainGroup
set_option linter.unusedSimpArgs false
set_option linter.unusedVariables false
namespace Go.Proofs.YtifkieopaoooeaaDoor
open Go.RowKit Go.Sort Go.Shelf Plain

/-- The world has grown: draws and new blocks alone. -/
def Grew (w w' : World) : Prop := ∃ q os, w' = grow (w.drewN q) os
theorem Grew.refl (w : World) : Grew w w := ⟨0, #[], by simp; rfl⟩
theorem Grew.trans {a b c : World} (h : Grew a b) (k : Grew b c) : Grew a c := by
  obtain ⟨q, os, rfl⟩ := h
  obtain ⟨q', os', rfl⟩ := k
  exact ⟨q + q', os ++ os', by
    rw [← grow_grow]
    congr 1
    show World.drewN (grow (a.drewN q) os) q' = _
    unfold World.drewN grow
    simp [Nat.add_assoc]⟩
theorem Grew.alloc {a b : World} (h : Grew a b) (o : Obj) : Grew a (b.alloc o) := h.trans ⟨0, #[o], by rw [alloc_eq_grow]; rfl⟩
theorem Grew.drewN {a b : World} (h : Grew a b) (q : Nat) : Grew a (b.drewN q) := h.trans ⟨q, #[], by simp⟩
theorem Grew.drew {a b : World} (h : Grew a b) : Grew a b.drew := h.drewN 1
theorem Grew.below {a b : World} (h : Grew a b) : Below a.heap.size a b := by
  obtain ⟨q, os, rfl⟩ := h
  refine ⟨rfl, rfl, rfl, by simp, fun k hk => ?_⟩
  rw [heap_grow_old _ _ (by simpa using hk)]; rfl

/-- A comparison handed in: at any two points below n it answers cf, and only grows the world. -/
structure CmpOk (w : World) (g : Nat) (cb : Array Value) (n : Nat) (cf : Nat → Nat → Int) : Prop where
  enters : ∀ args w, (callFunc g args).run Tryd.prog w = .ok (.enter g args) w
  calls : ∀ W, Below w.heap.size w W → ∀ x y : Nat, x < n → y < n → Calls Tryd.prog g (#[.int .i64 (x : Int), .int .i64 (y : Int)] ++ cb) W fun e w' => e = .returned (.int .i64 (cf x y)) ∧ Grew W w'

set_option maxHeartbeats 400000 in
theorem grouped1_calls (g : Nat) (cb : Array Value) (c : Int) (D : Nat) (x y : Nat) (hx : x < 1000000) (hy : y < 1000000) (W : World) (eg : ∀ args w, (callFunc g args).run Tryd.prog w = .ok (.enter g args) w)
    (hbox : W.cell? ⟨D, 0, none⟩ = some (.func (.func g) #[] cb)) (hc : Calls Tryd.prog g (#[.int .i64 (x : Int), .int .i64 (y : Int)] ++ cb) W fun e w' => e = .returned (.int .i64 c) ∧ Grew W w') :
    Calls Tryd.prog 59 #[.int .i64 (x : Int), .int .i64 (y : Int), .pointer (some ⟨D, 0, none⟩)] W fun e w' => e = .returned (.int .i64 (orL [c, (x : Int) - y])) ∧ Grew W w' := by
  have Hc := Lib.hid hc
  clear hc
  go_enter Tryd.func59, Tryd.ntmps59
  go_wp2_with fail
  refine Hc.out.mono ?_
  rintro e W1 ⟨rfl, hW1⟩
  have H1 := Lib.hid hW1
  clear hW1
  have hown := Own.new (w := W1) (B := 0) 3 (ints [c, (x : Int) - y]) (Nat.zero_le _) (by unfold maxLen; simp [ints])
  have hor := or_calls (some ⟨W1.heap.size, 0, none⟩) 2 [c, (x : Int) - y] _ (hown.toInts (by unfold maxLen; simp))
  have Ho := Lib.hid hor
  clear hown hor
  go_wp2_with (go_at_call 47; refine Ho.out.mono ?_; rintro e w' ⟨rfl, rfl⟩)
  go_ret
  exact ⟨rfl, H1.out.alloc _⟩


theorem lt_ahead {R : Nat → List Int} {cf : Nat → Nat → Int} {n : Nat} (hcf : ∀ x y, x < n → y < n → (cf x y < 0 ↔ cmpL (R x) (R y) < 0) ∧ (cf x y = 0 ↔ R x = R y)) {x y : Nat} (hx : x < n) (hy : y < n) :
    orL [cf x y, (x : Int) - y] < 0 ↔ Ahead R x y := by
  have h := hcf x y hx hy
  unfold orL orL orL
  by_cases h0 : cf x y = 0
  · have hr := h.2.1 h0
    simp only [h0, ne_eq, not_true_eq_false, if_false]
    constructor
    · intro h1
      split at h1
      · exact .inr ⟨hr, by omega⟩
      · omega
    · rintro (h1 | h1)
      · rw [hr, cmpL_self] at h1; omega
      · rw [if_pos (by omega)]; omega
  · rw [if_pos h0]
    constructor
    · intro h1; exact .inl (h.1.1 h1)
    · rintro (h1 | h1)
      · exact h.1.2 h1
      · exact absurd (h.2.2 h1.1) h0

set_option maxHeartbeats 1000000 in
theorem sortAll_calls (n : Nat) (hn : n ≤ 1000) (R : Nat → List Int) (g : Nat) (cb : Array Value) (cf : Nat → Nat → Int) (w wr : World) (hok : CmpOk w g cb n cf)
    (hcf : ∀ x y, x < n → y < n → (cf x y < 0 ↔ cmpL (R x) (R y) < 0) ∧ (cf x y = 0 ↔ R x = R y)) (D : Nat) (hD : D = w.heap.size) (a : Option Addr) (c : Nat)
    (ho : Own wr D (.slice a n c) 3 (nums (List.range n))) (hbx : Own wr D (.slice (some ⟨D, 0, none⟩) 1 1) 28 [.func (.func g) #[] cb]) (hbl : Below D w wr) :
    Calls Tryd.prog 58 #[.slice a n c, .func (.func 59) #[] #[.pointer (some ⟨D, 0, none⟩)]] wr fun e w' => e = .returned (.tuple #[]) ∧ ∃ s : List Nat, s.Perm (List.range n) ∧ s.Pairwise (fun p q => Ahead R p q) ∧
      Own w' D (.slice a n c) 3 (nums s) ∧ Own w' D (.slice (some ⟨D, 0, none⟩) 1 1) 28 [.func (.func g) #[] cb] ∧ Below D w w' := by
  cases n with
  | zero =>
    have h := AnyF.slices_SortFunc_none (P := Tryd.prog) (ρ := Tryd.sortI_ren) { Tryd.sortI with } a c (.func (.func 59) #[] #[.pointer (some ⟨D, 0, none⟩)]) wr
    change Calls Tryd.prog 58 _ _ _ at h
    exact h.mono fun e w' ⟨he, hw⟩ => ⟨he, [], by simp, by simp, by rw [hw]; exact ho, by rw [hw]; exact hbx, by rw [hw]; exact hbl⟩
  | succ n =>
    obtain ⟨blk, rfl, hblk, hblt, -⟩ := ho.at_form (by omega)
    have hDw : D ≤ wr.heap.size := by have := hbl.size; omega
    let enc : Fin (n + 1) → Value := fun i => .int .i64 ((i.val : Nat) : Int)
    let cf' : Fin (n + 1) → Fin (n + 1) → Int := fun x y => orL [cf x.val y.val, (x.val : Int) - y.val]
    have hlt : ∀ x y : Fin (n + 1), ltOf cf' x y = true ↔ Ahead R x.val y.val := fun x y => by
      show decide (_ < 0) = true ↔ _
      rw [decide_eq_true_iff]
      exact lt_ahead hcf x.isLt y.isLt
    have hltf : ∀ x y : Fin (n + 1), ltOf cf' x y = false ↔ ¬ Ahead R x.val y.val := fun x y => by
      rw [← hlt]; simp
    have hO : SWO (ltOf cf') := by
      refine ⟨fun x => (hltf x x).2 (Ahead.irrefl _), fun x y z h k => (hlt x z).2 (((hlt x y).1 h).trans ((hlt y z).1 k)), fun x y z h k => (hltf x z).2 (fun hxz => ?_)⟩
      have h1 := (hltf x y).1 h
      have h2 := (hltf y z).1 k
      rcases Ahead.total (R := R) x.val y.val with h3 | h3 | h3
      · exact h1 h3
      · rw [h3] at hxz; exact h2 hxz
      · exact h2 (h3.trans hxz)
    let d : Array (Fin (n + 1)) := Array.ofFn (fun i : Fin (n + 1) => i)
    have hds : d.size = n + 1 := by simp [d]
    have hdl : d.toList.map enc = nums (List.range (n + 1)) := by
      apply List.ext_getElem?
      intro j
      simp only [d, nums, List.getElem?_map, Array.toList_ofFn, List.getElem?_ofFn, enc]
      by_cases hj : j < n + 1
      · simp [hj]
      · simp [hj]
    have hown : Own wr D (.slice (some ⟨blk, 0, none⟩) (n + 1) c) 3 (d.toList.map enc) := by rw [hdl]; exact ho
    have hcmp : CmpLays1 Tryd.prog 59 #[.pointer (some ⟨D, 0, none⟩)] enc cf' blk 0 d.size wr := by
      intro m os dk hdk x y
      have hg1 := grown_sortWorld enc wr blk 0 m dk os
      have hbx2 := hbx.kept hg1 (hbx.ne_type ho (by decide))
      have hb2 : Below D w (sortWorld enc wr blk 0 m dk os) := hbl.grown hg1 hDw (fun q hq => by cases hq; exact hblk)
      have hcell := hbx2.cell 0 (by simp)
      have hc := hok.calls (sortWorld enc wr blk 0 m dk os) (by rw [← hD]; exact hb2) x.val y.val x.isLt y.isLt
      exact grouped1_calls g cb (cf x.val y.val) D x.val y.val (by have := x.isLt; omega) (by have := y.isLt; omega) _ hok.enters hcell hc
    have hcon := Any.slices_SortFunc Tryd.sortI enc (fun _ => rfl) cf' hO 59 #[.pointer (some ⟨D, 0, none⟩)] blk 0 c d wr (enters_of Tryd.func59 (by kernel_rfl) rfl) hcmp (holds_own enc d hown) hblt (by rw [hds]; omega)
    rw [hds] at hcon
    change Calls Tryd.prog 58 _ _ _ at hcon
    refine hcon.mono ?_
    rintro e w' ⟨he, d', m, os, hp, hs, rfl⟩
    have hd's : d'.size = n + 1 := by rw [hp.1, hds]
    have hg1 := grown_sortWorld enc wr blk 0 m d' os
    have hperm : (d'.toList.map Fin.val).Perm (List.range (n + 1)) := by
      have e0 : ∀ (z : Array (Fin (n + 1))), z.size = n + 1 → (z.extract 0 (n + 1)).toList = z.toList := fun z hz => by
        rw [Array.toList_extract, List.extract_eq_take_drop, List.drop_zero, Nat.sub_zero]
        exact List.take_of_length_le (by simp [hz])
      have h1 := hp.2.2
      rw [e0 d' hd's, e0 d hds] at h1
      have h2 := h1.map Fin.val
      have h3 : d.toList.map Fin.val = List.range (n + 1) := by
        apply List.ext_getElem?
        intro j
        simp only [d, List.getElem?_map, Array.toList_ofFn, List.getElem?_ofFn]
        by_cases hj : j < n + 1
        · simp [hj]
        · simp [hj]
      rw [h3] at h2
      exact h2
    refine ⟨he, d'.toList.map Fin.val, hperm, ?_, ?_, hbx.kept hg1 (hbx.ne_type ho (by decide)), hbl.grown hg1 hDw (fun q hq => by cases hq; exact hblk)⟩
    · refine pairwise_of_sorted (hperm.nodup_iff.2 List.nodup_range) (fun i j hij hj => ?_)
      have hj' : j < d'.size := by simpa using hj
      have h1 := hs i j (by omega) hij (by omega)
      rw [hltf] at h1
      simp only [List.getElem?_map, Array.getElem?_toList, Array.getElem?_eq_getElem hj', Array.getElem?_eq_getElem (show i < d'.size by omega), Option.map_some, Option.getD_some]
      rw [getElem!_pos d' j hj', getElem!_pos d' i (by omega)] at h1
      exact h1
    · have h2 := own_sortWorld enc hown m os d' hd's
      have h3 : d'.toList.map enc = nums (d'.toList.map Fin.val) := by simp [nums, enc]
      rw [h3] at h2
      exact h2
end Go.Proofs.YtifkieopaoooeaaDoor
