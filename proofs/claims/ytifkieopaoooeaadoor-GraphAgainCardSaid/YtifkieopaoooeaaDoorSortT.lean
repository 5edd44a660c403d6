/- Rows of triples of the call's own; the sort of one. -/
import Derived.Test.YtifkieopaoooeaaDoorRefine3
set_option linter.unusedSimpArgs false
set_option linter.unusedVariables false
namespace Go.Proofs.YtifkieopaoooeaaDoor
open Go.RowKit Go.Sort Go.Shelf Plain

theorem flat_get : ∀ (xs : List T3) (i j : Nat), j < 3 → (flat xs)[i * 3 + j]? = (xs[i]?).bind fun x => (tl x)[j]?
  | [], i, j, _ => by simp [flat]
  | x :: r, 0, j, h => by
    have : flat (x :: r) = tl x ++ flat r := by simp [flat]
    rw [this, List.getElem?_append_left (by simp [tl]; omega)]
    simp
  | x :: r, i + 1, j, h => by
    have : flat (x :: r) = tl x ++ flat r := by simp [flat]
    rw [this, List.getElem?_append_right (by simp [tl]; omega)]
    have e : (i + 1) * 3 + j - (tl x).length = i * 3 + j := by simp [tl]; omega
    rw [e, flat_get r i j h]
    simp
theorem flatK_flat (d : Array T3) : (flatK tv 3 d).toList = ints (flat d.toList) := by
  apply List.ext_getElem?
  intro t
  by_cases ht : t < d.size * 3
  · have h1 := get_flatK tv 3 d t ht
    have hd : t / 3 < d.size := by omega
    have e : t = (t / 3) * 3 + t % 3 := by omega
    have h2 := flat_get d.toList (t / 3) (t % 3) (by omega)
    rw [← e] at h2
    have hsz : t < (flatK tv 3 d).size := by simp; exact ht
    rw [Array.getElem?_toList, Array.getElem?_eq_getElem hsz, ← getElem!_pos (flatK tv 3 d) t hsz, h1]
    simp only [ints, List.getElem?_map, h2, Array.getElem?_toList, Array.getElem?_eq_getElem hd, Option.bind_some]
    rw [getElem!_pos d (t / 3) hd]
    obtain ⟨a, b, c⟩ := d[t / 3]
    have hm : t % 3 = 0 ∨ t % 3 = 1 ∨ t % 3 = 2 := by omega
    rcases hm with hm | hm | hm <;> simp [hm, tv, tl, ints]
  · rw [List.getElem?_eq_none (by simp; omega), List.getElem?_eq_none (by rw [ints_len, flat_len]; simp; omega)]

/-- A row of triples of the call's own. -/
def Own3 (w : World) (B : Nat) (v : Value) (ts : List T3) : Prop := w.ownsRow B 85 3 v ts.length (ints (flat ts))
theorem Own3.nil (w : World) (B : Nat) : Own3 w B (.slice none 0 0) [] := World.ownsRow_nil w B 85 3
theorem Own3.kept {w w' : World} {B : Nat} {v : Value} {ts : List T3} (h : Own3 w B v ts) {row : Option Nat} (hg : w.grownBy w' row) (hne : v.ownBlock = none ∨ v.ownBlock ≠ row) : Own3 w' B v ts := World.ownsRow.kept h hg hne
theorem Own3.alloc {w : World} {B : Nat} {v : Value} {ts : List T3} (h : Own3 w B v ts) (o : Obj) : Own3 (w.alloc o) B v ts := World.ownsRow.alloc h o
theorem Own3.drewN {w : World} {B : Nat} {v : Value} {ts : List T3} (h : Own3 w B v ts) (n : Nat) : Own3 (w.drewN n) B v ts := h
theorem Own3.mono {w : World} {B B' : Nat} {v : Value} {ts : List T3} (h : Own3 w B v ts) (hb : B' ≤ B) : Own3 w B' v ts := by
  obtain ⟨h1, h2⟩ := h
  refine ⟨h1, ?_⟩
  rcases h2 with h2 | ⟨g, cap, cur, hv, hg, r⟩
  · exact .inl h2
  · exact .inr ⟨g, cap, cur, hv, by omega, r⟩
theorem Own3.blk {w : World} {B : Nat} {v : Value} {ts : List T3} (h : Own3 w B v ts) : v.ownBlock = none ∨ ∃ g cur, v.ownBlock = some g ∧ B ≤ g ∧ g < w.heap.size ∧ w.heap[g]? = some (.cells cur 85 (0, 0)) := by
  rcases h.2 with ⟨rfl, _⟩ | ⟨g, cap, cur, rfl, hB, hh, _⟩
  · exact .inl rfl
  · refine .inr ⟨g, cur, rfl, hB, ?_, hh⟩
    rcases Nat.lt_or_ge g w.heap.size with hl | hl
    · exact hl
    · rw [Array.getElem?_eq_none hl] at hh; cases hh
theorem Own3.form {w : World} {B : Nat} {v : Value} {ts : List T3} (h : Own3 w B v ts) (hn : 0 < ts.length) :
    ∃ g cap, v = .slice (some ⟨g, 0, none⟩) ts.length cap ∧ B ≤ g ∧ g < w.heap.size ∧ ts.length ≤ cap ∧ cap ≤ maxLen := by
  rcases h.2 with ⟨_, h0⟩ | ⟨g, cap, cur, rfl, hB, hh, hnc, hcm, _⟩
  · omega
  · refine ⟨g, cap, rfl, hB, ?_, hnc, hcm⟩
    rcases Nat.lt_or_ge g w.heap.size with hl | hl
    · exact hl
    · rw [Array.getElem?_eq_none hl] at hh; cases hh
theorem Own3.any_form {w : World} {B : Nat} {v : Value} {ts : List T3} (h : Own3 w B v ts) : ∃ a c, v = .slice a ts.length c := by
  rcases h.2 with ⟨rfl, h0⟩ | ⟨g, cap, cur, rfl, _⟩
  · exact ⟨none, 0, by rw [h0]⟩
  · exact ⟨_, _, rfl⟩
theorem Own3.tri {w : World} {B : Nat} {a : Option Addr} {n c : Nat} {ts : List T3} (h : Own3 w B (.slice a n c) ts) (hl : ts.length ≤ 1000000) : Tri w a ts := by
  refine ⟨hl, fun i x hx => ?_⟩
  have hi : i < ts.length := (List.getElem?_eq_some_iff.1 hx).1
  obtain ⟨g, cap, e, hB, hlt, _⟩ := h.form (by omega)
  cases e
  have hc : ∀ j, j < 3 → w.cell? ⟨g, i * 3 + j, none⟩ = some (.int .i64 ((tl x)[j]?.getD 0)) := fun j hj => by
    have h1 := World.ownsRow.cells h (g := g) rfl (i * 3 + j) (.int .i64 ((tl x)[j]?.getD 0)) (by
      simp only [ints, List.getElem?_map, flat_get ts i j hj, hx, Option.bind_some]
      obtain ⟨p, q, r⟩ := x
      have hm : j = 0 ∨ j = 1 ∨ j = 2 := by omega
      rcases hm with hm | hm | hm <;> subst hm <;> simp [tl])
    rw [add_zero_addr] at h1
    simpa using h1
  exact ⟨g, rfl, hlt, hc 0 (by omega), hc 1 (by omega), hc 2 (by omega)⟩
theorem own3_sortWorld {w : World} {D blk n cap : Nat} {ts : List T3} (h : Own3 w D (.slice (some ⟨blk, 0, none⟩) n cap) ts) (m : Nat) (os : Array Obj) (d : Array T3) (hd : d.size = ts.length) :
    Own3 (sortWorldK tv 3 w blk 0 m d os) D (.slice (some ⟨blk, 0, none⟩) n cap) d.toList := by
  have hf := flatK_flat d
  have hw : sortWorldK tv 3 w blk 0 m d os = sortWorld id w blk 0 m (flatK tv 3 d) os := rfl
  rw [hw]
  have hfs : (flatK tv 3 d).size = ts.length * 3 := by simp [hd]
  obtain ⟨F, hF⟩ : ∃ F, flatK tv 3 d = F := ⟨_, rfl⟩
  rw [hF] at hf hfs ⊢
  rcases h.2 with ⟨h1, _⟩ | ⟨g, cap', cur, h1, hB, hh, hnc, hcm, hcs, htk⟩
  · cases h1
  · cases h1
    have hblk : blk < w.heap.size := by
      rcases Nat.lt_or_ge blk w.heap.size with hl | hl
      · exact hl
      · rw [Array.getElem?_eq_none hl] at hh; cases hh
    have hle : d.toList.length = ts.length := by simp [hd]
    unfold Own3
    rw [hle, ← hf]
    refine ⟨by simp [hfs], .inr ⟨blk, cap, Go.Sort.putCells id 0 F cur, rfl, hB, ?_, hnc, hcm, by simp [Go.Sort.putCells, hcs], ?_⟩⟩
    · rw [heap_sortWorld id w blk 0 m F os blk hblk, Array.getElem?_modify, if_pos rfl, hh]; rfl
    · apply List.ext_getElem?
      intro j
      rw [List.getElem?_take]
      by_cases hj : j < ts.length * 3
      · have hjd : j < F.size := by omega
        have hjc : j < cur.size := by omega
        rw [if_pos hj]
        simp only [Go.Sort.putCells, Array.getElem?_toList, Array.getElem?_mapIdx]
        rw [Array.getElem?_eq_getElem hjc, Array.getElem?_eq_getElem hjd]
        simp [hjd]
      · rw [if_neg hj, List.getElem?_eq_none (by simp; omega)]
theorem holds_own3 {w : World} {D blk cap n : Nat} (d : Array T3) (h : Own3 w D (.slice (some ⟨blk, 0, none⟩) n cap) d.toList) : HoldsK tv 3 w blk 0 d := by
  intro j hj
  have hf := flatK_flat d
  have hlt : j < (ints (flat d.toList)).length := by rw [← hf]; simpa using hj
  have hc := World.ownsRow.cells h (g := blk) rfl j _ (List.getElem?_eq_getElem hlt)
  rw [add_zero_addr, Nat.zero_add] at hc
  rw [Nat.zero_add]
  have hfz : w.frozen? ⟨blk, j, none⟩ = false := by
    rcases h.2 with ⟨h1, _⟩ | ⟨g, cap', cur, h1, _⟩
    · cases h1
    · have hn : n = d.toList.length := by injection h1
      subst hn
      exact World.ownsRow.frozenAt h j
  refine ⟨?_, hfz⟩
  rw [hc]
  congr 1
  have h2 : (flatK tv 3 d).toList[j]? = (ints (flat d.toList))[j]? := by rw [hf]
  rw [List.getElem?_eq_getElem hlt, Array.getElem?_toList, Array.getElem?_eq_getElem hj] at h2
  rw [getElem!_pos (flatK tv 3 d) j hj]
  exact (Option.some.inj h2).symm

def leT (x y : T3) : Prop := ¬ cmpL (tl y) (tl x) < 0
theorem tl_inj {x y : T3} (h : tl x = tl y) : x = y := by
  obtain ⟨a, b, c⟩ := x
  obtain ⟨d, e, f⟩ := y
  simp [tl] at h
  obtain ⟨rfl, rfl, rfl⟩ := h
  rfl
theorem leT_antisymm {x y : T3} (h : leT x y) (k : leT y x) : x = y := by
  unfold leT at h k
  have := cmpL_antisymm (tl x) (tl y)
  exact tl_inj (cmpL_zero (by omega))
theorem leT_trans {x y z : T3} (h : leT x y) (k : leT y z) : leT x z := by
  unfold leT at *
  intro hzx
  have h1 := cmpL_antisymm (tl x) (tl y)
  by_cases e : cmpL (tl x) (tl y) = 0
  · rw [cmpL_zero e] at hzx; exact k hzx
  · exact k (cmpL_trans hzx (by omega))
theorem leT_total (x y : T3) : leT x y ∨ leT y x := by
  unfold leT
  have h1 := cmpL_antisymm (tl x) (tl y)
  omega

set_option maxHeartbeats 1000000 in
theorem sortT_calls (ts : List T3) (w : World) (D : Nat) (a : Option Addr) (c : Nat) (h : Own3 w D (.slice a ts.length c) ts) (hl : ts.length ≤ 1000000) :
    Calls Tryd.prog 44 #[.slice a ts.length c, .func (.func 43) #[] #[]] w fun e w' => e = .returned (.tuple #[]) ∧ ∃ ss : List T3, ss.Perm ts ∧ ss.Pairwise leT ∧ Own3 w' D (.slice a ts.length c) ss ∧ w.grownBy w' (Value.slice a ts.length c).ownBlock := by
  rcases Nat.eq_zero_or_pos ts.length with h0 | h0
  · have hts : ts = [] := List.eq_nil_of_length_eq_zero h0
    subst hts
    have hn := AnyF.slices_SortFunc_none (P := Tryd.prog) (ρ := Tryd.sortT_ren) { Tryd.sortT with } a c (.func (.func 43) #[] #[]) w
    change Calls Tryd.prog 44 _ _ _ at hn
    exact hn.mono fun e w' ⟨he, hw⟩ => ⟨he, [], .refl _, .nil, by rw [hw]; exact h, by rw [hw]; exact World.grownBy.refl w _⟩
  · obtain ⟨blk, cap, e, hblk, hblt, hnc, hcm⟩ := h.form h0
    cases e
    let cf : T3 → T3 → Int := fun x y => cmpL (tl x) (tl y)
    have hlt : ∀ x y : T3, ltOf cf x y = true ↔ cmpL (tl x) (tl y) < 0 := fun x y => by
      show decide (_ < 0) = true ↔ _
      rw [decide_eq_true_iff]
    have hltf : ∀ x y : T3, ltOf cf x y = false ↔ leT y x := fun x y => by
      unfold leT; rw [← hlt]; simp
    have hO : SWO (ltOf cf) := by
      refine ⟨fun x => (hltf x x).2 (by unfold leT; rw [cmpL_self]; omega), fun x y z h k => (hlt x z).2 (cmpL_trans ((hlt x y).1 h) ((hlt y z).1 k)), fun x y z h k => (hltf x z).2 (leT_trans ((hltf y z).1 k) ((hltf x y).1 h))⟩
    let d : Array T3 := ts.toArray
    have hds : d.size = ts.length := by simp [d]
    have hown : Own3 w D (.slice (some ⟨blk, 0, none⟩) ts.length c) d.toList := by simpa [d] using h
    have hcmp : CmpLays Tryd.prog 43 #[] tv 3 cf blk 0 d.size w := by
      intro m os dk hdk x y
      exact triple_calls x y (sortWorldK tv 3 w blk 0 m dk os)
    have hcon := AnyQ.slices_SortFunc_total Tryd.sortT 3 Tryd.isAgg85 Tryd.sizeOf85 tv (fun _ => rfl) (fun x v hv => by
      obtain ⟨p, q, r⟩ := x
      simp [tv, tl, ints] at hv
      rcases hv with rfl | rfl | rfl <;> rfl) cf hO 43 #[] blk 0 c d w (enters_of Tryd.func43 (by kernel_rfl) rfl) hcmp (holds_own3 d hown) hblt (by rw [hds]; omega) (fun x y h1 h2 => leT_antisymm ((hltf y x).1 h2) ((hltf x y).1 h1))
    rw [hds] at hcon
    change Calls Tryd.prog 44 _ _ _ at hcon
    refine hcon.mono ?_
    rintro e w' ⟨he, m, os, rfl⟩
    have hperm := List.mergeSort_perm ts (fun x y => !(ltOf cf) y x)
    have hsort := List.pairwise_mergeSort (le := fun x y => !(ltOf cf) y x) (fun x y z h1 h2 => by
      simp only [Bool.not_eq_true', hltf] at h1 h2 ⊢
      exact leT_trans h1 h2) (fun x y => by
      simp only [Bool.or_eq_true, Bool.not_eq_true', hltf]
      exact leT_total x y) ts
    refine ⟨he, _, hperm, hsort.imp fun {x y} h1 => by simpa only [Bool.not_eq_true', hltf] using h1, ?_, grown_sortWorld id w blk 0 m _ os⟩
    exact own3_sortWorld h m os _ (by simp [d, List.length_mergeSort])
end Go.Proofs.YtifkieopaoooeaaDoor
