/- The sort of edges. -/
import Derived.Test.YtifkieopaoooeaaGreatDoorVerts
import Derived.Test.YtifkieopaoooeaaGreatDoorSortB
import Derived.Test.YtifkieopaoooeaaGreatDoorPlainG
set_option linter.unusedSimpArgs false
set_option linter.unusedVariables false
namespace Go.Proofs
open Go.Shelf
def Tryz.sortE_ren : Go.Shelf.Ren := ⟨fun | 6 => 94 | 15 => 119 | 14 => 118 | 28 => 144 | 29 => 145 | 20 => 136 | 21 => 137 | 22 => 138 | 23 => 139 | 24 => 140 | 25 => 141 | 26 => 142 | 27 => 143 | 46 => 162 | 47 => 163 | 48 => 164 | 49 => 165 | 50 => 166 | 57 => 189 | n => n, fun | 22 => 101 | 24 => 103 | 25 => 125 | 3 => 3 | 39 => 152 | 0 => 0 | 53 => 176 | 55 => 163 | 4 => 4 | 46 => 170 | 45 => 169 | 50 => 88 | 5 => 5 | 9 => 9 | 66 => 188 | 70 => 192 | 76 => 206 | 77 => 207 | n => n, fun | n => n⟩
theorem Tryz.sortE : Go.Proofs.SlLaysF0.n6 Tryz.prog Tryz.sortE_ren :=
  {
    mixed := by kernel_rfl,
    f6 := ⟨Tryz.f94.name, by decide, Tryz.func94.trans (congrArg some (by kernel_rfl))⟩,
    f14 := ⟨Tryz.f118.name, by decide, Tryz.func118.trans (congrArg some (by kernel_rfl))⟩,
    f15 := Tryz.func119.trans (congrArg some (by kernel_rfl)),
    f20 := ⟨Tryz.f136.name, by decide, Tryz.func136.trans (congrArg some (by kernel_rfl))⟩,
    f21 := ⟨Tryz.f137.name, by decide, Tryz.func137.trans (congrArg some (by kernel_rfl))⟩,
    f22 := ⟨Tryz.f138.name, by decide, Tryz.func138.trans (congrArg some (by kernel_rfl))⟩,
    f23 := ⟨Tryz.f139.name, by decide, Tryz.func139.trans (congrArg some (by kernel_rfl))⟩,
    f24 := ⟨Tryz.f140.name, by decide, Tryz.func140.trans (congrArg some (by kernel_rfl))⟩,
    f25 := ⟨Tryz.f141.name, by decide, Tryz.func141.trans (congrArg some (by kernel_rfl))⟩,
    f26 := ⟨Tryz.f142.name, by decide, Tryz.func142.trans (congrArg some (by kernel_rfl))⟩,
    f27 := ⟨Tryz.f143.name, by decide, Tryz.func143.trans (congrArg some (by kernel_rfl))⟩,
    f28 := Tryz.func144.trans (congrArg some (by kernel_rfl)),
    f29 := Tryz.func145.trans (congrArg some (by kernel_rfl)),
    f46 := ⟨Tryz.f162.name, by decide, Tryz.func162.trans (congrArg some (by kernel_rfl))⟩,
    f47 := Tryz.func163.trans (congrArg some (by kernel_rfl)),
    f48 := Tryz.func164.trans (congrArg some (by kernel_rfl)),
    f49 := ⟨Tryz.f165.name, by decide, Tryz.func165.trans (congrArg some (by kernel_rfl))⟩,
    f50 := ⟨Tryz.f166.name, by decide, Tryz.func166.trans (congrArg some (by kernel_rfl))⟩,
    f57 := ⟨Tryz.f189.name, by decide, Tryz.func189.trans (congrArg some (by kernel_rfl))⟩,
    t0 := Tryz.underlying0,
    a0 := Tryz.isAgg0,
    z0 := Tryz.sizeOf0,
    v0 := Tryz.zeroValue0,
    t3 := Tryz.underlying3,
    a3 := Tryz.isAgg3,
    z3 := Tryz.sizeOf3,
    v3 := Tryz.zeroValue3,
    t4 := Tryz.underlying4,
    a4 := Tryz.isAgg4,
    z4 := Tryz.sizeOf4,
    v4 := Tryz.zeroValue4,
    t5 := Tryz.underlying5,
    a5 := Tryz.isAgg5,
    z5 := Tryz.sizeOf5,
    v5 := Tryz.zeroValue5,
    t9 := Tryz.underlying9,
    a9 := Tryz.isAgg9,
    z9 := Tryz.sizeOf9,
    v9 := Tryz.zeroValue9,
    t22 := Tryz.underlying101,
    a22 := Tryz.isAgg101,
    z22 := Tryz.sizeOf101,
    v22 := Tryz.zeroValue101,
    t25 := Tryz.underlying125,
    a25 := Tryz.isAgg125,
    z25 := Tryz.sizeOf125,
    v25 := Tryz.zeroValue125,
    t39 := Tryz.underlying152,
    a39 := Tryz.isAgg152,
    z39 := Tryz.sizeOf152,
    v39 := Tryz.zeroValue152,
    t45 := Tryz.underlying169,
    a45 := Tryz.isAgg169,
    z45 := Tryz.sizeOf169,
    v45 := Tryz.zeroValue169,
    t46 := Tryz.underlying170,
    a46 := Tryz.isAgg170,
    z46 := Tryz.sizeOf170,
    v46 := Tryz.zeroValue170,
    t50 := Tryz.underlying88,
    a50 := Tryz.isAgg88,
    z50 := Tryz.sizeOf88,
    v50 := Tryz.zeroValue88,
    t53 := Tryz.underlying176,
    a53 := Tryz.isAgg176,
    z53 := Tryz.sizeOf176,
    v53 := Tryz.zeroValue176,
    t55 := Tryz.underlying163,
    a55 := Tryz.isAgg163,
    z55 := Tryz.sizeOf163,
    v55 := Tryz.zeroValue163,
    t66 := Tryz.underlying188,
    a66 := Tryz.isAgg188,
    z66 := Tryz.sizeOf188,
    v66 := Tryz.zeroValue188,
    t70 := Tryz.underlying192,
    a70 := Tryz.isAgg192,
    z70 := Tryz.sizeOf192,
    v70 := Tryz.zeroValue192,
    t76 := Tryz.underlying206,
    a76 := Tryz.isAgg206,
    z76 := Tryz.sizeOf206,
    v76 := Tryz.zeroValue206,
    t77 := Tryz.underlying207,
    a77 := Tryz.isAgg207,
    z77 := Tryz.sizeOf207,
    v77 := Tryz.zeroValue207 }
end Go.Proofs
namespace Go.Proofs.YtifkieopaoooeaaGreatDoor
open Go.RowKit Go.Sort Go.Shelf Plain PlainG
theorem flatK_flat2 (d : Array (Int × Int)) : (flatK tv2 2 d).toList = ints (flat2 d.toList) := by
  apply List.ext_getElem?
  intro t
  by_cases ht : t < d.size * 2
  · have h1 := get_flatK tv2 2 d t ht
    have hd : t / 2 < d.size := by omega
    have e : t = (t / 2) * 2 + t % 2 := by omega
    have h2 := flat2_get d.toList (t / 2) (t % 2) (by omega)
    rw [← e] at h2
    have hsz : t < (flatK tv2 2 d).size := by simp; exact ht
    rw [Array.getElem?_toList, Array.getElem?_eq_getElem hsz, ← getElem!_pos (flatK tv2 2 d) t hsz, h1]
    simp only [ints, List.getElem?_map, h2, Array.getElem?_toList, Array.getElem?_eq_getElem hd, Option.bind_some]
    rw [getElem!_pos d (t / 2) hd]
    obtain ⟨a, b⟩ := d[t / 2]
    have hm : t % 2 = 0 ∨ t % 2 = 1 := by omega
    rcases hm with hm | hm <;> simp [hm, tv2, tl2, ints]
  · rw [List.getElem?_eq_none (by simp; omega), List.getElem?_eq_none (by rw [ints_len, flat2_len]; simp; omega)]
theorem ownE_sortWorld {w : World} {D blk n cap : Nat} {T : TypeId} {ts : List (Int × Int)} (h : OwnE w D T (.slice (some ⟨blk, 0, none⟩) n cap) ts) (m : Nat) (os : Array Obj) (d : Array (Int × Int)) (hd : d.size = ts.length) :
    OwnE (sortWorldK tv2 2 w blk 0 m d os) D T (.slice (some ⟨blk, 0, none⟩) n cap) d.toList := by
  have hf := flatK_flat2 d
  have hw : sortWorldK tv2 2 w blk 0 m d os = sortWorld id w blk 0 m (flatK tv2 2 d) os := rfl
  rw [hw]
  have hfs : (flatK tv2 2 d).size = ts.length * 2 := by simp [hd]
  obtain ⟨F, hF⟩ : ∃ F, flatK tv2 2 d = F := ⟨_, rfl⟩
  rw [hF] at hf hfs ⊢
  rcases h.2 with ⟨h1, _⟩ | ⟨g, cap', cur, h1, hB, hh, hnc, hcm, hcs, htk⟩
  · cases h1
  · cases h1
    have hblk : blk < w.heap.size := by
      rcases Nat.lt_or_ge blk w.heap.size with hl | hl
      · exact hl
      · rw [Array.getElem?_eq_none hl] at hh; cases hh
    have hle : d.toList.length = ts.length := by simp [hd]
    unfold OwnE
    rw [hle, ← hf]
    refine ⟨by simp [hfs], .inr ⟨blk, cap, Go.Sort.putCells id 0 F cur, rfl, hB, ?_, hnc, hcm, by simp [Go.Sort.putCells, hcs], ?_⟩⟩
    · rw [heap_sortWorld id w blk 0 m F os blk hblk, Array.getElem?_modify, if_pos rfl, hh]; rfl
    · apply List.ext_getElem?
      intro j
      rw [List.getElem?_take]
      by_cases hj : j < ts.length * 2
      · have hjd : j < F.size := by omega
        have hjc : j < cur.size := by omega
        rw [if_pos hj]
        simp only [Go.Sort.putCells, Array.getElem?_toList, Array.getElem?_mapIdx]
        rw [Array.getElem?_eq_getElem hjc, Array.getElem?_eq_getElem hjd]
        simp [hjd]
      · rw [if_neg hj, List.getElem?_eq_none (by simp; omega)]
theorem holds_ownE {w : World} {D blk cap n : Nat} {T : TypeId} (d : Array (Int × Int)) (h : OwnE w D T (.slice (some ⟨blk, 0, none⟩) n cap) d.toList) : HoldsK tv2 2 w blk 0 d := by
  intro j hj
  have hf := flatK_flat2 d
  have hlt : j < (ints (flat2 d.toList)).length := by rw [← hf]; simpa using hj
  have hc := World.ownsRow.cells h (g := blk) rfl j _ (List.getElem?_eq_getElem hlt)
  rw [add_zero_addr, Nat.zero_add] at hc
  rw [Nat.zero_add]
  have hfz : w.frozen? ⟨blk, j, none⟩ = false := by
    rcases h.2 with ⟨h1, _⟩ | ⟨g, cap', cur, h1, _⟩
    · cases h1
    · have hn : n = d.toList.length := by injection h1
      subst hn
      exact World.ownsRow.frozenAt h j
  refine ⟨?_, hfz⟩
  rw [hc]
  congr 1
  have h2 : (flatK tv2 2 d).toList[j]? = (ints (flat2 d.toList))[j]? := by rw [hf]
  rw [List.getElem?_eq_getElem hlt, Array.getElem?_toList, Array.getElem?_eq_getElem hj] at h2
  rw [getElem!_pos (flatK tv2 2 d) j hj]
  exact (Option.some.inj h2).symm
set_option maxHeartbeats 400000 in
theorem edgeCmp_grew (x y : Int × Int) (w : World) : Calls Tryz.prog 79 #[.agg (tv2 x).toArray, .agg (tv2 y).toArray] w fun e w' => e = .returned (.int .i64 (cmpL (tl2 x) (tl2 y))) ∧ Grew w w' := by
  obtain ⟨a, b⟩ := x
  obtain ⟨d, e⟩ := y
  have h1 : Own (w.alloc (.cells #[.int .i64 a, .int .i64 b] 103)) 0 (.slice (some ⟨w.heap.size, 0, none⟩) 2 2) 103 (ints [a, b]) := Own.new 103 (ints [a, b]) (Nat.zero_le _) (by unfold maxLen; simp [ints])
  have h2 : Own ((w.alloc (.cells #[.int .i64 a, .int .i64 b] 103)).alloc (.cells #[.int .i64 d, .int .i64 e] 103)) 0 (.slice (some ⟨(w.alloc (.cells #[.int .i64 a, .int .i64 b] 103)).heap.size, 0, none⟩) 2 2) 103 (ints [d, e]) := Own.new 103 (ints [d, e]) (Nat.zero_le _) (by unfold maxLen; simp [ints])
  have h3 := fun m : Nat => compareS_calls _ _ 2 2 [a, b] [d, e] (World.drewN _ m) (((h1.alloc (.cells #[.int .i64 d, .int .i64 e] 103)).drewN m).toInts (by unfold maxLen; simp)) ((h2.drewN m).toInts (by unfold maxLen; simp)) rfl
  have hs : (w.alloc (.cells #[.int .i64 a, .int .i64 b] 103)).heap.size = w.heap.size + 1 := by simp
  simp only [hs] at h3
  have Hs := Lib.hid hs
  clear hs
  have Hc := Lib.hid h3
  clear h1 h2 h3
  have e1 : ∀ a b : Int, (tv2 (a, b)).toArray = #[.int .i64 a, .int .i64 b] := fun _ _ => rfl
  rw [e1, e1]
  clear e1
  go_enter Tryz.func79, Tryz.ntmps79
  go_wp2
  go_quiet ((go_at_call 100; exact Calls.quiet_of_same (Hc.out _)))
  go_wp2
  go_ret
  exact ⟨rfl, ((((Grew.refl w).alloc _).alloc _).drewN _)⟩
def leE (x y : Int × Int) : Prop := ¬ bef y x = true
theorem cmp_bef2 (x y : Int × Int) : cmpL (tl2 x) (tl2 y) < 0 ↔ bef x y = true := by
  have h := cmp_bef x y
  unfold tl2
  constructor
  · intro hl
    have : decide (0 ≤ cmpL [x.1, x.2] [y.1, y.2]) = false := by simp; omega
    rw [this] at h
    simpa using h.symm
  · intro hb
    rw [hb] at h
    simp at h
    omega
theorem leE_antisymm {x y : Int × Int} (h : leE x y) (k : leE y x) : x = y := bef_eq k h
theorem leE_trans {x y z : Int × Int} (h : leE x y) (k : leE y z) : leE x z := by
  unfold leE at *
  rw [bef_iff] at *
  omega
theorem leE_total (x y : Int × Int) : leE x y ∨ leE y x := by
  unfold leE
  rw [bef_iff, bef_iff]
  omega
set_option maxHeartbeats 1000000 in
theorem sortE_calls (ts : List (Int × Int)) (w : World) (D : Nat) (a : Option Addr) (c : Nat) (h : OwnE w D 103 (.slice a ts.length c) ts) (hl : ts.length ≤ 1000000) :
    Calls Tryz.prog 94 #[.slice a ts.length c, .func (.func 79) #[] #[]] w fun e w' => e = .returned (.tuple #[]) ∧ ∃ ss : List (Int × Int), ss.Perm ts ∧ ss.Pairwise leE ∧ OwnE w' D 103 (.slice a ts.length c) ss ∧ w.grownBy w' (Value.slice a ts.length c).ownBlock := by
  rcases Nat.eq_zero_or_pos ts.length with h0 | h0
  · have hts : ts = [] := List.eq_nil_of_length_eq_zero h0
    subst hts
    have hn := AnyF.slices_SortFunc_none (P := Tryz.prog) (ρ := Tryz.sortE_ren) { Tryz.sortE with } a c (.func (.func 79) #[] #[]) w
    change Calls Tryz.prog 94 _ _ _ at hn
    exact hn.mono fun e w' ⟨he, hw⟩ => ⟨he, [], .refl _, .nil, by rw [hw]; exact h, by rw [hw]; exact World.grownBy.refl w _⟩
  · obtain ⟨blk, cap, e, hblk, hblt, hnc, hcm⟩ := h.form h0
    cases e
    let cf : (Int × Int) → (Int × Int) → Int := fun x y => cmpL (tl2 x) (tl2 y)
    have hlt : ∀ x y : Int × Int, ltOf cf x y = true ↔ bef x y = true := fun x y => by
      show decide (_ < 0) = true ↔ _
      rw [decide_eq_true_iff]; exact cmp_bef2 x y
    have hltf : ∀ x y : Int × Int, ltOf cf x y = false ↔ leE y x := fun x y => by
      unfold leE; rw [← hlt]; simp
    have hO : SWO (ltOf cf) := by
      refine ⟨fun x => (hltf x x).2 (bef_irrefl x), fun x y z h k => (hlt x z).2 (bef_trans ((hlt x y).1 h) ((hlt y z).1 k)), fun x y z h k => (hltf x z).2 (leE_trans ((hltf y z).1 k) ((hltf x y).1 h))⟩
    let d : Array (Int × Int) := ts.toArray
    have hds : d.size = ts.length := by simp [d]
    have hown : OwnE w D 103 (.slice (some ⟨blk, 0, none⟩) ts.length c) d.toList := by simpa [d] using h
    have hcmp : CmpLays Tryz.prog 79 #[] tv2 2 cf blk 0 d.size w := by
      intro m os dk hdk x y
      exact edgeCmp_grew x y (sortWorldK tv2 2 w blk 0 m dk os)
    have hcon := AnyQ.slices_SortFunc_total Tryz.sortE 2 Tryz.isAgg103 Tryz.sizeOf103 tv2 (fun _ => rfl) (fun x v hv => by
      obtain ⟨p, q⟩ := x
      simp [tv2, tl2, ints] at hv
      rcases hv with rfl | rfl <;> rfl) cf hO 79 #[] blk 0 c d w (enters_of Tryz.func79 (by kernel_rfl) rfl) hcmp (holds_ownE d hown) hblt (by rw [hds]; omega) (fun x y h1 h2 => leE_antisymm ((hltf y x).1 h2) ((hltf x y).1 h1))
    rw [hds] at hcon
    change Calls Tryz.prog 94 _ _ _ at hcon
    refine hcon.mono ?_
    rintro e w' ⟨he, m, os, rfl⟩
    have hperm := List.mergeSort_perm ts (fun x y => !(ltOf cf) y x)
    have hsort := List.pairwise_mergeSort (le := fun x y => !(ltOf cf) y x) (fun x y z h1 h2 => by
      simp only [Bool.not_eq_true', hltf] at h1 h2 ⊢
      exact leE_trans h1 h2) (fun x y => by
      simp only [Bool.or_eq_true, Bool.not_eq_true', hltf]
      exact leE_total x y) ts
    refine ⟨he, _, hperm, hsort.imp fun {x y} h1 => by simpa only [Bool.not_eq_true', hltf] using h1, ?_, grown_sortWorld id w blk 0 m _ os⟩
    exact ownE_sortWorld h m os _ (by simp [d, List.length_mergeSort])
end Go.Proofs.YtifkieopaoooeaaGreatDoor
