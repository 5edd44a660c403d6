/- The sort of edges. -/
import Derived.Test.YtjjjohmppehejaaGreatVerts
import Derived.Test.YtjjjohmppehejaaGreatSortB
import Derived.Test.YtjjjohmppehejaaGreatPlainG
set_option linter.unusedSimpArgs false
set_option linter.unusedVariables false
namespace Go.Proofs
open Go.Shelf
def Tryz.sortE_ren : Go.Shelf.Ren := ⟨fun | 6 => 86 | 15 => 105 | 14 => 106 | 28 => 123 | 29 => 124 | 20 => 125 | 21 => 126 | 22 => 127 | 23 => 128 | 24 => 129 | 25 => 130 | 26 => 131 | 27 => 132 | 46 => 150 | 47 => 146 | 48 => 147 | 49 => 151 | 50 => 152 | 57 => 166 | n => n, fun | 22 => 103 | 24 => 95 | 25 => 113 | 3 => 3 | 39 => 134 | 0 => 0 | 53 => 153 | 55 => 155 | 4 => 4 | 46 => 146 | 45 => 145 | 50 => 150 | 5 => 5 | 9 => 9 | 66 => 169 | 70 => 173 | 76 => 184 | 77 => 185 | n => n, fun | n => n⟩
theorem Tryz.sortE : Go.Proofs.SlLaysF0.n6 Tryz.prog Tryz.sortE_ren :=
  {
    mixed := by kernel_rfl,
    f6 := ⟨Tryz.f86.name, by decide, Tryz.func86.trans (congrArg some (by kernel_rfl))⟩,
    f14 := ⟨Tryz.f106.name, by decide, Tryz.func106.trans (congrArg some (by kernel_rfl))⟩,
    f15 := Tryz.func105.trans (congrArg some (by kernel_rfl)),
    f20 := ⟨Tryz.f125.name, by decide, Tryz.func125.trans (congrArg some (by kernel_rfl))⟩,
    f21 := ⟨Tryz.f126.name, by decide, Tryz.func126.trans (congrArg some (by kernel_rfl))⟩,
    f22 := ⟨Tryz.f127.name, by decide, Tryz.func127.trans (congrArg some (by kernel_rfl))⟩,
    f23 := ⟨Tryz.f128.name, by decide, Tryz.func128.trans (congrArg some (by kernel_rfl))⟩,
    f24 := ⟨Tryz.f129.name, by decide, Tryz.func129.trans (congrArg some (by kernel_rfl))⟩,
    f25 := ⟨Tryz.f130.name, by decide, Tryz.func130.trans (congrArg some (by kernel_rfl))⟩,
    f26 := ⟨Tryz.f131.name, by decide, Tryz.func131.trans (congrArg some (by kernel_rfl))⟩,
    f27 := ⟨Tryz.f132.name, by decide, Tryz.func132.trans (congrArg some (by kernel_rfl))⟩,
    f28 := Tryz.func123.trans (congrArg some (by kernel_rfl)),
    f29 := Tryz.func124.trans (congrArg some (by kernel_rfl)),
    f46 := ⟨Tryz.f150.name, by decide, Tryz.func150.trans (congrArg some (by kernel_rfl))⟩,
    f47 := Tryz.func146.trans (congrArg some (by kernel_rfl)),
    f48 := Tryz.func147.trans (congrArg some (by kernel_rfl)),
    f49 := ⟨Tryz.f151.name, by decide, Tryz.func151.trans (congrArg some (by kernel_rfl))⟩,
    f50 := ⟨Tryz.f152.name, by decide, Tryz.func152.trans (congrArg some (by kernel_rfl))⟩,
    f57 := ⟨Tryz.f166.name, by decide, Tryz.func166.trans (congrArg some (by kernel_rfl))⟩,
    t0 := Tryz.underlying0,
    a0 := Tryz.isAgg0,
    z0 := Tryz.sizeOf0,
    v0 := Tryz.zeroValue0,
    t3 := Tryz.underlying3,
    a3 := Tryz.isAgg3,
    z3 := Tryz.sizeOf3,
    v3 := Tryz.zeroValue3,
    t4 := Tryz.underlying4,
    a4 := Tryz.isAgg4,
    z4 := Tryz.sizeOf4,
    v4 := Tryz.zeroValue4,
    t5 := Tryz.underlying5,
    a5 := Tryz.isAgg5,
    z5 := Tryz.sizeOf5,
    v5 := Tryz.zeroValue5,
    t9 := Tryz.underlying9,
    a9 := Tryz.isAgg9,
    z9 := Tryz.sizeOf9,
    v9 := Tryz.zeroValue9,
    t22 := Tryz.underlying103,
    a22 := Tryz.isAgg103,
    z22 := Tryz.sizeOf103,
    v22 := Tryz.zeroValue103,
    t25 := Tryz.underlying113,
    a25 := Tryz.isAgg113,
    z25 := Tryz.sizeOf113,
    v25 := Tryz.zeroValue113,
    t39 := Tryz.underlying134,
    a39 := Tryz.isAgg134,
    z39 := Tryz.sizeOf134,
    v39 := Tryz.zeroValue134,
    t45 := Tryz.underlying145,
    a45 := Tryz.isAgg145,
    z45 := Tryz.sizeOf145,
    v45 := Tryz.zeroValue145,
    t46 := Tryz.underlying146,
    a46 := Tryz.isAgg146,
    z46 := Tryz.sizeOf146,
    v46 := Tryz.zeroValue146,
    t50 := Tryz.underlying150,
    a50 := Tryz.isAgg150,
    z50 := Tryz.sizeOf150,
    v50 := Tryz.zeroValue150,
    t53 := Tryz.underlying153,
    a53 := Tryz.isAgg153,
    z53 := Tryz.sizeOf153,
    v53 := Tryz.zeroValue153,
    t55 := Tryz.underlying155,
    a55 := Tryz.isAgg155,
    z55 := Tryz.sizeOf155,
    v55 := Tryz.zeroValue155,
    t66 := Tryz.underlying169,
    a66 := Tryz.isAgg169,
    z66 := Tryz.sizeOf169,
    v66 := Tryz.zeroValue169,
    t70 := Tryz.underlying173,
    a70 := Tryz.isAgg173,
    z70 := Tryz.sizeOf173,
    v70 := Tryz.zeroValue173,
    t76 := Tryz.underlying184,
    a76 := Tryz.isAgg184,
    z76 := Tryz.sizeOf184,
    v76 := Tryz.zeroValue184,
    t77 := Tryz.underlying185,
    a77 := Tryz.isAgg185,
    z77 := Tryz.sizeOf185,
    v77 := Tryz.zeroValue185 }
end Go.Proofs
namespace Go.Proofs.YtjjjohmppehejaaGreat
open Go.RowKit Go.Sort Go.Shelf Plain PlainG
theorem flatK_flat2 (d : Array (Int × Int)) : (flatK tv2 2 d).toList = ints (flat2 d.toList) := by
  apply List.ext_getElem?
  intro t
  by_cases ht : t < d.size * 2
  · have h1 := get_flatK tv2 2 d t ht
    have hd : t / 2 < d.size := by omega
    have e : t = (t / 2) * 2 + t % 2 := by omega
    have h2 := flat2_get d.toList (t / 2) (t % 2) (by omega)
    rw [← e] at h2
    have hsz : t < (flatK tv2 2 d).size := by simp; exact ht
    rw [Array.getElem?_toList, Array.getElem?_eq_getElem hsz, ← getElem!_pos (flatK tv2 2 d) t hsz, h1]
    simp only [ints, List.getElem?_map, h2, Array.getElem?_toList, Array.getElem?_eq_getElem hd, Option.bind_some]
    rw [getElem!_pos d (t / 2) hd]
    obtain ⟨a, b⟩ := d[t / 2]
    have hm : t % 2 = 0 ∨ t % 2 = 1 := by omega
    rcases hm with hm | hm <;> simp [hm, tv2, tl2, ints]
  · rw [List.getElem?_eq_none (by simp; omega), List.getElem?_eq_none (by rw [ints_len, flat2_len]; simp; omega)]
theorem ownE_sortWorld {w : World} {D blk n cap : Nat} {T : TypeId} {ts : List (Int × Int)} (h : OwnE w D T (.slice (some ⟨blk, 0, none⟩) n cap) ts) (m : Nat) (os : Array Obj) (d : Array (Int × Int)) (hd : d.size = ts.length) :
    OwnE (sortWorldK tv2 2 w blk 0 m d os) D T (.slice (some ⟨blk, 0, none⟩) n cap) d.toList := by
  have hf := flatK_flat2 d
  have hw : sortWorldK tv2 2 w blk 0 m d os = sortWorld id w blk 0 m (flatK tv2 2 d) os := rfl
  rw [hw]
  have hfs : (flatK tv2 2 d).size = ts.length * 2 := by simp [hd]
  obtain ⟨F, hF⟩ : ∃ F, flatK tv2 2 d = F := ⟨_, rfl⟩
  rw [hF] at hf hfs ⊢
  rcases h.2 with ⟨h1, _⟩ | ⟨g, cap', cur, h1, hB, hh, hnc, hcm, hcs, htk⟩
  · cases h1
  · cases h1
    have hblk : blk < w.heap.size := by
      rcases Nat.lt_or_ge blk w.heap.size with hl | hl
      · exact hl
      · rw [Array.getElem?_eq_none hl] at hh; cases hh
    have hle : d.toList.length = ts.length := by simp [hd]
    unfold OwnE
    rw [hle, ← hf]
    refine ⟨by simp [hfs], .inr ⟨blk, cap, Go.Sort.putCells id 0 F cur, rfl, hB, ?_, hnc, hcm, by simp [Go.Sort.putCells, hcs], ?_⟩⟩
    · rw [heap_sortWorld id w blk 0 m F os blk hblk, Array.getElem?_modify, if_pos rfl, hh]; rfl
    · apply List.ext_getElem?
      intro j
      rw [List.getElem?_take]
      by_cases hj : j < ts.length * 2
      · have hjd : j < F.size := by omega
        have hjc : j < cur.size := by omega
        rw [if_pos hj]
        simp only [Go.Sort.putCells, Array.getElem?_toList, Array.getElem?_mapIdx]
        rw [Array.getElem?_eq_getElem hjc, Array.getElem?_eq_getElem hjd]
        simp [hjd]
      · rw [if_neg hj, List.getElem?_eq_none (by simp; omega)]
theorem holds_ownE {w : World} {D blk cap n : Nat} {T : TypeId} (d : Array (Int × Int)) (h : OwnE w D T (.slice (some ⟨blk, 0, none⟩) n cap) d.toList) : HoldsK tv2 2 w blk 0 d := by
  intro j hj
  have hf := flatK_flat2 d
  have hlt : j < (ints (flat2 d.toList)).length := by rw [← hf]; simpa using hj
  have hc := World.ownsRow.cells h (g := blk) rfl j _ (List.getElem?_eq_getElem hlt)
  rw [add_zero_addr, Nat.zero_add] at hc
  rw [Nat.zero_add]
  have hfz : w.frozen? ⟨blk, j, none⟩ = false := by
    rcases h.2 with ⟨h1, _⟩ | ⟨g, cap', cur, h1, _⟩
    · cases h1
    · have hn : n = d.toList.length := by injection h1
      subst hn
      exact World.ownsRow.frozenAt h j
  refine ⟨?_, hfz⟩
  rw [hc]
  congr 1
  have h2 : (flatK tv2 2 d).toList[j]? = (ints (flat2 d.toList))[j]? := by rw [hf]
  rw [List.getElem?_eq_getElem hlt, Array.getElem?_toList, Array.getElem?_eq_getElem hj] at h2
  rw [getElem!_pos (flatK tv2 2 d) j hj]
  exact (Option.some.inj h2).symm
set_option maxHeartbeats 400000 in
theorem edgeCmp_grew (x y : Int × Int) (w : World) : Calls Tryz.prog 68 #[.agg (tv2 x).toArray, .agg (tv2 y).toArray] w fun e w' => e = .returned (.int .i64 (cmpL (tl2 x) (tl2 y))) ∧ Grew w w' := by
  obtain ⟨a, b⟩ := x
  obtain ⟨d, e⟩ := y
  have h1 : Own (w.alloc (.cells #[.int .i64 a, .int .i64 b] 95)) 0 (.slice (some ⟨w.heap.size, 0, none⟩) 2 2) 95 (ints [a, b]) := Own.new 95 (ints [a, b]) (Nat.zero_le _) (by unfold maxLen; simp [ints])
  have h2 : Own ((w.alloc (.cells #[.int .i64 a, .int .i64 b] 95)).alloc (.cells #[.int .i64 d, .int .i64 e] 95)) 0 (.slice (some ⟨(w.alloc (.cells #[.int .i64 a, .int .i64 b] 95)).heap.size, 0, none⟩) 2 2) 95 (ints [d, e]) := Own.new 95 (ints [d, e]) (Nat.zero_le _) (by unfold maxLen; simp [ints])
  have h3 := fun m : Nat => compareS_calls _ _ 2 2 [a, b] [d, e] (World.drewN _ m) (((h1.alloc (.cells #[.int .i64 d, .int .i64 e] 95)).drewN m).toInts (by unfold maxLen; simp)) ((h2.drewN m).toInts (by unfold maxLen; simp)) rfl
  have hs : (w.alloc (.cells #[.int .i64 a, .int .i64 b] 95)).heap.size = w.heap.size + 1 := by simp
  simp only [hs] at h3
  have Hs := Lib.hid hs
  clear hs
  have Hc := Lib.hid h3
  clear h1 h2 h3
  have e1 : ∀ a b : Int, (tv2 (a, b)).toArray = #[.int .i64 a, .int .i64 b] := fun _ _ => rfl
  rw [e1, e1]
  clear e1
  go_enter Tryz.func68, Tryz.ntmps68
  go_wp2
  go_quiet ((go_at_call 44; exact Calls.quiet_of_same (Hc.out _)))
  go_wp2
  go_ret
  exact ⟨rfl, ((((Grew.refl w).alloc _).alloc _).drewN _)⟩
def leE (x y : Int × Int) : Prop := ¬ bef y x = true
theorem cmp_bef2 (x y : Int × Int) : cmpL (tl2 x) (tl2 y) < 0 ↔ bef x y = true := by
  have h := cmp_bef x y
  unfold tl2
  constructor
  · intro hl
    have : decide (0 ≤ cmpL [x.1, x.2] [y.1, y.2]) = false := by simp; omega
    rw [this] at h
    simpa using h.symm
  · intro hb
    rw [hb] at h
    simp at h
    omega
theorem leE_antisymm {x y : Int × Int} (h : leE x y) (k : leE y x) : x = y := bef_eq k h
theorem leE_trans {x y z : Int × Int} (h : leE x y) (k : leE y z) : leE x z := by
  unfold leE at *
  rw [bef_iff] at *
  omega
theorem leE_total (x y : Int × Int) : leE x y ∨ leE y x := by
  unfold leE
  rw [bef_iff, bef_iff]
  omega
set_option maxHeartbeats 1000000 in
theorem sortE_calls (ts : List (Int × Int)) (w : World) (D : Nat) (a : Option Addr) (c : Nat) (h : OwnE w D 95 (.slice a ts.length c) ts) (hl : ts.length ≤ 1000000) :
    Calls Tryz.prog 86 #[.slice a ts.length c, .func (.func 68) #[] #[]] w fun e w' => e = .returned (.tuple #[]) ∧ ∃ ss : List (Int × Int), ss.Perm ts ∧ ss.Pairwise leE ∧ OwnE w' D 95 (.slice a ts.length c) ss ∧ w.grownBy w' (Value.slice a ts.length c).ownBlock := by
  rcases Nat.eq_zero_or_pos ts.length with h0 | h0
  · have hts : ts = [] := List.eq_nil_of_length_eq_zero h0
    subst hts
    have hn := AnyF.slices_SortFunc_none (P := Tryz.prog) (ρ := Tryz.sortE_ren) { Tryz.sortE with } a c (.func (.func 68) #[] #[]) w
    change Calls Tryz.prog 86 _ _ _ at hn
    exact hn.mono fun e w' ⟨he, hw⟩ => ⟨he, [], .refl _, .nil, by rw [hw]; exact h, by rw [hw]; exact World.grownBy.refl w _⟩
  · obtain ⟨blk, cap, e, hblk, hblt, hnc, hcm⟩ := h.form h0
    cases e
    let cf : (Int × Int) → (Int × Int) → Int := fun x y => cmpL (tl2 x) (tl2 y)
    have hlt : ∀ x y : Int × Int, ltOf cf x y = true ↔ bef x y = true := fun x y => by
      show decide (_ < 0) = true ↔ _
      rw [decide_eq_true_iff]; exact cmp_bef2 x y
    have hltf : ∀ x y : Int × Int, ltOf cf x y = false ↔ leE y x := fun x y => by
      unfold leE; rw [← hlt]; simp
    have hO : SWO (ltOf cf) := by
      refine ⟨fun x => (hltf x x).2 (bef_irrefl x), fun x y z h k => (hlt x z).2 (bef_trans ((hlt x y).1 h) ((hlt y z).1 k)), fun x y z h k => (hltf x z).2 (leE_trans ((hltf y z).1 k) ((hltf x y).1 h))⟩
    let d : Array (Int × Int) := ts.toArray
    have hds : d.size = ts.length := by simp [d]
    have hown : OwnE w D 95 (.slice (some ⟨blk, 0, none⟩) ts.length c) d.toList := by simpa [d] using h
    have hcmp : CmpLays Tryz.prog 68 #[] tv2 2 cf blk 0 d.size w := by
      intro m os dk hdk x y
      exact edgeCmp_grew x y (sortWorldK tv2 2 w blk 0 m dk os)
    have hcon := AnyQ.slices_SortFunc_total Tryz.sortE 2 Tryz.isAgg95 Tryz.sizeOf95 tv2 (fun _ => rfl) (fun x v hv => by
      obtain ⟨p, q⟩ := x
      simp [tv2, tl2, ints] at hv
      rcases hv with rfl | rfl <;> rfl) cf hO 68 #[] blk 0 c d w (enters_of Tryz.func68 (by kernel_rfl) rfl) hcmp (holds_ownE d hown) hblt (by rw [hds]; omega) (fun x y h1 h2 => leE_antisymm ((hltf y x).1 h2) ((hltf x y).1 h1))
    rw [hds] at hcon
    change Calls Tryz.prog 86 _ _ _ at hcon
    refine hcon.mono ?_
    rintro e w' ⟨he, m, os, rfl⟩
    have hperm := List.mergeSort_perm ts (fun x y => !(ltOf cf) y x)
    have hsort := List.pairwise_mergeSort (le := fun x y => !(ltOf cf) y x) (fun x y z h1 h2 => by
      simp only [Bool.not_eq_true', hltf] at h1 h2 ⊢
      exact leE_trans h1 h2) (fun x y => by
      simp only [Bool.or_eq_true, Bool.not_eq_true', hltf]
      exact leE_total x y) ts
    refine ⟨he, _, hperm, hsort.imp fun {x y} h1 => by simpa only [Bool.not_eq_true', hltf] using h1, ?_, grown_sortWorld id w blk 0 m _ os⟩
    exact ownE_sortWorld h m os _ (by simp [d, List.length_mergeSort])
end Go.Proofs.YtjjjohmppehejaaGreat
