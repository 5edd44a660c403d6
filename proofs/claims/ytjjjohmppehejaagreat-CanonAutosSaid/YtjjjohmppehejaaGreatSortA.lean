/- The library's sorting functions at this program's numbers: what the shelf's laying command writes, as plain text. · The world behind a sort of a row of the call's own. · The sort of all points by a comparison. · The program's grouped: sorts the points by a comparison and groups them. -/
import Derived.Test.YtjjjohmppehejaaGreatProg
import Derived.Test.YtjjjohmppehejaaGreatRefA
import Derived.Test.YtjjjohmppehejaaGreatPlainC
import Derived.Shelf.SlSortCmp.Whole1
import Derived.Shelf.SlSortCmp.WholeK
import Derived.Shelf.SlSortCmp.NoneTotal
set_option linter.unusedSimpArgs false
set_option linter.unusedVariables false
namespace Go.Proofs
open Go.Shelf
def Tryz.sortI_ren : Go.Shelf.Ren := ⟨fun | 6 => 111 | 15 => 105 | 14 => 142 | 28 => 123 | 29 => 124 | 20 => 156 | 21 => 157 | 22 => 158 | 23 => 159 | 24 => 160 | 25 => 161 | 26 => 162 | 27 => 163 | 46 => 168 | 47 => 146 | 48 => 147 | 49 => 169 | 50 => 170 | 57 => 171 | n => n, fun | 22 => 23 | 24 => 3 | 25 => 38 | 3 => 3 | 39 => 134 | 0 => 0 | 53 => 153 | 55 => 155 | 4 => 4 | 46 => 146 | 45 => 145 | 50 => 150 | 5 => 5 | 9 => 9 | 66 => 169 | 70 => 173 | 76 => 184 | 77 => 185 | n => n, fun | n => n⟩
theorem Tryz.sortI : Go.Proofs.SlLaysF.n6 Tryz.prog Tryz.sortI_ren :=
  {
    mixed := by kernel_rfl,
    f6 := ⟨Tryz.f111.name, by decide, Tryz.func111.trans (congrArg some (by kernel_rfl))⟩,
    f14 := ⟨Tryz.f142.name, by decide, Tryz.func142.trans (congrArg some (by kernel_rfl))⟩,
    f15 := Tryz.func105.trans (congrArg some (by kernel_rfl)),
    f20 := ⟨Tryz.f156.name, by decide, Tryz.func156.trans (congrArg some (by kernel_rfl))⟩,
    f21 := ⟨Tryz.f157.name, by decide, Tryz.func157.trans (congrArg some (by kernel_rfl))⟩,
    f22 := ⟨Tryz.f158.name, by decide, Tryz.func158.trans (congrArg some (by kernel_rfl))⟩,
    f23 := ⟨Tryz.f159.name, by decide, Tryz.func159.trans (congrArg some (by kernel_rfl))⟩,
    f24 := ⟨Tryz.f160.name, by decide, Tryz.func160.trans (congrArg some (by kernel_rfl))⟩,
    f25 := ⟨Tryz.f161.name, by decide, Tryz.func161.trans (congrArg some (by kernel_rfl))⟩,
    f26 := ⟨Tryz.f162.name, by decide, Tryz.func162.trans (congrArg some (by kernel_rfl))⟩,
    f27 := ⟨Tryz.f163.name, by decide, Tryz.func163.trans (congrArg some (by kernel_rfl))⟩,
    f28 := Tryz.func123.trans (congrArg some (by kernel_rfl)),
    f29 := Tryz.func124.trans (congrArg some (by kernel_rfl)),
    f46 := ⟨Tryz.f168.name, by decide, Tryz.func168.trans (congrArg some (by kernel_rfl))⟩,
    f47 := Tryz.func146.trans (congrArg some (by kernel_rfl)),
    f48 := Tryz.func147.trans (congrArg some (by kernel_rfl)),
    f49 := ⟨Tryz.f169.name, by decide, Tryz.func169.trans (congrArg some (by kernel_rfl))⟩,
    f50 := ⟨Tryz.f170.name, by decide, Tryz.func170.trans (congrArg some (by kernel_rfl))⟩,
    f57 := ⟨Tryz.f171.name, by decide, Tryz.func171.trans (congrArg some (by kernel_rfl))⟩,
    t0 := Tryz.underlying0,
    a0 := Tryz.isAgg0,
    z0 := Tryz.sizeOf0,
    v0 := Tryz.zeroValue0,
    t3 := Tryz.underlying3,
    a3 := Tryz.isAgg3,
    z3 := Tryz.sizeOf3,
    v3 := Tryz.zeroValue3,
    t4 := Tryz.underlying4,
    a4 := Tryz.isAgg4,
    z4 := Tryz.sizeOf4,
    v4 := Tryz.zeroValue4,
    t5 := Tryz.underlying5,
    a5 := Tryz.isAgg5,
    z5 := Tryz.sizeOf5,
    v5 := Tryz.zeroValue5,
    t9 := Tryz.underlying9,
    a9 := Tryz.isAgg9,
    z9 := Tryz.sizeOf9,
    v9 := Tryz.zeroValue9,
    t22 := Tryz.underlying23,
    a22 := Tryz.isAgg23,
    z22 := Tryz.sizeOf23,
    v22 := Tryz.zeroValue23,
    a24 := Tryz.isAgg3,
    z24 := Tryz.sizeOf3,
    t25 := Tryz.underlying38,
    a25 := Tryz.isAgg38,
    z25 := Tryz.sizeOf38,
    v25 := Tryz.zeroValue38,
    t39 := Tryz.underlying134,
    a39 := Tryz.isAgg134,
    z39 := Tryz.sizeOf134,
    v39 := Tryz.zeroValue134,
    t45 := Tryz.underlying145,
    a45 := Tryz.isAgg145,
    z45 := Tryz.sizeOf145,
    v45 := Tryz.zeroValue145,
    t46 := Tryz.underlying146,
    a46 := Tryz.isAgg146,
    z46 := Tryz.sizeOf146,
    v46 := Tryz.zeroValue146,
    t50 := Tryz.underlying150,
    a50 := Tryz.isAgg150,
    z50 := Tryz.sizeOf150,
    v50 := Tryz.zeroValue150,
    t53 := Tryz.underlying153,
    a53 := Tryz.isAgg153,
    z53 := Tryz.sizeOf153,
    v53 := Tryz.zeroValue153,
    t55 := Tryz.underlying155,
    a55 := Tryz.isAgg155,
    z55 := Tryz.sizeOf155,
    v55 := Tryz.zeroValue155,
    t66 := Tryz.underlying169,
    a66 := Tryz.isAgg169,
    z66 := Tryz.sizeOf169,
    v66 := Tryz.zeroValue169,
    t70 := Tryz.underlying173,
    a70 := Tryz.isAgg173,
    z70 := Tryz.sizeOf173,
    v70 := Tryz.zeroValue173,
    t76 := Tryz.underlying184,
    a76 := Tryz.isAgg184,
    z76 := Tryz.sizeOf184,
    v76 := Tryz.zeroValue184,
    t77 := Tryz.underlying185,
    a77 := Tryz.isAgg185,
    z77 := Tryz.sizeOf185,
    v77 := Tryz.zeroValue185 }
def Tryz.sortT_ren : Go.Shelf.Ren := ⟨fun | 6 => 94 | 15 => 105 | 14 => 110 | 28 => 123 | 29 => 124 | 20 => 134 | 21 => 135 | 22 => 136 | 23 => 137 | 24 => 138 | 25 => 139 | 26 => 140 | 27 => 141 | 46 => 153 | 47 => 146 | 48 => 147 | 49 => 154 | 50 => 155 | 57 => 167 | n => n, fun | 22 => 122 | 24 => 120 | 25 => 121 | 3 => 3 | 39 => 134 | 0 => 0 | 53 => 153 | 55 => 155 | 4 => 4 | 46 => 146 | 45 => 145 | 50 => 150 | 5 => 5 | 9 => 9 | 66 => 169 | 70 => 173 | 76 => 184 | 77 => 185 | n => n, fun | n => n⟩
theorem Tryz.sortT : Go.Proofs.SlLaysF0.n6 Tryz.prog Tryz.sortT_ren :=
  {
    mixed := by kernel_rfl,
    f6 := ⟨Tryz.f94.name, by decide, Tryz.func94.trans (congrArg some (by kernel_rfl))⟩,
    f14 := ⟨Tryz.f110.name, by decide, Tryz.func110.trans (congrArg some (by kernel_rfl))⟩,
    f15 := Tryz.func105.trans (congrArg some (by kernel_rfl)),
    f20 := ⟨Tryz.f134.name, by decide, Tryz.func134.trans (congrArg some (by kernel_rfl))⟩,
    f21 := ⟨Tryz.f135.name, by decide, Tryz.func135.trans (congrArg some (by kernel_rfl))⟩,
    f22 := ⟨Tryz.f136.name, by decide, Tryz.func136.trans (congrArg some (by kernel_rfl))⟩,
    f23 := ⟨Tryz.f137.name, by decide, Tryz.func137.trans (congrArg some (by kernel_rfl))⟩,
    f24 := ⟨Tryz.f138.name, by decide, Tryz.func138.trans (congrArg some (by kernel_rfl))⟩,
    f25 := ⟨Tryz.f139.name, by decide, Tryz.func139.trans (congrArg some (by kernel_rfl))⟩,
    f26 := ⟨Tryz.f140.name, by decide, Tryz.func140.trans (congrArg some (by kernel_rfl))⟩,
    f27 := ⟨Tryz.f141.name, by decide, Tryz.func141.trans (congrArg some (by kernel_rfl))⟩,
    f28 := Tryz.func123.trans (congrArg some (by kernel_rfl)),
    f29 := Tryz.func124.trans (congrArg some (by kernel_rfl)),
    f46 := ⟨Tryz.f153.name, by decide, Tryz.func153.trans (congrArg some (by kernel_rfl))⟩,
    f47 := Tryz.func146.trans (congrArg some (by kernel_rfl)),
    f48 := Tryz.func147.trans (congrArg some (by kernel_rfl)),
    f49 := ⟨Tryz.f154.name, by decide, Tryz.func154.trans (congrArg some (by kernel_rfl))⟩,
    f50 := ⟨Tryz.f155.name, by decide, Tryz.func155.trans (congrArg some (by kernel_rfl))⟩,
    f57 := ⟨Tryz.f167.name, by decide, Tryz.func167.trans (congrArg some (by kernel_rfl))⟩,
    t0 := Tryz.underlying0,
    a0 := Tryz.isAgg0,
    z0 := Tryz.sizeOf0,
    v0 := Tryz.zeroValue0,
    t3 := Tryz.underlying3,
    a3 := Tryz.isAgg3,
    z3 := Tryz.sizeOf3,
    v3 := Tryz.zeroValue3,
    t4 := Tryz.underlying4,
    a4 := Tryz.isAgg4,
    z4 := Tryz.sizeOf4,
    v4 := Tryz.zeroValue4,
    t5 := Tryz.underlying5,
    a5 := Tryz.isAgg5,
    z5 := Tryz.sizeOf5,
    v5 := Tryz.zeroValue5,
    t9 := Tryz.underlying9,
    a9 := Tryz.isAgg9,
    z9 := Tryz.sizeOf9,
    v9 := Tryz.zeroValue9,
    t22 := Tryz.underlying122,
    a22 := Tryz.isAgg122,
    z22 := Tryz.sizeOf122,
    v22 := Tryz.zeroValue122,
    t25 := Tryz.underlying121,
    a25 := Tryz.isAgg121,
    z25 := Tryz.sizeOf121,
    v25 := Tryz.zeroValue121,
    t39 := Tryz.underlying134,
    a39 := Tryz.isAgg134,
    z39 := Tryz.sizeOf134,
    v39 := Tryz.zeroValue134,
    t45 := Tryz.underlying145,
    a45 := Tryz.isAgg145,
    z45 := Tryz.sizeOf145,
    v45 := Tryz.zeroValue145,
    t46 := Tryz.underlying146,
    a46 := Tryz.isAgg146,
    z46 := Tryz.sizeOf146,
    v46 := Tryz.zeroValue146,
    t50 := Tryz.underlying150,
    a50 := Tryz.isAgg150,
    z50 := Tryz.sizeOf150,
    v50 := Tryz.zeroValue150,
    t53 := Tryz.underlying153,
    a53 := Tryz.isAgg153,
    z53 := Tryz.sizeOf153,
    v53 := Tryz.zeroValue153,
    t55 := Tryz.underlying155,
    a55 := Tryz.isAgg155,
    z55 := Tryz.sizeOf155,
    v55 := Tryz.zeroValue155,
    t66 := Tryz.underlying169,
    a66 := Tryz.isAgg169,
    z66 := Tryz.sizeOf169,
    v66 := Tryz.zeroValue169,
    t70 := Tryz.underlying173,
    a70 := Tryz.isAgg173,
    z70 := Tryz.sizeOf173,
    v70 := Tryz.zeroValue173,
    t76 := Tryz.underlying184,
    a76 := Tryz.isAgg184,
    z76 := Tryz.sizeOf184,
    v76 := Tryz.zeroValue184,
    t77 := Tryz.underlying185,
    a77 := Tryz.isAgg185,
    z77 := Tryz.sizeOf185,
    v77 := Tryz.zeroValue185 }
end Go.Proofs

namespace Go.Proofs.YtjjjohmppehejaaGreat
open Go.RowKit Go.Sort

theorem heap_sortWorld {α : Type} [Inhabited α] (enc : α → Value) (w : World) (blk off m : Nat) (d : Array α) (os : Array Obj) (k : Nat) (hk : k < w.heap.size) :
    (sortWorld enc w blk off m d os).heap[k]? = (w.heap.modify blk (onCells (putCells enc off d)))[k]? := by
  show ((w.heap.modify blk (onCells (putCells enc off d))) ++ os)[k]? = _
  rw [Array.getElem?_append, if_pos (by simpa using hk)]
theorem grown_sortWorld {α : Type} [Inhabited α] (enc : α → Value) (w : World) (blk off m : Nat) (d : Array α) (os : Array Obj) : w.grownBy (sortWorld enc w blk off m d os) (some blk) := by
  refine ⟨rfl, rfl, rfl, ?_, fun k hk hne => ?_⟩
  · show w.heap.size ≤ ((w.heap.modify blk (onCells (putCells enc off d))) ++ os).size
    simp
  · rw [heap_sortWorld enc w blk off m d os k hk, Array.getElem?_modify, if_neg (by rintro rfl; exact hne rfl)]
theorem own_sortWorld {α : Type} [Inhabited α] (enc : α → Value) {w : World} {D blk n cap : Nat} {e : TypeId} {xs : List Value} (h : Own w D (.slice (some ⟨blk, 0, none⟩) n cap) e xs) (m : Nat) (os : Array Obj) (d : Array α) (hd : d.size = n) :
    Own (sortWorld enc w blk 0 m d os) D (.slice (some ⟨blk, 0, none⟩) n cap) e (d.toList.map enc) := by
  have hl := h.lit
  rcases h.2 with ⟨h1, _⟩ | ⟨g, cap', cur, h1, hB, hh, hnc, hcm, hcs, htk⟩
  · cases h1
  · cases h1
    have hblk : blk < w.heap.size := by
      rcases Nat.lt_or_ge blk w.heap.size with hl | hl
      · exact hl
      · rw [Array.getElem?_eq_none hl] at hh; cases hh
    have hlen : (d.toList.map enc).length = xs.length := by simp [hd]
    rw [Nat.mul_one] at hcs htk
    refine ⟨by rw [Nat.mul_one], .inr ⟨blk, cap, putCells enc 0 d cur, by rw [hlen], hB, ?_, by omega, hcm, by simp [putCells, hcs], ?_⟩⟩
    · rw [heap_sortWorld enc w blk 0 m d os blk hblk, Array.getElem?_modify, if_pos rfl, hh]; rfl
    · rw [Nat.mul_one]
      apply List.ext_getElem?
      intro j
      rw [List.getElem?_take, hlen]
      by_cases hj : j < xs.length
      · have hjd : j < d.size := by omega
        have hjc : j < cur.size := by omega
        rw [if_pos hj, List.getElem?_map]
        simp only [putCells, Array.getElem?_toList, Array.getElem?_mapIdx]
        rw [Array.getElem?_eq_getElem hjc, Array.getElem?_eq_getElem hjd]
        simp [hjd]
      · rw [if_neg hj, List.getElem?_eq_none (by rw [hlen]; omega)]
theorem holds_own {α : Type} [Inhabited α] (enc : α → Value) {w : World} {D blk cap n : Nat} {e : TypeId} (d : Array α) (h : Own w D (.slice (some ⟨blk, 0, none⟩) n cap) e (d.toList.map enc)) : Holds enc w blk 0 d := by
  intro j hj
  rw [Nat.zero_add]
  refine ⟨?_, h.frozen j⟩
  rw [h.cell j (by simpa using hj), List.getElem?_map, Array.getElem?_toList, Array.getElem?_eq_getElem hj]
  simp [hj]
end Go.Proofs.YtjjjohmppehejaaGreat

namespace Go.Proofs.YtjjjohmppehejaaGreat
open Go.RowKit Go.Sort Go.Shelf Plain

/-- The world has grown: draws and new blocks alone. -/
def Grew (w w' : World) : Prop := ∃ q os, w' = grow (w.drewN q) os
theorem Grew.refl (w : World) : Grew w w := ⟨0, #[], by simp; rfl⟩
theorem Grew.trans {a b c : World} (h : Grew a b) (k : Grew b c) : Grew a c := by
  obtain ⟨q, os, rfl⟩ := h
  obtain ⟨q', os', rfl⟩ := k
  exact ⟨q + q', os ++ os', by
    rw [← grow_grow]
    congr 1
    show World.drewN (grow (a.drewN q) os) q' = _
    unfold World.drewN grow
    simp [Nat.add_assoc]⟩
theorem Grew.alloc {a b : World} (h : Grew a b) (o : Obj) : Grew a (b.alloc o) := h.trans ⟨0, #[o], by rw [alloc_eq_grow]; rfl⟩
theorem Grew.drewN {a b : World} (h : Grew a b) (q : Nat) : Grew a (b.drewN q) := h.trans ⟨q, #[], by simp⟩
theorem Grew.drew {a b : World} (h : Grew a b) : Grew a b.drew := h.drewN 1
theorem Grew.below {a b : World} (h : Grew a b) : Below a.heap.size a b := by
  obtain ⟨q, os, rfl⟩ := h
  refine ⟨rfl, rfl, rfl, by simp, fun k hk => ?_⟩
  rw [heap_grow_old _ _ (by simpa using hk)]; rfl

/-- A comparison handed in: at any two points below n it answers cf, and only grows the world. -/
structure CmpOk (w : World) (g : Nat) (cb : Array Value) (n : Nat) (cf : Nat → Nat → Int) : Prop where
  enters : ∀ args w, (callFunc g args).run Tryz.prog w = .ok (.enter g args) w
  calls : ∀ W, Below w.heap.size w W → ∀ x y : Nat, x < n → y < n → Calls Tryz.prog g (#[.int .i64 (x : Int), .int .i64 (y : Int)] ++ cb) W fun e w' => e = .returned (.int .i64 (cf x y)) ∧ Grew W w'

set_option maxHeartbeats 400000 in
theorem grouped1_calls (g : Nat) (cb : Array Value) (c : Int) (D : Nat) (x y : Nat) (hx : x < 1000000) (hy : y < 1000000) (W : World) (eg : ∀ args w, (callFunc g args).run Tryz.prog w = .ok (.enter g args) w)
    (hbox : W.cell? ⟨D, 0, none⟩ = some (.func (.func g) #[] cb)) (hc : Calls Tryz.prog g (#[.int .i64 (x : Int), .int .i64 (y : Int)] ++ cb) W fun e w' => e = .returned (.int .i64 c) ∧ Grew W w') :
    Calls Tryz.prog 112 #[.int .i64 (x : Int), .int .i64 (y : Int), .pointer (some ⟨D, 0, none⟩)] W fun e w' => e = .returned (.int .i64 (orL [c, (x : Int) - y])) ∧ Grew W w' := by
  have Hc := Lib.hid hc
  clear hc
  go_enter Tryz.func112, Tryz.ntmps112
  go_wp2_with fail
  refine Hc.out.mono ?_
  rintro e W1 ⟨rfl, hW1⟩
  have H1 := Lib.hid hW1
  clear hW1
  have hown := Own.new (w := W1) (B := 0) 3 (ints [c, (x : Int) - y]) (Nat.zero_le _) (by unfold maxLen; simp [ints])
  have hor := or_calls (some ⟨W1.heap.size, 0, none⟩) 2 [c, (x : Int) - y] _ (hown.toInts (by unfold maxLen; simp))
  have Ho := Lib.hid hor
  clear hown hor
  go_wp2_with (go_at_call 97; refine Ho.out.mono ?_; rintro e w' ⟨rfl, rfl⟩)
  go_ret
  exact ⟨rfl, H1.out.alloc _⟩


theorem lt_ahead {R : Nat → List Int} {cf : Nat → Nat → Int} {n : Nat} (hcf : ∀ x y, x < n → y < n → (cf x y < 0 ↔ cmpL (R x) (R y) < 0) ∧ (cf x y = 0 ↔ R x = R y)) {x y : Nat} (hx : x < n) (hy : y < n) :
    orL [cf x y, (x : Int) - y] < 0 ↔ Ahead R x y := by
  have h := hcf x y hx hy
  unfold orL orL orL
  by_cases h0 : cf x y = 0
  · have hr := h.2.1 h0
    simp only [h0, ne_eq, not_true_eq_false, if_false]
    constructor
    · intro h1
      split at h1
      · exact .inr ⟨hr, by omega⟩
      · omega
    · rintro (h1 | h1)
      · rw [hr, cmpL_self] at h1; omega
      · rw [if_pos (by omega)]; omega
  · rw [if_pos h0]
    constructor
    · intro h1; exact .inl (h.1.1 h1)
    · rintro (h1 | h1)
      · exact h.1.2 h1
      · exact absurd (h.2.2 h1.1) h0

set_option maxHeartbeats 1000000 in
theorem sortAll_calls (n : Nat) (hn : n ≤ 1000) (R : Nat → List Int) (g : Nat) (cb : Array Value) (cf : Nat → Nat → Int) (w wr : World) (hok : CmpOk w g cb n cf)
    (hcf : ∀ x y, x < n → y < n → (cf x y < 0 ↔ cmpL (R x) (R y) < 0) ∧ (cf x y = 0 ↔ R x = R y)) (D : Nat) (hD : D = w.heap.size) (a : Option Addr) (c : Nat)
    (ho : Own wr D (.slice a n c) 3 (nums (List.range n))) (hbx : Own wr D (.slice (some ⟨D, 0, none⟩) 1 1) 38 [.func (.func g) #[] cb]) (hbl : Below D w wr) :
    Calls Tryz.prog 111 #[.slice a n c, .func (.func 112) #[] #[.pointer (some ⟨D, 0, none⟩)]] wr fun e w' => e = .returned (.tuple #[]) ∧ ∃ s : List Nat, s.Perm (List.range n) ∧ s.Pairwise (fun p q => Ahead R p q) ∧
      Own w' D (.slice a n c) 3 (nums s) ∧ Own w' D (.slice (some ⟨D, 0, none⟩) 1 1) 38 [.func (.func g) #[] cb] ∧ Below D w w' := by
  cases n with
  | zero =>
    have h := AnyF.slices_SortFunc_none (P := Tryz.prog) (ρ := Tryz.sortI_ren) { Tryz.sortI with } a c (.func (.func 112) #[] #[.pointer (some ⟨D, 0, none⟩)]) wr
    change Calls Tryz.prog 111 _ _ _ at h
    exact h.mono fun e w' ⟨he, hw⟩ => ⟨he, [], by simp, by simp, by rw [hw]; exact ho, by rw [hw]; exact hbx, by rw [hw]; exact hbl⟩
  | succ n =>
    obtain ⟨blk, rfl, hblk, hblt, -⟩ := ho.at_form (by omega)
    have hDw : D ≤ wr.heap.size := by have := hbl.size; omega
    let enc : Fin (n + 1) → Value := fun i => .int .i64 ((i.val : Nat) : Int)
    let cf' : Fin (n + 1) → Fin (n + 1) → Int := fun x y => orL [cf x.val y.val, (x.val : Int) - y.val]
    have hlt : ∀ x y : Fin (n + 1), ltOf cf' x y = true ↔ Ahead R x.val y.val := fun x y => by
      show decide (_ < 0) = true ↔ _
      rw [decide_eq_true_iff]
      exact lt_ahead hcf x.isLt y.isLt
    have hltf : ∀ x y : Fin (n + 1), ltOf cf' x y = false ↔ ¬ Ahead R x.val y.val := fun x y => by
      rw [← hlt]; simp
    have hO : SWO (ltOf cf') := by
      refine ⟨fun x => (hltf x x).2 (Ahead.irrefl _), fun x y z h k => (hlt x z).2 (((hlt x y).1 h).trans ((hlt y z).1 k)), fun x y z h k => (hltf x z).2 (fun hxz => ?_)⟩
      have h1 := (hltf x y).1 h
      have h2 := (hltf y z).1 k
      rcases Ahead.total (R := R) x.val y.val with h3 | h3 | h3
      · exact h1 h3
      · rw [h3] at hxz; exact h2 hxz
      · exact h2 (h3.trans hxz)
    let d : Array (Fin (n + 1)) := Array.ofFn (fun i : Fin (n + 1) => i)
    have hds : d.size = n + 1 := by simp [d]
    have hdl : d.toList.map enc = nums (List.range (n + 1)) := by
      apply List.ext_getElem?
      intro j
      simp only [d, nums, List.getElem?_map, Array.toList_ofFn, List.getElem?_ofFn, enc]
      by_cases hj : j < n + 1
      · simp [hj]
      · simp [hj]
    have hown : Own wr D (.slice (some ⟨blk, 0, none⟩) (n + 1) c) 3 (d.toList.map enc) := by rw [hdl]; exact ho
    have hcmp : CmpLays1 Tryz.prog 112 #[.pointer (some ⟨D, 0, none⟩)] enc cf' blk 0 d.size wr := by
      intro m os dk hdk x y
      have hg1 := grown_sortWorld enc wr blk 0 m dk os
      have hbx2 := hbx.kept hg1 (hbx.ne_type ho (by decide))
      have hb2 : Below D w (sortWorld enc wr blk 0 m dk os) := hbl.grown hg1 hDw (fun q hq => by cases hq; exact hblk)
      have hcell := hbx2.cell 0 (by simp)
      have hc := hok.calls (sortWorld enc wr blk 0 m dk os) (by rw [← hD]; exact hb2) x.val y.val x.isLt y.isLt
      exact grouped1_calls g cb (cf x.val y.val) D x.val y.val (by have := x.isLt; omega) (by have := y.isLt; omega) _ hok.enters hcell hc
    have hcon := Any.slices_SortFunc Tryz.sortI enc (fun _ => rfl) cf' hO 112 #[.pointer (some ⟨D, 0, none⟩)] blk 0 c d wr (enters_of Tryz.func112 (by kernel_rfl) rfl) hcmp (holds_own enc d hown) hblt (by rw [hds]; omega)
    rw [hds] at hcon
    change Calls Tryz.prog 111 _ _ _ at hcon
    refine hcon.mono ?_
    rintro e w' ⟨he, d', m, os, hp, hs, rfl⟩
    have hd's : d'.size = n + 1 := by rw [hp.1, hds]
    have hg1 := grown_sortWorld enc wr blk 0 m d' os
    have hperm : (d'.toList.map Fin.val).Perm (List.range (n + 1)) := by
      have e0 : ∀ (z : Array (Fin (n + 1))), z.size = n + 1 → (z.extract 0 (n + 1)).toList = z.toList := fun z hz => by
        rw [Array.toList_extract, List.extract_eq_take_drop, List.drop_zero, Nat.sub_zero]
        exact List.take_of_length_le (by simp [hz])
      have h1 := hp.2.2
      rw [e0 d' hd's, e0 d hds] at h1
      have h2 := h1.map Fin.val
      have h3 : d.toList.map Fin.val = List.range (n + 1) := by
        apply List.ext_getElem?
        intro j
        simp only [d, List.getElem?_map, Array.toList_ofFn, List.getElem?_ofFn]
        by_cases hj : j < n + 1
        · simp [hj]
        · simp [hj]
      rw [h3] at h2
      exact h2
    refine ⟨he, d'.toList.map Fin.val, hperm, ?_, ?_, hbx.kept hg1 (hbx.ne_type ho (by decide)), hbl.grown hg1 hDw (fun q hq => by cases hq; exact hblk)⟩
    · refine pairwise_of_sorted (hperm.nodup_iff.2 List.nodup_range) (fun i j hij hj => ?_)
      have hj' : j < d'.size := by simpa using hj
      have h1 := hs i j (by omega) hij (by omega)
      rw [hltf] at h1
      simp only [List.getElem?_map, Array.getElem?_toList, Array.getElem?_eq_getElem hj', Array.getElem?_eq_getElem (show i < d'.size by omega), Option.map_some, Option.getD_some]
      rw [getElem!_pos d' j hj', getElem!_pos d' i (by omega)] at h1
      exact h1
    · have h2 := own_sortWorld enc hown m os d' hd's
      have h3 : d'.toList.map enc = nums (d'.toList.map Fin.val) := by simp [nums, enc]
      rw [h3] at h2
      exact h2
end Go.Proofs.YtjjjohmppehejaaGreat

namespace Go.Proofs.YtjjjohmppehejaaGreat
open Go.RowKit Go.Sort Go.Shelf Plain

/-- Cells, the last of which may still grow: its row lies behind all others'. -/
def Grp (w : World) (K : Nat) (cs : List Value) (out : List (List Nat)) : Prop :=
  (cs = [] ∧ out = []) ∨ ∃ (P : List (List Nat)) (c : List Nat) (cs0 : List Value) (vl : Value) (Kl : Nat), out = P ++ [c] ∧ cs = cs0 ++ [vl] ∧ K ≤ Kl ∧ Kl ≤ w.heap.size ∧ Cellsof w K cs0 P ∧
    (∀ uv ∈ cs0, ∀ g, uv.ownBlock = some g → g < Kl) ∧ Own w Kl vl 3 (nums c)
theorem Cellsof.lt {w : World} {K : Nat} {cs : List Value} {P : List (List Nat)} (h : Cellsof w K cs P) : ∀ uv ∈ cs, ∀ g, uv.ownBlock = some g → g < w.heap.size := by
  intro uv hu g hg
  obtain ⟨i, hi⟩ := List.mem_iff_getElem?.1 hu
  have hil : i < P.length := by rw [← h.1]; exact (List.getElem?_eq_some_iff.1 hi).1
  rcases (h.2 i uv P[i] hi (List.getElem?_eq_getElem hil)).blk with e | ⟨g', _, e, _, hl, _⟩
  · rw [e] at hg; cases hg
  · rw [e] at hg; cases hg; exact hl
theorem Grp.cells {w : World} {K : Nat} {cs : List Value} {out : List (List Nat)} (h : Grp w K cs out) : Cellsof w K cs out := by
  rcases h with ⟨rfl, rfl⟩ | ⟨P, c, cs0, vl, Kl, rfl, rfl, hK, _, hc, _, ho⟩
  · exact ⟨rfl, fun i u xs h => by simp at h⟩
  · exact hc.snoc (ho.mono hK)
theorem Grp.len {w : World} {K : Nat} {cs : List Value} {out : List (List Nat)} (h : Grp w K cs out) : cs.length = out.length := h.cells.1
/-- A world in which no row of ints has turned. -/
theorem Grp.kept {w w' : World} {K : Nat} {cs : List Value} {out : List (List Nat)} (h : Grp w K cs out) {row : Option Nat} (hg : w.grownBy w' row) (hne : ∀ (u : Value) (B : Nat) (xs : List Value), Own w B u 3 xs → u.ownBlock = none ∨ u.ownBlock ≠ row) : Grp w' K cs out := by
  rcases h with h | ⟨P, c, cs0, vl, Kl, h1, h2, hK, hKl, hc, hlt, ho⟩
  · exact .inl h
  · exact .inr ⟨P, c, cs0, vl, Kl, h1, h2, hK, Nat.le_trans hKl hg.size, hc.kept hg (fun u xs h => hne u K xs h), hlt, ho.kept hg (hne _ _ _ ho)⟩
/-- A new cell is begun. -/
theorem Grp.begin_ {w : World} {K : Nat} {cs : List Value} {out : List (List Nat)} (h : Grp w K cs out) (hK : K ≤ w.heap.size) : Grp w K (cs ++ [.slice none 0 0]) (out ++ [[]]) :=
  .inr ⟨out, [], cs, _, w.heap.size, rfl, rfl, hK, Nat.le_refl _, h.cells, h.cells.lt, Own.nil _ _ _⟩

/-- Where the last cell is about to take one more point. -/
structure PhB (R : Nat → List Int) (s : List Nat) (j p : Nat) (w2 w : World) (go cap : Nat) (P : List (List Nat)) (c : List Nat) (cs0 : List Value) (al : Option Addr) (cl Kl : Nat) : Prop where
  go_le : w2.heap.size ≤ go
  grp : grpTo R s (j + 1) = P ++ [c ++ [p]]
  own7 : Own w w2.heap.size (.slice (some ⟨go, 0, none⟩) (cs0.length + 1) cap) 23 (cs0 ++ [.slice al c.length cl])
  ownl : Own w Kl (.slice al c.length cl) 3 (nums c)
  cells : Cellsof w w2.heap.size cs0 P
  lt : ∀ uv ∈ cs0, ∀ g, uv.ownBlock = some g → g < Kl
  k1 : w2.heap.size ≤ Kl
  k2 : Kl ≤ w.heap.size
  bel : Below w2.heap.size w2 w
theorem PhB.last {R : Nat → List Int} {s : List Nat} {j p : Nat} {w2 w : World} {go cap : Nat} {P : List (List Nat)} {c : List Nat} {cs0 : List Value} {al : Option Addr} {cl Kl : Nat} (h : PhB R s j p w2 w go cap P c cs0 al cl Kl) :
    w.cell? ⟨go, cs0.length, none⟩ = some (.slice al c.length cl) := by
  rw [h.own7.cell cs0.length (by simp), List.getElem?_append_right (Nat.le_refl _), Nat.sub_self]; rfl
theorem PhB.mid {R : Nat → List Int} {s : List Nat} {j p : Nat} {w2 w w' : World} {go cap : Nat} {P : List (List Nat)} {c : List Nat} {cs0 : List Value} {al : Option Addr} {cl Kl : Nat} (h : PhB R s j p w2 w go cap P c cs0 al cl Kl)
    (h3 : w.grownBy w' (Value.slice al c.length cl).ownBlock) : w'.cell? ⟨go, cs0.length, none⟩ = some (.slice al c.length cl) ∧ w'.frozen? ⟨go, cs0.length, none⟩ = false := by
  have h7 := h.own7.kept h3 (h.own7.ne_type h.ownl (by decide))
  refine ⟨?_, h7.frozen _⟩
  rw [h7.cell cs0.length (by simp), List.getElem?_append_right (Nat.le_refl _), Nat.sub_self]; rfl
theorem PhB.close {R : Nat → List Int} {s : List Nat} {j p : Nat} {w2 w w' : World} {go cap : Nat} {P : List (List Nat)} {c : List Nat} {cs0 : List Value} {al : Option Addr} {cl Kl : Nat} (h : PhB R s j p w2 w go cap P c cs0 al cl Kl)
    {v : Value} (h2 : Own w' Kl v 3 (nums c ++ [.int .i64 (p : Int)])) (h3 : w.grownBy w' (Value.slice al c.length cl).ownBlock) :
    Own (w'.setCell ⟨go, cs0.length, none⟩ v) w2.heap.size (.slice (some ⟨go, 0, none⟩) (cs0.length + 1) cap) 23 (cs0 ++ [v]) ∧ Grp (w'.setCell ⟨go, cs0.length, none⟩ v) w2.heap.size (cs0 ++ [v]) (grpTo R s (j + 1)) ∧
      Below w2.heap.size w2 (w'.setCell ⟨go, cs0.length, none⟩ v) := by
  have h7 := h.own7.kept h3 (h.own7.ne_type h.ownl (by decide))
  have hput := h7.put cs0.length v
  have hset : (cs0 ++ [Value.slice al c.length cl]).set cs0.length v = cs0 ++ [v] := by simp
  rw [hset] at hput
  have hown : ∀ g, (Value.slice al c.length cl).ownBlock = some g → Kl ≤ g := fun g hg => by
    rcases h.ownl.blk with e | ⟨g9, _, e, hB9, _⟩
    · rw [e] at hg; cases hg
    · rw [e] at hg; cases hg; exact hB9
  have hk1 := h.k1
  have hk2 := h.k2
  refine ⟨hput, ?_, ?_⟩
  · rw [h.grp]
    refine .inr ⟨P, c ++ [p], cs0, v, Kl, rfl, rfl, h.k1, ?_, ?_, h.lt, ?_⟩
    · have := h3.size; simp [World.setCell]; omega
    · have hca : Cellsof w' w2.heap.size cs0 P := ⟨h.cells.1, fun i u xs hu hx => (h.cells.2 i u xs hu hx).kept h3 (by
        cases e9 : (Value.slice al c.length cl).ownBlock with
        | none => cases u.ownBlock <;> simp
        | some g9 =>
          right; intro hu9
          have := h.lt u (List.mem_of_getElem? hu) g9 hu9
          have := hown g9 e9
          omega)⟩
      exact hca.kept (grown_put cs0.length _) (fun u xs h => h.ne_type h7 (by decide))
    · have h8 := h2.kept (grown_put (g := go) cs0.length v) (h2.ne_type h7 (by decide))
      simpa [nums] using h8
  · have hb1 : Below w2.heap.size w2 w' := h.bel.grown h3 (by omega) (fun q hq => by have := hown q hq; omega)
    exact hb1.setCell h.go_le _

theorem PhB.new {R : Nat → List Int} {s : List Nat} {j p : Nat} {w2 wr w4 : World} {go cap : Nat} {cs : List Value} {v7 : Value} (hnew : grpTo R s (j + 1) = grpTo R s j ++ [[] ++ [p]]) (ho : Own wr w2.heap.size v7 23 cs) (hgr : Grp wr w2.heap.size cs (grpTo R s j))
    (hb : Below w2.heap.size w2 wr) (h2 : Own w4 w2.heap.size (.slice (some ⟨go, 0, none⟩) (cs.length + 1) cap) 23 (cs ++ [.slice none 0 0])) (h3 : wr.grownBy w4 v7.ownBlock) (h5 : w2.heap.size ≤ go) :
    PhB R s j p w2 w4 go cap (grpTo R s j) [] cs none 0 w4.heap.size := by
  have hc4 : Cellsof w4 w2.heap.size cs (grpTo R s j) := hgr.cells.kept h3 (fun u xs h => h.ne_type ho (by decide))
  refine ⟨h5, hnew, h2, Own.nil _ _ _, hc4, hc4.lt, Nat.le_trans hb.size h3.size, Nat.le_refl _, hb.grown h3 hb.size (fun q hq => ?_)⟩
  rcases ho.blk with e | ⟨g9, _, e, hB9, _⟩
  · rw [e] at hq; cases hq
  · rw [e] at hq; cases hq; exact hB9
theorem PhB.old {R : Nat → List Int} {s : List Nat} {j p : Nat} {w2 wr : World} {cs : List Value} {v7 : Value} (hj : grpTo R s j ≠ []) (hsame : ∀ P c, grpTo R s j = P ++ [c] → grpTo R s (j + 1) = P ++ [c ++ [p]]) (ho : Own wr w2.heap.size v7 23 cs) (hgr : Grp wr w2.heap.size cs (grpTo R s j))
    (hb : Below w2.heap.size w2 wr) : ∃ go cap P c cs0 al cl Kl, v7 = .slice (some ⟨go, 0, none⟩) (cs0.length + 1) cap ∧ cs.length = cs0.length + 1 ∧ PhB R s j p w2 wr go cap P c cs0 al cl Kl ∧ c.length ≤ j := by
  rcases hgr with ⟨_, h⟩ | ⟨P, c, cs0, vl, Kl, h1, rfl, hK, hKl, hc, hlt, hol⟩
  · exact absurd h hj
  · obtain ⟨go, cap, rfl, hgo, _, _, _⟩ := ho.form (by simp)
    have hlc : (nums c).length = c.length := by simp [nums]
    have hcm : (nums c).length ≤ maxLen := by
      rcases Nat.eq_zero_or_pos (nums c).length with h0 | h0
      · omega
      · obtain ⟨_, _, _, _, _, h5, h6⟩ := hol.form h0
        omega
    obtain ⟨al, cl, rfl, _⟩ := hol.row hcm
    rw [hlc] at hol ho ⊢
    have hle : (cs0 ++ [Value.slice al c.length cl]).length = cs0.length + 1 := by simp
    rw [hle] at ho ⊢
    exact ⟨go, cap, P, c, cs0, al, cl, Kl, rfl, rfl, ⟨hgo, hsame P c h1, ho, hol, hc, hlt, hK, hKl, hb⟩, grpTo_cell_len R s j c (by rw [h1]; simp)⟩

set_option maxRecDepth 100000 in
set_option maxHeartbeats 1000000 in
theorem grouped_callsB (n : Nat) (hn : n ≤ 1000) (R : Nat → List Int) (g : Nat) (cb : Array Value) (cf : Nat → Nat → Int) (w : World) (hok : CmpOk w g cb n cf)
    (hcf : ∀ x y, x < n → y < n → (cf x y < 0 ↔ cmpL (R x) (R y) < 0) ∧ (cf x y = 0 ↔ R x = R y)) :
    Calls Tryz.prog 95 #[.int .i64 n, .func (.func g) #[] cb] w fun e w' => ∃ a c P, e = .returned (.slice a (P.map (·.map Int.ofNat)).length c) ∧ RowsB w.heap.size w' a (P.map (·.map Int.ofNat)) ∧ IsPart R (· < n) P ∧ Below w.heap.size w w' := by
  obtain ⟨i3, hi3, hz3, hs3, hb3⟩ := info_parts Tryz.info3
  obtain ⟨i29, hi29, hz29, hs29, hb29⟩ := info_parts Tryz.info23
  have I3 := Lib.hid (And.intro hi3 (And.intro hz3 (And.intro hs3 hb3)))
  have I29 := Lib.hid (And.intro hi29 (And.intro hz29 (And.intro hs29 hb29)))
  clear hi3 hz3 hs3 hb3 hi29 hz29 hs29 hb29
  have hbx : Own (w.alloc (.cells #[.func (.func g) #[] cb] 38)) w.heap.size (.slice (some ⟨w.heap.size, 0, none⟩) 1 1) 38 [.func (.func g) #[] cb] := Own.new 38 [.func (.func g) #[] cb] (Nat.le_refl _) (by unfold maxLen; simp)
  have hbl : Below w.heap.size w (w.alloc (.cells #[.func (.func g) #[] cb] 38)) := (Below.refl _ _).alloc (Nat.le_refl _) _
  have H0 := Lib.hid (And.intro hok (And.intro hcf (And.intro hbx hbl)))
  clear hok hcf hbx hbl
  obtain ⟨D, hD⟩ : ∃ D, D = w.heap.size := ⟨_, rfl⟩
  rw [← hD] at H0 ⊢
  have HD := Lib.hid hD
  go_enter Tryz.func95, Tryz.ntmps95
  go_wp2
  rw [← hD]
  clear hD
  go_loopw [5, 11] (fun v i wr => ∃ k : Nat, k ≤ n ∧ i = .int .i64 k ∧ Own wr D v 3 (nums (List.range k)) ∧ Own wr D (.slice (some ⟨D, 0, none⟩) 1 1) 38 [.func (.func g) #[] cb] ∧ Below D w wr) (fun _ i _ => n - (intOf i).toNat)
  case atStart => exact ⟨0, by omega, rfl, Own.nil _ _ _, H0.out.2.2.1, H0.out.2.2.2⟩
  case round =>
    obtain ⟨k, hk, rfl, ho, hbx, hbl⟩ := hrel
    have hDw : D ≤ wr.heap.size := by have := hbl.size; have := HD.out; omega
    by_cases hlt : k < n
    · have H := Lib.hid (And.intro ho (And.intro hbx (And.intro hbl hDw)))
      clear ho hbx hbl hDw
      go_wp2_with (at_builtin; refine app1 rfl (.tmp 14) (.tmp 16) 23 3 rfl i3 (.int .i64 0) 8 Tryz.underlying23 I3.out.1 I3.out.2.1 I3.out.2.2.1 I3.out.2.2.2 rfl (by omega) D (.int .i64 k) u5 (nums (List.range k)) rfl H.out.1 rfl rfl (by simp [nums]; omega) H.out.2.2.2 ?_; intro v' w' h2 h3 h4; have H9 := Lib.hid (And.intro h2 h3); clear h2 h3 h4)
      refine ⟨⟨k + 1, by omega, by go_num, ?_, ?_, ?_⟩, by simp [intOf]; omega⟩
      · rw [List.range_succ]
        have := H9.out.1
        simpa [nums] using this
      · exact H.out.2.1.kept H9.out.2 (H.out.2.1.ne_type H.out.1 (by decide))
      · exact H.out.2.2.1.grown H9.out.2 H.out.2.2.2 (fun q hq => by
          rcases H.out.1.blk with e | ⟨g', _, e, hB, _⟩
          · rw [e] at hq; cases hq
          · rw [e] at hq; cases hq; exact hB)
    · obtain rfl : k = n := by omega
      obtain ⟨a5, c5, rfl, _⟩ := ho.row (by simp [nums]; unfold maxLen; omega)
      have hl5 : (nums (List.range k)).length = k := by simp [nums]
      rw [hl5] at ho ⊢
      have hsort := sortAll_calls k hn R g cb cf w wr H0.out.1 H0.out.2.1 D HD.out a5 c5 ho hbx hbl
      have Hs := Lib.hid hsort
      clear hsort ho hbx hbl hDw hl5
      go_wp2_with (go_at_call 111; refine Hs.out.mono ?_; rintro e w2 ⟨rfl, s, hp, hs, ho, hbx, hbl⟩; have H2 := Lib.hid (And.intro hp (And.intro hs (And.intro ho (And.intro hbx hbl)))); clear hp hs ho hbx hbl)
      have hsl : s.length = k := by rw [H2.out.1.length_eq]; simp
      have Hsl := Lib.hid hsl
      clear hsl
      go_loopw [7, 24] (fun v i wr => ∃ (j : Nat) (cs : List Value), j ≤ k ∧ i = .int .i64 j ∧ Own wr w2.heap.size v 23 cs ∧ Grp wr w2.heap.size cs (grpTo R s j) ∧ Below w2.heap.size w2 wr) (fun _ i _ => k - (intOf i).toNat)
      case atStart => exact ⟨0, [], by omega, rfl, Own.nil _ _ _, .inl ⟨rfl, rfl⟩, Below.refl _ _⟩
      case round =>
        obtain ⟨j, cs, hj, rfl, ho, hgr, hb⟩ := hrel
        have hKw : w2.heap.size ≤ wr.heap.size := hb.size
        have hcl := hgr.len
        have hgl := grpTo_len (R := R) s j
        by_cases hlt2 : j < k
        · have hpj : s[j]?.getD 0 < k := by
            have hm : s[j]?.getD 0 ∈ s := by rw [List.getElem?_eq_getElem (by rw [Hsl.out]; exact hlt2)]; exact List.getElem_mem _
            have := H2.out.1.mem_iff.1 hm
            exact List.mem_range.1 this
          obtain ⟨p, hp⟩ : ∃ p, s[j]?.getD 0 = p := ⟨_, rfl⟩
          rw [hp] at hpj
          obtain ⟨g5, rfl, -, hg5, -⟩ := H2.out.2.2.1.at_form (by omega)
          have hcj : w2.cell? ⟨g5, j, none⟩ = some (.int .i64 (p : Int)) := by
            rw [H2.out.2.2.1.cell j (by simp [nums, Hsl.out]; omega)]
            simp only [nums, List.getElem?_map]
            rw [List.getElem?_eq_getElem (by rw [Hsl.out]; exact hlt2)] at hp ⊢
            simp at hp; simp [hp]
          have hcjr : wr.cell? ⟨g5, j, none⟩ = some (.int .i64 (p : Int)) := by rw [hb.cell hg5]; exact hcj
          have Hp := Lib.hid hp
          have Hcl := Lib.hid hcl
          have hcs64 : cs.length < 1099511627776 := by omega
          clear hp hcj hcl
          by_cases hj0 : j = 0
          · subst hj0
            have hnew : grpTo R s (0 + 1) = grpTo R s 0 ++ [[] ++ [p]] := by rw [grpTo_new (.inl rfl), Hp.out]; rfl
            have H := Lib.hid (And.intro ho (And.intro hgr (And.intro hb (And.intro hKw (And.intro hnew hcs64)))))
            clear ho hgr hb hKw hnew
            go_wp2
            go_quiet (fail)
            go_wp2_with (first | (at_builtin; refine app1f rfl (.tmp 42) (.tmp 43) 28 23 rfl i29 (.slice none 0 0) 24 Tryz.underlying28 I29.out.1 I29.out.2.1 I29.out.2.2.1 I29.out.2.2.2 rfl (by omega) w2.heap.size (.slice none 0 0) u7 cs cs.length rfl (H.out.1.drewN _) rfl rfl rfl H.out.2.2.2.2.2 H.out.2.2.2.1 ?_; intro go cap9 w4 h2 h3 h4 h5 h6; have HB := Lib.hid (PhB.new (p := p) H.out.2.2.2.2.1 (H.out.1.drewN _) (H.out.2.1.kept (grown_drewN wr _ none) (fun u B xs _ => by cases u.ownBlock <;> simp)) (below_drewN H.out.2.2.1 _) h2 h3 h5); have hcB := HB.out.last; have hgB : w2.heap.size ≤ w4.heap.size := HB.out.k1; clear h2 h3 h4 h5) | (at_builtin; refine app1f rfl (.tmp 54) (.tmp 56) 23 3 rfl i3 (.int .i64 0) 8 Tryz.underlying23 I3.out.1 I3.out.2.1 I3.out.2.2.1 I3.out.2.2.2 rfl (by omega) w4.heap.size (.int .i64 (p : Int)) (.slice none 0 0) (nums []) 0 rfl HB.out.ownl rfl rfl rfl (by omega) (Nat.le_refl _) ?_; intro G cap5 w5 h2 h3 h4 _ _; obtain ⟨hc7, hf7⟩ := HB.out.mid h3; have H9 := Lib.hid (And.intro h2 h3); clear h2 h3 h4))
            obtain ⟨r1, r2, r3⟩ := HB.out.close H9.out.1 H9.out.2
            refine ⟨⟨1, _, by omega, by go_num, r1, r2, r3⟩, by simp [intOf]; omega⟩
          · obtain ⟨q, hq⟩ : ∃ q, s[j - 1]?.getD 0 = q := ⟨_, rfl⟩
            have hqk : q < k := by
              have hm : s[j - 1]?.getD 0 ∈ s := by rw [List.getElem?_eq_getElem (by rw [Hsl.out]; omega)]; exact List.getElem_mem _
              rw [hq] at hm
              exact List.mem_range.1 (H2.out.1.mem_iff.1 hm)
            have hcq : wr.cell? ⟨g5, j - 1, none⟩ = some (.int .i64 (q : Int)) := by
              rw [hb.cell hg5, H2.out.2.2.1.cell (j - 1) (by simp [nums, Hsl.out]; omega)]
              simp only [nums, List.getElem?_map]
              rw [List.getElem?_eq_getElem (by rw [Hsl.out]; omega)] at hq ⊢
              simp at hq; simp [hq]
            have hDw2 : D < w2.heap.size := by
              obtain ⟨g9, e9, _, h9, _⟩ := Own.at_form H2.out.2.2.2.1 (by omega)
              cases e9; exact h9
            have hbx : wr.cell? ⟨D, 0, none⟩ = some (.func (.func g) #[] cb) := by
              rw [hb.cell hDw2, H2.out.2.2.2.1.cell 0 (by simp)]; rfl
            have hbD : Below D w wr := H2.out.2.2.2.2.trans (hb.mono (by omega))
            have hcall : ∀ m, Calls Tryz.prog g (#[.int .i64 (q : Int), .int .i64 (p : Int)] ++ cb) (wr.drewN m) fun e w' => e = .returned (.int .i64 (cf q p)) ∧ Grew (wr.drewN m) w' := fun m => H0.out.1.calls _ (by rw [← HD.out]; exact below_drewN hbD m) q p hqk hpj
            have hpc := (H0.out.2.1 q p hqk hpj).2
            obtain ⟨c, hc⟩ : ∃ c, cf q p = c := ⟨_, rfl⟩
            rw [hc] at hpc hcall
            have hw1 : IntKind.i64.wrap ((j : Int) - 1) = (j : Int) - 1 := IntWalk.i64_in _ (by omega)
            have hb1 : (1 : Int) ≤ (j : Int) := by omega
            have hb2 : (j : Int) - 1 < (k : Int) := by omega
            have hn1 : ((j : Int) - 1).toNat = j - 1 := by omega
            have hj1 : ((j : Int) == 0) = false := by simp; omega
            have Hc := Lib.hid (And.intro hcall (And.intro hpc (And.intro hq hc)))
            have Hj := Lib.hid hj0
            have HbD := Lib.hid hbD
            clear hcall hpc hq hc hj0 hbD
            by_cases hc0 : c = 0
            · subst hc0
              have hsame : ∀ P c, grpTo R s j = P ++ [c] → grpTo R s (j + 1) = P ++ [c ++ [p]] := by
                intro P c e
                rw [grpTo_same ?_ e, Hp.out]
                rw [Hp.out, Hc.out.2.2.1]
                exact fun h => h.elim Hj.out (fun h => h (Hc.out.2.1.1 rfl))
              have H := Lib.hid (And.intro ho (And.intro hgr (And.intro hb (And.intro hKw (And.intro hcs64 hsame)))))
              clear ho hgr hb hKw hsame
              go_wp2
              go_still_tail 10, (by kernel_rfl)
              change wpList _ _ _ _ _ (wr.drewN 1)
              have eg := H0.out.1.enters
              go_wp2_with fail
              clear eg
              refine (Hc.out.1 1).mono ?_
              rintro e w3 ⟨rfl, hw3⟩
              have hw3 : Grew wr w3 := ((Grew.refl wr).drewN 1).trans hw3
              have hg3 : ∀ row, wr.grownBy w3 row := fun row => grown_below hw3.below row
              have hb3 := H.out.2.2.1.trans (hw3.below.mono H.out.2.2.2.1)
              have ho3 := H.out.1.kept (hg3 (some wr.heap.size)) (by
                rcases H.out.1.blk with e | ⟨g9, _, e, _, hl9, _⟩
                · exact .inl e
                · right; rw [e]; intro h; cases h; omega)
              have hgr3 : Grp w3 w2.heap.size cs (grpTo R s j) := H.out.2.1.kept (row := none) (hg3 none) (fun u B xs _ => by cases u.ownBlock <;> simp)
              obtain ⟨go, cap9, P, c, cs0, al, cl, Kl, rfl, hcs, hB, hcl⟩ := PhB.old (p := p) (grpTo_ne (Nat.pos_of_ne_zero Hj.out)) H.out.2.2.2.2.2 ho3 hgr3 hb3
              have hcs0 : cs0.length < 1099511627776 := by omega
              have HB := Lib.hid hB
              have hcB := HB.out.last
              have hgB : w2.heap.size ≤ w3.heap.size := hb3.size
              have hK2 : Kl ≤ w3.heap.size := HB.out.k2
              clear hw3 hg3 hb3 ho3 hgr3 hB hcs
              go_wp2_with (at_builtin; refine app1f rfl (.tmp 54) (.tmp 56) 23 3 rfl i3 (.int .i64 0) 8 Tryz.underlying23 I3.out.1 I3.out.2.1 I3.out.2.2.1 I3.out.2.2.2 rfl (by omega) Kl (.int .i64 (p : Int)) (.slice al c.length cl) (nums c) c.length rfl HB.out.ownl rfl rfl (by simp [nums]) (by omega) hK2 ?_; intro G cap5 w5 h2 h3 h4 _ _; obtain ⟨hc7, hf7⟩ := HB.out.mid h3; have H9 := Lib.hid (And.intro h2 h3); clear h2 h3 h4)
              obtain ⟨r1, r2, r3⟩ := HB.out.close H9.out.1 H9.out.2
              refine ⟨⟨j + 1, _, by omega, by go_num, r1, r2, r3⟩, by simp [intOf]; omega⟩
            · have hne : (c != 0) = true := by simpa using hc0
              have H := Lib.hid (And.intro ho (And.intro hgr (And.intro hb (And.intro hKw (And.intro hcs64 hc0)))))
              clear ho hgr hb hKw hc0
              go_wp2
              go_still_tail 10, (by kernel_rfl)
              change wpList _ _ _ _ _ (wr.drewN 1)
              have eg := H0.out.1.enters
              go_wp2_with fail
              clear eg
              refine (Hc.out.1 1).mono ?_
              rintro e w3 ⟨rfl, hw3⟩
              have hw3 : Grew wr w3 := ((Grew.refl wr).drewN 1).trans hw3
              have hg3 : ∀ row, wr.grownBy w3 row := fun row => grown_below hw3.below row
              have hnew : grpTo R s (j + 1) = grpTo R s j ++ [[] ++ [p]] := by
                rw [grpTo_new (.inr ?_), Hp.out]; · rfl
                rw [Hp.out, Hc.out.2.2.1]
                exact fun h => H.out.2.2.2.2.2 (Hc.out.2.1.2 h)
              have hb3 := H.out.2.2.1.trans (hw3.below.mono H.out.2.2.2.1)
              have ho3 := H.out.1.kept (hg3 (some wr.heap.size)) (by
                rcases H.out.1.blk with e | ⟨g9, _, e, _, hl9, _⟩
                · exact .inl e
                · right; rw [e]; intro h; cases h; omega)
              have hgr3 : Grp w3 w2.heap.size cs (grpTo R s j) := H.out.2.1.kept (row := none) (hg3 none) (fun u B xs _ => by cases u.ownBlock <;> simp)
              have H3 := Lib.hid (And.intro ho3 (And.intro hgr3 (And.intro hb3 (And.intro hb3.size (And.intro hnew H.out.2.2.2.2.1)))))
              clear hw3 hg3 hnew hb3 ho3 hgr3
              go_wp2_with (first | (at_builtin; refine app1f rfl (.tmp 42) (.tmp 43) 28 23 rfl i29 (.slice none 0 0) 24 Tryz.underlying28 I29.out.1 I29.out.2.1 I29.out.2.2.1 I29.out.2.2.2 rfl (by omega) w2.heap.size (.slice none 0 0) u7 cs cs.length rfl H3.out.1 rfl rfl rfl H3.out.2.2.2.2.2 H3.out.2.2.2.1 ?_; intro go cap9 w4 h2 h3 h4 h5 h6; have HB := Lib.hid (PhB.new (p := p) H3.out.2.2.2.2.1 H3.out.1 H3.out.2.1 H3.out.2.2.1 h2 h3 h5); have hcB := HB.out.last; have hgB : w2.heap.size ≤ w4.heap.size := HB.out.k1; clear h2 h3 h4 h5) | (at_builtin; refine app1f rfl (.tmp 54) (.tmp 56) 23 3 rfl i3 (.int .i64 0) 8 Tryz.underlying23 I3.out.1 I3.out.2.1 I3.out.2.2.1 I3.out.2.2.2 rfl (by omega) w4.heap.size (.int .i64 (p : Int)) (.slice none 0 0) (nums []) 0 rfl HB.out.ownl rfl rfl rfl (by omega) (Nat.le_refl _) ?_; intro G cap5 w5 h2 h3 h4 _ _; obtain ⟨hc7, hf7⟩ := HB.out.mid h3; have H9 := Lib.hid (And.intro h2 h3); clear h2 h3 h4))
              obtain ⟨r1, r2, r3⟩ := HB.out.close H9.out.1 H9.out.2
              refine ⟨⟨j + 1, _, by omega, by go_num, r1, r2, r3⟩, by simp [intOf]; omega⟩
        · obtain rfl : j = k := by omega
          have hpart := grpTo_part (R := R) H2.out.1 H2.out.2.1
          rw [Hsl.out] at hpart
          obtain ⟨a7, c7, rfl, hr⟩ := Cellsof.rowsB hgr.cells ho (by unfold maxLen; omega) (fun xs hx => by have := grpTo_cell_len R s j xs hx; unfold maxLen; omega)
          have hD2 : D ≤ w2.heap.size := by
            obtain ⟨g9, e9, _, h9, _⟩ := Own.at_form H2.out.2.2.2.1 (by omega)
            cases e9; omega
          have hbD : Below D w wr := H2.out.2.2.2.2.trans (hb.mono hD2)
          have hr := hr.mono hD2
          clear hD2
          have H := Lib.hid (And.intro hpart (And.intro hr hbD))
          clear hpart hr hbD ho hgr hb
          go_wp2
          go_ret
          exact ⟨a7, c7, grpTo R s j, by rw [List.length_map]; rfl, H.out.2.1, H.out.1, H.out.2.2⟩
theorem grouped_calls (n : Nat) (hn : n ≤ 1000) (R : Nat → List Int) (g : Nat) (cb : Array Value) (cf : Nat → Nat → Int) (w : World) (hok : CmpOk w g cb n cf)
    (hcf : ∀ x y, x < n → y < n → (cf x y < 0 ↔ cmpL (R x) (R y) < 0) ∧ (cf x y = 0 ↔ R x = R y)) :
    Calls Tryz.prog 95 #[.int .i64 n, .func (.func g) #[] cb] w fun e w' => ∃ a c P, e = .returned (.slice a (P.map (·.map Int.ofNat)).length c) ∧ Rows w' a (P.map (·.map Int.ofNat)) ∧ IsPart R (· < n) P ∧ Below w.heap.size w w' := 
  (grouped_callsB n hn R g cb cf w hok hcf).mono fun e w' ⟨a, c, P, h1, h2, h3, h4⟩ => ⟨a, c, P, h1, h2.1, h3, h4⟩
end Go.Proofs.YtjjjohmppehejaaGreat
