/- What an entry's reading needs: text out of bytes, delete, boxes. -/
import Derived.Test.YtjjjnpolhbbepaaDoorRead
import Derived.Test.YtjjjnpolhbbepaaDoorShelf
import Derived.Test.YtjjjnpolhbbepaaDoorPlainTrip
import Derived.Test.YtjjjnpolhbbepaaDoorWrite
import Derived.Sort.OwnSortedInts
import Derived.Laws.BytesString
set_option linter.unusedSimpArgs false
set_option linter.unusedVariables false
namespace Go.Proofs.YtjjjnpolhbbepaaDoor
open Go.RowKit
open Plain
theorem fold_push : ∀ (l : List Nat) (s : ByteArray), (l.map Int.ofNat).foldl (fun (r : ByteArray) (n : Int) => r.push (UInt8.ofNat n.toNat)) s = ⟨s.data ++ (l.map UInt8.ofNat).toArray⟩
  | [], s => by simp
  | x :: l, s => by
    rw [List.map_cons, List.foldl_cons, fold_push l]
    cases s with
    | mk bs =>
      show (⟨bs.push (UInt8.ofNat (Int.ofNat x).toNat) ++ (l.map UInt8.ofNat).toArray⟩ : ByteArray) = _
      congr 1
      apply Array.ext'
      simp only [Array.toList_append, Array.toList_push, List.map_cons, List.append_assoc, List.singleton_append]
      rfl
theorem conv_str {w : World} {b o : Nat} {xs : List Nat} (T : TypeId) (hT : Tryd.prog.underlying T = some (.slice 5)) (h : Byts w (some ⟨b, o, none⟩) xs) (pos l c : Nat) (hl : pos + l ≤ xs.length) :
    (convert T 9 (.slice (some ⟨b, o + pos, none⟩) l c)).run Tryd.prog w = .ok (.string (nameOf ((xs.drop pos).take l))) w := by
  rw [run_convert_bytes_string w T 9 5 _ _ _ hT Tryd.underlying5 Tryd.underlying9]
  have hget : ∀ j, j < l → ((xs.drop pos).take l)[j]? = xs[pos + j]? := fun j hj => by rw [List.getElem?_take, if_pos hj, List.getElem?_drop]
  have hlen : ((xs.drop pos).take l).length = l := by rw [List.length_take, List.length_drop]; omega
  generalize (xs.drop pos).take l = ys at hget hlen ⊢
  have hcell : ∀ j v, ((ys.map Int.ofNat).map (Value.int .u8))[j]? = some v → w.cell? ((⟨b, o + pos, none⟩ : Addr).add j) = some v := by
    intro j v hv
    have hj : j < l := by have := (List.getElem?_eq_some_iff.1 hv).1; rw [List.length_map, List.length_map, hlen] at this; exact this
    obtain ⟨b', o', e, _, hc⟩ := h.at_ (k := pos + j) (by omega)
    have e2 := Option.some.inj e
    have hb : b = b' := congrArg Addr.block e2
    have ho : o = o' := congrArg Addr.off e2
    rw [add_zero_addr, Nat.add_assoc, hb, ho, hc, ← hv, List.getElem?_map, List.getElem?_map, hget j hj, List.getElem?_eq_getElem (show pos + j < xs.length by omega)]
    rfl
  have hc := run_loadCells_list (P := Tryd.prog) w ⟨b, o + pos, none⟩ _ hcell
  rw [List.length_map, List.length_map, hlen] at hc
  rw [run_bytesToString w _ _ _ _ hc, fold_push]
  simp [nameOf]
theorem del_calls {w : World} {B g n cap k : Nat} {zs : List Int} (h : Own w B (.slice (some ⟨g, 0, none⟩) n cap) 3 (ints zs)) (hk : k < zs.length) :
    Calls Tryd.prog 47 #[.slice (some ⟨g, 0, none⟩) n cap, .int .i64 (k : Int), .int .i64 ((k + 1 : Nat) : Int)] w fun e w' => e = .returned (.slice (some ⟨g, 0, none⟩) (n - 1) cap) ∧
      Own w' B (.slice (some ⟨g, 0, none⟩) (n - 1) cap) 3 (ints (zs.eraseIdx k)) ∧ w.grownBy w' (some g) := by
  obtain rfl : n = zs.length := by have := h.lit; rw [ints_len] at this; exact this
  rcases h.2 with ⟨h1, _⟩ | ⟨g', cap', cur, h1, hB, hh, hnc, hcm, hcs, htk⟩
  · cases h1
  · injection h1 with h1 h0 h2
    have h1 := congrArg Addr.block (Option.some.inj h1)
    simp only at h1
    subst h1
    subst h2
    rw [ints_len] at hnc htk
    have hcs' : cur.size = cap := by simpa using hcs
    have hH := holds_of_blockI hh (ss := zs) (by rw [Nat.mul_one] at htk; exact htk)
    refine (Tryd.slices_Delete_int g 0 cap k (k + 1) zs w hH hnc (by unfold maxLen at hcm; exact hcm) (by omega) (by omega)).mono ?_
    rintro e w' ⟨rfl, q, rfl⟩
    have hL : (zs.take k ++ zs.drop (k + 1) ++ List.replicate (k + 1 - k) 0).length = zs.length := by simp; omega
    have hE : zs.eraseIdx k = zs.take k ++ zs.drop (k + 1) := List.eraseIdx_eq_take_drop_succ ..
    have hEl : (zs.eraseIdx k).length = zs.length - 1 := List.length_eraseIdx_of_lt hk
    have hg := heap_sortedI (n := q) (os := #[]) (zs.take k ++ zs.drop (k + 1) ++ List.replicate (k + 1 - k) 0).toArray hh
    have hgr := grownBy_sortedI (w := w) (g := g) (n := q) (os := #[]) (zs.take k ++ zs.drop (k + 1) ++ List.replicate (k + 1 - k) 0).toArray
    rw [Sort.grow_empty] at hg hgr
    refine ⟨by rw [show k + 1 - k = 1 by omega], ⟨by rw [ints_len, Nat.mul_one], .inr ⟨g, cap, _, by rw [ints_len, hEl], hB, hg, by rw [ints_len, hEl]; omega, hcm, by simp [Sort.putCells, hcs'], ?_⟩⟩, hgr⟩
    have ht := take_putCellsI cur (zs.take k ++ zs.drop (k + 1) ++ List.replicate (k + 1 - k) 0) (by rw [hL]; omega)
    rw [hL] at ht
    rw [ints_len, hEl, Nat.mul_one, hE]
    have h2 := congrArg (List.take (zs.length - 1)) ht
    rw [List.take_take, Nat.min_eq_left (by omega)] at h2
    rw [h2, List.map_append, List.take_append_of_le_length (by simp; omega), List.take_of_length_le (by simp; omega)]
    rfl
set_option maxRecDepth 10000 in
theorem slice_run (T : TypeId) (hT : Tryd.prog.underlying T = some (.slice 5)) (bb oo N c l h : Nat) (h1 : l ≤ h) (h2 : h ≤ c) (x y : Int) (hx : x = l) (hy : y = h) (W : World) :
    (Instr.slice T (.slice (some ⟨bb, oo, none⟩) N c) (some (.int .i64 x)) (some (.int .i64 y)) none).run Tryd.prog W = .ok (.slice (some ⟨bb, if c = l then oo else oo + l, none⟩) (h - l) (c - l)) W := by
  subst hx; subst hy
  obtain ⟨i5, hi5, hz5, hs5, hb5⟩ := info_parts Tryd.info5
  by_cases hcc : c = l
  · simp [Instr.slice, run_underlying hT, Instr.sliceBounds, run_sliceBound, sizeOf, typeInfo, hi5, hs5, h1, h2, hcc, add_zero_addr, show (0:Int) ≤ l by omega, show (0:Int) ≤ h by omega, show (l:Int) ≤ h by omega, show (h:Int) ≤ l by omega]
  · simp [Instr.slice, run_underlying hT, Instr.sliceBounds, run_sliceBound, sizeOf, typeInfo, hi5, hs5, h1, h2, hcc, add_zero_addr, show (0:Int) ≤ l by omega, show (0:Int) ≤ h by omega, show (l:Int) ≤ h by omega, show (h:Int) ≤ c by omega]
theorem cut_str {w : World} {b o c pos l : Nat} {xs : List Nat} (T : TypeId) (hT : Tryd.prog.underlying T = some (.slice 5)) (h : Byts w (some ⟨b, o, none⟩) xs) (hl : pos + l ≤ xs.length) (hc : xs.length ≤ c) (c' : Nat) :
    (convert T 9 (.slice (some ⟨b, if c = pos then o else o + pos, none⟩) l c')).run Tryd.prog w = .ok (.string (nameOf ((xs.drop pos).take l))) w := by
  by_cases hcc : c = pos
  · rw [if_pos hcc]
    obtain rfl : l = 0 := by omega
    have := conv_str T hT h 0 0 c' (by omega)
    simpa using this
  · rw [if_neg hcc]
    exact conv_str T hT h pos l c' hl
end Go.Proofs.YtjjjnpolhbbepaaDoor
