/- canon.matrix: the same as the graph's. · Rows of ints of the call's own whose capacity may be cut: append of one element; the shorter slice stays what it was. · slices.Index, Contains, Clone, Clip at permutations. -/
import Derived.Test.YtjjjohmppehejaaGreatMats
import Derived.Test.YtjjjohmppehejaaGreatCell2
import Derived.Test.YtjjjohmppehejaaGreatPlainT
set_option linter.unusedSimpArgs false
set_option linter.unusedVariables false
namespace Go.Proofs.YtjjjohmppehejaaGreat
open Go.RowKit Plain PlainG
set_option maxRecDepth 100000 in
set_option maxHeartbeats 4000000 in
theorem cmatrix_calls {w : World} {a b : Option Addr} {c d L M : Nat} {n : Nat} {es : List (Int × Int)} (he : Edg w a es) (hL : es.length = L) (hn : n ≤ 100) (hev : ∀ x ∈ es, 0 ≤ x.1 ∧ x.1 < n ∧ 0 ≤ x.2 ∧ x.2 < n) :
    Calls Tryz.prog 52 #[.agg #[.int .i64 (n : Int), .slice a L c, .slice b M d]] w fun e w' => ∃ G cs, e = .returned (.slice (some ⟨G, 0, none⟩) n n) ∧ OwnMat w' w.heap.size G n cs (matF n (adjF es)) ∧ Below w.heap.size w w' := by
  obtain ⟨i3, hi3, hz3, hs3, hb3⟩ := info_parts Tryz.info3
  obtain ⟨i29, hi29, hz29, hs29, hb29⟩ := info_parts Tryz.info23
  have I3 := Lib.hid (And.intro hi3 (And.intro hz3 (And.intro hs3 hb3)))
  have I29 := Lib.hid (And.intro hi29 (And.intro hz29 (And.intro hs29 hb29)))
  clear hi3 hz3 hs3 hb3 hi29 hz29 hs29 hb29
  have hmax := he.len
  rw [hL] at hmax
  obtain ⟨D, hD⟩ : ∃ D, w.heap.size = D := ⟨_, rfl⟩
  have hx0 : Below D w (w.alloc (.cells #[.int .i64 (n : Int), .slice a L c, .slice b M d] 25)) := by rw [← hD]; exact (Below.refl _ w).alloc (Nat.le_refl _) _
  have hbox : ∀ w2, Below (D + 1) (w.alloc (.cells #[.int .i64 (n : Int), .slice a L c, .slice b M d] 25)) w2 → w2.cell? ⟨D, 0, none⟩ = some (.int .i64 (n : Int)) ∧ w2.cell? ⟨D, 1, none⟩ = some (.slice a L c) := fun w2 h => by
    rw [← hD] at h ⊢
    exact ⟨(h.cell (p := ⟨w.heap.size, 0, none⟩) (Nat.lt_succ_self _)).trans (by simp), (h.cell (p := ⟨w.heap.size, 1, none⟩) (Nat.lt_succ_self _)).trans (by simp)⟩
  have hs1 : (w.alloc (.cells #[.int .i64 (n : Int), .slice a L c, .slice b M d] 25)).heap.size = D + 1 := by rw [← hD]; simp
  have H := Lib.hid (And.intro he (And.intro hL (And.intro hev (And.intro hx0 (And.intro hbox (And.intro hs1 hD))))))
  clear he hev hL hx0 hbox hs1
  go_enter Tryz.func52, Tryz.ntmps52
  go_wp2_with (at_make; refine mk1 rfl _ _ 28 23 rfl i29 (.slice none 0 0) 24 Tryz.underlying28 I29.out.1 I29.out.2.1 I29.out.2.2.1 I29.out.2.2.2 rfl (by omega) (D + 1) n rfl rfl (by omega) (by simp; omega) ?_; intro w1 hd hg hz1; have H1 := Lib.hid (And.intro hd hg); clear hd hg hz1)
  rw [H.out.2.2.2.2.2.1] at H1
  obtain ⟨W0, hW0⟩ : ∃ W0, W0 = w.alloc (.cells #[.int .i64 (n : Int), .slice a L c, .slice b M d] 25) := ⟨_, rfl⟩
  rw [← hW0] at H H1
  clear hW0
  obtain ⟨E, hE⟩ : ∃ E, D + 1 = E := ⟨_, rfl⟩
  rw [hE] at H H1 ⊢
  have hbl : Below E W0 w1 := (Below.refl _ _).grown H1.out.2 (by rw [H.out.2.2.2.2.2.1]; exact Nat.le_refl _) (fun k hk => by cases hk)
  have hm0 : OwnMat w1 E E n (List.replicate n (.slice none 0 0)) (begun n 0) := by rw [← begun_zero]; exact OwnMat.new H1.out.1
  have H2 := Lib.hid (And.intro hm0 hbl)
  have HE := Lib.hid (And.intro hE hD)
  clear hm0 hbl H1 hE hD
  go_loopw [12] (fun i wr => ∃ (k : Nat) (cs : List Value), k ≤ n ∧ i = .int .i64 k ∧ OwnMat wr E E n cs (begun n k) ∧ Below E W0 wr) (fun i _ => n - (intOf i).toNat)
  case atStart => exact ⟨0, _, by omega, rfl, H2.out.1, H2.out.2⟩
  case round =>
    clear H2
    obtain ⟨k, cs, hk, rfl, hm, hbl⟩ := hrel
    have hDr : E ≤ wr.heap.size := by have := hbl.size; have := H.out.2.2.2.2.2.1; omega
    obtain ⟨g0, g1⟩ := H.out.2.2.2.2.1 _ hbl
    by_cases hlt : k < n
    · obtain ⟨u0, hu0⟩ : ∃ u, cs[k]? = some u := ⟨_, List.getElem?_eq_getElem (by rw [hm.len]; exact hlt)⟩
      have Hu := Lib.hid hu0
      have H3 := Lib.hid (And.intro hm (And.intro hbl hDr))
      clear hm hbl hu0
      go_wp2_with (at_make; refine mk1 rfl _ _ 23 3 rfl i3 (.int .i64 0) 8 Tryz.underlying23 I3.out.1 I3.out.2.1 I3.out.2.2.1 I3.out.2.2.2 rfl (by omega) E n rfl rfl (by omega) H3.out.2.2 ?_; intro w2 hd hg hz1; have hm2 := H3.out.1.kept hg; have hcl := (hm2.top.cell k (by rw [hm2.len]; exact hlt)).trans Hu.out; have hfz := hm2.top.frozen k; rw [ints_zero] at hd; have H2 := Lib.hid (And.intro hd hg); clear hd hg hm2 hz1)
      refine ⟨⟨k + 1, cs.set k (.slice (some ⟨wr.heap.size, 0, none⟩) n n), by omega, by go_num, ?_, ?_⟩, by simp [intOf]; omega⟩
      · rw [← begun_set hlt]
        exact H3.out.1.row H2.out.2 (Nat.le_refl _) H2.out.1 k
      · exact (H3.out.2.1.grown H2.out.2 H3.out.2.2 (fun k hk => by cases hk)).setCell (Nat.le_refl _) _
    · obtain rfl : k = n := by omega
      have hm0 : OwnMat wr E E k cs (matF k (adjF (es.take 0))) := by rw [List.take_zero, adjF_nil, ← begun_all]; exact hm
      have H3 := Lib.hid (And.intro hm0 (And.intro hbl hDr))
      clear hm hm0 hbl hDr
      go_wp2
      go_loopw [25] (fun i wr => ∃ x : Nat, x ≤ L ∧ i = .int .i64 x ∧ OwnMat wr E E k cs (matF k (adjF (es.take x))) ∧ Below E W0 wr ∧ E ≤ wr.heap.size) (fun i _ => L - (intOf i).toNat)
      case atStart => exact ⟨0, Nat.zero_le _, rfl, H3.out.1, H3.out.2.1, H3.out.2.2⟩
      case round =>
        clear H3
        obtain ⟨j, hj, rfl, hm, hbl, hEr⟩ := hrel
        by_cases hjl : j < L
        · have hjn : j < es.length := by rw [H.out.2.1]; exact hjl
          obtain ⟨x, hx⟩ : ∃ x, es[j]? = some x := ⟨_, List.getElem?_eq_getElem hjn⟩
          have hxv := H.out.2.2.1 x (List.mem_of_getElem? hx)
          obtain ⟨x1, x2⟩ := x
          obtain ⟨x, rfl⟩ : ∃ i : Nat, x1 = i := ⟨x1.toNat, by simp only at hxv; omega⟩
          obtain ⟨y, rfl⟩ : ∃ j : Nat, x2 = j := ⟨x2.toNat, by simp only at hxv; omega⟩
          have hwb : Below w.heap.size w wr := by
            have h1 := H.out.2.2.2.1
            have h2 := HE.out
            rw [h2.2]
            exact h1.trans (hbl.mono (by omega))
          obtain ⟨B, o, rfl, hBl, c1, c2⟩ := (H.out.1.below hwb).at_ j _ hx
          simp only at c1 c2 hxv
          have hxn : x < k := by omega
          have hyn : y < k := by omega
          have htk : es.take (j + 1) = es.take j ++ [((x : Int), (y : Int))] := by rw [List.take_add_one, hx]; rfl
          obtain ⟨wx, hwx⟩ : ∃ wx, wx = wr.alloc (.cells #[.int .i64 (x : Int), .int .i64 (y : Int)] 58) := ⟨_, rfl⟩
          have x1 : wx.cell? ⟨wr.heap.size, 0, none⟩ = some (.int .i64 (x : Int)) := by rw [hwx]; simp
          have x2 : wx.cell? ⟨wr.heap.size, 1, none⟩ = some (.int .i64 (y : Int)) := by rw [hwx]; simp
          have hmx : OwnMat wx E E k cs (matF k (adjF (es.take j))) := by rw [hwx]; exact hm.kept (grown_alloc _ _ none)
          have hblx : Below E W0 wx := by rw [hwx]; exact hbl.alloc hEr _
          have hEx : E ≤ wx.heap.size := by rw [hwx]; simp; omega
          obtain ⟨q1, d1, u1, e11, e12, e13, e14⟩ := hmx.entry hxn hyn
          obtain ⟨q2, d2, u2, e21, e22, e23, e24⟩ := hmx.entry hyn hxn
          have hm2 := hmx.setF hxn u1 y 1
          obtain ⟨q3, d3, u3, e31, e32, e33, e34⟩ := hm2.entry hyn hxn
          rw [u2] at u3
          cases u3
          have HS := Lib.hid (And.intro hmx (And.intro hblx (And.intro hEx (And.intro htk (And.intro u1 (And.intro u2 (And.intro e14 (And.intro e24 hm2))))))))
          have HW := Lib.hid hwx
          have HN := Lib.hid (show wr.heap.size ≠ q1 ∧ wr.heap.size ≠ q2 ∧ E ≠ q1 ∧ E ≠ q2 from by
            have h1 := hm.rows.2 x _ _ u1 (List.getElem?_eq_getElem (by rw [hm.mlen]; exact hxn))
            have h2 := hm.rows.2 y _ _ u2 (List.getElem?_eq_getElem (by rw [hm.mlen]; exact hyn))
            have b1 := (h1.block_lt (g := q1) rfl).1
            have b2 := (h2.block_lt (g := q2) rfl).1
            refine ⟨by omega, by omega, ?_, ?_⟩
            · intro e; rcases h1.ne_type hm.top (by decide) with h | h
              · cases h
              · exact h (by rw [← e]; rfl)
            · intro e; rcases h2.ne_type hm.top (by decide) with h | h
              · cases h
              · exact h (by rw [← e]; rfl))
          clear hm hbl hmx hblx hx hwb htk u1 u2 hwx hm2
          go_wp2
          rw [← HW.out]
          clear HW
          have n1 : wr.heap.size ≠ q1 := HN.out.1
          have n2 : wr.heap.size ≠ q2 := HN.out.2.1
          have n3 : E ≠ q1 := HN.out.2.2.1
          have n4 : E ≠ q2 := HN.out.2.2.2
          go_region
          go_wp2
          have hm3 := (HS.out.2.2.2.2.2.2.2.2.setF hyn HS.out.2.2.2.2.2.1 x 1).drew
          have hf : (fun a b => if a = y ∧ b = x then (1 : Int) else if a = x ∧ b = y then 1 else adjF (es.take j) a b) = adjF (es.take (j + 1)) := by rw [adjF_app, HS.out.2.2.2.1]
          rw [hf] at hm3
          refine ⟨⟨j + 1, by omega, by go_num, hm3, ?_, ?_⟩, by simp [intOf]; omega⟩
          · exact ((HS.out.2.1.setCell (by simpa using HS.out.2.2.2.2.2.2.1) _).setCell (by simpa using HS.out.2.2.2.2.2.2.2.1) _).drew
          · simpa [World.setCell] using HS.out.2.2.1
        · obtain rfl : j = L := by omega
          have htk : es.take j = es := List.take_of_length_le (by rw [H.out.2.1]; omega)
          rw [htk] at hm
          have HS := Lib.hid (And.intro hm hbl)
          clear hm hbl
          go_wp2
          go_ret
          have h2 := HE.out
          refine ⟨E, cs, rfl, ?_, ?_⟩
          · have h3 := HS.out.1
            rw [h2.2]
            exact ⟨h3.top.mono (by omega), h3.rows.mono (by omega), h3.apart⟩
          · rw [h2.2]
            exact H.out.2.2.2.1.trans (HS.out.2.mono (by omega))
end Go.Proofs.YtjjjohmppehejaaGreat

namespace Go.Proofs.YtjjjohmppehejaaGreat
open Go.RowKit Plain
/-- A slice of ints that append may lengthen: a full one, wherever it lies (row: none), or one of the call's own. -/
def OwnC (w : World) (B : Nat) (v : Value) (xs : List Int) (row : Option Nat) : Prop :=
  (row = none ∧ ∃ a, v = .slice a xs.length xs.length ∧ Ints w a xs ∧ xs.length ≤ 1000000 ∧ (a = none ∨ ∃ b o, a = some ⟨b, o, none⟩ ∧ b < w.heap.size)) ∨
  ∃ g cap cur, row = some g ∧ v = .slice (some ⟨g, 0, none⟩) xs.length cap ∧ B ≤ g ∧ w.heap[g]? = some (.cells cur 3 (0, 0)) ∧ xs.length ≤ cap ∧ cap ≤ maxLen ∧ cap ≤ cur.size ∧ cur.toList.take xs.length = ints xs
section
variable {w w' : World} {B : Nat} {v : Value} {xs : List Int} {row : Option Nat}
theorem OwnC.full {a : Option Addr} (h : Ints w a xs) (hl : xs.length ≤ 1000000) (ha : a = none ∨ ∃ b o, a = some ⟨b, o, none⟩ ∧ b < w.heap.size) : OwnC w B (.slice a xs.length xs.length) xs none := .inl ⟨rfl, a, rfl, h, hl, ha⟩
theorem OwnC.blk (h : OwnC w B v xs row) : row = none ∨ ∃ g, row = some g ∧ B ≤ g ∧ g < w.heap.size := by
  rcases h with ⟨e, _⟩ | ⟨g, cap, cur, e, _, hB, hg, _⟩
  · exact .inl e
  · exact .inr ⟨g, e, hB, (Array.getElem?_eq_some_iff.1 hg).1⟩
theorem OwnC.below (h : OwnC w B v xs row) (hb : Below w.heap.size w w') : OwnC w' B v xs row := by
  rcases h with ⟨e, a, e2, hi, hl, ha⟩ | ⟨g, cap, cur, e, rfl, hB, hgg, rest⟩
  · exact .inl ⟨e, a, e2, hi.below hb, hl, ha.imp id (fun ⟨b, o, e, hlt⟩ => ⟨b, o, e, Nat.lt_of_lt_of_le hlt hb.size⟩)⟩
  · exact .inr ⟨g, cap, cur, e, rfl, hB, (hb.block g (Array.getElem?_eq_some_iff.1 hgg).1).trans hgg, rest⟩
theorem OwnC.form (h : OwnC w B v xs row) : ∃ a c, v = .slice a xs.length c := by
  rcases h with ⟨_, a, rfl, _⟩ | ⟨g, cap, cur, _, rfl, _⟩
  · exact ⟨_, _, rfl⟩
  · exact ⟨_, _, rfl⟩
theorem OwnC.ints {a : Option Addr} {n c : Nat} (h : OwnC w B (.slice a n c) xs row) (hl : xs.length ≤ 1000000) : Ints w a xs := by
  rcases h with ⟨_, a', e, hi, _⟩ | ⟨g, cap, cur, _, e, _, hg, hn, hm, hs, ht⟩
  · cases e; exact hi
  · cases e
    refine ⟨by simp; unfold maxLen; omega, fun i u hu => ⟨g, 0, rfl, (Array.getElem?_eq_some_iff.1 hg).1, ?_⟩⟩
    have hi : i < xs.length := by have := (List.getElem?_eq_some_iff.1 hu).1; simpa using this
    have h2 : (cur.toList.take xs.length)[i]? = some u := by rw [ht]; exact hu
    rw [List.getElem?_take, if_pos hi] at h2
    simp [World.cell?, hg]
    simpa using h2
theorem OwnC.shrink {g n cap : Nat} {u : Int} (h : OwnC w B (.slice (some ⟨g, 0, none⟩) (n + 1) cap) (xs ++ [u]) (some g)) : OwnC w B (.slice (some ⟨g, 0, none⟩) n cap) xs (some g) := by
  rcases h with ⟨e, _⟩ | ⟨g', cap', cur, e0, e, hB, hg, hn, hm, hs, ht⟩
  · cases e
  · simp only [List.length_append, List.length_singleton] at e hn ht
    cases e
    refine .inr ⟨g, cap, cur, rfl, rfl, hB, hg, by omega, hm, hs, ?_⟩
    have := congrArg (List.take xs.length) ht
    rw [List.take_take, Nat.min_eq_left (by omega)] at this
    rw [this]
    simp [Go.Proofs.YtjjjohmppehejaaGreat.ints]
end
/-- What an append of one element leaves. -/
def AppC (w w' : World) (B : Nat) (v v' : Value) (xs : List Int) (u : Int) (row row' : Option Nat) : Prop :=
  OwnC w' B v' (xs ++ [u]) row' ∧ w.grownBy w' row ∧ (row' = row ∨ ∃ G, row' = some G ∧ w.heap.size ≤ G) ∧
    ∀ w'', w'.grownBy w'' row' → OwnC w'' B v' (xs ++ [u]) row' → OwnC w'' B v xs row
theorem run_appC {P : Program} {w : World} {B : Nat} {v : Value} {xs : List Int} {row : Option Nat} (T ty : TypeId) (i : TypeInfo) (hT : P.underlying T = some (.slice 3)) (hi : P.info? 3 = some i) (hz : i.zero = some (.int .i64 0)) (hs1 : i.size = 1) (hby : i.bytes = 8)
    (h : OwnC w B v xs row) (a : Addr) (u : Int) (hn : w.cell? a = some (.int .i64 u)) (hl : xs.length < 1000000) (hB : B ≤ w.heap.size) :
    ∃ v' w' row', (Builtin.append_ #[T, T] ty #[v, .slice (some a) 1 1]).run P w = .ok v' w' ∧ AppC w w' B v v' xs u row row' := by
  have hnew : ∀ j x, [Value.int .i64 u][j]? = some x → w.cell? (a.add j) = some x := by
    intro j x hj
    match j, hj with
    | 0, hj => simp at hj; subst hj; simpa [Addr.add] using hn
  have h1 : ∀ x ∈ [Value.int .i64 u], x.oneCell' = true := by intro x hx; rw [List.mem_singleton.1 hx]; rfl
  have fresh : ∀ (old : Nat), old < xs.length + 1 → ∀ row : Option Nat,
      OwnC (w.drew.alloc (.cells ((Go.Proofs.YtjjjohmppehejaaGreat.ints xs).toArray ++ #[.int .i64 u] ++ Builtin.zeroCells (Value.int .i64 0).cells (grownCap w (xs.length + 1) old 3 - (xs.length + 1))) 3)) B (.slice (some ⟨w.heap.size, 0, none⟩) (xs.length + 1) (grownCap w (xs.length + 1) old 3)) (xs ++ [u]) (some w.heap.size) ∧
      w.grownBy (w.drew.alloc (.cells ((Go.Proofs.YtjjjohmppehejaaGreat.ints xs).toArray ++ #[.int .i64 u] ++ Builtin.zeroCells (Value.int .i64 0).cells (grownCap w (xs.length + 1) old 3 - (xs.length + 1))) 3)) row := by
    intro old ho row
    have hge := grownCap_ge w (xs.length + 1) old 3
    have hcm := grownCap_le_maxLen w (xs.length + 1) old 3 (by unfold maxLen; omega)
    refine ⟨.inr ⟨w.heap.size, _, _, rfl, by rw [List.length_append]; rfl, hB, heap_alloc_new w.drew _, by rw [List.length_append]; exact hge, hcm, ?_, ?_⟩, ⟨rfl, rfl, rfl, by simp, fun k hk _ => (grown_alloc w.drew _ none).block k hk (by simp)⟩⟩
    · simp only [Array.size_append, List.size_toArray, size_zeroCells, ints_len]
      simp [Value.cells]; omega
    · simp only [Array.toList_append, List.append_assoc]
      have : (xs ++ [u]).length = (Go.Proofs.YtjjjohmppehejaaGreat.ints xs ++ [Value.int .i64 u]).length := by simp [ints_len]
      rw [this, ← List.append_assoc, List.take_left]
      simp [Go.Proofs.YtjjjohmppehejaaGreat.ints]
  -- behind a growing append: what was lengthened reads as it did
  rcases h with ⟨rfl, a0, rfl, hi0, hl0, ha0⟩ | ⟨g, cap, cur, rfl, rfl, hBg, hg, hnc, hcm, hcs, ht⟩
  · have hback : ∀ (w' : World), w.grownBy w' none → ∀ w'', w'.grownBy w'' (some w.heap.size) → OwnC w'' B (.slice a0 xs.length xs.length) xs none := by
      intro w' k1 w'' k2
      refine .inl ⟨rfl, a0, rfl, Row.keep hi0 (Nat.le_trans k1.size k2.size) (fun p hp => ?_), hl0, ha0.imp id (fun ⟨b, o, e, hlt⟩ => ⟨b, o, e, Nat.lt_of_lt_of_le hlt (Nat.le_trans k1.size k2.size)⟩)⟩
      exact World.cell?_of_block ((k2.block p.block (Nat.lt_of_lt_of_le hp k1.size) (by intro e; injection e with e; omega)).trans (k1.block p.block hp (by simp)))
    have hf := fresh xs.length (by omega) none
    rcases ha0 with rfl | ⟨b, o, rfl, hb⟩
    · have hx0 : xs = [] := by
        cases hx : xs with
        | nil => rfl
        | cons y r =>
          obtain ⟨_, _, e, _⟩ := hi0.at_ (k := 0) (by rw [hx]; simp)
          cases e
      subst hx0
      have hr := run_append_nil (P := P) w T ty 3 i (.int .i64 0) hT hi hz a 1 1 [.int .i64 u] (by rw [hs1]; rfl) hnew (by omega) (by omega) (by rw [hby]; omega)
      simp only [Go.Proofs.YtjjjohmppehejaaGreat.ints, List.map_nil, List.length_nil, Nat.zero_add, List.nil_append, Array.empty_append] at hf
      refine ⟨_, _, _, hr, ?_, ?_, .inr ⟨_, rfl, Nat.le_refl _⟩, fun w'' k2 _ => hback _ ?_ w'' (by simpa using k2)⟩
      · simpa using hf.1
      · simpa using hf.2
      · simpa using hf.2
    · have holds : ∀ j x, (Go.Proofs.YtjjjohmppehejaaGreat.ints xs)[j]? = some x → w.cell? ((⟨b, o, none⟩ : Addr).add j) = some x := by
        intro j x hj
        obtain ⟨b', o', e, _, hce⟩ := hi0.2 j x hj
        cases e
        rw [add_zero_addr]
        exact hce
      have hr := run_append_grow (P := P) w T ty 3 i (.int .i64 0) hT hi hz ⟨b, o, none⟩ xs.length xs.length (Go.Proofs.YtjjjohmppehejaaGreat.ints xs) (by rw [ints_len, hs1, Nat.mul_one]) holds a 1 1 [.int .i64 u] (by rw [hs1]; rfl) hnew (by omega) (by omega) (growslice_fits (by omega) (by rw [hby]; omega))
      exact ⟨_, _, _, hr, by simpa using hf.1, by simpa using hf.2, .inr ⟨_, rfl, Nat.le_refl _⟩, fun w'' k2 _ => hback _ (by simpa using hf.2) w'' k2⟩
  · by_cases hroom : xs.length + 1 ≤ cap
    · have hr := run_append_room (P := P) w T ty 3 i hT hi g xs.length cap cur hg a 1 1 [.int .i64 u] (by rw [hs1]; rfl) hnew h1 hroom (by rw [hs1]; simp; omega)
      refine ⟨_, _, some g, hr, ?_, ⟨rfl, rfl, rfl, by simp [World.setRow], fun k _ hk => setRow_other w g k _ (fun e => hk (by rw [e]))⟩, .inl rfl, fun w'' _ h => h.shrink⟩
      refine .inr ⟨g, cap, _, rfl, by rw [List.length_append]; rfl, hBg, setRow_heap w g cur _ 3 _ hg, by rw [List.length_append]; exact hroom, hcm, ?_, ?_⟩
      · simp [hs1]; omega
      · simp only [hs1, Nat.mul_one, List.toList_toArray]
        rw [ht]
        have : (xs ++ [u]).length = (Go.Proofs.YtjjjohmppehejaaGreat.ints xs ++ [Value.int .i64 u]).length := by simp [ints_len]
        rw [this, List.take_left]
        simp [Go.Proofs.YtjjjohmppehejaaGreat.ints]
    · have hc : OwnC w B (.slice (some ⟨g, 0, none⟩) xs.length cap) xs (some g) := .inr ⟨g, cap, cur, rfl, rfl, hBg, hg, hnc, hcm, hcs, ht⟩
      have hrow := hc.ints (by omega)
      have holds : ∀ j x, (Go.Proofs.YtjjjohmppehejaaGreat.ints xs)[j]? = some x → w.cell? ((⟨g, 0, none⟩ : Addr).add j) = some x := by
        intro j x hj
        obtain ⟨b, o, e, _, hce⟩ := hrow.2 j x hj
        cases e
        rw [add_zero_addr]
        exact hce
      have hr := run_append_grow (P := P) w T ty 3 i (.int .i64 0) hT hi hz ⟨g, 0, none⟩ xs.length cap (Go.Proofs.YtjjjohmppehejaaGreat.ints xs) (by rw [ints_len, hs1, Nat.mul_one]) holds a 1 1 [.int .i64 u] (by rw [hs1]; rfl) hnew (by omega) (by omega) (growslice_fits (by omega) (by rw [hby]; omega))
      have hf := fresh cap (by omega) (some g)
      have hlt := (Array.getElem?_eq_some_iff.1 hg).1
      have hf0 := fresh cap (by omega) none
      refine ⟨_, _, _, hr, by simpa using hf.1, by simpa using hf.2, .inr ⟨_, rfl, Nat.le_refl _⟩, fun w'' hg2 _ => ?_⟩
      have k1 := hf0.2.block g hlt (by simp)
      have k2 := hg2.block g (Nat.lt_of_lt_of_le hlt hf0.2.size) (by intro e; injection e with e; omega)
      exact .inr ⟨g, cap, cur, rfl, rfl, hBg, (k2.trans k1).trans hg, hnc, hcm, hcs, ht⟩
end Go.Proofs.YtjjjohmppehejaaGreat
namespace Go.Proofs.YtjjjohmppehejaaGreat
open Go.RowKit Plain
theorem appC {P : Program} {w : World} {ops : Array Oper} {rest : List Oper} {o : Oper} {a : Act} {Q : Exit → Act → World → Prop} (hgd : o.guard = none) (s x : Operand) (T : TypeId)
    (ho : o.op = .call { callee := .builtin .append, args := #[s, x], argTypes := #[T, T] })
    (i : TypeInfo) (hT : P.underlying T = some (.slice 3)) (hi : P.info? 3 = some i) (hz : i.zero = some (.int .i64 0)) (hs1 : i.size = 1) (hby : i.bytes = 8)
    (B : Nat) (u : Int) (v : Value) (xs : List Int) (row : Option Nat) (hs : a.eval s = v) (h : OwnC w B v xs row) (hx : a.eval x = .slice (some ⟨w.heap.size, 0, none⟩) 1 1) (hl : xs.length < 1000000) (hB : B ≤ w.heap.size)
    (hK : ∀ v' w' row', OwnC w' B v' (xs ++ [u]) row' → w.grownBy w' row → wpList P ops Q rest (a.put o.dst v') w') :
    wpList P ops Q (o :: rest) a (w.alloc (.cells #[.int .i64 u] 3)) := by
  refine wpList_plain hgd fun K hK' => ?_
  have hb : Below w.heap.size w (w.alloc (.cells #[.int .i64 u] 3)) := (Below.refl _ _).alloc (Nat.le_refl _) _
  obtain ⟨v', w', row', hr, h2⟩ := run_appC (P := P) T o.type i hT hi hz hs1 hby (h.below hb) ⟨w.heap.size, 0, none⟩ u (by simp) hl (Nat.le_trans hB hb.size)
  unfold Oper.wp execOp
  simp only [ho, resolve, invoke, builtin, Sem.run_bind, Sem.run_pure, Result.andThen_ok, List.map_toArray, List.map_cons, List.map_nil, hs, hx, hr]
  exact hK' _ _ (hK v' w' row' h2.1 ((grown_alloc w _ row).trans h2.2.1))
theorem OwnC.ext {w : World} {B : Nat} {a : Option Addr} {n c : Nat} {xs : List Int} {row : Option Nat} (h : OwnC w B (.slice a n c) xs row) : n = xs.length ∧ n ≤ c ∧ (a = none → n = 0 ∧ c = 0) ∧ (a = none ∨ ∃ b o, a = some ⟨b, o, none⟩ ∧ b < w.heap.size) := by
  rcases h with ⟨_, a', e, hi, hl, hb⟩ | ⟨g, cap, cur, _, e, _, hg, hn, _⟩
  · cases e
    refine ⟨rfl, Nat.le_refl _, fun e => ?_, hb⟩
    subst e
    cases xs with
    | nil => exact ⟨rfl, rfl⟩
    | cons y r =>
      obtain ⟨_, _, e, _⟩ := hi.at_ (k := 0) (by simp)
      cases e
  · cases e
    exact ⟨rfl, hn, fun e => (by cases e), .inr ⟨g, 0, rfl, (Array.getElem?_eq_some_iff.1 hg).1⟩⟩
theorem OwnC.nil' (w : World) (B : Nat) : OwnC w B (.slice none 0 0) [] none := OwnC.full (xs := []) Row.nil (by simp) (.inl rfl)
end Go.Proofs.YtjjjohmppehejaaGreat

namespace Go.Proofs.YtjjjohmppehejaaGreat
open Go.RowKit Plain
set_option maxHeartbeats 400000 in
theorem indexP_calls (a : Option Addr) (c : Nat) (s : List Int) (p : Int) (w : World) (hs : Ints w a s) :
    Calls Tryz.prog 71 #[.slice a s.length c, .int .i64 p] w fun e w' => (∃ i : Int, e = .returned (.int .i64 i) ∧ decide (0 ≤ i) = decide (p ∈ s)) ∧ w' = w := by
  have hA := Lib.hid hs
  have hmx := hs.len
  clear hs
  obtain ⟨L, hL⟩ : ∃ L, L = s.length := ⟨_, rfl⟩
  rw [← hL] at hmx ⊢
  have HL := Lib.hid hL
  clear hL
  go_enter Tryz.func71, Tryz.ntmps71
  go_wp2
  go_loop [8] (fun i => ∃ k : Nat, k ≤ L ∧ i = .int .i64 k ∧ (p ∈ s ↔ p ∈ s.drop k)) (fun i => L - (intOf i).toNat)
  case atStart => exact ⟨0, Nat.zero_le _, rfl, Iff.rfl⟩
  case round =>
    obtain ⟨k, hk, rfl, he⟩ := hrel
    have He := Lib.hid he
    clear he
    by_cases hlt : k < L
    · have hkm : k < s.length := by rw [← HL.out]; exact hlt
      obtain ⟨g, o, rfl, hg, hc⟩ := hA.out.at_ (k := k) hkm
      have hd : s.drop k = (s[k]?.getD 0) :: s.drop (k + 1) := drop_cons hkm
      obtain ⟨r, hr⟩ : ∃ r, s[k]?.getD 0 = r := ⟨_, rfl⟩
      rw [hr] at hc hd
      have he2 : p ∈ s ↔ p = r ∨ p ∈ s.drop (k + 1) := by rw [He.out, hd, List.mem_cons]
      have H := Lib.hid he2
      clear hd hr he2 hkm
      by_cases hb : p = r
      · subst hb
        go_wp2
        go_ret
        refine ⟨⟨(k : Int), rfl, ?_⟩, rfl⟩
        exact ⟨fun _ => H.out.2 (.inl (by first | rfl | trivial)), fun _ => by omega⟩
      · have hb' : (p == r) = false := by simpa using hb
        have H2 := Lib.hid (H.out.trans (or_iff_right hb))
        go_wp2
        exact ⟨⟨k + 1, by omega, by go_num, H2.out⟩, by simp [intOf]; omega⟩
    · go_wp2
      go_ret
      refine ⟨⟨-1, rfl, ?_⟩, rfl⟩
      refine ⟨fun h => (by omega), fun h => ?_⟩
      have := He.out.1 h
      rw [List.drop_eq_nil_of_le (by rw [← HL.out]; omega)] at this
      simp at this
theorem containsP_calls (a : Option Addr) (c : Nat) (s : List Int) (p : Int) (w : World) (hs : Ints w a s) :
    Calls Tryz.prog 55 #[.slice a s.length c, .int .i64 p] w fun e w' => e = .returned (.bool (decide (p ∈ s))) ∧ w' = w := by
  have hc := Lib.hid (indexP_calls a c s p w hs)
  clear hs
  obtain ⟨L, hL⟩ : ∃ L, L = s.length := ⟨_, rfl⟩
  rw [← hL] at hc ⊢
  clear hL
  go_enter Tryz.func55, Tryz.ntmps55
  go_wp2_with (go_at_call 71; refine hc.out.mono ?_; rintro e w' ⟨⟨i, rfl, hi⟩, rfl⟩; have Hi := Lib.hid hi; clear hi)
  go_ret
  exact ⟨ret_bool Hi.out, rfl⟩
set_option maxHeartbeats 400000 in
theorem cloneP_calls (a : Option Addr) (c : Nat) (xs : List Int) (w : World) (ha : Ints w a xs) (hn : xs.length ≤ 1000000) :
    Calls Tryz.prog 54 #[.slice a xs.length c] w fun e w' => ∃ v, e = .returned v ∧ Own w' w.heap.size v 3 (ints xs) ∧ Below w.heap.size w w' := by
  have hA := Lib.hid ha
  clear ha
  obtain ⟨n, hnx⟩ : ∃ n, n = xs.length := ⟨_, rfl⟩
  rw [← hnx] at hn ⊢
  have Hn := Lib.hid hnx
  clear hnx
  obtain ⟨i3, hi3, hz3, hs3, hb3⟩ := info_parts Tryz.info3
  have I3 := Lib.hid (And.intro hi3 (And.intro hz3 (And.intro hs3 hb3)))
  clear hi3 hz3 hs3 hb3
  cases a with
  | none =>
    have h0 : xs = [] := by
      cases hx : xs with
      | nil => rfl
      | cons x r =>
        have := hA.out.at_ (k := 0) (by rw [hx]; simp)
        obtain ⟨_, _, e, _⟩ := this
        cases e
    have hn0 : n = 0 := by rw [Hn.out, h0]; rfl
    subst hn0
    have he := fun W : World => Lib.run_eql_slice_nil (P := Tryz.prog) W 40 3 none 0 c 0 0 Tryz.underlying40
    go_enter Tryz.func54, Tryz.ntmps54
    go_wp2
    go_ret
    exact ⟨_, rfl, by rw [h0]; exact Own.nil _ _ _, Below.refl _ _⟩
  | some ad =>
    have he := fun W : World => Lib.run_eql_slice_nil (P := Tryz.prog) W 40 3 (some ad) n c 0 0 Tryz.underlying40
    have hem := Own.new (w := w) (B := w.heap.size) 3 [] (Nat.le_refl _) (Nat.zero_le _)
    have hb : Below w.heap.size w (w.alloc (.cells #[] 3)) := (Below.refl _ _).alloc (Nat.le_refl _) _
    have H := Lib.hid (And.intro hem (And.intro hb (hA.out.below hb)))
    clear hem hb
    go_enter Tryz.func54, Tryz.ntmps54
    go_wp2_with (at_builtin; refine appA rfl (.tmp 5) (.tmp 6) 40 3 rfl i3 (.int .i64 0) 8 Tryz.underlying40 I3.out.1 I3.out.2.1 I3.out.2.2.1 I3.out.2.2.2 rfl (by omega) w.heap.size (.slice (some ⟨w.heap.size, 0, none⟩) 0 0) [] (ints xs) rfl H.out.1 ad n c rfl (by rw [ints_len, ← Hn.out]) H.out.2.2.src (ints_one xs) (by simp; omega) H.out.2.1.size ?_; intro v' w' h2 h3; have H9 := Lib.hid (And.intro h2 h3); clear h2 h3)
    go_ret
    refine ⟨_, rfl, H9.out.1, H.out.2.1.grown H9.out.2 H.out.2.1.size (fun k hk => by cases hk; exact Nat.le_refl _)⟩
theorem run_clip {W : World} {a : Option Addr} {n c : Nat} (hc : n ≤ c) (hm : n ≤ 1000000) (ha : a = none → n = 0 ∧ c = 0) : (Instr.slice 40 (.slice a n c) none (some (.int .i64 n)) (some (.int .i64 n))).run Tryz.prog W = .ok (.slice a n n) W := by
  obtain ⟨i3, hi3, hz3, hs3, hb3⟩ := info_parts Tryz.info3
  cases a with
  | none =>
    obtain ⟨rfl, rfl⟩ := ha rfl
    simp [Instr.slice, run_underlying Tryz.underlying40, Instr.sliceBounds, run_sliceBound, sizeOf, typeInfo, hi3, hs3]
  | some ad =>
    simp [Instr.slice, run_underlying Tryz.underlying40, Instr.sliceBounds, run_sliceBound, sizeOf, typeInfo, hi3, hs3, hc]
    intro _; simp [Addr.add]
theorem clip_calls {w : World} {a : Option Addr} {n c : Nat} (hnc : n ≤ c) (hn : n ≤ 1000000) (ha : a = none → n = 0 ∧ c = 0) :
    Calls Tryz.prog 56 #[.slice a n c] w fun e w' => e = .returned (.slice a n n) ∧ w' = w := by
  have hcl : ∀ W : World, (Instr.slice 40 (.slice a n c) none (some (.int .i64 n)) (some (.int .i64 n))).run Tryz.prog W = .ok (.slice a n n) W := fun W => run_clip hnc hn ha
  clear ha hnc
  go_enter Tryz.func56, Tryz.ntmps56
  go_wp2
  go_ret
  exact ⟨rfl, rfl⟩
theorem run_upto {W : World} {a : Option Addr} {i n c : Nat} (hi : i ≤ n) (hc : n ≤ c) (hm : n ≤ 1000000) (ha : a = none → n = 0 ∧ c = 0) : (Instr.slice 40 (.slice a n c) none (some (.int .i64 i)) none).run Tryz.prog W = .ok (.slice a i c) W := by
  obtain ⟨i3, hi3, hz3, hs3, hb3⟩ := info_parts Tryz.info3
  cases a with
  | none =>
    obtain ⟨rfl, rfl⟩ := ha rfl
    obtain rfl : i = 0 := by omega
    simp [Instr.slice, run_underlying Tryz.underlying40, Instr.sliceBounds, run_sliceBound, sizeOf, typeInfo, hi3, hs3]
  | some ad =>
    simp [Instr.slice, run_underlying Tryz.underlying40, Instr.sliceBounds, run_sliceBound, sizeOf, typeInfo, hi3, hs3, hc, show i ≤ c by omega]
    intro _; simp [Addr.add]
end Go.Proofs.YtjjjohmppehejaaGreat
