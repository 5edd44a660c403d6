/- The reference's table in memory: made empty, a permutation inserted, its entries. -/
import Derived.Test.YtbejhkojdiadaaaGreatChnW
import Derived.Test.YtbejhkojdiadaaaGreatSame
set_option linter.unusedSimpArgs false
set_option linter.unusedVariables false
namespace Go.Proofs.YtbejhkojdiadaaaGreat
open Go.RowKit PlainPm
/-- The rows' blocks, and one block more (R n) that no entry lies in. -/
def rowsM (n : Nat) (R : Nat → Nat) : List Nat := (List.range (n + 1)).map R
theorem mem_rowsM {n : Nat} {R : Nat → Nat} {b : Nat} : b ∈ rowsM n R ↔ ∃ i, i < n + 1 ∧ R i = b := by simp [rowsM]
/-- A table in memory: its rows' slices in block g, row i in block R i. -/
structure TabW (n B g : Nat) (w : World) (R : Nat → Nat) (t : Nat → Nat → Option (Pm n)) : Prop where
  hn : 0 < n ∧ n ≤ 64
  top : ∀ i, i < n → w.cell? ⟨g, i, none⟩ = some (.slice (some ⟨R i, 0, none⟩) n n)
  tg : g < w.heap.size ∧ g ∉ rowsM n R
  row : ∀ i, i < n → ∃ F, w.rowIs (R i) 27 n F ∧ ∀ p, p < n → OptV w (rowsM n R) (F p) (t i p)
  dis : ∀ i j, i < n → j < n → R i = R j → i = j
  low : ∀ i, i < n → B ≤ R i
  ex : R n < w.heap.size
section
variable {n B g : Nat} {w w' : World} {R : Nat → Nat} {t : Nat → Nat → Option (Pm n)}
theorem TabW.below (h : TabW n B g w R t) (k : Below w.heap.size w w') : TabW n B g w' R t :=
  ⟨h.hn, fun i hi => (k.cell (p := ⟨g, i, none⟩) h.tg.1).trans (h.top i hi), ⟨Nat.lt_of_lt_of_le h.tg.1 k.size, h.tg.2⟩, fun i hi => by
    obtain ⟨F, h1, h2⟩ := h.row i hi
    exact ⟨F, h1.of_block (k.block _ h1.lt), fun p hp => OptV.stp (h2 p hp) (Stp.below k)⟩, h.dis, h.low, Nat.lt_of_lt_of_le h.ex k.size⟩
theorem TabW.at_ (h : TabW n B g w R t) {i p : Nat} (hi : i < n) (hp : p < n) : ∃ v, w.cell? ⟨R i, p, none⟩ = some v ∧ w.frozen? ⟨R i, p, none⟩ = false ∧ OptV w (rowsM n R) v (t i p) := by
  obtain ⟨F, h1, h2⟩ := h.row i hi
  exact ⟨F p, h1.cell hp, h1.frozen p, h2 p hp⟩
theorem TabW.gB (h : TabW n B g w R t) : B ≤ w.heap.size := by
  obtain ⟨F, h1, _⟩ := h.row 0 h.hn.1
  have := h1.lt; have := h.low 0 h.hn.1; omega
theorem TabW.mlt (h : TabW n B g w R t) : ∀ m ∈ rowsM n R, m < w.heap.size := fun m hm => by
  obtain ⟨i, hi, rfl⟩ := mem_rowsM.1 hm
  by_cases e : i = n
  · rw [e]; exact h.ex
  · obtain ⟨F, h1, _⟩ := h.row i (by omega)
    exact h1.lt
/-- The table's own blocks stand; the block R n may change, or be another. -/
theorem TabW.move (h : TabW n B g w R t) {R' : Nat → Nat} (hb : ∀ i, i < n → w'.heap[R i]? = w.heap[R i]?) (hg : w'.heap[g]? = w.heap[g]?) (k : Stp w (rowsM n R) w' (rowsM n R')) (hR : ∀ i, i < n → R' i = R i) (hx : R' n < w'.heap.size) (hgR : g ≠ R' n) : TabW n B g w' R' t :=
  ⟨h.hn, fun i hi => by rw [hR i hi, World.cell?_of_block (w := w) hg]; exact h.top i hi, ⟨Nat.lt_of_lt_of_le h.tg.1 k.kept.size, fun hm => by
    obtain ⟨i, hi, e⟩ := mem_rowsM.1 hm
    by_cases e1 : i = n
    · subst e1; exact hgR e.symm
    · exact h.tg.2 (mem_rowsM.2 ⟨i, hi, by rw [← hR i (by omega)]; exact e⟩)⟩, fun i hi => by
    obtain ⟨F, h1, h2⟩ := h.row i hi
    exact ⟨F, by rw [hR i hi]; exact h1.of_block (hb i hi), fun p hp => OptV.stp (h2 p hp) k⟩, fun i j hi hj e => h.dis i j hi hj (by rw [← hR i hi, ← hR j hj]; exact e), fun i hi => by rw [hR i hi]; exact h.low i hi, hx⟩
theorem TabW.set (h : TabW n B g w R t) {a p : Nat} {v : Value} {r : Pm n} (ha : a < n) (hp : p < n) (hv : PmV w (rowsM n R) v r) :
    TabW n B g (w.setCell ⟨R a, p, none⟩ v) R (setE t a p r) ∧ Stp w (rowsM n R) (w.setCell ⟨R a, p, none⟩ v) (rowsM n R) := by
  have k : Stp w (rowsM n R) (w.setCell ⟨R a, p, none⟩ v) (rowsM n R) := ⟨Kept.ofGrown (grown_put p v) (fun b e => by cases e; exact mem_rowsM.2 ⟨a, Nat.lt_succ_of_lt ha, rfl⟩), fun m hm => .inl hm⟩
  have hs : (w.setCell ⟨R a, p, none⟩ v).heap.size = w.heap.size := by simp [World.setCell]
  refine ⟨⟨h.hn, fun i hi => ?_, ⟨by rw [hs]; exact h.tg.1, h.tg.2⟩, fun i hi => ?_, h.dis, h.low, by rw [hs]; exact h.ex⟩, k⟩
  · rw [cell_set_other (by intro e; cases e; exact h.tg.2 (mem_rowsM.2 ⟨a, Nat.lt_succ_of_lt ha, rfl⟩))]; exact h.top i hi
  · obtain ⟨F, h1, h2⟩ := h.row i hi
    by_cases e : i = a
    · subst e
      refine ⟨_, h1.set p v, fun q hq => ?_⟩
      unfold setE
      by_cases e2 : q = p
      · subst e2; rw [if_pos rfl, if_pos ⟨rfl, rfl⟩]; exact hv.stp k
      · rw [if_neg e2, if_neg (fun h => e2 h.2)]; exact OptV.stp (h2 q hq) k
    · refine ⟨F, h1.setOther (fun e2 => e (h.dis i a hi ha e2)) v, fun q hq => ?_⟩
      unfold setE
      rw [if_neg (fun h => e h.1)]; exact OptV.stp (h2 q hq) k
end
/-- The rows that are made so far. -/
structure PreW (n B : Nat) (w : World) (v : Value) (R : Nat → Nat) (k : Nat) : Prop where
  own : Own w B v 44 ((List.range k).map fun i => .slice (some ⟨R i, 0, none⟩) n n)
  row : ∀ i, i < k → w.rowIs (R i) 27 n (fun _ => .slice none 0 0) ∧ B ≤ R i
  dis : ∀ i j, i < k → j < k → R i = R j → i = j
theorem Own.rowIs {w : World} {B g n c : Nat} {e : TypeId} {z : Value} (h : Own w B (.slice (some ⟨g, 0, none⟩) n c) e (List.replicate n z)) (hc : c = n) : w.rowIs g e n (fun _ => z) := by
  rcases h.2 with ⟨h1, _⟩ | ⟨g', cap, cur, h1, _, hh, _, _, hcs, htk⟩
  · cases h1
  · have e1 : g = g' := by injection h1 with h1; injection h1 with h1; injection h1
    have e2 : c = cap := by injection h1
    subst e1
    subst e2
    rw [Nat.mul_one] at hcs htk
    rw [List.length_replicate] at htk
    refine ⟨cur, hh, by omega, fun i hi => ?_⟩
    have : cur.toList[i]? = some z := by
      have h2 : (cur.toList.take n)[i]? = some z := by rw [htk, List.getElem?_replicate, if_pos hi]
      rw [List.getElem?_take, if_pos hi] at h2; exact h2
    rwa [Array.getElem?_toList] at this
theorem rowIs_grown {w w' : World} {B b n : Nat} {F : Nat → Value} {v : Value} {xs : List Value} (h : w.rowIs b 27 n F) (ho : Own w B v 44 xs) (hg : w.grownBy w' v.ownBlock) : w'.rowIs b 27 n F := by
  refine h.of_block (hg.block b h.lt (fun e => ?_))
  obtain ⟨c, hb, _⟩ := h
  rcases ho.blk with e1 | ⟨g, cur, e1, _, _, hh⟩
  · rw [e1] at e; cases e
  · rw [e1] at e; cases e; rw [hb] at hh; cases hh
theorem Tryz.info44' : (Tryz.prog.info? 44).map (fun i => (i.zero, i.size, i.bytes)) = some (some (.slice none 0 0), 1, 24) := Tryz.info44
set_option maxRecDepth 100000 in
set_option maxHeartbeats 1000000 in
theorem empty128 {n : Nat} (hn : 0 < n ∧ n ≤ 64) {w : World} :
    Calls Tryz.prog 128 #[.int .i64 (n : Int)] w fun e w' => ∃ g c R, e = .returned (.slice (some ⟨g, 0, none⟩) n c) ∧ TabW n w.heap.size g w' R (fun _ _ => none) ∧ w.heap.size ≤ g ∧ Below w.heap.size w w' := by
  obtain ⟨i27, hi27, hz27, hs27, hb27⟩ := info_parts Tryz.info27
  obtain ⟨i44, hi44, hz44, hs44, hb44⟩ := info_parts Tryz.info44
  have I27 := Lib.hid (And.intro hi27 (And.intro hz27 (And.intro hs27 hb27)))
  have I44 := Lib.hid (And.intro hi44 (And.intro hz44 (And.intro hs44 hb44)))
  clear hi27 hz27 hs27 hb27 hi44 hz44 hs44 hb44
  have hn1 := hn.2
  go_enter Tryz.func128, Tryz.ntmps128
  go_wp2
  go_loopw [3, 4] (fun v i wr => ∃ (k : Nat) (R : Nat → Nat), k ≤ n ∧ i = .int .i64 (k : Int) ∧ PreW n w.heap.size wr v R k ∧ Below w.heap.size w wr) (fun _ i _ => n - (intOf i).toNat)
  case atStart => exact ⟨0, fun _ => 0, by omega, rfl, ⟨Own.nil _ _ _, fun i hi => by omega, fun i j hi => by omega⟩, Below.refl _ _⟩
  case round =>
    obtain ⟨k, R, hk, rfl, hP, hb⟩ := hrel
    have hsz := hb.size
    have HP := Lib.hid (And.intro hP hb)
    clear hP hb
    by_cases hkn : k < n
    · go_wp2_with (first
        | (at_make; refine mk1 rfl _ _ 44 27 rfl i27 (.slice none 0 0) 24 Tryz.underlying44 I27.out.1 I27.out.2.1 I27.out.2.2.1 I27.out.2.2.2 rfl (by omega) w.heap.size n rfl rfl (by omega) hsz ?_; intro w1 hd hg hz1; have H1 := Lib.hid (And.intro hd (And.intro hg hz1)); clear hd hg hz1)
        | (at_builtin; refine app1 rfl (.tmp 10) (.tmp 13) 140 44 rfl i44 (.slice none 0 0) 24 Tryz.underlying140 I44.out.1 I44.out.2.1 I44.out.2.2.1 I44.out.2.2.2 rfl (by omega) w.heap.size (.slice (some ⟨wr.heap.size, 0, none⟩) n n) u3 _ rfl (HP.out.1.own.kept H1.out.2.1 (by rcases HP.out.1.own.blk with e | ⟨g9, _, e, _⟩ <;> rw [e] <;> simp)) rfl rfl (by simp; omega) (by have := H1.out.2.2; omega) ?_; intro v8 w8 k1 k2 k3; have H8 := Lib.hid (And.intro k1 (And.intro k2 k3)); clear k1 k2 k3))
      have hown1 := HP.out.1.own.kept H1.out.2.1 (by rcases HP.out.1.own.blk with e | ⟨g9, _, e, _⟩ <;> rw [e] <;> simp)
      have hnew := Own.rowIs H1.out.1 rfl
      have hb1 : Below wr.heap.size wr w1 := (Below.refl _ wr).grown H1.out.2.1 (Nat.le_refl _) (by simp)
      refine ⟨⟨k + 1, fun i => if i = k then wr.heap.size else R i, by omega, by go_num, ⟨?_, fun i hi => ?_, fun i j hi hj e => ?_⟩, ?_⟩, by simp [intOf]; omega⟩
      · have h8 := H8.out.1
        rw [List.range_succ, List.map_append]
        have e : (List.range k).map (fun i => Value.slice (some ⟨(if i = k then wr.heap.size else R i), 0, none⟩) n n) = (List.range k).map (fun i => Value.slice (some ⟨R i, 0, none⟩) n n) := by
          apply List.map_congr_left
          intro i hi
          rw [if_neg (by have := List.mem_range.1 hi; omega)]
        rw [e]
        simpa using h8
      · by_cases e : i = k
        · simp only [e, if_true]
          exact ⟨rowIs_grown hnew hown1 H8.out.2.1, hsz⟩
        · simp only [e, if_false]
          obtain ⟨r1, r2⟩ := HP.out.1.row i (by omega)
          exact ⟨rowIs_grown (r1.of_block (hb1.block _ r1.lt)) hown1 H8.out.2.1, r2⟩
      · by_cases e1 : i = k <;> by_cases e2 : j = k
        · omega
        · simp only [e1, e2, if_true, if_false] at e
          have := (HP.out.1.row j (by omega)).1.lt; omega
        · simp only [e1, e2, if_true, if_false] at e
          have := (HP.out.1.row i (by omega)).1.lt; omega
        · simp only [e1, e2, if_false] at e
          exact HP.out.1.dis i j (by omega) (by omega) e
      · exact (HP.out.2.trans (hb1.mono hsz)).grown H8.out.2.1 (Nat.le_trans hsz hb1.size) (fun g hg => (hown1.block_lt hg).2)
    · obtain rfl : k = n := by omega
      go_wp2
      go_ret
      obtain ⟨g, c, hv, hg1, hg2, _⟩ := HP.out.1.own.form (by simp; omega)
      have hown := HP.out.1.own
      rw [hv] at hown ⊢
      have hl : ((List.range k).map fun i => Value.slice (some ⟨R i, 0, none⟩) k k).length = k := by simp
      rw [hl] at hown ⊢
      refine ⟨g, c, fun i => if i = k then R 0 else R i, rfl, ⟨hn, fun i hi => ?_, ⟨hg2, fun hm => ?_⟩, fun i hi => ⟨_, by simp only [if_neg (Nat.ne_of_lt hi)]; exact (HP.out.1.row i hi).1, fun p hp => rfl⟩, fun i j hi hj => by simp only [if_neg (Nat.ne_of_lt hi), if_neg (Nat.ne_of_lt hj)]; exact HP.out.1.dis i j hi hj, fun i hi => by simp only [if_neg (Nat.ne_of_lt hi)]; exact (HP.out.1.row i hi).2, by simp only [if_true]; exact (HP.out.1.row 0 hn.1).1.lt⟩, hg1, HP.out.2⟩
      · simp only [if_neg (Nat.ne_of_lt hi)]; rw [hown.cell i (by rw [hl]; exact hi), List.getElem?_map, List.getElem?_range hi]; rfl
      · obtain ⟨i, hi, e⟩ : ∃ i, i < k ∧ R i = g := by
          obtain ⟨i, hi, e⟩ := mem_rowsM.1 hm
          by_cases e1 : i = k
          · rw [if_pos e1] at e; exact ⟨0, hn.1, e⟩
          · rw [if_neg e1] at e; exact ⟨i, by omega, e⟩
        obtain ⟨cc, hb, _⟩ := (HP.out.1.row i hi).1
        rcases hown.blk with e1 | ⟨g9, cur, e1, _, _, hh⟩
        · cases e1
        · cases e1; rw [e, hh] at hb; cases hb
end Go.Proofs.YtbejhkojdiadaaaGreat
