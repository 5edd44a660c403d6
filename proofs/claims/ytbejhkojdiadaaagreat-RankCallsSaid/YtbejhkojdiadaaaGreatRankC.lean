/- rank's choices, step and least. -/
import Derived.Test.YtbejhkojdiadaaaGreatRankB
import Derived.Test.YtbejhkojdiadaaaGreatSorted
set_option linter.unusedSimpArgs false
set_option linter.unusedVariables false
namespace Go.Proofs.YtbejhkojdiadaaaGreat
open Go.RowKit PlainPm
section
variable {P : Program} {w : World}
/-- make([]T, 0, n). -/
theorem mkCap {ops : Array Oper} {rest : List Oper} {o : Oper} {a : Act} {Q : Exit → Act → World → Prop}
    (hg : o.guard = none) (l c : Operand) (T e : TypeId) (hop : o.op = Op.makeSlice T l c)
    (i : TypeInfo) (z : Value) (bytes : Nat) (ht : P.underlying T = some (.slice e)) (hi : P.info? e = some i) (hz : i.zero = some z) (hsize : i.size = 1) (hby : i.bytes = bytes) (hzs : z.cells = #[z]) (hb64 : bytes ≤ 64)
    (B : Nat) (n : Nat) (hl : a.eval l = .int .i64 0) (hc : a.eval c = .int .i64 n) (hn : n < 1099511627776) (hB : B ≤ w.heap.size)
    (hK : ∀ w', Own w' B (.slice (some ⟨w.heap.size, 0, none⟩) 0 n) e [] → w.grownBy w' none → w'.heap.size = w.heap.size + 1 → wpList P ops Q rest (a.put o.dst (.slice (some ⟨w.heap.size, 0, none⟩) 0 n)) w') :
    wpList P ops Q (o :: rest) a w := by
  refine wpList_plain hg fun K hK' => ?_
  have h63 : n ≤ maxLen := by unfold maxLen; omega
  have hb' : (i.bytes : Int) * (n : Int) ≤ 281474976710656 := by
    have h := Nat.mul_le_mul_right n (by rw [hby]; exact hb64 : i.bytes ≤ 64)
    have h : ((i.bytes * n : Nat) : Int) ≤ 281474976710656 := by omega
    rwa [Int.natCast_mul] at h
  have hr := run_make (P := P) w T e i z ht hi hz .i64 .i64 0 n (by omega) (by omega) hb' (by omega)
  simp only [Int.toNat_natCast] at hr
  unfold Oper.wp
  simp [execOp, hop, hl, hc, hr, Result.andThen]
  refine hK' _ _ (hK _ ?_ (grown_alloc w _ none) (by simp))
  exact ⟨rfl, .inr ⟨w.heap.size, n, madeCells z.cells (n * i.size), rfl, hB, World.alloc_heap_new w _, Nat.zero_le _, h63, by rw [size_madeCells, hsize], by simp⟩⟩
end
theorem below_drew {B : Nat} {a w : World} (h : Below B a w) : Below B a w.drew := ⟨h.os, h.tape, h.output, h.size, h.block⟩
theorem keep4 {V A B : World} {p1 p2 p3 p4 : Addr} {u1 u2 u3 u4 : Value} (h : A.cell? p1 = some u1 ∧ A.cell? p2 = some u2 ∧ A.cell? p3 = some u3 ∧ A.cell? p4 = some u4 ∧ Below V.heap.size V A) (k : Below A.heap.size A B) :
    B.cell? p1 = some u1 ∧ B.cell? p2 = some u2 ∧ B.cell? p3 = some u3 ∧ B.cell? p4 = some u4 ∧ Below V.heap.size V B :=
  ⟨(k.cell (block_lt_of_cell h.1)).trans h.1, (k.cell (block_lt_of_cell h.2.1)).trans h.2.1, (k.cell (block_lt_of_cell h.2.2.1)).trans h.2.2.1, (k.cell (block_lt_of_cell h.2.2.2.1)).trans h.2.2.2.1, below_trans h.2.2.2.2 k⟩
theorem bx1 {W : World} {k : Nat} {v : Value} {e : TypeId} (h : W.heap[k]? = some (.cells #[v] e (0, 0))) : W.cell? ⟨k, 0, none⟩ = some v ∧ W.frozen? ⟨k, 0, none⟩ = false := by
  constructor <;> simp [World.cell?, World.frozen?, h]
theorem pm_box {n : Nat} (hn : 0 < n) {W : World} {k : Nat} {a : Option Addr} {l c : Nat} {u v : Value} {x : Pm n} (h : PmV W [] v x) (hk : W.heap[k]? = some (.cells #[.slice a l c] 27 (0, 0))) : PmV (W.setCell ⟨k, 0, none⟩ u) [] v x := by
  obtain ⟨b, o, c', rfl, h1, h2, h3⟩ := h
  have hne : b ≠ k := by
    rintro rfl
    have := h3 0 hn
    simp only [World.cell?, hk] at this
    match o, this with
    | 0, this => simp at this
    | o + 1, this => simp at this
  refine ⟨b, o, c', rfl, h1, by simpa [World.setCell] using h2, fun i hi => ?_⟩
  rw [← h3 i hi]
  exact World.cell?_of_block (w := W) (Below.heap_setCell _ _ _ _ hne)
theorem cell_al (V : World) (u : Value) (t : TypeId) (X : Nat) (hX : V.heap.size = X) : (V.alloc (.cells #[u] t)).cell? ⟨X, 0, none⟩ = some u := by
  subst hX
  have := World.alloc_heap_new V (.cells #[u] t)
  simp only [World.cell?, this]; rfl
theorem cell_al_old (V : World) (o : Obj) {p : Addr} {u : Value} (h : V.cell? p = some u) : (V.alloc o).cell? p = some u := ((alloc_b (Below.refl V.heap.size V) o).cell (block_lt_of_cell h)).trans h
set_option maxRecDepth 100000 in
set_option maxHeartbeats 1000000 in
theorem choices61 {n ab ao c bb bo e i : Nat} {y : Pm n} {va : Value} {O : Nat → List Nat} {R : Nat → Nat → Pm n} (hi : i < n) (hl : ∀ p ∈ O i, p < n) {w : World} (h : LvW n w O R ab ao bb bo) (hy : PmV w [] va y) :
    Calls Tryz.prog 61 #[cv n ab ao c bb bo e, va, .int .i64 (i : Int)] w fun e w' => ∃ v, e = .returned v ∧ Own w' w.heap.size v 3 (ints (srtI (nts ((O i).map y.at)))) ∧ Below w.heap.size w w' := by
  obtain ⟨i3, hi3, hz3, hs3, hb3⟩ := info_parts Tryz.info3
  have I3 := Lib.hid (And.intro hi3 (And.intro hz3 (And.intro hs3 hb3)))
  clear hi3 hz3 hs3 hb3
  obtain ⟨yb, yo, yc, rfl, hyM, hyb, hyc⟩ := hy
  obtain ⟨vo, ho, g, o, oc, rfl, hg, h64, hcap, hoc⟩ := h.orb i hi
  obtain ⟨X, hX⟩ : ∃ X, w.heap.size = X := ⟨_, rfl⟩
  have hB0 := BoxW.start w X n ab ao c bb bo e hX
  obtain ⟨W1, hW1⟩ : ∃ W1, W1 = w.alloc (.cells #[.int .i64 (n : Int), .slice (some ⟨ab, ao, none⟩) n c, .slice (some ⟨bb, bo, none⟩) n e] 25) := ⟨_, rfl⟩
  rw [← hW1] at hB0
  have hs1 : W1.heap.size = X + 1 := by rw [hW1, ← hX]; simp
  have habX := block_lt_of_cell ho
  obtain ⟨L, hL⟩ : ∃ L, (O i).length = L := ⟨_, rfl⟩
  rw [hL] at ho h64
  have hwW1 : Below w.heap.size w W1 := by rw [hX]; exact hB0.bel
  have c1 : W1.cell? ⟨ab, ao + i, none⟩ = some (.slice (some ⟨g, o, none⟩) L oc) := (hwW1.cell habX).trans ho
  rw [hW1] at c1
  obtain ⟨z0, z1, z2⟩ : W1.cell? ⟨X, 0, none⟩ = some (.int .i64 (n : Int)) ∧ W1.cell? ⟨X, 1, none⟩ = some (.slice (some ⟨ab, ao, none⟩) n c) ∧ W1.cell? ⟨X, 2, none⟩ = some (.slice (some ⟨bb, bo, none⟩) n e) := ⟨hB0.c0, hB0.c1, hB0.c2⟩
  have H := Lib.hid (And.intro hl (And.intro hyb (And.intro hyc (And.intro hg (And.intro hoc (And.intro hL (And.intro hB0 (And.intro hs1 (And.intro hX (And.intro ho habX))))))))))
  clear hl hyb hyc hg hoc hL hB0 hs1 ho h hwW1 habX hcap hyM
  go_enter Tryz.func61, Tryz.ntmps61
  try rw [hX]
  go_wp2_with (at_make; (try rw [← hW1]); refine mkCap rfl _ _ 26 3 rfl i3 (.int .i64 0) 8 Tryz.underlying26 I3.out.1 I3.out.2.1 I3.out.2.2.1 I3.out.2.2.2 rfl (by omega) W1.heap.size L rfl rfl (by omega) (Nat.le_refl _) ?_; intro w1 hd hg hz1; rw [H.out.2.2.2.2.2.2.2.1] at hd hz1 ⊢; have hB1 := H.out.2.2.2.2.2.2.1.below (Below.refl _ _ |>.grown hg (by have := H.out.2.2.2.2.2.2.2.1; omega) (by simp)); have b0 := hB1.c0; have b1 := hB1.c1; have b2 := hB1.c2; have d1 : w1.cell? ⟨ab, ao + i, none⟩ = some (.slice (some ⟨g, o, none⟩) L oc) := (hB1.bel.cell (by rw [← H.out.2.2.2.2.2.2.2.2.1]; exact H.out.2.2.2.2.2.2.2.2.2.2)).trans H.out.2.2.2.2.2.2.2.2.2.1; have H1 := Lib.hid (And.intro hd (And.intro hB1 hz1)); clear hd hg hz1 hB1)
  go_loopw [7, 9, 23] (fun v _ j wr => ∃ (k : Nat), k ≤ L ∧ j = .int .i64 (k : Int) ∧ Own wr (X + 1) v 3 (ints (nts (((O i).take k).map y.at))) ∧ Below X w wr ∧ X + 1 ≤ wr.heap.size) (fun _ _ j _ => L - (intOf j).toNat)
  case atStart => exact ⟨0, by omega, rfl, H1.out.1, H1.out.2.1.bel, H1.out.2.1.lt⟩
  case round =>
    obtain ⟨k, hk, rfl, ho, hb, hXs⟩ := hrel
    by_cases hkl : k < L
    · obtain ⟨p, hp⟩ : ∃ p, (O i)[k]? = some p := ⟨_, List.getElem?_eq_getElem (by rw [H.out.2.2.2.2.2.1]; exact hkl)⟩
      have hpn := H.out.1 p (List.mem_of_getElem? hp)
      have q1 : wr.cell? ⟨g, o + k, none⟩ = some (.int .i64 (p : Int)) := (hb.cell (p := ⟨g, o + k, none⟩) (by rw [← H.out.2.2.2.2.2.2.2.2.1]; exact H.out.2.2.2.1)).trans (H.out.2.2.2.2.1 k p hp)
      have q2 : wr.cell? ⟨yb, yo + p, none⟩ = some (.int .i64 (y.at p : Int)) := (hb.cell (p := ⟨yb, yo + p, none⟩) (by rw [← H.out.2.2.2.2.2.2.2.2.1]; exact H.out.2.1)).trans (H.out.2.2.1 p hpn)
      obtain ⟨z, hz⟩ : ∃ z, y.at p = z := ⟨_, rfl⟩
      rw [hz] at q2
      have hsz := hb.size
      rw [H.out.2.2.2.2.2.2.2.2.1] at hsz
      have hll : (ints (nts (((O i).take k).map y.at))).length = k := by rw [ints_len, nts_len, List.length_map, List.length_take, H.out.2.2.2.2.2.1]; omega
      have HP := Lib.hid (And.intro ho (And.intro hb (And.intro hp hz)))
      clear ho hb hp hz
      go_wp2_with (at_builtin; refine app1 rfl (.tmp 27) (.tmp 32) 26 3 rfl i3 (.int .i64 0) 8 Tryz.underlying26 I3.out.1 I3.out.2.1 I3.out.2.2.1 I3.out.2.2.2 rfl (by omega) (X + 1) (.int .i64 (z : Int)) _ _ rfl HP.out.1 rfl rfl (by rw [hll]; omega) hXs ?_; intro v8 w8 k1 k2 k3; have H8 := Lib.hid (And.intro k1 (And.intro k2 k3)); clear k1 k2 k3)
      refine ⟨⟨k + 1, by omega, by go_num, ?_, HP.out.2.1.grown H8.out.2.1 (by have := HP.out.2.1.size; have := H.out.2.2.2.2.2.2.2.2.1; omega) (fun g hg => by have := (HP.out.1.block_lt hg).2; omega), Nat.le_trans hXs H8.out.2.1.size⟩, by simp [intOf]; omega⟩
      have hs : ints (nts (((O i).take (k + 1)).map y.at)) = ints (nts (((O i).take k).map y.at)) ++ [.int .i64 (z : Int)] := by
        rw [List.take_add_one, HP.out.2.2.1]; simp [nts, ints, HP.out.2.2.2]
      rw [hs]; exact H8.out.1
    · obtain rfl : k = L := by omega
      have hk1 : ¬ (k : Int) < k := by omega
      rw [List.take_of_length_le (by rw [H.out.2.2.2.2.2.1]; exact Nat.le_refl _)] at ho
      have hso := sortI_calls (X + 1) u7 (nts ((O i).map y.at)) wr (by rw [nts_len, List.length_map, H.out.2.2.2.2.2.1]; omega) ho
      have hob : ∀ g, u7.ownBlock = some g → X ≤ g := fun g hg => by have := (ho.block_lt hg).2; omega
      have HS := Lib.hid (And.intro hso (And.intro hb hob))
      clear hso hb ho hob
      go_wp2_with (go_at_call 107; (with_reducible refine HS.out.1.mono ?_); rintro e1 w2 ⟨rfl, k1, k2⟩; have H2 := Lib.hid (And.intro k1 k2); clear k1 k2)
      go_ret
      exact ⟨_, rfl, H2.out.1.mono (by have := H.out.2.2.2.2.2.2.2.2.1; omega), HS.out.2.1.grown H2.out.2 (by have := HS.out.2.1.size; have := H.out.2.2.2.2.2.2.2.2.1; omega) HS.out.2.2⟩
set_option maxRecDepth 100000 in
set_option maxHeartbeats 1000000 in
theorem step62 {n ab ao c bb bo e i q : Nat} {y : Pm n} {va : Value} {O : Nat → List Nat} {R : Nat → Nat → Pm n} (hn : n ≤ 64) (hi : i < n) (hl : ∀ p ∈ O i, p < n) (hq : q ∈ O i) {w : World} (h : LvW n w O R ab ao bb bo) (hy : PmV w [] va y) :
    Calls Tryz.prog 62 #[cv n ab ao c bb bo e, va, .int .i64 (i : Int), .int .i64 (y.at q : Int)] w fun e w' => ∃ v, e = .returned v ∧ NewPm w w' v ((R i q).mul y) ∧ Below w.heap.size w w' := by
  obtain ⟨yb, yo, yc, rfl, hyM, hyb, hyc⟩ := id hy
  obtain ⟨vo, ho, hpo⟩ := h.orb i hi
  obtain ⟨vr, hr, hpr⟩ := h.rep i hi
  obtain ⟨X, hX⟩ : ∃ X, w.heap.size = X := ⟨_, rfl⟩
  obtain ⟨z, hz⟩ : ∃ z, y.at q = z := ⟨_, rfl⟩
  have hB0 := BoxW.start w X n ab ao c bb bo e hX
  obtain ⟨W3, hW3⟩ : ∃ W3, W3 = ((w.alloc (.cells #[.int .i64 (n : Int), .slice (some ⟨ab, ao, none⟩) n c, .slice (some ⟨bb, bo, none⟩) n e] 25)).alloc (.cells #[.slice (some ⟨yb, yo, none⟩) n yc] 27)).alloc (.cells #[.int .i64 (z : Int)] 3) := ⟨_, rfl⟩
  have hB3 : BoxW w X n ab ao c bb bo e W3 := by rw [hW3]; exact (hB0.below (alloc_b (Below.refl _ _) _ (by simp; omega))).below (alloc_b (Below.refl _ _) _ (by simp; omega))
  have k1 : W3.cell? ⟨X + 1, 0, none⟩ = some (.slice (some ⟨yb, yo, none⟩) n yc) := by rw [hW3]; exact cell_al_old _ _ (cell_al _ _ _ _ (by simp; omega))
  have k2 : W3.cell? ⟨X + 1 + 1, 0, none⟩ = some (.int .i64 (z : Int)) := by rw [hW3]; exact cell_al _ _ _ _ (by simp; omega)
  have hwW : Below w.heap.size w W3 := by rw [hX]; exact hB3.bel
  have c1 : W3.cell? ⟨ab, ao + i, none⟩ = some vo := (hwW.cell (block_lt_of_cell ho)).trans ho
  have c2 : W3.cell? ⟨bb, bo + i, none⟩ = some vr := (hwW.cell (block_lt_of_cell hr)).trans hr
  obtain ⟨go, oo, oc, rfl, hgl, h64, hcap, hoc⟩ := id hpo
  obtain ⟨gr, ro, rc, rfl, hgrl, hr64, hrcap, hrc⟩ := id hpr
  have hidx := idx108 (p1 := X + 1) (p2 := X + 1 + 1) hl hq (w := W3) (hpo.below hwW) k1 (hy.below hwW) (by rw [hz]; exact k2)
  rw [List.length_map] at c2
  obtain ⟨L, hL⟩ : ∃ L, (O i).length = L := ⟨_, rfl⟩
  rw [hL] at c1 c2 hidx
  rw [hz]
  have H := Lib.hid (And.intro hidx (And.intro hwW (And.intro k1 (And.intro k2 (And.intro hrc (And.intro hgrl (And.intro hL (And.intro hX (And.intro (hy.below hwW) (And.intro hB3 c2))))))))))
  clear hidx hwW hrc hgrl hL hy hB3 h hl hq hpo hpr ho hr hgl h64 hcap hoc hr64 hrcap k1 k2 c2 hyc hyM hB0
  rw [hW3] at c1
  go_enter Tryz.func62, Tryz.ntmps62
  try rw [hX]
  go_wp2_with (go_at_call 108; (try rw [← hW3]); clear c1 hW3; (with_reducible refine H.out.1.mono ?_); rintro e1 w4 ⟨k, rfl, hk, m, rfl⟩)
  obtain ⟨xv, hx1, hx2⟩ := H.out.2.2.2.2.1 k (R i q) (by rw [List.getElem?_map, hk]; rfl)
  have d1 : (W3.drewN m).cell? ⟨X, 2, none⟩ = some (.slice (some ⟨bb, bo, none⟩) n e) := H.out.2.2.2.2.2.2.2.2.2.1.c2
  have d2 : (W3.drewN m).cell? ⟨bb, bo + i, none⟩ = some (.slice (some ⟨gr, ro, none⟩) L rc) := H.out.2.2.2.2.2.2.2.2.2.2
  have d3 : (W3.drewN m).cell? ⟨gr, ro + k, none⟩ = some xv := (H.out.2.1.cell (p := ⟨gr, ro + k, none⟩) H.out.2.2.2.2.2.1).trans hx1
  have d4 : (W3.drewN m).cell? ⟨X + 1, 0, none⟩ = some (.slice (some ⟨yb, yo, none⟩) n yc) := H.out.2.2.1
  have hkL : k < L := by rw [← H.out.2.2.2.2.2.2.1]; exact (List.getElem?_eq_some_iff.1 hk).1
  have hmul := fun (V : World) (hb : Below W3.heap.size W3 V) => mul110 hn (hx2.below (below_trans H.out.2.1 hb)) (H.out.2.2.2.2.2.2.2.2.1.below hb)
  obtain ⟨xb, xo, xc, rfl, _⟩ := id hx2
  obtain ⟨V5, hV5⟩ : ∃ V5, V5 = W3.drewN m := ⟨_, rfl⟩
  have hb5 : Below W3.heap.size W3 V5 := by rw [hV5]; exact below_self_drewN _ _
  rw [← hV5] at d1 d2 d3 d4 ⊢
  have HM := Lib.hid (And.intro hmul hb5)
  clear hmul hb5 hx1 hx2 hk hV5 hX
  go_region_held3 (fun V => V.cell? ⟨X, 2, none⟩ = some (.slice (some ⟨bb, bo, none⟩) n e) ∧ V.cell? ⟨bb, bo + i, none⟩ = some (.slice (some ⟨gr, ro, none⟩) L rc) ∧ V.cell? ⟨gr, ro + k, none⟩ = some (.slice (some ⟨xb, xo, none⟩) n xc) ∧ V.cell? ⟨X + 1, 0, none⟩ = some (.slice (some ⟨yb, yo, none⟩) n yc) ∧ Below W3.heap.size W3 V)
    (first
      | assumption
      | exact ⟨d1, d2, d3, d4, HM.out.2⟩
      | exact ⟨d1, d2, d3, d4, below_drew HM.out.2⟩
      | exact ⟨d1, d2, d3, d4, below_drewN HM.out.2 _⟩
      | exact keep4 (by first | assumption | exact ⟨d1, d2, d3, d4, HM.out.2⟩ | exact ⟨d1, d2, d3, d4, below_drew HM.out.2⟩ | exact ⟨d1, d2, d3, d4, below_drewN HM.out.2 _⟩) (by assumption))
    (first
      | (go_at_call 110; (with_reducible refine (HM.out.1 _ (by first | exact HM.out.2 | exact below_drew HM.out.2 | exact below_drewN HM.out.2 _ | assumption)).mono ?_); rintro e1 w6 ⟨v6, rfl, k1, k2⟩; have H6 := Lib.hid (And.intro k1 k2); clear k1))
  go_wp2_with fail
  go_ret
  exact ⟨_, rfl, H6.out.1.from (by have h1 := H.out.2.1.size; have h2 := HM.out.2.size; show w.heap.size ≤ V5.heap.size; omega), by have h9 := below_trans H.out.2.1 (below_trans (below_drew HM.out.2) H6.out.2); rwa [H.out.2.2.2.2.2.2.2.1] at h9⟩
set_option maxRecDepth 100000 in
set_option maxHeartbeats 1000000 in
theorem least68 {n ab ao c bb bo e : Nat} {G : Pm n → Prop} {O : Nat → List Nat} {R : Nat → Nat → Pm n} (hn0 : 0 < n) (hn : n ≤ 64) (hG : ChG G O R) {y : Pm n} {va : Value} {w : World} (h : LvW n w O R ab ao bb bo) (hy : PmV w [] va y) :
    Calls Tryz.prog 68 #[cv n ab ao c bb bo e, va] w fun e w' => ∃ v, e = .returned v ∧ PmV w' [] v (lstF O R n 0 y) ∧ Below w.heap.size w w' := by
  obtain ⟨X, hX⟩ : ∃ X, w.heap.size = X := ⟨_, rfl⟩
  have hB0 := BoxW.start w X n ab ao c bb bo e hX
  obtain ⟨W2, hW2⟩ : ∃ W2, W2 = (w.alloc (.cells #[.int .i64 (n : Int), .slice (some ⟨ab, ao, none⟩) n c, .slice (some ⟨bb, bo, none⟩) n e] 25)).alloc (.cells #[va] 27) := ⟨_, rfl⟩
  have hB2 : BoxW w X n ab ao c bb bo e W2 := by rw [hW2]; exact hB0.below (alloc_b (Below.refl _ _) _ (by simp; omega))
  have k1 : W2.heap[X + 1]? = some (.cells #[va] 27 (0, 0)) := by
    have := World.alloc_heap_new (w.alloc (.cells #[.int .i64 (n : Int), .slice (some ⟨ab, ao, none⟩) n c, .slice (some ⟨bb, bo, none⟩) n e] 25)) (.cells #[va] 27)
    rw [show (w.alloc (.cells #[.int .i64 (n : Int), .slice (some ⟨ab, ao, none⟩) n c, .slice (some ⟨bb, bo, none⟩) n e] 25)).heap.size = X + 1 by simp; omega] at this
    rw [hW2]; exact this
  have hwW : Below w.heap.size w W2 := by rw [hX]; exact hB2.bel
  have H := Lib.hid (And.intro h (And.intro (hy.below hwW) (And.intro hB2 (And.intro k1 (And.intro hX (And.intro hwW hG))))))
  clear h hy hB2 k1 hwW hG hB0
  obtain ⟨b, o, c', rfl, _⟩ := id H.out.2.1
  go_enter Tryz.func68, Tryz.ntmps68
  try rw [hX]
  go_wp2_with fail
  try rw [← hW2]
  clear hW2
  go_loopw [5, 6, 9] (fun _ _ i wr => ∃ (k : Nat) (va' : Value) (z : Pm n), k ≤ n ∧ i = .int .i64 (k : Int) ∧ BoxW w X n ab ao c bb bo e wr ∧ wr.heap[X + 1]? = some (.cells #[va'] 27 (0, 0)) ∧ PmV wr [] va' z ∧ lstF O R (n - k) k z = lstF O R n 0 y) (fun _ _ i _ => n - (intOf i).toNat)
  case atStart => exact ⟨0, _, y, by omega, rfl, H.out.2.2.1, H.out.2.2.2.1, H.out.2.1, rfl⟩
  case round =>
    obtain ⟨k, va', z, hk, rfl, hb, hc, hz, he⟩ := hrel
    by_cases hkn : k < n
    · have hwr : Below w.heap.size w wr := by rw [hX]; exact hb.bel
      obtain ⟨vo, ho, hpo⟩ := (H.out.1.below hwr).orb k hkn
      have hbm := H.out.2.2.2.2.2.2.best_mem hkn z
      have hpos := H.out.2.2.2.2.2.2.pos hkn
      have hlt := H.out.2.2.2.2.2.2.lt k hkn
      have x0 := hb.c0
      have x1 := hb.c1
      have x2 := hb.c2
      have y1 : wr.cell? ⟨X + 1, 0, none⟩ = some va' := by simp [World.cell?, hc]
      have hlow := low113 (p1 := X + 1) hlt hpos hpo y1 hz
      obtain ⟨q, hq⟩ : ∃ q, best z (O k) ((O k).headD 0) = q := ⟨_, rfl⟩
      rw [hq] at hlow hbm
      have hqn := hlt q hbm
      have hst := fun (V : World) (hv : Below wr.heap.size wr V) => (step62 (c := c) (e := e) hn hkn hlt hbm (H.out.1.below (below_trans hwr hv)) (hz.below hv)).mono (fun e1 w6 h6 => (show ∃ v, e1 = .returned v ∧ PmV w6 [] v ((R k q).mul z) ∧ Below wr.heap.size wr w6 ∧ w6.heap[X + 1]? = some (.cells #[va'] 27 (0, 0)) from by
        obtain ⟨v, h1, h2, h3⟩ := h6
        have h4 := below_trans hv h3
        exact ⟨v, h1, h2.pm (by simp), h4, (h4.block (X + 1) (Array.getElem?_eq_some_iff.1 hc).1).trans hc⟩))
      have hnx : lstF O R (n - (k + 1)) (k + 1) ((R k q).mul z) = lstF O R n 0 y := by
        rw [← he, show n - k = n - (k + 1) + 1 by omega, lstF, hq]
      obtain ⟨zb, zo, zc, rfl, _, hzb, hzc⟩ := id hz
      have y2 := hzc q hqn
      obtain ⟨gg, og, cg, rfl, _⟩ := id hpo
      obtain ⟨L, hL⟩ : ∃ L, (O k).length = L := ⟨_, rfl⟩
      rw [hL] at hlow ho
      have HC := Lib.hid (And.intro hlow (And.intro hst (And.intro hnx (And.intro hb (And.intro hc hwr)))))
      have hk1 : (k : Int) < n := by omega
      clear hlow hst hnx hb hc hwr hpo hbm hpos hlt hz hzc he hq hL
      go_wp2_with (go_at_call 113; (with_reducible refine HC.out.1.mono ?_); rintro e1 w4 ⟨rfl, rfl⟩)
      go_region_with (first
        | (go_at_call 62; (with_reducible refine (HC.out.2.1 _ (by first | exact Below.refl _ _ | exact below_drew (Below.refl _ _) | exact below_self_drewN _ _)).mono ?_); rintro e1 w6 ⟨v6, rfl, k1, k2, g6⟩; obtain ⟨sb, so, sc, rfl, _⟩ := id k1; obtain ⟨g7, g8⟩ := bx1 g6; have H6 := Lib.hid (And.intro k1 (And.intro k2 g6)); clear k1 k2 g6))
      all_goals
        go_wp2_with fail
        refine ⟨⟨k + 1, _, _, by omega, by go_num, ?_, heap_setCell_box_a _ H6.out.2.2, pm_box hn0 H6.out.1 H6.out.2.2, HC.out.2.2.1⟩, by simp [intOf]; omega⟩
        have h1 := HC.out.2.2.2.1.lt
        exact HC.out.2.2.2.1.below ((H6.out.2.1.mono h1).setCell (p := ⟨X + 1, 0, none⟩) (Nat.le_refl _) _)
    · obtain rfl : k = n := by omega
      have hk1 : ¬ (k : Int) < k := by omega
      have y1 : wr.cell? ⟨X + 1, 0, none⟩ = some va' := by simp [World.cell?, hc]
      have HC := Lib.hid (And.intro hz (And.intro hb he))
      clear hz hb he hc
      go_wp2_with fail
      go_ret
      have he := HC.out.2.2
      rw [Nat.sub_self] at he
      exact ⟨_, rfl, by rw [← he]; exact HC.out.1, HC.out.2.1.bel⟩
end Go.Proofs.YtbejhkojdiadaaaGreat
