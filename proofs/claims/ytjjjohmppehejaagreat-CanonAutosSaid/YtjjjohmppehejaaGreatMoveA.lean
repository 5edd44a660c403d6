/- moved: the program's moving of a graph. · labelling, Move: the program's. · fine: the reference's look at a permutation. · Moved: the reference's moving of a graph. · Move, the reference's. -/
import Derived.Test.YtjjjohmppehejaaGreatMakeR
import Derived.Test.YtjjjohmppehejaaGreatPlainH
import Derived.Test.YtjjjohmppehejaaGreatSorted
import Derived.Test.YtjjjohmppehejaaGreatChkP
import Derived.Test.YtjjjohmppehejaaGreatLabs
import Derived.Test.YtjjjohmppehejaaGreatChkR
import Derived.Deep.RegionHeld3
import Derived.Deep.DeepCutAuto
import Derived.BigRegion
import Derived.Deep.OwnRows
set_option linter.unusedSimpArgs false
set_option linter.unusedVariables false
namespace Go.Proofs.YtjjjohmppehejaaGreat
open Go.RowKit Plain PlainG
/-- append of one pair at a step of a region that draws its order. -/
theorem step_appE {w : World} {ops : Array Oper} {o : Oper} {a : Act} {K : Act → World → Prop} {Q : Exit → Act → World → Prop} {E : Prop} (hgd : o.guard = none) (s x : Operand) (T e : TypeId)
    (ho : o.op = .call { callee := .builtin .append, args := #[s, x], argTypes := #[T, T] })
    (i : TypeInfo) (z : Value) (bytes : Nat) (ht : Tryz.prog.underlying T = some (.slice e)) (hi : Tryz.prog.info? e = some i) (hz : i.zero = some z)
    (hsize : i.size = 2) (hby : i.bytes = bytes) (hzs : z.cells.size = 2) (hb64 : bytes ≤ 64)
    (B : Nat) (v : Value) (xs : List (Int × Int)) (n : Nat) (hs : a.eval s = v) (hown : OwnE w B e v xs) (hn : xs.length = n) (ad : Addr) (c : Nat) (y : Int × Int) (hx : a.eval x = .slice (some ad) 1 c)
    (h0 : w.cell? (ad.add 0) = some (.int .i64 y.1)) (h1 : w.cell? (ad.add 1) = some (.int .i64 y.2)) (hlen : n < 1099511627776) (hB : B ≤ w.heap.size)
    (h : ∀ G cap w', OwnE w' B e (.slice (some ⟨G, 0, none⟩) (n + 1) cap) (xs ++ [y]) → w.grownBy w' v.ownBlock → B ≤ G → K (a.put o.dst (.slice (some ⟨G, 0, none⟩) (n + 1) cap)) w') :
    if Region.wanted o (yielded ops a.tmps) = true then Oper.wp Tryz.prog o a w K Q else E := by
  have hw : Region.wanted o (yielded ops a.tmps) = true := by simp [Region.wanted, hgd]
  rw [if_pos hw]
  obtain ⟨v', w', hr, h2, h3, _, h5⟩ := run_append_own_at (P := Tryz.prog) w B T o.type e i z 2 bytes ht hi hz hsize hby hzs (by omega) v xs.length (ints (flat2 xs)) hown ad 1 c (tv2 y) rfl (by
      intro j u hu
      match j, hu with
      | 0, hu => simp [tv2, tl2, ints] at hu; subst hu; exact h0
      | 1, hu => simp [tv2, tl2, ints] at hu; subst hu; exact h1
      | j + 2, hu => simp [tv2, tl2, ints] at hu) (by
      intro u hu
      simp [tv2, tl2, ints] at hu
      rcases hu with rfl | rfl <;> rfl) (by unfold maxLen; omega) (Nat.le_trans (Nat.mul_le_mul_left _ hb64) (by omega)) hB
  have h6 : OwnE w' B e v' (xs ++ [y]) := by
    unfold OwnE
    rw [show flat2 (xs ++ [y]) = flat2 xs ++ tl2 y by simp [flat2], List.length_append]
    rw [show ints (flat2 xs ++ tl2 y) = ints (flat2 xs) ++ tv2 y by simp [ints, tv2]]
    exact h2
  obtain ⟨G, cap, rfl, hG, hG2, hc1, hc2⟩ := h6.form (by simp)
  have hle : (xs ++ [y]).length = n + 1 := by simp [hn]
  rw [hle] at h6 hr
  unfold Oper.wp execOp
  simp only [ho, resolve, invoke, builtin, Sem.run_bind, Sem.run_pure, Result.andThen_ok, List.map_toArray, List.map_cons, List.map_nil, hs, hx, hr]
  exact h G cap w' h6 h3 hG
theorem own_none (v : Value) : v.ownBlock = none ∨ v.ownBlock ≠ none := by cases v.ownBlock <;> simp
theorem keep5 {wx W W3 : World} {b1 b2 o1 o2 o3 o4 : Nat} {v1 v2 v3 v4 : Value} {row : Option Nat} (n1 : row ≠ some b1) (n2 : row ≠ some b2)
    (h : W.cell? ⟨b1, o1, none⟩ = some v1 ∧ W.cell? ⟨b1, o2, none⟩ = some v2 ∧ W.cell? ⟨b2, o3, none⟩ = some v3 ∧ W.cell? ⟨b2, o4, none⟩ = some v4 ∧ wx.grownBy W row) (k : W.grownBy W3 row) :
    W3.cell? ⟨b1, o1, none⟩ = some v1 ∧ W3.cell? ⟨b1, o2, none⟩ = some v2 ∧ W3.cell? ⟨b2, o3, none⟩ = some v3 ∧ W3.cell? ⟨b2, o4, none⟩ = some v4 ∧ wx.grownBy W3 row := by
  have k1 := k.block b1 (block_lt_of_cell h.1) (fun e => n1 e.symm)
  have k2 := k.block b2 (block_lt_of_cell h.2.2.1) (fun e => n2 e.symm)
  exact ⟨(World.cell?_of_block (w := W) (a := ⟨b1, o1, none⟩) k1).trans h.1, (World.cell?_of_block (w := W) (a := ⟨b1, o2, none⟩) k1).trans h.2.1, (World.cell?_of_block (w := W) (a := ⟨b2, o3, none⟩) k2).trans h.2.2.1, (World.cell?_of_block (w := W) (a := ⟨b2, o4, none⟩) k2).trans h.2.2.2.1, grown_new h.2.2.2.2 k (fun g hg => .inr hg)⟩
def MovRes (w : World) (N : Nat) (es : List E2) (pl cs : List Int) (r : Ending) (w' : World) : Prop :=
  ∃ a1 c1 b1 d1 es', r = .returned (.agg #[.int .i64 (N : Int), .slice a1 (List.length es') c1, .slice b1 N d1]) ∧ Srt es' ∧ (∀ x, x ∈ es' ↔ x ∈ es.map (fun x => ord2 (pt pl x.1) (pt pl x.2))) ∧ es'.length ≤ 1000000 ∧ OwnE w' w.heap.size 58 (.slice a1 (List.length es') c1) es' ∧ Own w' w.heap.size (.slice b1 N d1) 3 (ints (movTo N pl cs N)) ∧ Below w.heap.size w w'
set_option maxRecDepth 100000 in
set_option maxHeartbeats 8000000 in
theorem moved_calls {w : World} {a b p : Option Addr} {c d e N : Nat} {es : List (Int × Int)} {cs pl : List Int} (he : Edg w a es) (hc : Ints w b cs) (hp : Ints w p pl) (hN : N ≤ 24) (hes : es.length ≤ 1000) (hE : ∀ x ∈ es, 0 ≤ x.1 ∧ x.1 < N ∧ 0 ≤ x.2 ∧ x.2 < N) (hcs : cs.length = N) (hpl : pl.length = N) (hpr : ∀ v ∈ pl, 0 ≤ v ∧ v < N) :
    Calls Tryz.prog 61 #[.agg #[.int .i64 (N : Int), .slice a es.length c, .slice b N d], .slice p N e] w fun r w' => MovRes w N es pl cs r w' := by
  obtain ⟨i0, hi, hz0, hz1, hz2⟩ := info_parts Tryz.info95
  have I := Lib.hid (And.intro hi (And.intro hz0 (And.intro hz1 hz2)))
  clear hi hz0 hz1 hz2
  obtain ⟨i3, hi3, hz3, hs3, hb3⟩ := info_parts Tryz.info3
  have I3 := Lib.hid (And.intro hi3 (And.intro hz3 (And.intro hs3 hb3)))
  clear hi3 hz3 hs3 hb3
  obtain ⟨L, hL⟩ : ∃ L, es.length = L := ⟨_, rfl⟩
  rw [hL]
  have hL1 : L ≤ 1000 := by omega
  obtain ⟨R, hR⟩ : ∃ R, w.heap.size = R := ⟨_, rfl⟩
  obtain ⟨W1, hW1⟩ : ∃ W1, W1 = (w.alloc (.cells #[.int .i64 (N : Int), .slice a L c, .slice b N d] 25)).alloc (.cells #[.int .i64 0, .slice none 0 0, .slice none 0 0] 25) := ⟨_, rfl⟩
  have hb1 : Below R w W1 := by rw [hW1, ← hR]; exact ((Below.refl _ w).alloc (Nat.le_refl _) _).alloc (by simp) _
  have hs1 : W1.heap.size = R + 2 := by rw [hW1, ← hR]; simp
  have hA1 : W1.heap[R]? = some (.cells #[.int .i64 (N : Int), .slice a L c, .slice b N d] 25) := by
    rw [hW1, ← hR, Below.heap_alloc _ _ _ (by simp)]; exact heap_new w _
  have hB1 : W1.heap[R + 1]? = some (.cells #[.int .i64 0, .slice none 0 0, .slice none 0 0] 25) := by
    have e : R + 1 = (w.alloc (.cells #[.int .i64 (N : Int), .slice a L c, .slice b N d] 25)).heap.size := by rw [← hR]; simp
    rw [hW1, e]; exact heap_new _ _
  have hres : ∀ wr, Below (R + 2) W1 wr → wr.cell? ⟨R, 0, none⟩ = some (.int .i64 (N : Int)) ∧ wr.cell? ⟨R, 1, none⟩ = some (.slice a L c) ∧ wr.cell? ⟨R, 2, none⟩ = some (.slice b N d) ∧ wr.heap[R + 1]? = some (.cells #[.int .i64 0, .slice none 0 0, .slice none 0 0] 25) ∧ Below R w wr ∧ R + 2 ≤ wr.heap.size := fun wr h => by
    have hh := (h.block R (by omega)).trans hA1
    exact ⟨by simp [World.cell?, hh], by simp [World.cell?, hh], by simp [World.cell?, hh], (h.block (R + 1) (by omega)).trans hB1, hb1.trans (h.mono (by omega)), by rw [← hs1]; exact h.size⟩
  have H := Lib.hid (And.intro he (And.intro hc (And.intro hp (And.intro hL (And.intro hE (And.intro hcs (And.intro hpl (And.intro hpr (And.intro hres hs1)))))))))
  have HW := Lib.hid hW1
  obtain ⟨x0, x1, x2, _⟩ := hres W1 (Below.refl _ _)
  clear he hc hp hL hE hcs hpl hpr hb1 hs1 hA1 hB1 hres hW1 hes
  go_enter Tryz.func61, Tryz.ntmps61
  go_upto_region 2 with (fail)
  rw [← HW.out]
  clear HW
  go_wp2
  go_loopw [5, 14] (fun lv i wr => ∃ k : Nat, k ≤ L ∧ i = .int .i64 (k : Int) ∧ OwnE wr (R + 2) 95 lv ((es.take k).map fun x => ord2 (pt pl x.1) (pt pl x.2)) ∧ Below (R + 2) W1 wr) (fun _ i _ => L - (intOf i).toNat)
  case atStart => exact ⟨0, Nat.zero_le _, rfl, OwnE.nil _ _ _, Below.refl _ _⟩
  case round =>
    obtain ⟨k, hk, rfl, hE, hb⟩ := hrel
    obtain ⟨f0, f1, f2, f3, f4, f5⟩ := H.out.2.2.2.2.2.2.2.2.1 _ hb
    by_cases hlt : k < L
    · obtain ⟨x, hx⟩ : ∃ x, es[k]? = some x := ⟨_, List.getElem?_eq_getElem (by rw [H.out.2.2.2.1]; exact hlt)⟩
      obtain ⟨r1, r2, r3, r4⟩ := H.out.2.2.2.2.1 x (List.mem_of_getElem? hx)
      obtain ⟨B, o, rfl, hB5, e1, e2⟩ := (H.out.1.below (by rw [hR]; exact f4)).at_ k x hx
      obtain ⟨x1, x2⟩ := x
      simp only at e1 e2 r1 r2 r3 r4
      obtain ⟨i1, rfl⟩ : ∃ i1 : Nat, x1 = i1 := ⟨x1.toNat, by omega⟩
      obtain ⟨i2, rfl⟩ : ∃ i2 : Nat, x2 = i2 := ⟨x2.toNat, by omega⟩
      have hpW := H.out.2.2.1.below (by rw [hR]; exact f4 : Below w.heap.size w wr)
      obtain ⟨pb0, po0, hpa0, hpB0, _⟩ := H.out.2.2.1.at_ (k := i1) (by rw [H.out.2.2.2.2.2.2.1]; omega)
      obtain ⟨pb, po, hpa, hpB, g1⟩ := hpW.at_ (k := i1) (by rw [H.out.2.2.2.2.2.2.1]; omega)
      obtain ⟨pb', po', hpa', _, g2⟩ := hpW.at_ (k := i2) (by rw [H.out.2.2.2.2.2.2.1]; omega)
      rw [hpa] at hpa'
      injection hpa' with hpa'
      injection hpa' with e3 e4
      subst e3; subst e4
      rw [hpa] at hpa0
      injection hpa0 with hpa0
      injection hpa0 with e5 e6
      subst e5; subst e6
      subst hpa
      have hq1 : pl[i1]?.getD 0 = pt pl (i1 : Int) := by unfold pt; rw [Int.toNat_natCast]
      have hq2 : pl[i2]?.getD 0 = pt pl (i2 : Int) := by unfold pt; rw [Int.toNat_natCast]
      rw [hq1] at g1
      rw [hq2] at g2
      obtain ⟨u1, hu1⟩ : ∃ u1, pt pl (i1 : Int) = u1 := ⟨_, rfl⟩
      obtain ⟨u2, hu2⟩ : ∃ u2, pt pl (i2 : Int) = u2 := ⟨_, rfl⟩
      rw [hu1] at g1
      rw [hu2] at g2
      have htk : (es.take (k + 1)).map (fun x => ord2 (pt pl x.1) (pt pl x.2)) = (es.take k).map (fun x => ord2 (pt pl x.1) (pt pl x.2)) ++ [ord2 u1 u2] := by rw [List.take_add_one, hx, List.map_append, ← hu1, ← hu2]; rfl
      have hkl : ((es.take k).map fun x => ord2 (pt pl x.1) (pt pl x.2)).length = k := by rw [List.length_map, List.length_take, H.out.2.2.2.1]; omega
      obtain ⟨av, cv, hv⟩ := hE.any_form
      rw [hkl] at hv
      subst hv
      have hvb : ∀ g, (Value.slice av k cv).ownBlock = some g → R + 2 ≤ g ∧ g < wr.heap.size := fun g hg => ⟨(hE.block_lt hg).2, (hE.block_lt hg).1⟩
      have hpR : pb < R + 2 := by omega
      obtain ⟨X, hX⟩ : ∃ X, wr.heap.size = X := ⟨_, rfl⟩
      obtain ⟨wx, hwx⟩ : ∃ wx, wx = wr.alloc (.cells #[.int .i64 (i1 : Int), .int .i64 (i2 : Int)] 58) := ⟨_, rfl⟩
      have hbx : Below (R + 2) W1 wx := by rw [hwx]; exact hb.alloc f5 _
      have hEx : OwnE wx (R + 2) 95 (.slice av k cv) ((es.take k).map fun x => ord2 (pt pl x.1) (pt pl x.2)) := by rw [hwx]; exact hE.alloc _
      have hsx : R + 2 ≤ wx.heap.size := by rw [hwx]; simp; omega
      have hXx : X < wx.heap.size := by rw [hwx, ← hX]; simp
      have c0 : wx.cell? ⟨X, 0, none⟩ = some (.int .i64 (i1 : Int)) := by rw [hwx, ← hX]; simp
      have c1 : wx.cell? ⟨X, 1, none⟩ = some (.int .i64 (i2 : Int)) := by rw [hwx, ← hX]; simp
      have hbr : Below wr.heap.size wr wx := by rw [hwx]; exact (Below.refl _ _).alloc (Nat.le_refl _) _
      have g1 := (hbr.cell (p := ⟨pb, po + i1, none⟩) (block_lt_of_cell g1)).trans g1
      have g2 := (hbr.cell (p := ⟨pb, po + i2, none⟩) (block_lt_of_cell g2)).trans g2
      have HX := Lib.hid (And.intro hEx (And.intro hbx (And.intro htk (And.intro hkl (And.intro hsx (And.intro hvb hwx))))))
      have H68 := Lib.hid (ordered_calls u1 u2)
      have hk64 : k < 1099511627776 := by omega
      clear hE hx hb hEx hbx htk hkl hwx hsx hpW hq1 hq2 hu1 hu2 hbr hvb
      clear f0 f2 f3 f4 f5
      go_upto_region 5 with (fail)
      rw [← HX.out.2.2.2.2.2.2]
      have hO68 := HX.out.2.2.2.2.1
      obtain ⟨row, hrow⟩ : ∃ row, (Value.slice av k cv).ownBlock = row := ⟨_, rfl⟩
      have n1 : row ≠ some X := fun e => by have := (HX.out.2.2.2.2.2.1 X (hrow.trans e)).2; omega
      have n2 : row ≠ some pb := fun e => by have := (HX.out.2.2.2.2.2.1 pb (hrow.trans e)).1; omega
      have hrowk := Lib.hid hrow
      clear hrow
      go_region_held3 (fun W => W.cell? ⟨X, 0, none⟩ = some (.int .i64 (i1 : Int)) ∧ W.cell? ⟨X, 1, none⟩ = some (.int .i64 (i2 : Int)) ∧ W.cell? ⟨pb, po + i1, none⟩ = some (.int .i64 u1) ∧ W.cell? ⟨pb, po + i2, none⟩ = some (.int .i64 u2) ∧ wx.grownBy W row)
        (first
          | assumption
          | (refine ⟨?_, ?_, ?_, ?_, ?_⟩ <;> first | go_keep | exact grown_drewN _ _ _)
          | exact keep5 n1 n2 (by assumption) (by first | assumption | exact grown_alloc _ _ _ | exact grown_below (by assumption) _))
        (first
          | (go_at_call 74; refine (H68.out _).mono ?_; rintro e w3 ⟨rfl, hw3⟩; have H3 := Lib.hid ((below_self_drewN (B := wx.heap.size) wx 1).trans hw3 : Below wx.heap.size wx w3))
          | (refine step_appE (by rfl) (.tmp 18) (.tmp 30) 103 95 (by rfl) i0 _ 16 Tryz.underlying103 I.out.1 I.out.2.1 I.out.2.2.1 I.out.2.2.2 rfl (by omega) (R + 2) (.slice av k cv) _ k (by rfl) ((HX.out.1.kept (below_grown H3.out none) (own_none _)).alloc _) HX.out.2.2.2.1 _ 1 (ord2 u1 u2) (by rfl) (pair_new _ _ _ _).1 (pair_new _ _ _ _).2 hk64 (by have h1 := H3.out.size; simp; omega) ?_
             intro G cap w6 k2 k3 k4
             have HZ := Lib.hid (And.intro k2 (((HX.out.2.1.trans (H3.out.mono HX.out.2.2.2.2.1)).alloc (Nat.le_trans HX.out.2.2.2.2.1 H3.out.size) _).grown k3 (by have h1 := H3.out.size; simp; omega) (fun g hg => (HX.out.1.block_lt hg).2)))
             rw [hrowk.out] at k3
             clear k2 k4))
      all_goals
        go_wp2
        exact ⟨⟨k + 1, by omega, by go_num, by rw [HX.out.2.2.1]; exact HZ.out.1, HZ.out.2⟩, by simp [intOf]; omega⟩
    · have hkL : k = L := by omega
      subst hkL
      obtain ⟨ts, hts⟩ : ∃ ts, (es.take k).map (fun x => ord2 (pt pl x.1) (pt pl x.2)) = ts := ⟨_, rfl⟩
      have htp : ts = es.map (fun x => ord2 (pt pl x.1) (pt pl x.2)) := by rw [← hts, List.take_of_length_le (by rw [H.out.2.2.2.1]; omega)]
      have htl : ts.length = k := by rw [htp, List.length_map, H.out.2.2.2.1]
      rw [hts] at hE
      obtain ⟨av, cv, hv⟩ := hE.any_form
      rw [htl] at hv
      subst hv
      have hvb : ∀ g, (Value.slice av k cv).ownBlock = some g → R + 2 ≤ g ∧ g < wr.heap.size := fun g hg => ⟨(hE.block_lt hg).2, (hE.block_lt hg).1⟩
      obtain ⟨G, hG⟩ : ∃ G, wr.heap.size = G := ⟨_, rfl⟩
      have HX := Lib.hid (And.intro hE (And.intro hb (And.intro htp (And.intro htl (And.intro hvb hG)))))
      clear hE hb htp htl hts hvb hG f1 f2 f3 f4 x0 x1 x2
      go_wp2_with (at_make; refine mk1 rfl _ _ 23 3 rfl i3 (.int .i64 0) 8 Tryz.underlying23 I3.out.1 I3.out.2.1 I3.out.2.2.1 I3.out.2.2.2 rfl (by omega) 0 N rfl rfl (by omega) (Nat.zero_le _) ?_; intro w6 hd hg hz1; have H6 := Lib.hid (And.intro hd (And.intro hg hz1)); clear hd hg hz1)
      rw [HX.out.2.2.2.2.2] at H6 ⊢
      clear f0
      have hb6 : Below (R + 2) W1 w6 := HX.out.2.1.grown H6.out.2.1 f5 (by simp)
      obtain ⟨f0, f1, f2, f3, f4, f6⟩ := H.out.2.2.2.2.2.2.2.2.1 _ hb6
      have hU6 : Own w6 0 (.slice (some ⟨G, 0, none⟩) N N) 3 (ints (movTo N pl cs 0)) := by rw [movTo, ints, List.map_replicate]; exact H6.out.1
      have hG2 : R + 2 ≤ G := by have := HX.out.2.2.2.2.2; omega
      have HE6 := Lib.hid (And.intro (HX.out.1.kept H6.out.2.1 (own_none _)) (And.intro f3 (And.intro f4 (And.intro hU6 hb6))))
      have hfar : ∀ wi, w6.grownBy wi (some G) → wi.cell? ⟨R, 0, none⟩ = some (.int .i64 (N : Int)) ∧ wi.cell? ⟨R, 2, none⟩ = some (.slice b N d) ∧ Below R w wi := fun wi h =>
        ⟨(World.cell?_of_block (w := w6) (a := ⟨R, 0, none⟩) (h.block R (by omega) (by intro e; have := Option.some.inj e; omega))).trans f0, (World.cell?_of_block (w := w6) (a := ⟨R, 2, none⟩) (h.block R (by omega) (by intro e; have := Option.some.inj e; omega))).trans f2, HE6.out.2.2.1.grown h (by omega) (fun g e => by have := Option.some.inj e; omega)⟩
      have HF := Lib.hid hfar
      clear hfar hU6 hb6 f0 f1 f2 f3 f4
      go_loopw [38] (fun i wi => ∃ j : Nat, j ≤ N ∧ i = .int .i64 (j : Int) ∧ Own wi 0 (.slice (some ⟨G, 0, none⟩) N N) 3 (ints (movTo N pl cs j)) ∧ w6.grownBy wi (some G)) (fun i _ => N - (intOf i).toNat)
      case atStart => exact ⟨0, Nat.zero_le _, rfl, HE6.out.2.2.2.1, grown_drewN w6 0 _⟩
      case round =>
        obtain ⟨j, hj, rfl, hU, hg⟩ := hrel
        obtain ⟨f0, f2, f4⟩ := HF.out _ hg
        by_cases hlt : j < N
        · have hpW := H.out.2.2.1.below (by rw [hR]; exact f4 : Below w.heap.size w wr)
          have hcW := H.out.2.1.below (by rw [hR]; exact f4 : Below w.heap.size w wr)
          obtain ⟨pb, po, hpa, hpB, g1⟩ := hpW.at_ (k := j) (by rw [H.out.2.2.2.2.2.2.1]; omega)
          obtain ⟨cb, co, hca, hcB, g2⟩ := hcW.at_ (k := j) (by rw [H.out.2.2.2.2.2.1]; omega)
          subst hpa
          subst hca
          obtain ⟨u, hu⟩ : ∃ u, pl[j]? = some u := ⟨_, List.getElem?_eq_getElem (by rw [H.out.2.2.2.2.2.2.1]; omega)⟩
          have hur := H.out.2.2.2.2.2.2.2.1 u (List.mem_of_getElem? hu)
          obtain ⟨u, rfl⟩ : ∃ n : Nat, u = n := ⟨u.toNat, by omega⟩
          obtain ⟨x, hx⟩ : ∃ x, cs[j]?.getD 0 = x := ⟨_, rfl⟩
          rw [hu, Option.getD_some] at g1
          rw [hx] at g2
          have hmv : movTo N pl cs (j + 1) = (movTo N pl cs j).set u x := by rw [movTo, hu, hx, Option.getD_some, Int.toNat_natCast]
          have g3 := hU.cellI (k := u) (by rw [movTo_len]; omega)
          have g4 := hU.frozen u
          have hjN : (j : Int) < N := by omega
          have huN : (u : Int) < N := by omega
          have HY := Lib.hid (And.intro hU (And.intro hg hmv))
          clear hU hg hmv hu hx hpW hcW hur f4
          go_wp2
          refine ⟨⟨j + 1, by omega, by go_num, ?_, HY.out.2.1.trans (grown_put u _)⟩, by simp [intOf]; omega⟩
          rw [HY.out.2.2]
          have hh := HY.out.1.put u (.int .i64 x)
          rwa [ints_set] at hh
        · obtain rfl : j = N := by omega
          have hE7 := HE6.out.1.kept hg (by
            by_cases h : (Value.slice av k cv).ownBlock = some G
            · have := (HX.out.2.2.2.2.1 G h).2; have := HX.out.2.2.2.2.2; omega
            · exact .inr h)
          have hsz := hg.size
          have K70 := built_calls (w := wr) (D := R + 2) (N := j) (ts := ts) (c := cv) (a := av) (d := j) (cs := movTo j pl cs j) (b := some ⟨G, 0, none⟩) (by rw [HX.out.2.2.2.1]; exact hE7) (by rw [HX.out.2.2.2.1]; omega) (by
            rw [HX.out.2.2.2.1]
            intro w' hg'
            exact (hU.kept hg' (.inr (fun e => by have := (HX.out.2.2.2.2.1 G e.symm).2; have := HX.out.2.2.2.2.2; omega))).toInts (by rw [movTo_len]; unfold maxLen; omega)) (by rw [movTo_len]; omega) (by omega)
          rw [HX.out.2.2.2.1, movTo_len] at K70
          have hfc : wr.heap[R + 1]? = some (.cells #[.int .i64 0, .slice none 0 0, .slice none 0 0] 25) := (hg.block (R + 1) (by omega) (by intro e; have := Option.some.inj e; omega)).trans HE6.out.2.1
          obtain ⟨s0, s1, s2, s3⟩ := zres_cells hfc
          have s30 := s3 0
          have s31 := s3 1
          have s32 := s3 2
          have HQ := Lib.hid (And.intro K70 (And.intro hfc (And.intro f4 hsz)))
          clear K70 s3 hfc hU hg f4 hsz hE7
          go_wp2_with (go_at_call 75; refine HQ.out.1.mono ?_; rintro e w7 ⟨a1, c1, b1, d1, es', rfl, q1, q2, q3, q4, q5, q6⟩; have h7 : w7.heap[R + 1]? = some (.cells #[.int .i64 0, .slice none 0 0, .slice none 0 0] 25) := (q6.block (R + 1) (by omega)).trans HQ.out.2.1; obtain ⟨v0, v1, v2, v3⟩ := zres_cells h7; have v30 := v3 0; have v31 := v3 1; have v32 := v3 2; have HY := Lib.hid (And.intro q1 (And.intro q2 (And.intro q3 (And.intro q4 (And.intro q5 (And.intro q6 h7)))))); clear q1 q2 q3 q4 q5 q6 h7 v3)
          obtain ⟨W, hW, y0, y1, y2, y3, y4⟩ := res_out (.int .i64 (j : Int)) (.slice a1 es'.length c1) (.slice b1 j d1) HY.out.2.2.2.2.2.2
          rw [← hW]
          refine bodyPost_ret (v := .agg #[.int .i64 j, .slice a1 es'.length c1, .slice b1 j d1]) (by simp [results, Tryz.results61, go_sem, y0, y1, y2]) rfl ?_
          have hEW : OwnE W wr.heap.size 58 (.slice a1 es'.length c1) es' := ownsRow_block HY.out.2.2.2.1 fun g hg => y4 g (by have := (HY.out.2.2.2.1.block_lt hg).2; have := HQ.out.2.2.2; omega)
          have hUW : Own W wr.heap.size (.slice b1 j d1) 3 (ints (movTo j pl cs j)) := ownsRow_block HY.out.2.2.2.2.1 fun g hg => y4 g (by have := (HY.out.2.2.2.2.1.block_lt hg).2; have := HQ.out.2.2.2; omega)
          have hwr : R ≤ wr.heap.size := by have := HQ.out.2.2.2; omega
          refine ⟨a1, c1, b1, d1, es', rfl, HY.out.1, fun x => by rw [HY.out.2.1 x, HX.out.2.2.1], HY.out.2.2.1, by rw [hR]; exact hEW.mono hwr, by rw [hR]; exact hUW.mono hwr, ?_⟩
          rw [hR]
          exact (HQ.out.2.2.1.trans (HY.out.2.2.2.2.2.1.mono (by omega))).trans (y3.mono (by omega))
end Go.Proofs.YtjjjohmppehejaaGreat

namespace Go.Proofs.YtjjjohmppehejaaGreat
open Go.RowKit Plain PlainG
theorem srtI_sorted (l : List Int) : (srtI l).Pairwise fun x y => x ≤ y := by
  have := List.pairwise_mergeSort (le := fun x y : Int => decide (x ≤ y)) (fun a b c h1 h2 => by simp at *; omega) (fun a b => by simp; omega) l
  exact this.imp (fun h => by simpa using h)
theorem srtI_perm (l : List Int) : (srtI l).Perm l := List.mergeSort_perm l _
set_option maxHeartbeats 2000000 in
theorem labelling_calls {w : World} {a : Option Addr} {p : List Int} (c : Nat) (n : Int) (hp : Ints w a p) (hl : p.length ≤ 1000000) :
    Calls Tryz.prog 60 #[.int .i64 n, .slice a p.length c] w fun e w' => e = .returned (.bool (permB n p)) ∧ Below w.heap.size w w' := by
  have hB := lab_perm (n := n) (srtI_perm p) (srtI_sorted p)
  obtain ⟨B, hBB⟩ : ∃ B, permB n p = B := ⟨_, rfl⟩
  rw [hBB] at hB ⊢
  obtain ⟨s, hs⟩ : ∃ s, srtI p = s := ⟨_, rfl⟩
  have hsl : s.length = p.length := by rw [← hs]; exact srtI_len p
  have hb1 : Below w.heap.size w (w.alloc (.cells #[.slice a p.length c] 40)) := (Below.refl _ _).alloc (Nat.le_refl _) _
  have K102 := sorted_calls w.heap.size a c p (w.alloc (.cells #[.slice a p.length c] 40)) (hp.below hb1) hl (by simp)
  have K103 := values_calls a p.length c w
  rw [hs] at K102 hB
  obtain ⟨M, hM⟩ : ∃ M, p.length = M := ⟨_, rfl⟩
  rw [hM] at K102 K103 hB hb1 hsl hl ⊢
  have H := Lib.hid (And.intro K103 (And.intro K102 (And.intro hB (And.intro hb1 hsl))))
  have hM1 : M ≤ 1000000 := hl
  clear K102 K103 hB hb1 hsl hp hs hBB hM hl
  go_enter Tryz.func60, Tryz.ntmps60
  go_wp2_with fail
  refine H.out.1.mono ?_
  rintro e w1 ⟨rfl, hw1⟩
  subst hw1
  go_wp2_with fail
  refine H.out.2.1.mono ?_
  rintro e w2 ⟨v, rfl, ho, hb⟩
  obtain ⟨av, cv, hv, hrow⟩ := ho.row (by rw [ints_len, H.out.2.2.2.2]; unfold maxLen; omega)
  rw [ints_len, H.out.2.2.2.2] at hv
  subst hv
  have hI : Ints w2 av s := hrow
  have HB := Lib.hid (And.intro (H.out.2.2.2.1.trans (hb.mono H.out.2.2.2.1.size)) hI)
  clear ho hb hrow hI
  go_wp2
  go_loop [11] (fun i => ∃ k : Nat, k ≤ M ∧ i = .int .i64 (k : Int) ∧ ∀ j, j < k → s[j]? = some (j : Int)) (fun i => M - (intOf i).toNat)
  case atStart => exact ⟨0, Nat.zero_le _, rfl, fun j hj => by omega⟩
  case round =>
    obtain ⟨k, hk, rfl, hj⟩ := hrel
    by_cases hlt : k < M
    · obtain ⟨sb, so, hsa, hsB, g1⟩ := HB.out.2.at_ (k := k) (by rw [H.out.2.2.2.2]; omega)
      subst hsa
      obtain ⟨x, hx⟩ : ∃ x, s[k]? = some x := ⟨_, List.getElem?_eq_getElem (by rw [H.out.2.2.2.2]; omega)⟩
      rw [hx, Option.getD_some] at g1
      by_cases he : x = (k : Int)
      · have hxe : (x != (k : Int)) = false := by simp [he]
        have HX := Lib.hid (And.intro hx (And.intro hj he))
        clear hx hj he
        go_wp2
        go_round
        case rel => exact ⟨k + 1, by omega, by go_num, fun j hj => by
          by_cases h : j < k
          · exact HX.out.2.1 j h
          · have : j = k := by omega
            subst this; rw [HX.out.1, HX.out.2.2]⟩
        case measure => simp [intOf]; omega
      · have hxe : (x != (k : Int)) = true := by simp [he]
        have hBf : B = false := by
          rw [H.out.2.2.1]
          have : ¬ s = pts M := fun e => by
            rw [e, pts_get hlt] at hx
            exact he (Option.some.inj hx).symm
          simp [this]
        have HX := Lib.hid hBf
        clear hx hj he hBf
        go_wp2
        go_ret
        exact ⟨by rw [HX.out]; rfl, HB.out.1⟩
    · obtain rfl : k = M := by omega
      have hse : s = pts k := by
        have := pts_upto (s := s) (k := k) (fun i hi => hj i (by rw [H.out.2.2.2.2] at hi; exact hi))
        rwa [H.out.2.2.2.2] at this
      have hBf : B = decide ((k : Int) = n) := by rw [H.out.2.2.1]; simp [hse]
      have HX := Lib.hid hBf
      clear hj hse hBf
      go_wp2
      go_ret
      exact ⟨by rw [HX.out]; congr 1, HB.out.1⟩
/-- A box of a graph and the result's box behind it. -/
theorem two_graphs {w : World} (a0 a1 a2 : Value) :
    ∃ W, W = (w.alloc (.cells #[a0, a1, a2] 25)).alloc (.cells #[.int .i64 0, .slice none 0 0, .slice none 0 0] 25) ∧ Below w.heap.size w W ∧ W.heap.size = w.heap.size + 2 ∧
      ∀ w', Below (w.heap.size + 2) W w' → w'.cell? ⟨w.heap.size, 0, none⟩ = some a0 ∧ w'.cell? ⟨w.heap.size, 1, none⟩ = some a1 ∧ w'.cell? ⟨w.heap.size, 2, none⟩ = some a2 ∧ w'.heap[w.heap.size + 1]? = some (.cells #[.int .i64 0, .slice none 0 0, .slice none 0 0] 25) ∧ Below w.heap.size w w' ∧ w.heap.size + 2 ≤ w'.heap.size := by
  obtain ⟨W, hW⟩ : ∃ W, W = (w.alloc (.cells #[a0, a1, a2] 25)).alloc (.cells #[.int .i64 0, .slice none 0 0, .slice none 0 0] 25) := ⟨_, rfl⟩
  have hb : Below w.heap.size w W := by rw [hW]; exact ((Below.refl _ w).alloc (Nat.le_refl _) _).alloc (by simp) _
  have hs : W.heap.size = w.heap.size + 2 := by rw [hW]; simp
  have hA : W.heap[w.heap.size]? = some (.cells #[a0, a1, a2] 25) := by
    rw [hW, Below.heap_alloc _ _ _ (by simp)]; exact heap_new w _
  have hB : W.heap[w.heap.size + 1]? = some (.cells #[.int .i64 0, .slice none 0 0, .slice none 0 0] 25) := by
    have e : w.heap.size + 1 = (w.alloc (.cells #[a0, a1, a2] 25)).heap.size := by simp
    rw [hW, e]; exact heap_new _ _
  refine ⟨W, hW, hb, hs, fun w' h => ?_⟩
  have hh := (h.block w.heap.size (by omega)).trans hA
  exact ⟨by simp [World.cell?, hh], by simp [World.cell?, hh], by simp [World.cell?, hh], (h.block (w.heap.size + 1) (by omega)).trans hB, hb.trans (h.mono (by omega)), by rw [← hs]; exact h.size⟩
theorem chk_edges {g : Gr} (h : chkGr g = 0) : ∃ N : Nat, g.n = N ∧ N ≤ 24 ∧ g.es.length ≤ 576 ∧ (∀ x ∈ g.es, 0 ≤ x.1 ∧ x.1 < x.2 ∧ x.2 < N) ∧ g.cs.length = N := by
  obtain ⟨n0, n1, hE, hl, _⟩ := chkGr_ok.1 h
  refine ⟨g.n.toNat, by omega, by omega, chkE_len0 n1 hE, fun x hx => ?_, by omega⟩
  have := (chkE_srt hE).2.1 x hx
  omega
/-- What both movings return. -/
def MovedOK (w : World) (N : Nat) (es : List E2) (pl cs : List Int) (r : Ending) (w' : World) : Prop :=
  ∃ a1 c1 b1 d1, r = .returned (.agg #[.int .i64 (N : Int), .slice a1 (List.length (movedG N pl es cs).es) c1, .slice b1 N d1]) ∧ OwnE w' w.heap.size 58 (.slice a1 (List.length (movedG N pl es cs).es) c1) (movedG N pl es cs).es ∧ Own w' w.heap.size (.slice b1 N d1) 3 (ints (movedG N pl es cs).cs) ∧ Below w.heap.size w w'
theorem movedP_ok {w : World} {a b p : Option Addr} {c d e N : Nat} {es : List (Int × Int)} {cs pl : List Int} (he : Edg w a es) (hc : Ints w b cs) (hp : Ints w p pl) (hN : N ≤ 24) (hes : es.length ≤ 1000) (hE : ∀ x ∈ es, 0 ≤ x.1 ∧ x.1 < x.2 ∧ x.2 < N) (hcs : cs.length = N) (hpl : pl.length = N) (hpr : ∀ v ∈ pl, 0 ≤ v ∧ v < N) (hd : pl.Nodup) :
    Calls Tryz.prog 61 #[.agg #[.int .i64 (N : Int), .slice a es.length c, .slice b N d], .slice p N e] w fun r w' => MovedOK w N es pl cs r w' := by
  refine (moved_calls (c := c) (d := d) (e := e) he hc hp hN hes (fun x hx => by have := hE x hx; omega) hcs hpl hpr).mono ?_
  rintro r w' ⟨a1, c1, b1, d1, es', rfl, h1, h2, h3, h4, h5, h6⟩
  have hes : es' = (movedG N pl es cs).es := make_canon (mv_ok hpl hpr hd hE) h1 (mem_ord h2)
  subst hes
  exact ⟨a1, c1, b1, d1, rfl, h4, h5, h6⟩
set_option maxRecDepth 100000 in
set_option maxHeartbeats 4000000 in
theorem gmove_calls {w : World} {a b p : Option Addr} {c d e : Nat} {g : Gr} {pl : List Int} (he : Edg w a g.es) (hc : Ints w b g.cs) (hp : Ints w p pl) (hpl : pl.length ≤ 1000) :
    Calls Tryz.prog 41 #[.agg #[.int .i64 g.n, .slice a g.es.length c, .slice b g.cs.length d], .slice p pl.length e] w fun r w' => MakeRes w (moveA g pl) r w' := by
  obtain ⟨W1, hW1, hb1, hs1, hres⟩ := two_graphs (w := w) (.int .i64 g.n) (.slice a g.es.length c) (.slice b g.cs.length d)
  have K27 := gcheck_calls (c := c) (d := d) (he.below hb1) (hc.below hb1)
  obtain ⟨z, hz⟩ : ∃ z, moveA g pl = z := ⟨_, rfl⟩
  rw [hz]
  obtain ⟨E, hE⟩ : ∃ E, chkGr g = E := ⟨_, rfl⟩
  rw [hE] at K27
  have hm : ∀ w2, Below W1.heap.size W1 w2 → Below (w.heap.size + 2) W1 w2 := fun w2 h => h.mono (by omega)
  obtain ⟨x0, x1, x2, x3, _, _⟩ := hres W1 (Below.refl _ _)
  have x4 := zres_cells x3
  obtain ⟨s0, s1, s2, s3⟩ := x4
  have s30 := s3 0
  have s31 := s3 1
  have s32 := s3 2
  obtain ⟨L, hL⟩ : ∃ L, g.es.length = L := ⟨_, rfl⟩
  obtain ⟨M, hM⟩ : ∃ M, g.cs.length = M := ⟨_, rfl⟩
  obtain ⟨Q, hQ⟩ : ∃ Q, pl.length = Q := ⟨_, rfl⟩
  by_cases hE0 : E = 0
  · obtain ⟨N, hN, hN24, hel, hev, hcl⟩ := chk_edges (hE.trans hE0)
    have K82 := fun w' (h : Below w.heap.size w w') => labelling_calls (w := w') e (N : Int) (hp.below h) (by omega)
    obtain ⟨B, hB⟩ : ∃ B, permB N pl = B := ⟨_, rfl⟩
    rw [hB] at K82
    cases B with
    | false =>
      have hz0 : z = (⟨0, [], []⟩, 3) := by rw [← hz]; unfold moveA; rw [if_neg (by rw [hE]; simpa using hE0), hN, hB, if_neg (by decide)]; rfl
      rw [hN] at K27 hres hW1 x0 ⊢
      rw [hL] at K27 hres hW1 x1 ⊢
      rw [hM] at K27 hres hW1 x2 ⊢
      rw [hQ] at K82 ⊢
      have H := Lib.hid (And.intro K27 (And.intro K82 (And.intro hres (And.intro hz0 hm))))
      have HW := Lib.hid hW1
      clear K27 K82 hres hz0 hm hW1 hz hE hN hN24 hel hev hcl hB he hc hp hL hM hQ s3 hs1 x3
      subst hE0
      go_enter Tryz.func41, Tryz.ntmps41
      go_upto_region 1 with (fail)
      rw [← HW.out]
      go_wp2_with (first
        | (go_at_call 46; refine H.out.1.mono ?_; rintro e w2 ⟨rfl, hw2⟩; obtain ⟨x0, x1, x2, x3, x4, x5⟩ := H.out.2.2.1 _ (H.out.2.2.2.2 _ hw2); obtain ⟨s0, s1, s2, s3⟩ := zres_cells x3; have s30 := s3 0; have s31 := s3 1; have s32 := s3 2; have HA := Lib.hid (And.intro x4 (H.out.2.2.2.2 _ hw2)); clear hw2 x3 x4 s3)
        | (go_at_call 60; refine (H.out.2.1 _ HA.out.1).mono ?_; rintro e w3 ⟨rfl, hw3⟩; obtain ⟨x0, x1, x2, x3, x4, x5⟩ := H.out.2.2.1 _ (HA.out.2.trans (hw3.mono x5)); obtain ⟨s0, s1, s2, s3⟩ := zres_cells x3; have s30 := s3 0; have s31 := s3 1; have s32 := s3 2; have HB := Lib.hid (And.intro x4 x3); clear hw3 x3 x4 s3))
      obtain ⟨W, hW, y0, y1, y2, y3, y4⟩ := res_out (.int .i64 0) (.slice none 0 0) (.slice none 0 0) HB.out.2
      rw [← hW]
      exact bodyPost_ret (v := .tuple #[.agg #[.int .i64 0, .slice none 0 0, .slice none 0 0], .int .i64 3]) (by simp [results, Tryz.results41, go_sem, y0, y1, y2]) rfl (MakeRes.bad H.out.2.2.2.1 (HB.out.1.trans (y3.mono (by omega))))
    | true =>
      obtain ⟨p1, p2, p3⟩ := permB_iff.1 hB
      have hQN : pl.length = N := by omega
      have hz0 : z = (movedG N pl g.es g.cs, 0) := by rw [← hz]; unfold moveA; rw [if_neg (by rw [hE]; simpa using hE0), hN, hB, if_pos rfl, Int.toNat_natCast]
      have K83 := fun w' (h : Below w.heap.size w w') => movedP_ok (w := w') (c := c) (d := d) (e := e) (he.below h) (hc.below h) (hp.below h) hN24 (by omega) hev hcl hQN p2 p3
      rw [hcl] at hM
      subst hM
      rw [hN] at K27 hres hW1 x0 ⊢
      rw [hL] at K27 hres hW1 x1 K83 ⊢
      rw [hcl] at K27 hres hW1 x2 ⊢
      rw [hQN] at K82 ⊢
      have H := Lib.hid (And.intro K27 (And.intro K82 (And.intro hres (And.intro hz0 (And.intro hm K83)))))
      have HW := Lib.hid hW1
      clear K27 K82 hres hz0 hm hW1 hz hE hN hel hev hcl hB he hc hp hL hQ s3 K83 p1 p2 p3 hQN hpl hs1 x3
      subst hE0
      go_enter Tryz.func41, Tryz.ntmps41
      go_upto_region 1 with (fail)
      rw [← HW.out]
      go_wp2_with (first
        | (go_at_call 46; refine H.out.1.mono ?_; rintro e w2 ⟨rfl, hw2⟩; obtain ⟨x0, x1, x2, x3, x4, x5⟩ := H.out.2.2.1 _ (H.out.2.2.2.2.1 _ hw2); obtain ⟨s0, s1, s2, s3⟩ := zres_cells x3; have s30 := s3 0; have s31 := s3 1; have s32 := s3 2; have HA := Lib.hid (And.intro x4 (H.out.2.2.2.2.1 _ hw2)); clear hw2 x3 x4 s3)
        | (go_at_call 60; refine (H.out.2.1 _ HA.out.1).mono ?_; rintro e w3 ⟨rfl, hw3⟩; have hw3' := HA.out.2.trans (hw3.mono x5); obtain ⟨x0, x1, x2, x3, x4, x5⟩ := H.out.2.2.1 _ hw3'; obtain ⟨s0, s1, s2, s3⟩ := zres_cells x3; have s30 := s3 0; have s31 := s3 1; have s32 := s3 2; have HB := Lib.hid (And.intro x4 (And.intro hw3' x5)); clear hw3 x3 x4 s3 hw3')
        | (go_at_call 61; refine (H.out.2.2.2.2.2 _ HB.out.1).mono ?_; rintro e w4 ⟨a1, c1, b1, d1, rfl, q1, q2, q3⟩; have hw4' := HB.out.2.1.trans (q3.mono HB.out.2.2); obtain ⟨x0, x1, x2, x3, x4, x5⟩ := H.out.2.2.1 _ hw4'; obtain ⟨s0, s1, s2, s3⟩ := zres_cells x3; have s30 := s3 0; have s31 := s3 1; have s32 := s3 2; have HC := Lib.hid (And.intro q1 (And.intro q2 (And.intro x4 x3))); clear q1 q2 q3 x3 x4 s3 hw4'))
      obtain ⟨es', hes'⟩ : ∃ es', (movedG N pl g.es g.cs).es = es' := ⟨_, rfl⟩
      obtain ⟨W, hW, y0, y1, y2, y3, y4⟩ := res_out (.int .i64 (N : Int)) (.slice a1 (movedG N pl g.es g.cs).es.length c1) (.slice b1 N d1) HC.out.2.2.2
      rw [← hW]
      have hz1 := H.out.2.2.2.1
      refine bodyPost_ret (v := .tuple #[.agg #[.int .i64 N, .slice a1 (movedG N pl g.es g.cs).es.length c1, .slice b1 N d1], .int .i64 0]) (by simp [results, Tryz.results41, go_sem, y0, y1, y2]) rfl ?_
      rw [hz1]
      have hEW : OwnE W _ 58 (.slice a1 (movedG N pl g.es g.cs).es.length c1) (movedG N pl g.es g.cs).es := ownsRow_block HC.out.1 fun g hg => y4 g (by have := (HC.out.1.block_lt hg).2; have := HB.out.2.2; omega)
      have hUW : Own W _ (.slice b1 N d1) 3 (ints (movedG N pl g.es g.cs).cs) := ownsRow_block HC.out.2.1 fun g hg => y4 g (by have := (HC.out.2.1.block_lt hg).2; have := HB.out.2.2; omega)
      have hcl : (movedG N pl g.es g.cs).cs.length = N := movTo_len _ _ _ _
      refine ⟨a1, c1, b1, d1, by simp only [hcl]; rfl, hEW.edg (by have := canon_len N (adj (g.es.map (mvE pl))); have : N * N ≤ 24 * 24 := Nat.mul_le_mul hN24 hN24; simp only [movedG]; omega), hUW.toInts (by rw [hcl]; unfold maxLen; omega), HC.out.2.2.1.trans (y3.mono (by omega))⟩
  · have hz0 : z = (⟨0, [], []⟩, E) := by rw [← hz]; unfold moveA; rw [if_pos (by rw [hE]; exact hE0), hE]; rfl
    have hEn : (E != 0) = true := by simp [hE0]
    obtain ⟨N, hN⟩ : ∃ N, g.n = N := ⟨_, rfl⟩
    rw [hN] at K27 hres hW1 x0 ⊢
    rw [hL] at K27 hres hW1 x1 ⊢
    rw [hM] at K27 hres hW1 x2 ⊢
    rw [hQ]
    have H := Lib.hid (And.intro K27 (And.intro hres (And.intro hz0 hm)))
    have HW := Lib.hid hW1
    clear K27 hres hz0 hm hW1 hz hE hN he hc hp hL hM hQ s3 hs1 x3 hE0
    go_enter Tryz.func41, Tryz.ntmps41
    go_upto_region 1 with (fail)
    rw [← HW.out]
    go_wp2_with (go_at_call 46; refine H.out.1.mono ?_; rintro e w2 ⟨rfl, hw2⟩; obtain ⟨x0, x1, x2, x3, x4, x5⟩ := H.out.2.1 _ (H.out.2.2.2 _ hw2); obtain ⟨s0, s1, s2, s3⟩ := zres_cells x3; have s30 := s3 0; have s31 := s3 1; have s32 := s3 2; have HA := Lib.hid (And.intro x4 x3); clear hw2 x3 x4 s3)
    obtain ⟨W, hW, y0, y1, y2, y3, y4⟩ := res_out (.int .i64 0) (.slice none 0 0) (.slice none 0 0) HA.out.2
    rw [← hW]
    exact bodyPost_ret (v := .tuple #[.agg #[.int .i64 0, .slice none 0 0, .slice none 0 0], .int .i64 E]) (by simp [results, Tryz.results41, go_sem, y0, y1, y2]) rfl (MakeRes.bad H.out.2.2.1 (HA.out.1.trans (y3.mono (by omega))))
end Go.Proofs.YtjjjohmppehejaaGreat

namespace Go.Proofs.YtjjjohmppehejaaGreat
open Go.RowKit Plain PlainG
def seenL (p : List Int) (i n : Nat) : List Value := (List.range n).map fun (k : Nat) => .bool (decide ((k : Int) ∈ p.take i))
theorem seenL_len (p : List Int) (i n : Nat) : (seenL p i n).length = n := by simp [seenL]
theorem seenL_get {p : List Int} {i n k : Nat} (h : k < n) : (seenL p i n)[k]? = some (.bool (decide ((k : Int) ∈ p.take i))) := by
  unfold seenL; rw [List.getElem?_map, List.getElem?_range h]; rfl
theorem seenL_zero (p : List Int) (n : Nat) : List.replicate n (Value.bool false) = seenL p 0 n := by
  apply List.ext_getElem?
  intro k
  by_cases h : k < n
  · rw [seenL_get h]; simp [h]
  · rw [List.getElem?_eq_none (by simp; omega), List.getElem?_eq_none (by rw [seenL_len]; omega)]
theorem seenL_set {p : List Int} {i n u : Nat} (hu : p[i]? = some (u : Int)) (hn : u < n) : (seenL p i n).set u (.bool true) = seenL p (i + 1) n := by
  apply List.ext_getElem?
  intro k
  by_cases h : k < n
  · rw [seenL_get h, List.getElem?_set, seenL_len]
    by_cases he : u = k
    · subst he
      rw [if_pos rfl, if_pos h, List.take_add_one, hu]
      simp
    · rw [if_neg he, seenL_get h, List.take_add_one, hu]
      have : ((k : Int) = (u : Int)) = False := by simp; omega
      simp [this]
  · rw [List.getElem?_eq_none (by simp [seenL_len]; omega), List.getElem?_eq_none (by rw [seenL_len]; omega)]
end Go.Proofs.YtjjjohmppehejaaGreat

namespace Go.Proofs.YtjjjohmppehejaaGreat
open Go.RowKit Plain PlainG
theorem keepB {D : Nat} {W1 W W3 : World} {b1 o1 o2 o3 : Nat} {v1 v2 v3 : Value} (hD : D ≤ W1.heap.size)
    (h : W.cell? ⟨b1, o1, none⟩ = some v1 ∧ W.cell? ⟨b1, o2, none⟩ = some v2 ∧ W.cell? ⟨b1, o3, none⟩ = some v3 ∧ Below D W1 W) (k : Below W.heap.size W W3) :
    W3.cell? ⟨b1, o1, none⟩ = some v1 ∧ W3.cell? ⟨b1, o2, none⟩ = some v2 ∧ W3.cell? ⟨b1, o3, none⟩ = some v3 ∧ Below D W1 W3 :=
  ⟨(k.cell (p := ⟨b1, o1, none⟩) (block_lt_of_cell h.1)).trans h.1, (k.cell (p := ⟨b1, o2, none⟩) (block_lt_of_cell h.2.1)).trans h.2.1, (k.cell (p := ⟨b1, o3, none⟩) (block_lt_of_cell h.2.2.1)).trans h.2.2.1, h.2.2.2.trans (k.mono (Nat.le_trans hD h.2.2.2.size))⟩
theorem keepB_last {D : Nat} {W1 W : World} {a1 a2 a3 : Addr} {v1 v2 v3 : Value} (h : W.cell? a1 = some v1 ∧ W.cell? a2 = some v2 ∧ W.cell? a3 = some v3 ∧ Below D W1 W) : Below D W1 W := h.2.2.2
theorem own_made {W : World} {B N : Nat} (hB : B ≤ W.heap.size) (hN : N ≤ 1000) : Own (W.alloc (.cells (madeCells #[.int .i64 0] N) 3)) B (.slice (some ⟨W.heap.size, 0, none⟩) N N) 3 (ints (List.replicate N 0)) := by
  have h := World.ownsRow_lit (e := 3) (size := 1) W (madeCells #[Value.int .i64 0] (N * 1)) N hB (by unfold maxLen; omega) (size_madeCells _ _)
  rw [Nat.mul_one] at h
  rw [toList_madeCells_one, ints_zero] at h
  unfold Own
  rw [ints_len, List.length_replicate]
  exact h
/-- A matrix's blocks lie between two places. -/
def InM (c : List Value) (g lo hi : Nat) : Prop := (lo ≤ g ∧ g < hi) ∧ ∀ (i : Nat) (u : Value) (q : Nat), c[i]? = some u → u.ownBlock = some q → lo ≤ q ∧ q < hi
theorem OwnMat.inM {w : World} {B g n : Nat} {c : List Value} {m : List (List Int)} (h : OwnMat w B g n c m) : InM c g B w.heap.size := by
  refine ⟨?_, fun i u q hi hq => ?_⟩
  · rcases h.top.blk with e | ⟨g', _, e, h1, h2, _⟩
    · cases e
    · cases e; exact ⟨h1, h2⟩
  · obtain ⟨hl, hr⟩ := h.rows
    have hi2 : i < m.length := by rw [← hl]; exact (List.getElem?_eq_some_iff.1 hi).1
    have := hr i u _ hi (List.getElem?_eq_getElem hi2)
    rcases this.blk with e | ⟨g', _, e, h1, h2, _⟩
    · rw [e] at hq; cases hq
    · rw [e] at hq; cases hq; exact ⟨h1, h2⟩
theorem OwnMat.far {w w' : World} {B g n x : Nat} {c : List Value} {m : List (List Int)} (h : OwnMat w B g n c m) (hg : w.grownBy w' (some x)) (h1 : x ≠ g) (h2 : ∀ (i : Nat) (u : Value), c[i]? = some u → u.ownBlock ≠ some x) : OwnMat w' B g n c m := by
  refine ⟨h.top.kept hg (.inr (fun e => h1 (Option.some.inj e).symm)), ⟨h.rows.1, fun i u xs hu hx => (h.rows.2 i u xs hu hx).kept hg (.inr (h2 i u hu))⟩, h.apart⟩
theorem OwnMat.farIn {w w' : World} {B g n x lo hi : Nat} {c : List Value} {m : List (List Int)} (h : OwnMat w B g n c m) (hg : w.grownBy w' (some x)) (hI : InM c g lo hi) (hx : x < lo ∨ hi ≤ x) : OwnMat w' B g n c m :=
  h.far hg (fun e => by have := hI.1; omega) (fun i u hu e => by have := hI.2 i u x hu e; omega)
theorem OwnMat.mono {w : World} {B B' g n : Nat} {c : List Value} {m : List (List Int)} (h : OwnMat w B g n c m) (hb : B' ≤ B) : OwnMat w B' g n c m := ⟨h.top.mono hb, h.rows.mono hb, h.apart⟩
theorem OwnMat.belowB {w w' : World} {B g n : Nat} {c : List Value} {m : List (List Int)} (h : OwnMat w B g n c m) (hb : Below w.heap.size w w') : OwnMat w' B g n c m := h.kept (grown_below hb none)
/-- The three objects that Moved makes first. -/
def Mv0 (W1 : World) (R N : Nat) (es : List E2) (G1 G2 G3 : Nat) (wx : World) : Prop :=
  ∃ c1 c2 l1 h1 l2 h2, OwnMat wx (R + 2) G1 N c1 (matF N (adjF es)) ∧ InM c1 G1 l1 h1 ∧ OwnMat wx (R + 2) G2 N c2 (matF N fun _ _ => 0) ∧ InM c2 G2 l2 h2 ∧ Own wx (R + 2) (.slice (some ⟨G3, 0, none⟩) N N) 3 (ints (List.replicate N 0)) ∧ h1 ≤ l2 ∧ (G3 < l1 ∨ h1 ≤ G3) ∧ (G3 < l2 ∨ h2 ≤ G3) ∧ R + 2 ≤ G3 ∧ Below (R + 2) W1 wx
theorem own_madeB {W W' : World} {B N : Nat} {cl : Array Value} (hcl : madeCells #[Value.int .i64 0] N = cl) (hB : B ≤ W.heap.size) (hN : N ≤ 24) (hb : Below (W.alloc (.cells cl 3)).heap.size (W.alloc (.cells cl 3)) W') : Own W' B (.slice (some ⟨W.heap.size, 0, none⟩) N N) 3 (ints (List.replicate N 0)) := by
  subst hcl
  exact (own_made hB (by omega)).kept (grown_below hb none) (own_none _)
theorem mv0_last {W1 w2 w3 : World} {R N G1 G2 : Nat} {es : List E2} {c1 c2 : List Value} {cl : Array Value} (hs1 : W1.heap.size = R + 2) (hN : N ≤ 24) (hcl : madeCells #[Value.int .i64 0] N = cl)
    (hm1 : OwnMat w2 W1.drew.heap.size G1 N c1 (matF N (adjF es))) (hw2 : Below W1.drew.heap.size W1.drew w2) (hm2 : OwnMat w3 w2.heap.size G2 N c2 (matF N fun _ _ => 0)) (hw3 : Below w2.heap.size w2 w3) : Mv0 W1 R N es G1 G2 w3.heap.size (w3.alloc (.cells cl 3)) := by
  have hd : W1.drew.heap.size = R + 2 := hs1
  rw [hd] at hm1 hw2
  have z2 := hw2.size
  rw [hd] at z2
  have z3 := hw3.size
  have ha : Below w3.heap.size w3 (w3.alloc (.cells cl 3)) := (Below.refl _ _).alloc (Nat.le_refl _) _
  have hb1 : Below (R + 2) W1 w2 := (below_self_drewN (B := R + 2) W1 1).trans hw2
  refine ⟨c1, c2, R + 2, w2.heap.size, w2.heap.size, w3.heap.size, (hm1.belowB hw3).belowB ha, hm1.inM, (hm2.belowB ha).mono z2, hm2.inM, own_madeB hcl (by omega) hN (Below.refl _ _), Nat.le_refl _, .inr z3, .inr (Nat.le_refl _), by omega, ?_⟩
  exact (hb1.trans (hw3.mono z2)).trans (ha.mono (by omega))
theorem mv0_mid {W1 w2 w3 : World} {R N G1 G2 : Nat} {es : List E2} {c1 c2 : List Value} {cl : Array Value} (hs1 : W1.heap.size = R + 2) (hN : N ≤ 24) (hcl : madeCells #[Value.int .i64 0] N = cl)
    (hm1 : OwnMat w2 W1.drew.heap.size G1 N c1 (matF N (adjF es))) (hw2 : Below W1.drew.heap.size W1.drew w2) (hm2 : OwnMat w3 (w2.alloc (.cells cl 3)).heap.size G2 N c2 (matF N fun _ _ => 0)) (hw3 : Below (w2.alloc (.cells cl 3)).heap.size (w2.alloc (.cells cl 3)) w3) : Mv0 W1 R N es G1 G2 w2.heap.size w3 := by
  have hd : W1.drew.heap.size = R + 2 := hs1
  rw [hd] at hm1 hw2
  have z2 := hw2.size
  rw [hd] at z2
  have za : (w2.alloc (.cells cl 3)).heap.size = w2.heap.size + 1 := by simp
  have z3 := hw3.size
  have ha : Below w2.heap.size w2 (w2.alloc (.cells cl 3)) := (Below.refl _ _).alloc (Nat.le_refl _) _
  have hb1 : Below (R + 2) W1 w2 := (below_self_drewN (B := R + 2) W1 1).trans hw2
  refine ⟨c1, c2, R + 2, w2.heap.size, (w2.alloc (.cells cl 3)).heap.size, w3.heap.size, (hm1.belowB ha).belowB hw3, hm1.inM, hm2.mono (by omega), hm2.inM, own_madeB hcl (by omega) hN hw3, by omega, .inr (Nat.le_refl _), .inl (by omega), by omega, ?_⟩
  exact (hb1.trans (ha.mono z2)).trans (hw3.mono (by omega))
theorem mv0_first {W1 w2 w3 : World} {R N G1 G2 : Nat} {es : List E2} {c1 c2 : List Value} {cl : Array Value} (hs1 : W1.heap.size = R + 2) (hN : N ≤ 24) (hcl : madeCells #[Value.int .i64 0] N = cl)
    (hm1 : OwnMat w2 (W1.alloc (.cells cl 3)).drew.heap.size G1 N c1 (matF N (adjF es))) (hw2 : Below (W1.alloc (.cells cl 3)).drew.heap.size (W1.alloc (.cells cl 3)).drew w2) (hm2 : OwnMat w3 w2.heap.size G2 N c2 (matF N fun _ _ => 0)) (hw3 : Below w2.heap.size w2 w3) : Mv0 W1 R N es G1 G2 W1.heap.size w3 := by
  have hd : (W1.alloc (.cells cl 3)).drew.heap.size = R + 3 := by show (W1.alloc (.cells cl 3)).heap.size = R + 3; simp; omega
  have hw2' : Below (W1.alloc (.cells cl 3)).heap.size (W1.alloc (.cells cl 3)) w2 := (below_self_drewN (B := (W1.alloc (.cells cl 3)).heap.size) (W1.alloc (.cells cl 3)) 1).trans hw2
  rw [hd] at hm1
  have z2 := hw2'.size
  have za : (W1.alloc (.cells cl 3)).heap.size = R + 3 := hd
  have z3 := hw3.size
  have ha : Below W1.heap.size W1 (W1.alloc (.cells cl 3)) := (Below.refl _ _).alloc (Nat.le_refl _) _
  refine ⟨c1, c2, R + 3, w2.heap.size, w2.heap.size, w3.heap.size, (hm1.belowB hw3).mono (by omega), hm1.inM, hm2.mono (by omega), hm2.inM, ((own_madeB hcl (by omega) hN hw2').kept (grown_below hw3 none) (own_none _)), Nat.le_refl _, .inl (by omega), .inl (by omega), by omega, ?_⟩
  exact ((ha.mono (by omega)).trans (hw2'.mono (by omega))).trans (hw3.mono (by omega))
/-- Which entries of the moved matrix are written. -/
def DoneF (pl : List Int) (N : Nat) (es : List E2) (F : Nat → Nat → Int) (k j : Nat) : Prop :=
  ∀ i' k', i' < N → k' < N → (i' < k ∨ (i' = k ∧ k' < j)) → F (pt pl (i' : Int)).toNat (pt pl (k' : Int)).toNat = adjF es i' k'
theorem pl_at {pl : List Int} {N k : Nat} (hpl : pl.length = N) (hpr : ∀ v ∈ pl, 0 ≤ v ∧ v < N) (hk : k < N) : ∃ u : Nat, pl[k]? = some (u : Int) ∧ u < N := by
  obtain ⟨v, hv⟩ : ∃ v, pl[k]? = some v := ⟨_, List.getElem?_eq_getElem (by omega)⟩
  have := hpr v (List.mem_of_getElem? hv)
  exact ⟨v.toNat, by rw [hv]; congr 1; omega, by omega⟩
theorem pt_at {pl : List Int} {k u : Nat} (h : pl[k]? = some (u : Int)) : (pt pl (k : Int)).toNat = u := by
  unfold pt; rw [Int.toNat_natCast, h]; simp
theorem DoneF.step {pl : List Int} {N k j u v : Nat} {es : List E2} {F : Nat → Nat → Int} {y : Int} (h : DoneF pl N es F k j) (hpl : pl.length = N) (hpr : ∀ v ∈ pl, 0 ≤ v ∧ v < N) (hd : pl.Nodup) (hk : k < N) (hj : j < N) (hu : pl[k]? = some (u : Int)) (hv : pl[j]? = some (v : Int)) (hy : adjF es k j = y) :
    DoneF pl N es (fun a b => if a = u ∧ b = v then y else F a b) k (j + 1) := by
  intro i' k' hi' hk' hh
  by_cases he : i' = k ∧ k' = j
  · obtain ⟨rfl, rfl⟩ := he
    simp only
    rw [if_pos ⟨pt_at hu, pt_at hv⟩, hy]
  · simp only
    rw [if_neg ?_]
    · exact h i' k' hi' hk' (by omega)
    · rintro ⟨e1, e2⟩
      obtain ⟨u', hu', _⟩ := pl_at hpl hpr hi'
      obtain ⟨v', hv', _⟩ := pl_at hpl hpr hk'
      rw [pt_at hu'] at e1
      rw [pt_at hv'] at e2
      subst e1; subst e2
      exact he ⟨(List.getElem?_inj (by omega) hd).1 (hu'.trans hu.symm), (List.getElem?_inj (by omega) hd).1 (hv'.trans hv.symm)⟩
theorem one_done {pl : List Int} {N a b : Nat} {es : List E2} {F : Nat → Nat → Int} (h : DoneF pl N es F N 0) (hpl : pl.length = N) (hpr : ∀ v ∈ pl, 0 ≤ v ∧ v < N) (hd : pl.Nodup) (he : ∀ x ∈ es, 0 ≤ x.1 ∧ x.1 < x.2 ∧ x.2 < N) (ha : a < N) (hb : b < N) :
    one F a b = adj (es.map (mvE pl)) a b := by
  have hm := perm_pts hpl hpr hd
  have onto : ∀ a : Nat, a < N → ∃ i, i < N ∧ pl[i]? = some (a : Int) := fun a ha => by
    have : (a : Int) ∈ pl := hm.mem_iff.2 (pts_mem.2 (by omega))
    obtain ⟨i, hi, e⟩ := List.getElem_of_mem this
    exact ⟨i, by omega, by rw [List.getElem?_eq_getElem hi, e]⟩
  obtain ⟨i, hi, hia⟩ := onto a ha
  obtain ⟨k, hk, hkb⟩ := onto b hb
  have h1 := h i k hi hk (.inl hi)
  rw [pt_at hia, pt_at hkb] at h1
  unfold one
  rw [h1, adj_moved hpl hd he hi hk hia hkb]
  unfold adjF
  cases adj es i k <;> rfl
end Go.Proofs.YtjjjohmppehejaaGreat

namespace Go.Proofs.YtjjjohmppehejaaGreat
open Go.RowKit Plain PlainG
end Go.Proofs.YtjjjohmppehejaaGreat
