/- Make, the program's. -/
import Derived.Test.YtifkieopaoooeaaGreatDoorBuilt
import Derived.Test.YtifkieopaoooeaaGreatDoorPlainG
set_option linter.unusedSimpArgs false
set_option linter.unusedVariables false
namespace Go.Proofs
theorem Tryz.info103 : (Tryz.prog.info? 103).map (fun i => (i.zero, i.size, i.bytes)) = some (some (.agg #[.int .i64 0, .int .i64 0]), 2, 16) := by kernel_rfl
end Go.Proofs
namespace Go.Proofs.YtifkieopaoooeaaGreatDoor
open Go.RowKit Plain PlainG
/-- What Make gives. -/
def MakeRes (w : World) (r : Gr × Int) (e : Ending) (w' : World) : Prop :=
  ∃ a c b d, e = .returned (.tuple #[.agg #[.int .i64 r.1.n, .slice a r.1.es.length c, .slice b r.1.cs.length d], .int .i64 r.2]) ∧ Edg w' a r.1.es ∧ Ints w' b r.1.cs ∧ Below w.heap.size w w'
theorem cell_alloc_keep {W : World} {a : Addr} {v : Value} (o : Obj) (h : W.cell? a = some v) : (W.alloc o).cell? a = some v := by
  rw [← h]; exact World.cell?_alloc_some _ _ _ (by rw [h]; rfl)
theorem Edg.nil (w : World) : Edg w none [] := ⟨by simp, by simp⟩
theorem MakeRes.bad {w w' : World} {r : Gr × Int} {e : Int} (hr : r = (⟨0, [], []⟩, e)) (h : Below w.heap.size w w') : MakeRes w r (.returned (.tuple #[.agg #[.int .i64 0, .slice none 0 0, .slice none 0 0], .int .i64 e])) w' := by
  subst hr
  exact ⟨none, 0, none, 0, rfl, Edg.nil _, Row.nil, h⟩
set_option maxRecDepth 100000 in
set_option maxHeartbeats 8000000 in
theorem make_calls {w : World} {a b : Option Addr} {c d : Nat} {n : Int} {ps : List (Int × Int)} {cs : List Int} (he : Edg w a ps) (hc : Ints w b cs) (hps : ps.length ≤ 1000) (hcs : cs.length ≤ 1000) :
    Calls Tryz.prog 17 #[.int .i64 n, .slice a ps.length c, .slice b cs.length d] w fun e w' => MakeRes w (makeA n ps cs) e w' := by
  obtain ⟨z, hz⟩ : ∃ z, makeA n ps cs = z := ⟨_, rfl⟩
  rw [hz]
  obtain ⟨L, hL⟩ : ∃ L, ps.length = L := ⟨_, rfl⟩
  obtain ⟨M, hM⟩ : ∃ M, cs.length = M := ⟨_, rfl⟩
  rw [hL, hM]
  by_cases h0 : n < 0
  · have hzb : z = (⟨0, [], []⟩, 2) := by rw [← hz]; unfold makeA; rw [if_pos (.inl h0)]
    have H := Lib.hid hzb
    clear hz hzb he hc hL hM
    go_enter Tryz.func17, Tryz.ntmps17
    go_wp2
    exact bodyPost_ret (v := .tuple #[.agg #[.int .i64 0, .slice none 0 0, .slice none 0 0], .int .i64 2]) (by simp [results, Tryz.results17, go_sem]) rfl (MakeRes.bad H.out ((Below.refl _ w).alloc (Nat.le_refl _) _))
  by_cases h24 : 24 < n
  · have hzb : z = (⟨0, [], []⟩, 2) := by rw [← hz]; unfold makeA; rw [if_pos (.inr h24)]
    have H := Lib.hid hzb
    clear hz hzb he hc hL hM
    go_enter Tryz.func17, Tryz.ntmps17
    go_wp2
    exact bodyPost_ret (v := .tuple #[.agg #[.int .i64 0, .slice none 0 0, .slice none 0 0], .int .i64 2]) (by simp [results, Tryz.results17, go_sem]) rfl (MakeRes.bad H.out ((Below.refl _ w).alloc (Nat.le_refl _) _))
  obtain ⟨N, rfl⟩ : ∃ N : Nat, n = N := ⟨n.toNat, by omega⟩
  have hA : z = if pF N ps ≠ 0 then (⟨0, [], []⟩, pF N ps) else if chkC N (fill N cs) ≠ 0 then (⟨0, [], []⟩, chkC N (fill N cs)) else (⟨(N : Int), canon N (adj ps), fill N cs⟩, 0) := by
    rw [← hz]; unfold makeA; rw [if_neg (by omega)]; rfl
  obtain ⟨i0, hi, hz0, hz1, hz2⟩ := info_parts Tryz.info103
  have I := Lib.hid (And.intro hi (And.intro hz0 (And.intro hz1 hz2)))
  clear hi hz0 hz1 hz2 hz
  obtain ⟨i3, hi3, hz3, hs3, hb3⟩ := info_parts Tryz.info3
  have I3 := Lib.hid (And.intro hi3 (And.intro hz3 (And.intro hs3 hb3)))
  clear hi3 hz3 hs3 hb3
  obtain ⟨R, hR⟩ : ∃ R, w.heap.size = R := ⟨_, rfl⟩
  obtain ⟨W1, hW1⟩ : ∃ W1, W1 = w.alloc (.cells #[.int .i64 0, .slice none 0 0, .slice none 0 0] 25) := ⟨_, rfl⟩
  have hb1 : Below R w W1 := by rw [hW1, ← hR]; exact (Below.refl _ w).alloc (Nat.le_refl _) _
  have hs1 : W1.heap.size = R + 1 := by rw [hW1, ← hR]; simp
  have hR1 : W1.heap[R]? = some (.cells #[.int .i64 0, .slice none 0 0, .slice none 0 0] 25) := by rw [hW1, ← hR]; exact heap_new w _
  have hN24 : N ≤ 24 := by omega
  have hres : ∀ wr, Below (R + 1) W1 wr → wr.heap[R]? = some (.cells #[.int .i64 0, .slice none 0 0, .slice none 0 0] 25) ∧ Below R w wr ∧ R + 1 ≤ wr.heap.size := fun wr h => ⟨(h.block R (Nat.lt_succ_self _)).trans hR1, hb1.trans (h.mono (Nat.le_succ _)), by rw [← hs1]; exact h.size⟩
  have hLm : L ≤ 1000 := by omega
  have H := Lib.hid (And.intro he (And.intro hc (And.intro hL (And.intro hM (And.intro hA (And.intro hres (And.intro hs1 hcs)))))))
  have HW := Lib.hid hW1
  clear he hc hL hM hA hb1 hs1 hR1 hres hW1 hps hcs
  go_enter Tryz.func17, Tryz.ntmps17
  go_wp2
  rw [← HW.out]
  go_loopw [8, 21] (fun lv i wr => ∃ k : Nat, k ≤ L ∧ i = .int .i64 (k : Int) ∧ OwnE wr (R + 1) 103 lv ((ps.take k).map fun x => ord2 x.1 x.2) ∧ Below (R + 1) W1 wr ∧ pF N ps = pF N (ps.drop k)) (fun _ i _ => L - (intOf i).toNat)
  case atStart => exact ⟨0, Nat.zero_le _, rfl, OwnE.nil _ _ _, Below.refl _ _, rfl⟩
  case round =>
    obtain ⟨k, hk, rfl, hE, hb, hp⟩ := hrel
    obtain ⟨f1, f2, f3⟩ := H.out.2.2.2.2.2.1 _ hb
    obtain ⟨r1, r2, r3, r4⟩ := zres_cells f1
    have fr0 := r4 0
    have fr1 := r4 1
    have fr2 := r4 2
    by_cases hlt : k < L
    · obtain ⟨x, hx⟩ : ∃ x, ps[k]? = some x := ⟨_, List.getElem?_eq_getElem (by rw [H.out.2.2.1]; exact hlt)⟩
      have hpd := hp.trans (pF_drop hx)
      obtain ⟨B, o, rfl, hB5, e1, e2⟩ := (H.out.1.below (by rw [hR]; exact f2)).at_ k x hx
      obtain ⟨x1, x2⟩ := x
      simp only at e1 e2 hpd
      -- ARMS
      have hRl : R < wr.heap.size := by omega
      have hRne : R ≠ wr.heap.size := Nat.ne_of_lt hRl
      have hzA := H.out.2.2.2.2.1
      cases h1 : vert N x1
      · rw [if_pos (by rw [h1]; rfl)] at hpd
        have hzb : z = (⟨0, [], []⟩, 2) := by rw [hzA, if_pos (by rw [hpd]; decide), hpd]
        have HZ := Lib.hid (And.intro (hzb) (And.intro f1 (And.intro f2 hE)))
        clear f1 f2 hE hp hpd hx hb
        go_wp2_with (go_at_call 67; refine (vertex_calls _ _ _).mono ?_; rintro e w2 ⟨rfl, rfl⟩; simp only [h1])
        obtain ⟨W, hW, y0, y1, y2, y3, _⟩ := res_out (.int .i64 0) (.slice none 0 0) (.slice none 0 0) HZ.out.2.1
        rw [← hW]
        replace y0 := cell_alloc_keep (.cells #[.int .i64 x1, .int .i64 x2] 69) y0
        replace y1 := cell_alloc_keep (.cells #[.int .i64 x1, .int .i64 x2] 69) y1
        replace y2 := cell_alloc_keep (.cells #[.int .i64 x1, .int .i64 x2] 69) y2
        exact bodyPost_ret (v := .tuple #[.agg #[.int .i64 0, .slice none 0 0, .slice none 0 0], .int .i64 2]) (by simp [results, Tryz.results17, go_sem, y0, y1, y2]) rfl (MakeRes.bad HZ.out.1 (by rw [hR]; exact (HZ.out.2.2.1.trans y3).alloc (Nat.le_trans (Nat.le_of_lt hRl) y3.size) _))
      cases h2 : vert N x2
      · rw [if_pos (by rw [h1, h2]; rfl)] at hpd
        have hzb : z = (⟨0, [], []⟩, 2) := by rw [hzA, if_pos (by rw [hpd]; decide), hpd]
        have HZ := Lib.hid (And.intro (hzb) (And.intro f1 (And.intro f2 hE)))
        clear f1 f2 hE hp hpd hx hb
        go_wp2_with (go_at_call 67; refine (vertex_calls _ _ _).mono ?_; rintro e w2 ⟨rfl, rfl⟩; simp only [h1, h2])
        obtain ⟨W, hW, y0, y1, y2, y3, _⟩ := res_out (.int .i64 0) (.slice none 0 0) (.slice none 0 0) HZ.out.2.1
        rw [← hW]
        replace y0 := cell_alloc_keep (.cells #[.int .i64 x1, .int .i64 x2] 69) y0
        replace y1 := cell_alloc_keep (.cells #[.int .i64 x1, .int .i64 x2] 69) y1
        replace y2 := cell_alloc_keep (.cells #[.int .i64 x1, .int .i64 x2] 69) y2
        exact bodyPost_ret (v := .tuple #[.agg #[.int .i64 0, .slice none 0 0, .slice none 0 0], .int .i64 2]) (by simp [results, Tryz.results17, go_sem, y0, y1, y2]) rfl (MakeRes.bad HZ.out.1 (by rw [hR]; exact (HZ.out.2.2.1.trans y3).alloc (Nat.le_trans (Nat.le_of_lt hRl) y3.size) _))
      rw [if_neg (by rw [h1, h2]; decide)] at hpd
      by_cases h3 : x1 = x2
      · rw [if_pos h3] at hpd
        have hzb : z = (⟨0, [], []⟩, 3) := by rw [hzA, if_pos (by rw [hpd]; decide), hpd]
        have h3b : (x1 == x2) = true := by simp [h3]
        clear h3
        have HZ := Lib.hid (And.intro (hzb) (And.intro f1 (And.intro f2 hE)))
        clear f1 f2 hE hp hpd hx hb
        go_wp2_with (go_at_call 67; refine (vertex_calls _ _ _).mono ?_; rintro e w2 ⟨rfl, rfl⟩; simp only [h1, h2])
        obtain ⟨W, hW, y0, y1, y2, y3, _⟩ := res_out (.int .i64 0) (.slice none 0 0) (.slice none 0 0) HZ.out.2.1
        rw [← hW]
        replace y0 := cell_alloc_keep (.cells #[.int .i64 x1, .int .i64 x2] 69) y0
        replace y1 := cell_alloc_keep (.cells #[.int .i64 x1, .int .i64 x2] 69) y1
        replace y2 := cell_alloc_keep (.cells #[.int .i64 x1, .int .i64 x2] 69) y2
        exact bodyPost_ret (v := .tuple #[.agg #[.int .i64 0, .slice none 0 0, .slice none 0 0], .int .i64 3]) (by simp [results, Tryz.results17, go_sem, y0, y1, y2]) rfl (MakeRes.bad HZ.out.1 (by rw [hR]; exact (HZ.out.2.2.1.trans y3).alloc (Nat.le_trans (Nat.le_of_lt hRl) y3.size) _))
      · rw [if_neg h3] at hpd
        have h3b : (x1 == x2) = false := by simp [h3]
        have htk : (ps.take (k + 1)).map (fun x => ord2 x.1 x.2) = (ps.take k).map (fun x => ord2 x.1 x.2) ++ [ord2 x1 x2] := by rw [List.take_add_one, hx, List.map_append]; rfl
        have hkl : ((ps.take k).map fun x => ord2 x.1 x.2).length = k := by rw [List.length_map, List.length_take, H.out.2.2.1]; omega
        obtain ⟨av, cv, hv⟩ := hE.any_form
        rw [hkl] at hv
        subst hv
        have hbx : Below (R + 1) W1 (wr.alloc (.cells #[.int .i64 x1, .int .i64 x2] 69)) := hb.alloc f3 _
        have hEx := hE.alloc (.cells #[.int .i64 x1, .int .i64 x2] 69)
        obtain ⟨wx, hwx⟩ : ∃ wx, wx = wr.alloc (.cells #[.int .i64 x1, .int .i64 x2] 69) := ⟨_, rfl⟩
        rw [← hwx] at hbx hEx
        have hsx : R + 1 ≤ wx.heap.size := by rw [hwx]; simp; omega
        have HX := Lib.hid (And.intro hEx (And.intro hbx (And.intro htk (And.intro hkl (And.intro hpd (And.intro hsx hwx))))))
        have H68 := Lib.hid (ordered_calls x1 x2)
        have hk64 : k < 1099511627776 := by omega
        clear f1 f2 hE hp hpd hx hb hEx hbx htk hkl hwx h3 hsx
        go_wp2_with (go_at_call 67; refine (vertex_calls _ _ _).mono ?_; rintro e w2 ⟨rfl, rfl⟩; simp only [h1, h2])
        go_wp2_with (first
          | (go_at_call 68; refine (H68.out _).mono ?_; rintro e w3 ⟨rfl, hw3⟩; rw [← HX.out.2.2.2.2.2.2] at hw3; have HY := Lib.hid hw3; clear hw3)
          | (at_builtin; refine appE rfl (.tmp 44) (.tmp 50) 101 103 rfl i0 _ 16 Tryz.underlying101 I.out.1 I.out.2.1 I.out.2.2.1 I.out.2.2.2 rfl (by omega) (R + 1) (.slice av k cv) ((ps.take k).map fun x => ord2 x.1 x.2) k rfl ((HX.out.1.kept (below_grown HY.out none) (by cases (Value.slice av k cv).ownBlock <;> simp)).alloc _) HX.out.2.2.2.1 _ 1 (ord2 x1 x2) rfl (pair_new _ _ _ _).1 (pair_new _ _ _ _).2 hk64 (by have h1 := HX.out.2.2.2.2.2.1; have h2 := HY.out.size; simp; omega) ?_; intro G cap w6 k2 k3 k4 k5 k6 k7; have HZ := Lib.hid (And.intro k2 (And.intro k3 k6)); clear k2 k3 k4 k5 k6 k7))
        refine ⟨⟨k + 1, by omega, by go_num, by rw [HX.out.2.2.1]; exact HZ.out.1, ?_, HX.out.2.2.2.2.1⟩, by simp [intOf]; omega⟩
        have hvb : ∀ g, (Value.slice av k cv).ownBlock = some g → R + 1 ≤ g := fun g hg => (HX.out.1.block_lt hg).2
        exact ((HX.out.2.1.trans (HY.out.mono HX.out.2.2.2.2.2.1)).alloc (Nat.le_trans HX.out.2.2.2.2.2.1 HY.out.size) _).grown HZ.out.2.1 (by have h1 := HX.out.2.2.2.2.2.1; have h2 := HY.out.size; simp; omega) hvb
    · -- A    · -- AFTER
      have hkL : k = L := by omega
      subst hkL
      have hF0 : pF N ps = 0 := by rw [hp, List.drop_of_length_le (by rw [H.out.2.2.1]; omega)]; rfl
      have hzA := H.out.2.2.2.2.1
      rw [if_neg (by rw [hF0]; decide)] at hzA
      obtain ⟨ts, hts⟩ : ∃ ts, (ps.take k).map (fun x => ord2 x.1 x.2) = ts := ⟨_, rfl⟩
      have htp : ts = ps.map (fun x => (min x.1 x.2, max x.1 x.2)) := by rw [← hts, List.take_of_length_le (by rw [H.out.2.2.1]; omega)]; rfl
      have htl : ts.length = k := by rw [htp, List.length_map, H.out.2.2.1]
      rw [hts] at hE
      obtain ⟨av, cv, hv⟩ := hE.any_form
      rw [htl] at hv
      subst hv
      have hZc : ∀ es, Srt es → (∀ x, x ∈ es ↔ x ∈ ts) → es = canon N (adj ps) := fun es h1 h2 => make_canon hF0 h1 (fun x => by rw [h2 x, htp])
      have hvb : ∀ g, (Value.slice av k cv).ownBlock = some g → R + 1 ≤ g ∧ g < wr.heap.size := fun g hg => ⟨(hE.block_lt hg).2, (hE.block_lt hg).1⟩
      have HX := Lib.hid (And.intro hE (And.intro hb (And.intro f1 (And.intro f2 (And.intro f3 (And.intro hzA (And.intro hZc (And.intro htl hvb))))))))
      clear hE hb hzA hZc htl hts htp hF0 hp f1 f2 hvb
      by_cases hM0 : M = 0
      · have hcs0 : cs = [] := List.eq_nil_of_length_eq_zero (by rw [H.out.2.2.2.1]; exact hM0)
        have hfl : fill N cs = List.replicate N 0 := by unfold fill; rw [hcs0]; simp
        have hfll : (fill N cs).length = N := by rw [hfl]; simp
        have Hfl := Lib.hid (And.intro hfl hfll)
        clear hfl hfll hcs0
        subst hM0
        go_wp2_with (at_make; refine mk1 rfl _ _ 23 3 rfl i3 (.int .i64 0) 8 Tryz.underlying23 I3.out.1 I3.out.2.1 I3.out.2.2.1 I3.out.2.2.2 rfl (by omega) 0 N rfl rfl (by omega) (Nat.zero_le _) ?_; intro w6 hd hg hz1; have H6 := Lib.hid (And.intro hd (And.intro hg hz1)); clear hd hg hz1)
        have hU6 : Own w6 0 (.slice (some ⟨wr.heap.size, 0, none⟩) N N) 3 (ints (fill N cs)) := by rw [Hfl.out.1, ints, List.map_replicate]; exact H6.out.1
        have hs6 := H6.out.2.2
        have HE6 := Lib.hid (And.intro (HX.out.1.kept H6.out.2.1 (by cases (Value.slice av k cv).ownBlock <;> simp)) (And.intro (fun B (hB : B ≤ wr.heap.size) => (Below.refl B wr).grown H6.out.2.1 hB (by simp)) (And.intro ((H6.out.2.1.block R (by omega) (by simp)).trans HX.out.2.2.1) (And.intro (fun (w' : World) (hg' : w6.grownBy w' (Value.slice av k cv).ownBlock) => (hU6.kept hg' (.inr (fun e => Nat.lt_irrefl _ (HX.out.2.2.2.2.2.2.2.2 _ e.symm).2))).toInts (by rw [Hfl.out.2]; unfold maxLen; omega)) (by omega : R + 1 ≤ w6.heap.size)))))
        have hi6 := hU6.toInts (by rw [Hfl.out.2]; unfold maxLen; omega)
        clear hU6
        have K69 := colours_calls (N : Int) (some ⟨wr.heap.size, 0, none⟩) N (fill N cs) w6 hi6
        rw [Hfl.out.2] at K69
        obtain ⟨cc, hcc⟩ : ∃ cc, chkC N (fill N cs) = cc := ⟨_, rfl⟩
        rw [hcc] at K69
        have K70 := built_calls (w := w6) (D := R + 1) (N := N) (ts := ts) (c := cv) (a := av) (d := N) (cs := fill N cs) (b := (some ⟨wr.heap.size, 0, none⟩)) (by rw [HX.out.2.2.2.2.2.2.2.1]; exact HE6.out.1) (by rw [HX.out.2.2.2.2.2.2.2.1]; omega) (by rw [HX.out.2.2.2.2.2.2.2.1]; exact HE6.out.2.2.2.1) (by rw [Hfl.out.2]; omega) HE6.out.2.2.2.2
        rw [HX.out.2.2.2.2.2.2.2.1, Hfl.out.2] at K70
        have hfc : (w6).heap[R]? = some (.cells #[.int .i64 0, .slice none 0 0, .slice none 0 0] 25) := HE6.out.2.2.1
        obtain ⟨s0, s1, s2, s3⟩ := zres_cells hfc
        have s30 := s3 0
        have s31 := s3 1
        have s32 := s3 2
        have HQ := Lib.hid (And.intro K70 (And.intro hcc hfc))
        clear K70 hcc s3 hfc
        by_cases hc0 : cc = 0
        · subst hc0
          go_wp2_with (go_at_call 69; refine K69.mono ?_; rintro e w2 ⟨rfl, hw2⟩; replace hw2 := hw2.symm; subst hw2)
          go_wp2_with (go_at_call 70; refine HQ.out.1.mono ?_; rintro e w7 ⟨a1, c1, b1, d1, es, rfl, q1, q2, q3, q4, q5, q6⟩; have h7 : w7.heap[R]? = some (.cells #[.int .i64 0, .slice none 0 0, .slice none 0 0] 25) := (q6.block R (Nat.lt_succ_self R)).trans HQ.out.2.2; obtain ⟨v0, v1, v2, v3⟩ := zres_cells h7; have v30 := v3 0; have v31 := v3 1; have v32 := v3 2; have HY := Lib.hid (And.intro q1 (And.intro q2 (And.intro q3 (And.intro q4 (And.intro q5 (And.intro q6 h7)))))); clear q1 q2 q3 q4 q5 q6 h7 v3)
          obtain ⟨W, hW, y0, y1, y2, y3, y4⟩ := res_out (.int .i64 (N : Int)) (.slice a1 es.length c1) (.slice b1 N d1) HY.out.2.2.2.2.2.2
          rw [← hW]
          refine bodyPost_ret (v := .tuple #[.agg #[.int .i64 N, .slice a1 es.length c1, .slice b1 N d1], .int .i64 0]) (by simp [results, Tryz.results17, go_sem, y0, y1, y2]) rfl ?_
          have hes := HX.out.2.2.2.2.2.2.1 es HY.out.1 HY.out.2.1
          have hzz := HX.out.2.2.2.2.2.1
          rw [if_neg (by rw [HQ.out.2.1]; decide), ← hes] at hzz
          have hEW : OwnE W (w6).heap.size 69 (.slice a1 es.length c1) es := ownsRow_block HY.out.2.2.2.1 fun g hg => y4 g (by have := (HY.out.2.2.2.1.block_lt hg).2; have := HE6.out.2.2.2.2; omega)
          have hUW : Own W (w6).heap.size (.slice b1 N d1) 3 (ints (fill N cs)) := ownsRow_block HY.out.2.2.2.2.1 fun g hg => y4 g (by have := (HY.out.2.2.2.2.1.block_lt hg).2; have := HE6.out.2.2.2.2; omega)
          rw [hzz]
          refine ⟨a1, c1, b1, d1, by rw [Hfl.out.2], hEW.edg (by have := HY.out.2.2.1; omega), hUW.toInts (by rw [Hfl.out.2]; unfold maxLen; omega), ?_⟩
          rw [hR]
          exact ((HX.out.2.2.2.1.trans (HE6.out.2.1 R (by have := HX.out.2.2.2.2.1; omega))).trans (HY.out.2.2.2.2.2.1.mono (Nat.le_succ _))).trans y3
        · have hcb : (cc != 0) = true := by simp [hc0]
          go_wp2_with (go_at_call 69; refine K69.mono ?_; rintro e w2 ⟨rfl, hw2⟩; replace hw2 := hw2.symm; subst hw2)
          obtain ⟨W, hW, y0, y1, y2, y3, y4⟩ := res_out (.int .i64 0) (.slice none 0 0) (.slice none 0 0) HQ.out.2.2
          rw [← hW]
          have hzz := HX.out.2.2.2.2.2.1
          rw [if_pos (by rw [HQ.out.2.1]; exact hc0), HQ.out.2.1] at hzz
          exact bodyPost_ret (v := .tuple #[.agg #[.int .i64 0, .slice none 0 0, .slice none 0 0], .int .i64 cc]) (by simp [results, Tryz.results17, go_sem, y0, y1, y2]) rfl (MakeRes.bad hzz (by rw [hR]; exact (HX.out.2.2.2.1.trans (HE6.out.2.1 R (by have := HX.out.2.2.2.2.1; omega))).trans y3))
      · have hfl : fill N cs = cs := by unfold fill; rw [if_neg (by rw [H.out.2.2.2.1]; exact hM0)]
        have hfll : (fill N cs).length = M := by rw [hfl]; exact H.out.2.2.2.1
        have hcB : ∀ w', Below R w w' → Ints w' b (fill N cs) := fun w' h => by rw [hfl]; exact H.out.2.1.below (by rw [hR]; exact h)
        have Hfl := Lib.hid (And.intro hfl hfll)
        have hM64 : M ≤ 1000 := by have := H.out.2.2.2.1; have := H.out.2.2.2.2.2.2.2; omega
        have HE6 := Lib.hid (And.intro HX.out.1 (And.intro (fun B (_ : B ≤ wr.heap.size) => Below.refl B wr) (And.intro HX.out.2.2.1 (And.intro (fun w' (hg' : wr.grownBy w' (Value.slice av k cv).ownBlock) => hcB w' (HX.out.2.2.2.1.grown hg' (by omega) (fun g hg => by have := (HX.out.2.2.2.2.2.2.2.2 g hg).1; omega))) f3))))
        have hi6 := hcB wr HX.out.2.2.2.1
        clear hcB hfl hfll
        have K69 := colours_calls (N : Int) b d (fill N cs) wr hi6
        rw [Hfl.out.2] at K69
        obtain ⟨cc, hcc⟩ : ∃ cc, chkC N (fill N cs) = cc := ⟨_, rfl⟩
        rw [hcc] at K69
        have K70 := built_calls (w := wr) (D := R + 1) (N := N) (ts := ts) (c := cv) (a := av) (d := d) (cs := fill N cs) (b := b) (by rw [HX.out.2.2.2.2.2.2.2.1]; exact HE6.out.1) (by rw [HX.out.2.2.2.2.2.2.2.1]; omega) (by rw [HX.out.2.2.2.2.2.2.2.1]; exact HE6.out.2.2.2.1) (by rw [Hfl.out.2]; omega) HE6.out.2.2.2.2
        rw [HX.out.2.2.2.2.2.2.2.1, Hfl.out.2] at K70
        have hfc : (wr).heap[R]? = some (.cells #[.int .i64 0, .slice none 0 0, .slice none 0 0] 25) := HE6.out.2.2.1
        obtain ⟨s0, s1, s2, s3⟩ := zres_cells hfc
        have s30 := s3 0
        have s31 := s3 1
        have s32 := s3 2
        have HQ := Lib.hid (And.intro K70 (And.intro hcc hfc))
        clear K70 hcc s3 hfc
        by_cases hc0 : cc = 0
        · subst hc0
          go_wp2_with (go_at_call 69; refine K69.mono ?_; rintro e w2 ⟨rfl, hw2⟩; replace hw2 := hw2.symm; subst hw2)
          go_wp2_with (go_at_call 70; refine HQ.out.1.mono ?_; rintro e w7 ⟨a1, c1, b1, d1, es, rfl, q1, q2, q3, q4, q5, q6⟩; have h7 : w7.heap[R]? = some (.cells #[.int .i64 0, .slice none 0 0, .slice none 0 0] 25) := (q6.block R (Nat.lt_succ_self R)).trans HQ.out.2.2; obtain ⟨v0, v1, v2, v3⟩ := zres_cells h7; have v30 := v3 0; have v31 := v3 1; have v32 := v3 2; have HY := Lib.hid (And.intro q1 (And.intro q2 (And.intro q3 (And.intro q4 (And.intro q5 (And.intro q6 h7)))))); clear q1 q2 q3 q4 q5 q6 h7 v3)
          obtain ⟨W, hW, y0, y1, y2, y3, y4⟩ := res_out (.int .i64 (N : Int)) (.slice a1 es.length c1) (.slice b1 M d1) HY.out.2.2.2.2.2.2
          rw [← hW]
          refine bodyPost_ret (v := .tuple #[.agg #[.int .i64 N, .slice a1 es.length c1, .slice b1 M d1], .int .i64 0]) (by simp [results, Tryz.results17, go_sem, y0, y1, y2]) rfl ?_
          have hes := HX.out.2.2.2.2.2.2.1 es HY.out.1 HY.out.2.1
          have hzz := HX.out.2.2.2.2.2.1
          rw [if_neg (by rw [HQ.out.2.1]; decide), ← hes] at hzz
          have hEW : OwnE W (wr).heap.size 69 (.slice a1 es.length c1) es := ownsRow_block HY.out.2.2.2.1 fun g hg => y4 g (by have := (HY.out.2.2.2.1.block_lt hg).2; have := HE6.out.2.2.2.2; omega)
          have hUW : Own W (wr).heap.size (.slice b1 M d1) 3 (ints (fill N cs)) := ownsRow_block HY.out.2.2.2.2.1 fun g hg => y4 g (by have := (HY.out.2.2.2.2.1.block_lt hg).2; have := HE6.out.2.2.2.2; omega)
          rw [hzz]
          refine ⟨a1, c1, b1, d1, by rw [Hfl.out.2], hEW.edg (by have := HY.out.2.2.1; omega), hUW.toInts (by rw [Hfl.out.2]; unfold maxLen; omega), ?_⟩
          rw [hR]
          exact ((HX.out.2.2.2.1.trans (HE6.out.2.1 R (by have := HX.out.2.2.2.2.1; omega))).trans (HY.out.2.2.2.2.2.1.mono (Nat.le_succ _))).trans y3
        · have hcb : (cc != 0) = true := by simp [hc0]
          go_wp2_with (go_at_call 69; refine K69.mono ?_; rintro e w2 ⟨rfl, hw2⟩; replace hw2 := hw2.symm; subst hw2)
          obtain ⟨W, hW, y0, y1, y2, y3, y4⟩ := res_out (.int .i64 0) (.slice none 0 0) (.slice none 0 0) HQ.out.2.2
          rw [← hW]
          have hzz := HX.out.2.2.2.2.2.1
          rw [if_pos (by rw [HQ.out.2.1]; exact hc0), HQ.out.2.1] at hzz
          exact bodyPost_ret (v := .tuple #[.agg #[.int .i64 0, .slice none 0 0, .slice none 0 0], .int .i64 cc]) (by simp [results, Tryz.results17, go_sem, y0, y1, y2]) rfl (MakeRes.bad hzz (by rw [hR]; exact (HX.out.2.2.2.1.trans (HE6.out.2.1 R (by have := HX.out.2.2.2.2.1; omega))).trans y3))
end Go.Proofs.YtifkieopaoooeaaGreatDoor
