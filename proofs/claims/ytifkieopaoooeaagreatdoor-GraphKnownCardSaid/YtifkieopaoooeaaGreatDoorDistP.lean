/- Distance: the program's, by a queue and a map. -/
import Derived.Test.YtifkieopaoooeaaGreatDoorFarM
import Derived.Test.YtifkieopaoooeaaGreatDoorDistR
set_option linter.unusedSimpArgs false
set_option linter.unusedVariables false
namespace Go.Proofs.YtifkieopaoooeaaGreatDoor
open Go.RowKit Plain PlainG
theorem farOf_some {Q : List (Nat × Nat)} {u d : Nat} (h : farOf Q u = some d) : u ∈ Q.map Prod.fst := by
  unfold farOf at h
  cases hq : Q.find? (fun x => x.1 == u) with
  | none => rw [hq] at h; cases h
  | some y =>
    have h1 := List.mem_of_find?_eq_some hq
    have h2 := List.find?_some hq
    simp at h2
    exact List.mem_map.2 ⟨y, h1, h2⟩
def qInts (Q : List (Nat × Nat)) : List Int := Q.map fun x => (x.1 : Int)
theorem qInts_len (Q : List (Nat × Nat)) : (qInts Q).length = Q.length := by simp [qInts]
theorem bfs_len {N i pos : Nat} {A : Nat → Nat → Bool} {Q : List (Nat × Nat)} (h : Bfs N A i Q pos) : Q.length ≤ N := by
  have := Plain.nodup_len N (qInts Q) (by
    unfold qInts
    rw [show (Q.map fun x => (x.1 : Int)) = (Q.map Prod.fst).map (fun x : Nat => (x : Int)) by rw [List.map_map]; rfl]
    exact List.pairwise_map.2 (h.nodup.imp (fun hne e => hne (by omega)))) (fun p hp => by
    unfold qInts at hp
    obtain ⟨x, hx, rfl⟩ := List.mem_map.1 hp
    have := (h.way x hx).1
    omega)
  rwa [qInts_len] at this
set_option maxRecDepth 100000 in
set_option maxHeartbeats 8000000 in
theorem dist_calls {w : World} {a b : Option Addr} {c d : Nat} {g : Gr} (i k : Int) (he : Edg w a g.es) (hc : Ints w b g.cs) :
    Calls Tryz.prog 23 #[.agg #[.int .i64 g.n, .slice a g.es.length c, .slice b g.cs.length d], .int .i64 i, .int .i64 k] w fun e w' => e = .returned (.tuple #[.int .i64 (distA g i k).1, .int .i64 (distA g i k).2]) ∧ Below w.heap.size w w' := by
  obtain ⟨i3, hi3, hz3, hs3, hb3⟩ := info_parts Tryz.info3
  have I3 := Lib.hid (And.intro hi3 (And.intro hz3 (And.intro hs3 hb3)))
  clear hi3 hz3 hs3 hb3
  have hmm := @run_makeMap Tryz.prog
  obtain ⟨R, hR⟩ : ∃ R, w.heap.size = R := ⟨_, rfl⟩
  obtain ⟨W1, hW1⟩ : ∃ W1, W1 = w.alloc (.cells #[.int .i64 g.n, .slice a g.es.length c, .slice b g.cs.length d] 25) := ⟨_, rfl⟩
  have hb1 : Below R w W1 := by rw [hW1, ← hR]; exact (Below.refl _ w).alloc (Nat.le_refl _) _
  have hs1 : W1.heap.size = R + 1 := by rw [hW1, ← hR]; simp
  have hx1 : Bx W1 R (.int .i64 g.n) (.slice a g.es.length c) (.slice b g.cs.length d) := by rw [hW1, ← hR]; exact Bx.new _ _ _ _
  obtain ⟨W2, hW2⟩ : ∃ W2, W2 = W1.alloc (.cells #[.int .i64 i, .int .i64 k] 3) := ⟨_, rfl⟩
  have hb2 : Below W1.heap.size W1 W2 := by rw [hW2]; exact (Below.refl _ _).alloc (Nat.le_refl _) _
  have hl2 := ints_two W1 i k W2 hW2
  have hbw2 : Below w.heap.size w W2 := by rw [hR]; exact hb1.trans (hb2.mono (by omega))
  have K77 := with_calls (c := c) (d := d) (cl := 2) (he.below hbw2) (hc.below hbw2) hl2
  have hx2 := hx1.below hb2
  have K78 := fun (w' : World) (h : Below W2.heap.size W2 w') (N : Nat) (hN : g.n = N) (hN24 : N ≤ 24) (hev : ∀ x ∈ g.es, 0 ≤ x.1 ∧ x.1 < x.2 ∧ x.2 < N) => gmatrix_calls (w := w') (c := c) (b := b) (d := d) (L := g.es.length) (M := g.cs.length) (n := N) ((he.below hbw2).below h) rfl (by omega) (fun x hx => by have := hev x hx; omega)
  obtain ⟨⟨z1, z2⟩, hz⟩ : ∃ z, distA g i k = z := ⟨_, rfl⟩
  rw [hz]
  unfold distA at hz
  have hok := @withA_ok g [i, k]
  obtain ⟨E, hE⟩ : ∃ E, withA g [i, k] = E := ⟨_, rfl⟩
  rw [hE] at K77 hz hok
  obtain ⟨L, hL⟩ : ∃ L, g.es.length = L := ⟨_, rfl⟩
  obtain ⟨M, hM⟩ : ∃ M, g.cs.length = M := ⟨_, rfl⟩
  obtain ⟨N0, hN0⟩ : ∃ N0, g.n = N0 := ⟨_, rfl⟩
  simp only [List.length_cons, List.length_nil, Nat.zero_add, Nat.reduceAdd] at K77
  by_cases hE0 : E = 0
  · obtain ⟨hg0, hv⟩ := hok hE0
    obtain ⟨N, hN, hN24, hel, hev, hcl⟩ := chk_edges hg0
    have hvi := hv i (by simp)
    have hvk := hv k (by simp)
    obtain ⟨i, rfl⟩ : ∃ n : Nat, i = n := ⟨i.toNat, by omega⟩
    obtain ⟨k, rfl⟩ : ∃ n : Nat, k = n := ⟨k.toNat, by omega⟩
    rw [if_neg (by simpa using hE0), hN] at hz
    have hz1 : z1 = lev N (adj g.es) i N k ∧ z2 = 0 := by
      simp only [Int.toNat_natCast, Prod.mk.injEq] at hz
      exact ⟨hz.1.symm, hz.2.symm⟩
    obtain ⟨hz1, rfl⟩ := hz1
    have K78 := fun (w' : World) (h : Below W2.heap.size W2 w') => K78 w' h N hN hN24 hev
    rw [hN] at K77 hW1 hx1 hx2 hvi hvk ⊢
    rw [hL] at K77 hW1 hx1 hx2 K78 ⊢
    rw [hM] at K77 hW1 hx1 hx2 K78 ⊢
    have H := Lib.hid (And.intro K77 (And.intro K78 (And.intro hx2 (And.intro hbw2 (And.intro hR hz1)))))
    have HW := Lib.hid hW1
    have HW2 := Lib.hid hW2
    have hiN : i < N := by omega
    have hkN : k < N := by omega
    have hiI : (i : Int) < N := hvi.2
    have hkI : (k : Int) < N := hvk.2
    obtain ⟨x0, x1, x2⟩ := hx1
    subst hE0
    clear K77 K78 hx2 hbw2 hb1 hb2 hl2 hW1 hW2 hE hz hok hN0 hL hM hg0 hv hN hel hev hcl he hc hR hs1 hvi hvk hz1
    go_enter Tryz.func23, Tryz.ntmps23
    go_upto_region 1 with (fail)
    rw [← HW.out]
    try rw [H.out.2.2.2.2.1]
    go_upto_region 5 with (first
      | (rw [← HW2.out]; go_at_call 77; refine H.out.1.mono ?_; rintro e w3 ⟨rfl, hw3⟩; obtain ⟨x0, x1, x2⟩ := H.out.2.2.1.below hw3; have HA := Lib.hid hw3; clear hw3)
      | (go_at_call 78; refine (H.out.2.1 _ HA.out).mono ?_; rintro e w4 ⟨G, mc, rfl, hmat, hw4⟩; have HB := Lib.hid (And.intro (H.out.2.2.2.1.trans ((below_two HA.out hw4).mono H.out.2.2.2.1.size)) hmat); clear hw4 hmat x0 x1 x2))
    obtain ⟨W6, hput, hfm, hgr⟩ := (FarM.made w4).put (u := i) (d := 0) (by omega) (by omega) rfl (by simp)
    rw [show ((0 : Nat) : Int) = 0 from rfl] at hput
    obtain ⟨bm, hbm⟩ : ∃ bm, w4.heap.size = bm := ⟨_, rfl⟩
    rw [hbm] at hput hfm
    have hb6 : Below bm w4 W6 := by rw [← hbm]; exact ((Below.refl w4.heap.size w4).alloc (Nat.le_refl _) (.map #[] 0)).grown hgr (by simp) (fun g e => by have := Option.some.inj e; omega)
    have hnew := Own.new (w := W6) (B := W6.heap.size) 3 (ints (qInts [(i, 0)])) (Nat.le_refl _) (by simp [ints, qInts, maxLen])
    have hbw6 := hfm.lt
    have HF := Lib.hid (And.intro hfm (And.intro hb6 (And.intro hnew hbw6)))
    clear hfm hgr hb6 hnew hbw6
    go_upto_region 6 with (fail)
    clear hput
    obtain ⟨B, hB⟩ : ∃ B, W6.heap.size = B := ⟨_, rfl⟩
    rw [hB] at HF
    try rw [hbm]
    have HBm := Lib.hid (And.intro hbm hB)
    clear hbm
    go_wp2
    try rw [hB]
    clear hB
    have hres : ∀ wi, Below bm w4 wi → OwnMat wi (bm - bm) G N mc (matF N (adjF g.es)) ∧ Below w.heap.size w wi := fun wi h => by
      have h4 : Below w4.heap.size w4 wi := by rw [HBm.out.1]; exact h
      exact ⟨(HB.out.2.belowB h4).mono (by omega), HB.out.1.trans (h4.mono HB.out.1.size)⟩
    have HRS := Lib.hid hres
    clear hres
    have hbB : bm < B := HF.out.2.2.2
    go_loopw [11, 12] (fun v u wi => ∃ (Q : List (Nat × Nat)) (pos : Nat), pos ≤ Q.length ∧ u = .int .i64 (pos : Int) ∧ Own wi B v 3 (ints (qInts Q)) ∧ FarM wi bm Q ∧ Bfs N (adj g.es) i Q pos ∧ (∀ y ∈ Q, y.2 < Q.length) ∧ Below bm w4 wi ∧ B ≤ wi.heap.size) (fun _ u _ => N + 1 - (intOf u).toNat)
    case atStart =>
      have HBs := HBm.out.2
      refine ⟨[(i, 0)], 0, Nat.zero_le _, rfl, ?_, ?_, Bfs.start hiN, by simp, HF.out.2.1.alloc (by omega) _, by simp; omega⟩
      · exact HF.out.2.2.1
      · exact HF.out.1.kept (grown_alloc _ _ none) (by simp)
    case round =>
      obtain ⟨Q, pos, hpos, rfl, hU, hfm, hB, hdl, hb, hsz⟩ := hrel
      have hlen := bfs_len hB
      obtain ⟨av, cv, hvv, hrow⟩ := hU.row (by rw [ints_len, qInts_len]; unfold maxLen; omega)
      rw [ints_len, qInts_len] at hvv
      subst hvv
      have hIQ : Ints wr av (qInts Q) := hrow
      obtain ⟨hmW, hbw⟩ := HRS.out _ hb
      obtain ⟨LQ, hLQ⟩ : ∃ LQ, Q.length = LQ := ⟨_, rfl⟩
      rw [hLQ] at hpos hlen hU ⊢
      by_cases hlt : pos < LQ
      · obtain ⟨x, hx⟩ : ∃ x, Q[pos]? = some x := ⟨_, List.getElem?_eq_getElem (by omega)⟩
        obtain ⟨pb, po, hpa, hpB, g1⟩ := hIQ.at_ (k := pos) (by rw [qInts_len]; omega)
        subst hpa
        have hgd : (qInts Q)[pos]?.getD 0 = (x.1 : Int) := by unfold qInts; rw [List.getElem?_map, hx]; rfl
        rw [hgd] at g1
        have hxN : x.1 < N := (hB.way x (List.mem_of_getElem? hx)).1
        have hxI : (x.1 : Int) < N := by omega
        have hposI : (pos : Int) < LQ := by omega
        obtain ⟨q, cc, m1, _, _⟩ := hmW.rowAt hxN
        have hent := hB.enter hx
        obtain ⟨xv, xd⟩ := x
        simp only at hxN hxI g1 m1
        obtain ⟨wo, hwo⟩ : ∃ wo, wo = wr := ⟨_, rfl⟩
        subst hwo
        have HX := Lib.hid (And.intro hU (And.intro hfm (And.intro hent (And.intro hb (And.intro hsz (And.intro hLQ hdl))))))
        have HM := Lib.hid m1
        clear hU hfm hent hb hsz hLQ hB hx hdl hIQ hrow hgd hbw hmW hmm
        go_upto_region 12 with (fail)
        clear m1 g1
        go_wp2
        go_loopw [11, 50] (fun v u wi => ∃ (Q : List (Nat × Nat)) (j : Nat), j ≤ N ∧ u = .int .i64 (j : Int) ∧ Own wi B v 3 (ints (qInts Q)) ∧ FarM wi bm Q ∧ BfsIn N (adj g.es) i Q pos (xv, xd) j ∧ (∀ y ∈ Q, y.2 < Q.length) ∧ Below bm w4 wi ∧ B ≤ wi.heap.size) (fun _ u _ => N - (intOf u).toNat)
        case atStart => exact ⟨Q, 0, Nat.zero_le _, rfl, by have h := HX.out.1; exact h, HX.out.2.1, HX.out.2.2.1, HX.out.2.2.2.2.2.2, HX.out.2.2.2.1, HX.out.2.2.2.2.1⟩
        case round =>
          obtain ⟨Q2, j, hj, rfl, hU, hfm, hBi, hdl, hb, hsz⟩ := hrel
          have hlen2 := bfs_len hBi.all
          obtain ⟨hmW, hbw⟩ := HRS.out _ hb
          by_cases hlt2 : j < N
          · have hjI : (j : Int) < N := by omega
            obtain ⟨q', cc', m1', _, m2⟩ := hmW.rowAt hxN
            have h4 : Below w4.heap.size w4 wr := by rw [HBm.out.1]; exact hb
            have m1o : wr.cell? ⟨G, xv, none⟩ = some (.slice (some ⟨q, 0, none⟩) N cc) := by
              have h1 := HM.out
              have h2 : Below w4.heap.size w4 wo := by rw [HBm.out.1]; exact HX.out.2.2.2.1
              obtain ⟨qq, ccc, m9, _, _⟩ := HB.out.2.rowAt hxN
              rw [(h2.cell (p := ⟨G, xv, none⟩) (block_lt_of_cell m9)), m9] at h1
              rw [(h4.cell (p := ⟨G, xv, none⟩) (block_lt_of_cell m9)), m9]
              exact h1
            rw [m1o] at m1'
            injection m1' with m1'
            injection m1' with e1 e2 e3
            injection e1 with e1
            injection e1 with e1 _
            subst e1; subst e3
            have m2 := m2 j hlt2
            rw [Nat.zero_add] at m2
            obtain ⟨cl, hlk, hcl⟩ := hfm.look (u := j) (by omega)
            obtain ⟨S, hS⟩ : ∃ S, (farOf Q2 j).isSome = S := ⟨_, rfl⟩
            rw [hS] at hlk
            cases hA : adj g.es xv j
            · have hav : adjF g.es xv j = 0 := by unfold adjF; rw [hA]; rfl
              rw [hav] at m2
              have hsk := hBi.skip (.inl hA)
              have HY := Lib.hid (And.intro hU (And.intro hfm (And.intro hsk (And.intro hdl (And.intro hb hsz)))))
              clear hU hfm hBi hdl hb hsz hmW hbw m1o hcl hS hA hav hsk h4
              go_wp2
              exact ⟨⟨Q2, j + 1, by omega, by go_num, HY.out⟩, by simp [intOf]; omega⟩
            · have hav : adjF g.es xv j = 1 := by unfold adjF; rw [hA]; rfl
              rw [hav] at m2
              cases S with
              | true =>
                obtain ⟨dd, hdd⟩ := Option.isSome_iff_exists.1 hS
                have hsk := hBi.skip (.inr (farOf_some hdd))
                have HY := Lib.hid (And.intro hU (And.intro hfm (And.intro hsk (And.intro hdl (And.intro hb hsz)))))
                clear hU hfm hBi hdl hb hsz hmW hbw m1o hcl hS hA hav hsk hdd h4
                go_wp2
                exact ⟨⟨Q2, j + 1, by omega, by go_num, HY.out⟩, by simp [intOf]; omega⟩
              | false =>
                have hnone : farOf Q2 j = none := by
                  cases hq : farOf Q2 j with
                  | none => rfl
                  | some y => rw [hq] at hS; cases hS
                have hnm : j ∉ Q2.map Prod.fst := fun hm => by
                  obtain ⟨y, hy, e⟩ := List.mem_map.1 hm
                  have := farOf_mem hBi.all.nodup hy
                  rw [e, hnone] at this
                  cases this
                have hxm := List.mem_of_getElem? hBi.cur
                have hxf := farOf_mem hBi.all.nodup hxm
                simp only at hxf
                have hxd : xd < 1000 := by
                  have h2 := hdl _ hxm
                  simp only at h2
                  omega
                have hget := hfm.get (u := xv) (by omega) hxf
                obtain ⟨wm, hput, hfm2, hgr⟩ := hfm.put (u := j) (d := xd + 1) (by omega) (by omega) hnone (by omega)
                have hpu := hBi.push hlt2 hA hnm
                rw [show ((xd + 1 : Nat) : Int) = (xd : Int) + 1 by omega] at hput
                obtain ⟨av2, cv2, hvv2, _⟩ := hU.row (by rw [ints_len, qInts_len]; unfold maxLen; omega)
                rw [ints_len, qInts_len] at hvv2
                have hUm : Own wm B u11 3 (ints (qInts Q2)) := hU.kept hgr (by
                  rcases hU.blk with e | ⟨g', _, e, h1, _⟩
                  · exact .inl e
                  · right; rw [e]; intro e2; have := Option.some.inj e2; omega)
                have hbm6 : Below bm w4 wm := hb.grown hgr (by have := hfm.lt; omega) (fun g e => by have := Option.some.inj e; omega)
                have hszm : B ≤ wm.heap.size := Nat.le_trans hsz hgr.size
                have hdl2 : ∀ y ∈ Q2 ++ [(j, xd + 1)], y.2 < (Q2 ++ [(j, xd + 1)]).length := fun y hy => by
                  have h2 := hdl _ hxm
                  simp only at h2
                  rw [List.length_append, List.length_singleton]
                  rcases List.mem_append.1 hy with h | h
                  · have := hdl y h; omega
                  · simp at h; subst h; simp only; omega
                have HY := Lib.hid (And.intro hUm (And.intro hfm2 (And.intro hpu (And.intro hbm6 (And.intro hszm (And.intro hlen2 hdl2))))))
                clear hU hfm hBi hdl hb hsz hmW hbw m1o hcl hS hA hav hnone hnm hxm hxf hfm2 hgr hpu hvv2 hUm hbm6 hszm h4 hdl2
                have hxw : IntKind.i64.wrap ((xd : Int) + 1) = (xd : Int) + 1 := IntWalk.i64_in _ (by omega)
                go_wp2_with (at_builtin; refine app1 rfl (.tmp 73) (.tmp 75) 23 3 rfl i3 (.int .i64 0) 8 Tryz.underlying23 I3.out.1 I3.out.2.1 I3.out.2.2.1 I3.out.2.2.2 rfl (by omega) B (.int .i64 (j : Int)) u11 (ints (qInts Q2)) rfl HY.out.1 rfl rfl (by rw [ints_len, qInts_len]; have := HY.out.2.2.2.2.2.1; omega) HY.out.2.2.2.2.1 ?_; intro v' w6 k2 k3 k4; have HZ := Lib.hid (And.intro k2 (And.intro k3 (fun (g : Nat) (hg : u11.ownBlock = some g) => (show B ≤ g from by
                  rcases HY.out.1.blk with e | ⟨g', _, e, h1, _⟩
                  · rw [e] at hg; cases hg
                  · rw [e] at hg; cases hg; exact h1)))); clear k2 k3 k4)
                refine ⟨⟨Q2 ++ [(j, xd + 1)], j + 1, by omega, by go_num, ?_, ?_, HY.out.2.2.1, HY.out.2.2.2.2.2.2, ?_, ?_⟩, by simp [intOf]; omega⟩
                · have hh := HZ.out.1
                  rw [show ints (qInts (Q2 ++ [(j, xd + 1)])) = ints (qInts Q2) ++ [.int .i64 (j : Int)] by simp [ints, qInts]]
                  exact hh
                · exact HY.out.2.1.kept HZ.out.2.1 (fun e => by have := HZ.out.2.2 bm e.symm; omega)
                · exact HY.out.2.2.2.1.grown HZ.out.2.1 (by have := HY.out.2.2.2.2.1; omega) (fun g hg => by have := HZ.out.2.2 g hg; omega)
                · exact Nat.le_trans HY.out.2.2.2.2.1 HZ.out.2.1.size
          · obtain rfl : j = N := by omega
            have hlv := hBi.leave
            have hp2 : pos + 1 ≤ Q2.length := by have := (List.getElem?_eq_some_iff.1 hBi.cur).1; omega
            have HY := Lib.hid (And.intro hU (And.intro hfm (And.intro hlv (And.intro hdl (And.intro hb hsz)))))
            clear hU hfm hBi hdl hb hsz hmW hbw hlv
            go_wp2
            exact ⟨⟨Q2, pos + 1, hp2, by go_num, HY.out⟩, by simp [intOf]; omega⟩
      · have hpl : pos = Q.length := by omega
        rw [hpl] at hB
        have hd := hB.dist.uniq (lev_all (A := adj g.es) hiN) hkN
        obtain ⟨cl, hlk, hcl⟩ := hfm.look (u := k) (by omega)
        obtain ⟨S, hS⟩ : ∃ S, (farOf Q k).isSome = S := ⟨_, rfl⟩
        rw [hS] at hlk
        have hres : z1 = if S = true then cl else -1 := by
          rw [H.out.2.2.2.2.2, ← hd]
          unfold farI
          cases hq : farOf Q k with
          | none => rw [hq] at hS; subst hS; rfl
          | some y => rw [hq] at hS; subst hS; simp [hcl y hq]
        have HY := Lib.hid (And.intro hres hbw)
        clear hU hfm hB hb hsz hdl hmW hbw hrow hIQ hd hcl hS hres hLQ hpl hmm
        cases S with
        | true =>
          go_wp2
          go_ret2
          exact ⟨by rw [HY.out.1]; rfl, HY.out.2⟩
        | false =>
          go_wp2
          go_ret2
          exact ⟨by rw [HY.out.1]; rfl, HY.out.2⟩
  · rw [if_pos (by simpa using hE0)] at hz
    have hz1 : z1 = 0 ∧ z2 = E := by
      simp only [Prod.mk.injEq] at hz
      exact ⟨hz.1.symm, hz.2.symm⟩
    obtain ⟨rfl, rfl⟩ := hz1
    have hEn : (z2 != 0) = true := by simp [hE0]
    rw [hN0, hL, hM] at K77 hW1 hx1 ⊢
    have H := Lib.hid (And.intro K77 (And.intro hbw2 hR))
    have HW := Lib.hid hW1
    have HW2 := Lib.hid hW2
    obtain ⟨x0, x1, x2⟩ := hx1
    clear K77 K78 hx2 hbw2 hb1 hb2 hl2 hW1 hW2 hE hz hok hN0 hL hM he hc hR hs1 hE0
    go_enter Tryz.func23, Tryz.ntmps23
    go_upto_region 1 with (fail)
    rw [← HW.out]
    try rw [H.out.2.2]
    go_wp2_with (rw [← HW2.out]; go_at_call 77; refine H.out.1.mono ?_; rintro e w3 ⟨rfl, hw3⟩; have HA := Lib.hid hw3; clear hw3)
    go_ret2
    exact ⟨rfl, H.out.2.1.trans (HA.out.mono H.out.2.1.size)⟩
end Go.Proofs.YtifkieopaoooeaaGreatDoor
