/- The reference's key of a point. · The reference's rounds and its refining. · The reference's Refine. · Small functions of the library: cmp.Or, slices.Compare, slices.Clone, slices.ContainsFunc at the test of a row's length. · slices.IndexFunc and slices.ContainsFunc at the test of a row's length. · The kit's small functions: Below, Number. -/
import Derived.Test.YtifkieopaoooeaaGreatDoorLabs
import Derived.Test.YtifkieopaoooeaaGreatDoorPlainC
set_option linter.unusedSimpArgs false
set_option linter.unusedVariables false
namespace Go.Proofs.YtifkieopaoooeaaGreatDoor
open Go.RowKit Plain

/-- A matrix' entry, read. -/
theorem Rows.entry {w : World} {a : Option Addr} {m : List (List Int)} {n : Nat} (h : Rows w a m) (hm : IsMat n m) {i k : Nat} (hi : i < n) (hk : k < n) :
    ∃ g o g2 o2 c, a = some ⟨g, o, none⟩ ∧ w.cell? ⟨g, o + i, none⟩ = some (.slice (some ⟨g2, o2, none⟩) n c) ∧ w.cell? ⟨g2, o2 + k, none⟩ = some (.int .i64 (mat m i k)) := by
  obtain ⟨g, o, b, c, rfl, _, hc, hr⟩ := h.at_ (k := i) (by rw [hm.1]; exact hi)
  have hl := hm.row hi
  rw [hl] at hc
  obtain ⟨g2, o2, rfl, _, hc2⟩ := hr.at_ (k := k) (by rw [hl]; exact hk)
  exact ⟨g, o, g2, o2, c, rfl, hc, hc2⟩

set_option maxRecDepth 100000 in
set_option maxHeartbeats 1000000 in
theorem key_calls (n v : Nat) (ax am : Option Addr) (cx cm : Nat) (x : List Int) (m : List (List Int)) (w : World) (hx : Ints w ax x) (hm : Rows w am m) (hn : n ≤ 1000000) (hxl : x.length = n) (hmm : IsMat n m) (hv : v < n) :
    Calls Tryz.prog 131 #[.int .i64 n, .slice ax n cx, .slice am n cm, .int .i64 v] w fun e w' => ∃ u, e = .returned u ∧ Own w' w.heap.size u 3 (ints (keyL n x m v)) ∧ Below w.heap.size w w' := by
  have H0 := Lib.hid (And.intro hx (And.intro hm (And.intro hxl hmm)))
  clear hx hm hxl hmm
  obtain ⟨i3, hi3, hz3, hs3, hb3⟩ := info_parts Tryz.info3
  obtain ⟨i29, hi29, hz29, hs29, hb29⟩ := info_parts Tryz.info23
  have I3 := Lib.hid (And.intro hi3 (And.intro hz3 (And.intro hs3 hb3)))
  have I29 := Lib.hid (And.intro hi29 (And.intro hz29 (And.intro hs29 hb29)))
  clear hi3 hz3 hs3 hb3 hi29 hz29 hs29 hb29
  obtain ⟨D, hD⟩ : ∃ D, D = w.heap.size := ⟨_, rfl⟩
  rw [← hD]
  have HD := Lib.hid hD
  clear hD
  go_enter Tryz.func131, Tryz.ntmps131
  go_wp2
  go_loopw [9, 10] (fun l i wr => ∃ (u : Nat) (cs : List Value), u ≤ n ∧ i = .int .i64 u ∧ Own wr D l 23 cs ∧ OwnRows wr D 3 cs (sortTo (triple x m v) u) ∧ Below D w wr) (fun _ i _ => n - (intOf i).toNat)
  case atStart => exact ⟨0, [], by omega, rfl, Own.nil _ _ _, OwnRows.nil _ _ _, Below.refl _ _⟩
  case round =>
    obtain ⟨u, cs, hu, rfl, ho, hr, hbl⟩ := hrel
    have hx2 := H0.out.1.below (by rw [← HD.out]; exact hbl)
    have hm2 := H0.out.2.1.below (by rw [← HD.out]; exact hbl)
    have hDw : D ≤ wr.heap.size := by have := hbl.size; have := HD.out; omega
    by_cases hlt : u < n
    · obtain ⟨g1, o1, rfl, _, hc1⟩ := hx2.at_ (k := u) (by rw [H0.out.2.2.1]; exact hlt)
      obtain ⟨g, o, ga, oa, ca, rfl, hca, hca2⟩ := hm2.entry H0.out.2.2.2 hv hlt
      obtain ⟨g', o', gb, ob, cb, e', hcb, hcb2⟩ := hm2.entry H0.out.2.2.2 hlt hv
      cases e'
      have hcs : cs.length = u := by rw [hr.1, sortTo_len]
      obtain ⟨a9, c9, rfl, _⟩ := ho.row (by rw [hcs]; unfold maxLen; omega)
      rw [hcs] at ho ⊢
      have H := Lib.hid (And.intro ho (And.intro hr (And.intro hbl (And.intro hDw hcs))))
      clear ho hr hbl hx2 hm2 hDw hcs
      go_wp2
      go_still_tail 18, (by kernel_rfl)
      go_wp2
      obtain ⟨w2, hw2⟩ : ∃ w2, w2 = (wr.alloc (.cells #[.int .i64 (x[u]?.getD 0), .int .i64 (mat m v u), .int .i64 (mat m u v)] 3)).drew := ⟨_, rfl⟩
      rw [← hw2]
      obtain ⟨t, ht⟩ : ∃ t, t = triple x m v u := ⟨_, rfl⟩
      have htl : t.length = 3 := by rw [ht]; rfl
      have F1 : Own w2 D (.slice a9 u c9) 23 cs := by rw [hw2]; exact (H.out.1.alloc _).drewN 1
      have F2 : OwnRows w2 D 3 cs (sortTo (triple x m v) u) := by
        rw [hw2]; exact (H.out.2.1.kept (grown_alloc wr _ none) (fun u xs h => by
          rcases h.blk with e | ⟨g, _, e, _⟩
          · exact .inl e
          · right; rw [e]; simp)).drewN 1
      have F3 : Own w2 D (.slice (some ⟨wr.heap.size, 0, none⟩) 3 3) 3 (ints t) := by
        rw [hw2, ht]
        exact (Own.new (w := wr) 3 (ints (triple x m v u)) H.out.2.2.2.1 (by unfold maxLen; simp [ints, triple])).drewN 1
      have F4 : Below D w w2 := by rw [hw2]; exact (H.out.2.2.1.alloc H.out.2.2.2.1 _).drew
      have F5 : D ≤ w2.heap.size := by rw [hw2]; have := H.out.2.2.2.1; simp; omega
      obtain ⟨T, hT⟩ : ∃ T, T = wr.heap.size := ⟨_, rfl⟩
      rw [← hT] at F3 ⊢
      have F := Lib.hid (And.intro F1 (And.intro F2 (And.intro F3 (And.intro F4 (And.intro F5 (And.intro ht htl))))))
      obtain ⟨S, hS⟩ : ∃ S, S = sortTo (triple x m v) u := ⟨_, rfl⟩
      have hSl : S.length = u := by rw [hS, sortTo_len]
      have hS3 : ∀ y ∈ S, y.length = 3 := by
        intro y hy; rw [hS] at hy; obtain ⟨k, _, rfl⟩ := mem_sortTo hy; rfl
      have HS := Lib.hid (And.intro hS (And.intro hSl hS3))
      clear hw2 F1 F2 F3 F4 F5 ht htl hT hS hSl hS3
      go_loopw [12] (fun p wq => ∃ (k q : Nat), k ≤ u ∧ p = .int .i64 k ∧ wq = w2.drewN q ∧ atTo t S u = atTo t S k) (fun p _ => (intOf p).toNat)
      case atStart => exact ⟨u, 0, Nat.le_refl _, rfl, rfl, rfl⟩
      case round =>
        obtain ⟨k, q, hk, rfl, rfl, hat⟩ := hrel
        have Hat := Lib.hid hat
        clear hat
        by_cases hk0 : 0 < k
        · obtain ⟨uv, hcv, hov⟩ := F.out.2.1.at_ (k := k - 1) (by rw [← HS.out.1, HS.out.2.1]; omega)
          rw [← HS.out.1] at hov
          obtain ⟨y, hy⟩ : ∃ y, y = S[k - 1]?.getD [] := ⟨_, rfl⟩
          have hyl : y.length = 3 := by
            rw [hy, List.getElem?_eq_getElem (by rw [HS.out.2.1]; omega)]
            exact HS.out.2.2 _ (List.getElem_mem _)
          rw [← hy] at hov
          obtain ⟨gk, ck, rfl, _⟩ := hov.form (by rw [ints_len, hyl]; omega)
          rw [ints_len, hyl] at hcv hov
          obtain ⟨g9, rfl, -⟩ := F.out.1.at_form (by omega)
          have hc9 := F.out.1.cell (k - 1) (by rw [F.out.2.1.1, ← HS.out.1, HS.out.2.1]; omega)
          rw [hcv] at hc9
          have hcmp := fun q => compare_calls (some ⟨T, 0, none⟩) (some ⟨gk, 0, none⟩) 3 ck t y (w2.drewN q) (F.out.2.2.1.toInts (by unfold maxLen; rw [F.out.2.2.2.2.2.2]; omega)) (hov.toInts (by unfold maxLen; rw [hyl]; omega))
          rw [F.out.2.2.2.2.2.2, hyl] at hcmp
          obtain ⟨r, hr⟩ : ∃ r, cmpL t y = r := ⟨_, rfl⟩
          rw [hr] at hcmp
          have Hc := Lib.hid hcmp
          have Hr := Lib.hid (And.intro hr hy)
          clear hcmp hr hy hcv hov hyl
          by_cases hr0 : r < 0
          · go_wp2_with (go_at_call 123; refine (Hc.out _).mono ?_; rintro e w' ⟨rfl, q', rfl⟩)
            have h1 : atTo t S k = atTo t S (k - 1) := by
              obtain ⟨k, rfl⟩ : ∃ i, k = i + 1 := ⟨k - 1, by omega⟩
              rw [Nat.add_sub_cancel] at Hr ⊢
              rw [atTo, ← Hr.out.2, Hr.out.1, if_pos hr0]
            go_roundw
            case rel => exact ⟨k - 1, _, by omega, by go_num, rfl, by rw [Hat.out, h1]⟩
            case measure => simp [intOf]; omega
          · have hpos : atTo t S u = k := by
              rw [Hat.out]
              obtain ⟨k, rfl⟩ : ∃ i, k = i + 1 := ⟨k - 1, by omega⟩
              rw [Nat.add_sub_cancel] at Hr
              rw [atTo, ← Hr.out.2, Hr.out.1, if_neg hr0]
            have Hpos := Lib.hid hpos
            clear hpos
            have hr1 : decide (r < 0) = false := by simpa using hr0
            go_wp2_with (first | (go_at_call 123; refine (Hc.out _).mono ?_; rintro e w' ⟨rfl, q', rfl⟩) | (at_builtin; refine app1f rfl (.tmp 55) (.tmp 56) 42 23 rfl i29 (.slice none 0 0) 24 Tryz.underlying42 I29.out.1 I29.out.2.1 I29.out.2.2.1 I29.out.2.2.2 rfl (by omega) D (.slice none 0 0) (.slice (some ⟨g9, 0, none⟩) u c9) cs u rfl (F.out.1.drewN _) rfl rfl H.out.2.2.2.2 (by omega) F.out.2.2.2.2.1 ?_; intro G cap w' h2 h3 h4 h5 h6; have H9 := Lib.hid (And.intro h2 (And.intro h3 (And.intro h4 h5))); clear h2 h3 h4 h5))
            have e1 : IntKind.i64.wrap ((k : Int) + 1) = (k : Int) + 1 := IntWalk.i64_in _ (by omega)
            have e2 : (0 : Int) ≤ (k : Int) + 1 := by omega
            have e3 : ((k : Int) + 1).toNat = k + 1 := by omega
            have e4 : (k : Int) + 1 ≤ (u : Int) + 1 := by omega
            have e5 : (k : Int) ≤ (u : Int) + 1 := by omega
            go_still_tail 7, (by kernel_rfl)
            clear e1 e2 e3 e4 e5
            change wpList _ _ _ _ _ w'.drew
            have hcl := H.out.2.2.2.2
            refine copy1 rfl (.tmp 61) (.tmp 64) 42 23 rfl Tryz.underlying42 i29 I29.out.1 I29.out.2.2.1 D G (u + 1) cap (cs ++ [Value.slice none 0 0]) H9.out.1.drew _ _ _ _ _ _ rfl rfl (k + 1) (((cs ++ [Value.slice none 0 0]).drop k).take (u - k)) ?_ ?_ ?_ ?_ ?_
            · have h1 : Nat.min (u + 1 - k) (u - k) = u - k := by show min (u + 1 - k) (u - k) = u - k; omega
              rw [h1]
              simp; omega
            · intro hp
              have hp' : 0 < u - k := by simp at hp; omega
              rw [if_neg (by omega), if_neg (by omega)]
              refine ⟨rfl, _, rfl, fun j y hy => ?_⟩
              rw [add_zero_addr]
              rw [List.getElem?_take] at hy
              split at hy
              · rw [List.getElem?_drop] at hy
                rw [← hy]
                exact H9.out.1.drew.cell (k + j) (by simp; omega)
              · cases hy
            · simp; omega
            · intro y hy
              have hy2 := List.mem_of_mem_drop (List.mem_of_mem_take hy)
              rcases List.mem_append.1 hy2 with h | h
              · obtain ⟨j, hj⟩ := List.mem_iff_getElem?.1 h
                have hjl : j < cs.length := (List.getElem?_eq_some_iff.1 hj).1
                obtain ⟨uv, h1, h2⟩ := F.out.2.1.at_ (k := j) (by rw [← F.out.2.1.1]; exact hjl)
                rw [h1] at hj; cases hj
                rcases h2.2 with ⟨rfl, _⟩ | ⟨_, _, _, rfl, _⟩ <;> rfl
              · rw [List.mem_singleton.1 h]; rfl
            intro w3 ho3 hg3
            have hx3 := ho3.put k (.slice (some ⟨T, 0, none⟩) 3 3)
            rw [ins_copy cs _ _ u k hcl hk] at hx3
            have hl3 : k < (List.take (k + 1) (cs ++ [Value.slice none 0 0]) ++ (List.take (u - k) (List.drop k (cs ++ [Value.slice none 0 0])) ++ List.drop (k + 1 + (List.take (u - k) (List.drop k (cs ++ [Value.slice none 0 0]))).length) (cs ++ [Value.slice none 0 0]))).length := by simp; omega
            have hc3 := ho3.cell k hl3
            rw [List.getElem?_eq_getElem hl3] at hc3
            generalize (List.take (k + 1) (cs ++ [Value.slice none 0 0]) ++ (List.take (u - k) (List.drop k (cs ++ [Value.slice none 0 0])) ++ List.drop (k + 1 + (List.take (u - k) (List.drop k (cs ++ [Value.slice none 0 0]))).length) (cs ++ [Value.slice none 0 0])))[k] = old at hc3
            have hf3 := ho3.frozen k
            have H3 := Lib.hid (And.intro hx3 (And.intro hg3 ho3))
            clear ho3 hg3 hx3 hl3 hcl
            go_wp2
            have key : ∀ (uv : Value) (ys : List Value), Own w2 D uv 3 ys → Own (w3.setCell ⟨G, k, none⟩ (.slice (some ⟨T, 0, none⟩) 3 3)) D uv 3 ys := fun uv ys h => by
              have h1 := (h.drewN (q + q')).kept H9.out.2.1 (h.ne_type F.out.1 (by decide))
              have h2 := h1.drew.kept H3.out.2.1 (h1.ne_type H9.out.1 (by decide))
              exact h2.kept (grown_put k _) (h2.ne_type H3.out.2.2 (by decide))
            refine ⟨⟨u + 1, cs.take k ++ .slice (some ⟨T, 0, none⟩) 3 3 :: cs.drop k, by omega, by go_num, H3.out.1, ?_, ?_⟩, by simp [intOf]; omega⟩
            · have hs : sortTo (triple x m v) (u + 1) = S.take k ++ ([t] ++ S.drop k) := by
                rw [sortTo, insT, ← HS.out.1, ← F.out.2.2.2.2.2.1, HS.out.2.1, Hpos.out]; rfl
              have hr2 : OwnRows (w3.setCell ⟨G, k, none⟩ (.slice (some ⟨T, 0, none⟩) 3 3)) D 3 cs S := ⟨by rw [HS.out.1]; exact F.out.2.1.1, fun i uv xs hu hx => key _ _ (F.out.2.1.2 i uv xs hu (by rw [← HS.out.1]; exact hx))⟩
              rw [hs]
              exact (hr2.take k).app ((OwnRows.one (key _ _ F.out.2.2.1)).app (hr2.drop k))
            · have hD1 : D ≤ w'.heap.size := by have := H9.out.2.1.size; have := F.out.2.2.2.2.1; simp at *; omega
              have b1 : Below D w w' := (below_drewN F.out.2.2.2.1 (q + q')).grown H9.out.2.1 (by have := F.out.2.2.2.2.1; simpa using this) (fun g hg => by
                rcases F.out.1.blk with e | ⟨g', _, e, hB, _⟩
                · rw [e] at hg; cases hg
                · rw [e] at hg; cases hg; exact hB)
              have b2 : Below D w w3 := b1.drew.grown H3.out.2.1 (by simpa using hD1) (fun g hg => by cases hg; exact H9.out.2.2.2)
              exact b2.setCell H9.out.2.2.2 _
        · have hpos : atTo t S u = k := by
            have h0 : k = 0 := by omega
            rw [Hat.out, h0, atTo]
          have Hpos := Lib.hid hpos
          clear hpos
          go_wp2_with ((at_builtin; refine app1f rfl (.tmp 55) (.tmp 56) 42 23 rfl i29 (.slice none 0 0) 24 Tryz.underlying42 I29.out.1 I29.out.2.1 I29.out.2.2.1 I29.out.2.2.2 rfl (by omega) D (.slice none 0 0) (.slice a9 u c9) cs u rfl (F.out.1.drewN _) rfl rfl H.out.2.2.2.2 (by omega) F.out.2.2.2.2.1 ?_; intro G cap w' h2 h3 h4 h5 h6; have H9 := Lib.hid (And.intro h2 (And.intro h3 (And.intro h4 h5))); clear h2 h3 h4 h5))
          have e1 : IntKind.i64.wrap ((k : Int) + 1) = (k : Int) + 1 := IntWalk.i64_in _ (by omega)
          have e2 : (0 : Int) ≤ (k : Int) + 1 := by omega
          have e3 : ((k : Int) + 1).toNat = k + 1 := by omega
          have e4 : (k : Int) + 1 ≤ (u : Int) + 1 := by omega
          have e5 : (k : Int) ≤ (u : Int) + 1 := by omega
          go_still_tail 7, (by kernel_rfl)
          clear e1 e2 e3 e4 e5
          change wpList _ _ _ _ _ w'.drew
          have hcl := H.out.2.2.2.2
          refine copy1 rfl (.tmp 61) (.tmp 64) 42 23 rfl Tryz.underlying42 i29 I29.out.1 I29.out.2.2.1 D G (u + 1) cap (cs ++ [Value.slice none 0 0]) H9.out.1.drew _ _ _ _ _ _ rfl rfl (k + 1) (((cs ++ [Value.slice none 0 0]).drop k).take (u - k)) ?_ ?_ ?_ ?_ ?_
          · have h1 : Nat.min (u + 1 - k) (u - k) = u - k := by show min (u + 1 - k) (u - k) = u - k; omega
            rw [h1]
            simp; omega
          · intro hp
            have hp' : 0 < u - k := by simp at hp; omega
            rw [if_neg (by omega), if_neg (by omega)]
            refine ⟨rfl, _, rfl, fun j y hy => ?_⟩
            rw [add_zero_addr]
            rw [List.getElem?_take] at hy
            split at hy
            · rw [List.getElem?_drop] at hy
              rw [← hy]
              exact H9.out.1.drew.cell (k + j) (by simp; omega)
            · cases hy
          · simp; omega
          · intro y hy
            have hy2 := List.mem_of_mem_drop (List.mem_of_mem_take hy)
            rcases List.mem_append.1 hy2 with h | h
            · obtain ⟨j, hj⟩ := List.mem_iff_getElem?.1 h
              have hjl : j < cs.length := (List.getElem?_eq_some_iff.1 hj).1
              obtain ⟨uv, h1, h2⟩ := F.out.2.1.at_ (k := j) (by rw [← F.out.2.1.1]; exact hjl)
              rw [h1] at hj; cases hj
              rcases h2.2 with ⟨rfl, _⟩ | ⟨_, _, _, rfl, _⟩ <;> rfl
            · rw [List.mem_singleton.1 h]; rfl
          intro w3 ho3 hg3
          have hx3 := ho3.put k (.slice (some ⟨T, 0, none⟩) 3 3)
          rw [ins_copy cs _ _ u k hcl hk] at hx3
          have hl3 : k < (List.take (k + 1) (cs ++ [Value.slice none 0 0]) ++ (List.take (u - k) (List.drop k (cs ++ [Value.slice none 0 0])) ++ List.drop (k + 1 + (List.take (u - k) (List.drop k (cs ++ [Value.slice none 0 0]))).length) (cs ++ [Value.slice none 0 0]))).length := by simp; omega
          have hc3 := ho3.cell k hl3
          rw [List.getElem?_eq_getElem hl3] at hc3
          generalize (List.take (k + 1) (cs ++ [Value.slice none 0 0]) ++ (List.take (u - k) (List.drop k (cs ++ [Value.slice none 0 0])) ++ List.drop (k + 1 + (List.take (u - k) (List.drop k (cs ++ [Value.slice none 0 0]))).length) (cs ++ [Value.slice none 0 0])))[k] = old at hc3
          have hf3 := ho3.frozen k
          have H3 := Lib.hid (And.intro hx3 (And.intro hg3 ho3))
          clear ho3 hg3 hx3 hl3 hcl
          go_wp2
          have key : ∀ (uv : Value) (ys : List Value), Own w2 D uv 3 ys → Own (w3.setCell ⟨G, k, none⟩ (.slice (some ⟨T, 0, none⟩) 3 3)) D uv 3 ys := fun uv ys h => by
            have h1 := (h.drewN q).kept H9.out.2.1 (h.ne_type F.out.1 (by decide))
            have h2 := h1.drew.kept H3.out.2.1 (h1.ne_type H9.out.1 (by decide))
            exact h2.kept (grown_put k _) (h2.ne_type H3.out.2.2 (by decide))
          refine ⟨⟨u + 1, cs.take k ++ .slice (some ⟨T, 0, none⟩) 3 3 :: cs.drop k, by omega, by go_num, H3.out.1, ?_, ?_⟩, by simp [intOf]; omega⟩
          · have hs : sortTo (triple x m v) (u + 1) = S.take k ++ ([t] ++ S.drop k) := by
              rw [sortTo, insT, ← HS.out.1, ← F.out.2.2.2.2.2.1, HS.out.2.1, Hpos.out]; rfl
            have hr2 : OwnRows (w3.setCell ⟨G, k, none⟩ (.slice (some ⟨T, 0, none⟩) 3 3)) D 3 cs S := ⟨by rw [HS.out.1]; exact F.out.2.1.1, fun i uv xs hu hx => key _ _ (F.out.2.1.2 i uv xs hu (by rw [← HS.out.1]; exact hx))⟩
            rw [hs]
            exact (hr2.take k).app ((OwnRows.one (key _ _ F.out.2.2.1)).app (hr2.drop k))
          · have hD1 : D ≤ w'.heap.size := by have := H9.out.2.1.size; have := F.out.2.2.2.2.1; simp at *; omega
            have b1 : Below D w w' := (below_drewN F.out.2.2.2.1 q).grown H9.out.2.1 (by have := F.out.2.2.2.2.1; simpa using this) (fun g hg => by
              rcases F.out.1.blk with e | ⟨g', _, e, hB, _⟩
              · rw [e] at hg; cases hg
              · rw [e] at hg; cases hg; exact hB)
            have b2 : Below D w w3 := b1.drew.grown H3.out.2.1 (by simpa using hD1) (fun g hg => by cases hg; exact H9.out.2.2.2)
            exact b2.setCell H9.out.2.2.2 _
    · obtain rfl : u = n := by omega
      obtain ⟨g1, o1, rfl, _, hc1⟩ := hx2.at_ (k := v) (by rw [H0.out.2.2.1]; exact hv)
      have hcs : cs.length = u := by rw [hr.1, sortTo_len]
      obtain ⟨a9, c9, rfl, _⟩ := ho.row (by rw [hcs]; unfold maxLen; omega)
      rw [hcs] at ho ⊢
      obtain ⟨g9, rfl, -⟩ := ho.at_form (by omega)
      obtain ⟨S, hS⟩ : ∃ S, S = sortTo (triple x m v) u := ⟨_, rfl⟩
      have hSl : S.length = u := by rw [hS, sortTo_len]
      have hS3 : ∀ y ∈ S, y.length = 3 := by
        intro y hy; rw [hS] at hy; obtain ⟨k, _, rfl⟩ := mem_sortTo hy; rfl
      rw [← hS] at hr
      obtain ⟨wo, rfl⟩ : ∃ wo : World, wo = wr := ⟨_, rfl⟩
      have HS := Lib.hid (And.intro hS (And.intro hSl (And.intro hS3 hcs)))
      have H := Lib.hid (And.intro ho (And.intro hr (And.intro hbl hDw)))
      obtain ⟨x0, hx0⟩ : ∃ x0, x[v]?.getD 0 = x0 := ⟨_, rfl⟩
      rw [hx0] at hc1
      have Hx0 := Lib.hid hx0
      clear ho hr hbl hx2 hm2 hDw hcs hS hSl hS3 hx0
      go_wp2
      go_loopw [13, 14] (fun out i wr => ∃ k : Nat, k ≤ u ∧ i = .int .i64 k ∧ Own wr wo.heap.size out 3 (ints (x0 :: (S.take k).flatten)) ∧ Below wo.heap.size wo wr) (fun _ i _ => u - (intOf i).toNat)
      case atStart =>
        refine ⟨0, by omega, rfl, ?_, (Below.refl _ _).alloc (Nat.le_refl _) _⟩
        exact Own.new (w := wo) 3 [.int .i64 x0] (Nat.le_refl _) (by unfold maxLen; simp)
      case round =>
        obtain ⟨k, hk, rfl, ho3, hb3⟩ := hrel
        have hfl : (S.take k).flatten.length = 3 * k := by
          rw [flatten_len3 (fun y hy => HS.out.2.2.1 y (List.mem_of_mem_take hy))]; simp [HS.out.2.1]; omega
        have hol : (ints (x0 :: (S.take k).flatten)).length = 3 * k + 1 := by rw [ints_len, List.length_cons, hfl]
        by_cases hkl : k < u
        · obtain ⟨uv, hcv, hov⟩ := H.out.2.1.at_ (k := k) (by rw [HS.out.2.1]; exact hkl)
          obtain ⟨y, hy⟩ : ∃ y, y = S[k]?.getD [] := ⟨_, rfl⟩
          have hyl : y.length = 3 := by
            rw [hy, List.getElem?_eq_getElem (by rw [HS.out.2.1]; omega)]
            exact HS.out.2.2.1 _ (List.getElem_mem _)
          rw [← hy] at hov
          obtain ⟨gk, ck, rfl, _⟩ := hov.form (by rw [ints_len, hyl]; omega)
          rw [ints_len, hyl] at hcv hov
          obtain ⟨gk2, e2, _, hgk, -⟩ := hov.at_form (by omega)
          cases e2
          have hc9 := H.out.1.cell k (by rw [HS.out.2.2.2]; exact hkl)
          rw [hcv] at hc9
          have hc8 : wr.cell? ⟨g9, k, none⟩ = some (.slice (some ⟨gk, 0, none⟩) 3 ck) := (hb3.cell (block_lt_of_cell hc9)).trans hc9
          have hnext : (S.take (k + 1)).flatten = (S.take k).flatten ++ y := by rw [take_flatten (by rw [HS.out.2.1]; exact hkl), hy]
          have hsrc : ∀ (j : Nat) (z : Value), (ints y)[j]? = some z → wr.cell? ⟨gk, 0 + j, none⟩ = some z := fun j z hz => by
            have hj : j < (ints y).length := (List.getElem?_eq_some_iff.1 hz).1
            rw [Nat.zero_add, hb3.cell (p := ⟨gk, j, none⟩) hgk, hov.cell j hj, hz]
          have Hz := Lib.hid (And.intro ho3 (And.intro hb3 (And.intro hnext (And.intro hsrc (And.intro hol hyl)))))
          clear ho3 hb3 hnext hsrc hol hyl hov hcv hc9 hfl
          go_wp2_with (at_builtin; refine appN rfl (.tmp 81) (.tmp 85) 23 3 rfl i3 (.int .i64 0) 8 Tryz.underlying23 I3.out.1 I3.out.2.1 I3.out.2.2.1 I3.out.2.2.2 rfl (by omega) wo.heap.size u13 (ints (x0 :: (S.take k).flatten)) (ints y) rfl Hz.out.1 gk 0 3 ck rfl (by rw [ints_len, Hz.out.2.2.2.2.2]) Hz.out.2.2.2.1 (fun z hz => by obtain ⟨b, _, rfl⟩ := List.mem_map.1 hz; rfl) (by rw [Hz.out.2.2.2.2.1]; omega) Hz.out.2.1.size ?_; intro v' w' h2 h3 h4; have H9 := Lib.hid (And.intro h2 h3); clear h2 h3 h4)
          refine ⟨⟨k + 1, by omega, by go_num, ?_, ?_⟩, by simp [intOf]; omega⟩
          · rw [Hz.out.2.2.1]
            have := H9.out.1
            simpa [ints] using this
          · exact Hz.out.2.1.grown H9.out.2 Hz.out.2.1.size (fun g hg => by
              rcases Hz.out.1.blk with e | ⟨g', _, e, hB, _⟩
              · rw [e] at hg; cases hg
              · rw [e] at hg; cases hg; exact hB)
        · have hfin : keyL u x m v = x0 :: (S.take k).flatten := by
            rw [keyL, Hx0.out, ← HS.out.1, List.take_of_length_le (by rw [HS.out.2.1]; omega)]
          have Hz := Lib.hid (And.intro ho3 (And.intro hb3 hfin))
          clear ho3 hb3 hfin hol hfl
          go_wp2
          go_ret
          refine ⟨_, rfl, ?_, ?_⟩
          · rw [Hz.out.2.2]; exact Hz.out.1.mono H.out.2.2.2
          · exact H.out.2.2.1.trans (Hz.out.2.1.mono H.out.2.2.2)
end Go.Proofs.YtifkieopaoooeaaGreatDoor

namespace Go.Proofs.YtifkieopaoooeaaGreatDoor
open Go.RowKit Plain

set_option maxHeartbeats 1000000 in
theorem roundR_calls (n : Nat) (al am : Option Addr) (cl cm : Nat) (l m : List (List Int)) (w : World) (hl : Rows w al l) (hm : Rows w am m) (hn : n ≤ 64) (hin : InRange n l) (hmm : IsMat n m) :
    Calls Tryz.prog 114 #[.int .i64 n, .slice al l.length cl, .slice am n cm] w fun e w' => ∃ a c, e = .returned (.slice a (roundL n l m).length c) ∧ Rows w' a (roundL n l m) ∧ Below w.heap.size w w' := by
  have hlab := labelsR_calls n al cl l w hl (by omega) hin
  have H0 := Lib.hid (And.intro hl (And.intro hm (And.intro hin (And.intro hmm hlab))))
  obtain ⟨L, hL⟩ : ∃ L, L = l.length := ⟨_, rfl⟩
  rw [← hL] at H0 ⊢
  have HL := Lib.hid hL
  clear hl hm hin hmm hlab hL
  obtain ⟨i29, hi29, hz29, hs29, hb29⟩ := info_parts Tryz.info23
  have I29 := Lib.hid (And.intro hi29 (And.intro hz29 (And.intro hs29 hb29)))
  clear hi29 hz29 hs29 hb29
  obtain ⟨D, hD⟩ : ∃ D, D = w.heap.size := ⟨_, rfl⟩
  rw [← hD]
  have HD := Lib.hid hD
  clear hD
  obtain ⟨x, hx⟩ : ∃ x, x = labelsL n l := ⟨_, rfl⟩
  have Hx := Lib.hid hx
  clear hx
  go_enter Tryz.func114, Tryz.ntmps114
  go_wp2_with (go_at_call 130; refine H0.out.2.2.2.2.mono ?_; rintro e w1 ⟨v, rfl, hv, hb⟩; have H1 := Lib.hid (And.intro hv hb); clear hv hb)
  have hlx : (ints (labelsL n l)).length = n := by rw [ints_len, labelsL_len]
  obtain ⟨ax, cx, rfl, _⟩ := H1.out.1.row (by rw [hlx]; unfold maxLen; omega)
  rw [hlx] at H1 ⊢
  have H2 : Hid (Own w1 D (.slice ax n cx) 3 (ints x)) := Lib.hid (by rw [Hx.out, HD.out]; exact H1.out.1)
  clear hlx
  obtain ⟨R, hR⟩ : ∃ R : Nat → List Int, R = fun v => keyL n x m v := ⟨_, rfl⟩
  have HR := Lib.hid hR
  clear hR
  go_loopw [8, 9] (fun v i wr => ∃ (k : Nat) (cs : List Value), k ≤ n ∧ i = .int .i64 k ∧ Own wr D v 23 cs ∧ OwnRows wr D 3 cs ((List.range k).map R) ∧ Below D w wr ∧ Own wr D (.slice ax n cx) 3 (ints x)) (fun _ i _ => n - (intOf i).toNat)
  case atStart => exact ⟨0, [], by omega, rfl, Own.nil _ _ _, OwnRows.nil _ _ _, by rw [HD.out]; exact H1.out.2, H2.out⟩
  case round =>
    obtain ⟨k, cs, hk, rfl, ho, hr, hbl, hxi⟩ := hrel
    have hm2 : Rows wr am m := H0.out.2.1.below (by rw [← HD.out]; exact hbl)
    have hDw : D ≤ wr.heap.size := by have := hbl.size; have := HD.out; omega
    have hxl : x.length = n := by rw [Hx.out, labelsL_len]
    have hcs : cs.length = k := by rw [hr.1]; simp
    by_cases hlt : k < n
    · have hkey := key_calls n k ax am cx cm x m wr (hxi.toInts (by rw [hxl]; unfold maxLen; omega)) hm2 (by omega) hxl H0.out.2.2.2.1 hlt
      have hRk : R k = keyL n x m k := by rw [HR.out]
      rw [← hRk] at hkey
      have hRl : (R k).length = 3 * n + 1 := by rw [hRk, keyL_len]
      have H := Lib.hid (And.intro ho (And.intro hr (And.intro hbl (And.intro hDw (And.intro hcs (And.intro hkey (And.intro hxi hRl)))))))
      clear ho hr hbl hm2 hDw hcs hkey hRk hxi hRl hxl
      go_wp2_with (first
        | (go_at_call 131; refine H.out.2.2.2.2.2.1.mono ?_; rintro e w3 ⟨v3, rfl, hv3, hb3⟩; obtain ⟨a3, c3, rfl, _⟩ := hv3.row (by rw [ints_len, H.out.2.2.2.2.2.2.2]; unfold maxLen; omega); have H3 := Lib.hid (And.intro hv3 hb3); clear hv3 hb3)
        | (at_builtin; refine app1f rfl (.tmp 18) (.tmp 24) 42 23 rfl i29 (.slice none 0 0) 24 Tryz.underlying42 I29.out.1 I29.out.2.1 I29.out.2.2.1 I29.out.2.2.2 rfl (by omega) D _ u8 cs k rfl (H.out.1.kept (grown_below H3.out.2 none) (by rcases H.out.1.blk with e | ⟨g, _, e, _⟩ <;> simp [e])) rfl rfl H.out.2.2.2.2.1 (by omega) (Nat.le_trans H.out.2.2.2.1 H3.out.2.size) ?_; intro G cap w' h2 h3 h4 h5 h6; have H9 := Lib.hid (And.intro h2 (And.intro h3 (And.intro h4 h5))); clear h2 h3 h4 h5))
      refine ⟨⟨k + 1, cs ++ [_], by omega, by go_num, H9.out.1, ?_, ?_, ?_⟩, by simp [intOf]; omega⟩
      · rw [List.range_succ, List.map_append]
        have hbk : ∀ (uv : Value) (ys : List Value), uv.ownBlock = none ∨ uv.ownBlock ≠ none := fun uv ys => by
          cases uv.ownBlock <;> simp
        have hok := H.out.1.kept (grown_below H3.out.2 none) (hbk _ [])
        have h1 := (H.out.2.1.kept (grown_below H3.out.2 none) (fun uv ys _ => hbk uv ys)).kept H9.out.2.1 (fun uv ys h => h.ne_type hok (by decide))
        have h2 := (H3.out.1.mono H.out.2.2.2.1).kept H9.out.2.1 (H3.out.1.ne_type hok (by decide))
        exact h1.app (OwnRows.one h2)
      · exact (H.out.2.2.1.trans (H3.out.2.mono H.out.2.2.2.1)).grown H9.out.2.1 (Nat.le_trans H.out.2.2.2.1 H3.out.2.size) (fun g hg => by
          rcases H.out.1.blk with e | ⟨g', _, e, hB, _⟩
          · rw [e] at hg; cases hg
          · rw [e] at hg; cases hg; exact hB)
      · have hbk : ∀ (uv : Value), uv.ownBlock = none ∨ uv.ownBlock ≠ none := fun uv => by
          cases uv.ownBlock <;> simp
        have hok := H.out.1.kept (grown_below H3.out.2 none) (hbk _)
        have h1 := H.out.2.2.2.2.2.2.1.kept (grown_below H3.out.2 none) (hbk _)
        exact h1.kept H9.out.2.1 (h1.ne_type hok (by decide))
    · have hrows := hr.rows ho (by rw [hcs]; unfold maxLen; omega) (fun xs hx => by
        obtain ⟨i, _, rfl⟩ := List.mem_map.1 hx
        rw [HR.out, keyL_len]; unfold maxLen; omega)
      obtain rfl : k = n := by omega
      have hrow : (List.range k).map R = rowsL k m x := by rw [HR.out]; rfl
      rw [hrow] at hrows
      obtain ⟨a8, c8, rfl, hrows⟩ := hrows
      have hcol := collect_calls a8 c8 (rowsL k m x) wr hrows (by rw [rowsL_len]; omega)
      have hfin : collect (rowsL k m x) = roundL k l m := by rw [roundL, Hx.out]
      rw [hfin] at hcol
      obtain ⟨N, hN⟩ : ∃ N, (rowsL k m x).length = N := ⟨_, rfl⟩
      rw [hN] at hcol ⊢
      have Hc := Lib.hid (And.intro hcol (And.intro hbl hDw))
      clear hcol hrows hrow hcs hbl ho hr hxi hm2 hDw hfin hN hxl
      go_wp2_with (go_at_call 101; refine Hc.out.1.mono ?_; rintro e w3 ⟨a3, c3, rfl, hr3, hb3⟩; have H3 := Lib.hid (And.intro hr3 hb3); clear hr3 hb3)
      go_ret
      exact ⟨a3, c3, rfl, H3.out.1, Hc.out.2.1.trans (H3.out.2.mono Hc.out.2.2)⟩
end Go.Proofs.YtifkieopaoooeaaGreatDoor

namespace Go.Proofs.YtifkieopaoooeaaGreatDoor
open Go.RowKit Plain

theorem Rows.nil' (w : World) : Rows w none [] := ⟨[], Row.nil, rfl, fun i u xs h => by simp at h⟩
theorem Rows.rowlen {w : World} {a : Option Addr} {m : List (List Int)} (h : Rows w a m) {k : Nat} (hk : k < m.length) :
    ∃ g o b c, a = some ⟨g, o, none⟩ ∧ w.cell? ⟨g, o + k, none⟩ = some (.slice b (m[k]?.getD []).length c) ∧ (m[k]?.getD []).length ≤ 9223372036854775807 := by
  obtain ⟨g, o, b, c, e, _, h1, h2⟩ := h.at_ hk
  exact ⟨g, o, b, c, e, h1, h2.len⟩

set_option maxHeartbeats 1000000 in
theorem refineR_calls (n : Int) (al am : Option Addr) (cl cm : Nat) (l m : List (List Int)) (w : World) (hl : Rows w al l) (hm : Rows w am m) :
    Calls Tryz.prog 87 #[.int .i64 n, .slice al l.length cl, .slice am m.length cm] w fun e w' => ∃ a c, e = .returned (.tuple #[.slice a (refineA n l m).1.length c, .int .i64 (refineA n l m).2]) ∧ Rows w' a (refineA n l m).1 ∧ Below w.heap.size w w' := by
  have hck := checkR_calls n al cl l w hl
  by_cases h0 : chk n l = 0
  case neg =>
    rw [refineA_bad h0]
    obtain ⟨L, hL⟩ : ∃ L, L = l.length := ⟨_, rfl⟩
    rw [← hL] at hck ⊢
    obtain ⟨M, hM⟩ : ∃ M, M = m.length := ⟨_, rfl⟩
    rw [← hM]
    obtain ⟨r, hr⟩ : ∃ r, chk n l = r := ⟨_, rfl⟩
    rw [hr] at hck h0 ⊢
    have Hc := Lib.hid hck
    have h1 : (r == 0) = false := by simpa using h0
    have h2 : (r != 0) = true := by simpa using h0
    clear hck hL hM hr hl hm
    go_enter Tryz.func87, Tryz.ntmps87
    go_wp2_with (go_at_call 113; refine Hc.out.mono ?_; rintro e w1 ⟨rfl, hb⟩; have H1 := Lib.hid hb; clear hb)
    go_ret2
    exact ⟨none, 0, rfl, Rows.nil' _, H1.out⟩
  rw [h0] at hck
  obtain ⟨hn0, hn64, _⟩ := chk_zero h0
  obtain ⟨n, rfl⟩ := Int.eq_ofNat_of_zero_le hn0
  have hg := chk_good h0
  have H0 := Lib.hid (And.intro hl (And.intro hm (And.intro hg (And.intro h0 hck))))
  have hml := hm.len
  clear hl hm hg h0 hck hn0
  obtain ⟨L, hL⟩ : ∃ L, L = l.length := ⟨_, rfl⟩
  rw [← hL] at H0 ⊢
  obtain ⟨M, hM⟩ : ∃ M, M = m.length := ⟨_, rfl⟩
  rw [← hM] at hml ⊢
  have HL := Lib.hid (And.intro hL hM)
  clear hL hM
  by_cases hmn : M = n
  case neg =>
    have hno : ¬ IsMat n m := fun h => hmn (by rw [HL.out.2]; exact h.1)
    rw [refineA_mat H0.out.2.2.2.1 hno]
    have h1 : ((M : Int) == n) = false := by simp; omega
    have h2 : ((M : Int) != n) = true := by simp; omega
    go_enter Tryz.func87, Tryz.ntmps87
    go_wp2_with (go_at_call 113; refine H0.out.2.2.2.2.mono ?_; rintro e w1 ⟨rfl, hb⟩; have H1 := Lib.hid hb; clear hb)
    go_ret2
    exact ⟨none, 0, rfl, Rows.nil' _, H1.out⟩
  subst hmn
  obtain ⟨D, hD⟩ : ∃ D, D = w.heap.size := ⟨_, rfl⟩
  rw [← hD]
  have HD := Lib.hid hD
  clear hD
  go_enter Tryz.func87, Tryz.ntmps87
  go_wp2_with (go_at_call 113; refine H0.out.2.2.2.2.mono ?_; rintro e w1 ⟨rfl, hb⟩; have H1 := Lib.hid hb; clear hb)
  go_loopw [9] (fun i wr => ∃ k : Nat, k ≤ M ∧ i = .int .i64 k ∧ wr = w1 ∧ ∀ j, j < k → (m[j]?.getD []).length = M) (fun i _ => M - (intOf i).toNat)
  case atStart => exact ⟨0, by omega, rfl, rfl, fun j hj => by omega⟩
  case round =>
    obtain ⟨k, hk, rfl, rfl, hall⟩ := hrel
    have Hall := Lib.hid hall
    clear hall
    by_cases hlt : k < M
    · obtain ⟨g, o, b, c, rfl, hc, hlen⟩ := (H0.out.2.1.below H1.out).rowlen (k := k) (by rw [← HL.out.2]; exact hlt)
      obtain ⟨q, hq⟩ : ∃ q, (m[k]?.getD []).length = q := ⟨_, rfl⟩
      rw [hq] at hc hlen
      have Hq := Lib.hid hq
      clear hq
      by_cases hqM : q = M
      · have Hq2 := Lib.hid (Hq.out.trans hqM)
        subst hqM
        go_wp2
        exact ⟨⟨k + 1, by omega, by go_num, by trivial, fun j hj => by
          by_cases e : j = k
          · rw [e]; exact Hq2.out
          · exact Hall.out j (by omega)⟩, by simp [intOf]; omega⟩
      · have h1 : ((q : Int) == M) = false := by simp; omega
        have h2 : ((q : Int) != M) = true := by simp; omega
        have hno : ¬ IsMat M m := fun h => hqM (by rw [← Hq.out]; exact h.row hlt)
        have Hno := Lib.hid hno
        clear hno
        go_wp2
        go_ret2
        rw [refineA_mat H0.out.2.2.2.1 Hno.out]
        exact ⟨none, 0, rfl, Rows.nil' _, by rw [HD.out]; exact H1.out⟩
    · have hmat : IsMat M m := ⟨HL.out.2.symm, fun r hr => by
        obtain ⟨j, hj⟩ := List.mem_iff_getElem?.1 hr
        have hjl := (List.getElem?_eq_some_iff.1 hj).1
        have := Hall.out j (by have := HL.out.2; omega)
        rw [hj] at this; exact this⟩
      have Hmat := Lib.hid hmat
      clear hmat
      have hD1 : D ≤ wr.heap.size := by rw [HD.out]; exact H1.out.size
      have HD1 := Lib.hid hD1
      clear hD1
      go_wp2
      go_loopg [1] (M + 1) (fun f v wr => ∃ (a : Option Addr) (c : Nat) (cur : List (List Int)) (f' : Nat), v = .slice a cur.length c ∧ Rows wr a cur ∧ Plain.Good M cur ∧ Below D w wr ∧ f = f' + 1 ∧ M ≤ f' + cur.length ∧ refineL M l m = refL M m f cur)
      case atStart => exact ⟨al, cl, l, M, by rw [HL.out.1], H0.out.1.below H1.out, H0.out.2.2.1, by rw [HD.out]; exact H1.out, rfl, by omega, rfl⟩
      case round =>
        obtain ⟨a, c, cur, f', rfl, hrows, hgood, hbl, rfl, hf, he⟩ := hrel
        have hm2 : Rows wr am m := H0.out.2.1.below (by rw [← HD.out]; exact hbl)
        have hrd := roundR_calls M a am c cm cur m wr hrows hm2 (by omega) hgood.inr Hmat.out
        have hDw : D ≤ wr.heap.size := by have := hbl.size; have := HD.out; omega
        obtain ⟨C, hC⟩ : ∃ C, C = cur.length := ⟨_, rfl⟩
        rw [← hC] at hrd ⊢
        obtain ⟨N, hN⟩ : ∃ N, N = (roundL M cur m).length := ⟨_, rfl⟩
        rw [← hN] at hrd
        have hgr := round_grows (m := m) hgood
        have hgd2 := (round_good M cur m).len_le
        rw [← hN] at hgr hgd2
        rw [← hC] at hgr hf
        have H := Lib.hid (And.intro hrd (And.intro hC (And.intro hN (And.intro hbl (And.intro hDw he)))))
        clear hrd hC hN hbl hDw he hm2 hrows hgood
        by_cases hNC : N = C
        · have h1 : ((N : Int) == C) = true := by simp; omega
          have Hf := Lib.hid hNC
          go_wp2_with (go_at_call 114; refine H.out.1.mono ?_; rintro e w3 ⟨a3, c3, rfl, hr3, hb3⟩; have H3 := Lib.hid (And.intro hr3 hb3); clear hr3 hb3)
          go_ret2
          have hfin : refineL M l m = roundL M cur m := by rw [H.out.2.2.2.2.2, refL_end (by rw [← H.out.2.2.1, ← H.out.2.1]; exact Hf.out)]
          rw [refineA_ok H0.out.2.2.2.1 Hmat.out]
          simp only [hfin]
          exact ⟨a3, c3, by rw [← H.out.2.2.1, hNC]; rfl, H3.out.1, H.out.2.2.2.1.trans (H3.out.2.mono H.out.2.2.2.2.1)⟩
        · have h1 : ((N : Int) == C) = false := by simp; omega
          go_wp2_with (go_at_call 114; refine H.out.1.mono ?_; rintro e w3 ⟨a3, c3, rfl, hr3, hb3⟩; have H3 := Lib.hid (And.intro hr3 hb3); clear hr3 hb3)
          go_roundg (f')
          case measure => omega
          case rel =>
            obtain ⟨f', rfl⟩ : ∃ f, f' = f + 1 := ⟨f' - 1, by omega⟩
            refine ⟨a3, c3, roundL M cur m, f', by rw [H.out.2.2.1], H3.out.1, round_good _ _ _, H.out.2.2.2.1.trans (H3.out.2.mono H.out.2.2.2.2.1), rfl, by rw [← H.out.2.2.1]; omega, ?_⟩
            rw [H.out.2.2.2.2.2, refL_next (by rw [← H.out.2.2.1, ← H.out.2.1]; exact hNC)]
end Go.Proofs.YtifkieopaoooeaaGreatDoor

namespace Go.Proofs.YtifkieopaoooeaaGreatDoor
open Go.RowKit Plain

/-- The first number that is not 0. -/
def orL : List Int → Int
  | [] => 0
  | x :: r => if x ≠ 0 then x else orL r
theorem orL_next {xs : List Int} {k : Nat} (h : k < xs.length) (h0 : xs[k]?.getD 0 = 0) : orL (xs.drop k) = orL (xs.drop (k + 1)) := by
  rw [drop_cons (d := 0) h, orL, if_neg (by simp [h0])]
theorem orL_hit {xs : List Int} {k : Nat} (h : k < xs.length) (h0 : xs[k]?.getD 0 ≠ 0) : orL (xs.drop k) = xs[k]?.getD 0 := by
  rw [drop_cons (d := 0) h, orL, if_pos h0]

set_option maxHeartbeats 400000 in
theorem or_calls (a : Option Addr) (c : Nat) (xs : List Int) (w : World) (ha : Ints w a xs) :
    Calls Tryz.prog 111 #[.slice a xs.length c] w fun e w' => e = .returned (.int .i64 (orL xs)) ∧ w' = w := by
  have hA := Lib.hid ha
  have hmx := ha.len
  clear ha
  obtain ⟨n, hn⟩ : ∃ n, n = xs.length := ⟨_, rfl⟩
  rw [← hn]
  rw [← hn] at hmx
  have Hn := Lib.hid hn
  clear hn
  go_enter Tryz.func111, Tryz.ntmps111
  go_wp2
  go_loop [8] (fun i => ∃ k : Nat, k ≤ n ∧ i = .int .i64 k ∧ orL xs = orL (xs.drop k)) (fun i => n - (intOf i).toNat)
  case atStart => exact ⟨0, Nat.zero_le _, rfl, rfl⟩
  case round =>
    obtain ⟨k, hk, rfl, he⟩ := hrel
    have He := Lib.hid he
    clear he
    by_cases hlt : k < n
    · obtain ⟨b, o, rfl, _, hc⟩ := hA.out.at_ (k := k) (by rw [← Hn.out]; exact hlt)
      obtain ⟨x, hx⟩ : ∃ x, xs[k]?.getD 0 = x := ⟨_, rfl⟩
      rw [hx] at hc
      have Hx := Lib.hid hx
      clear hx
      by_cases h0 : x = 0
      · subst h0
        go_wp2
        exact ⟨⟨k + 1, by omega, by go_num, by rw [He.out, orL_next (by rw [← Hn.out]; exact hlt) Hx.out]⟩, by simp [intOf]; omega⟩
      · have h1 : (x != 0) = true := by simpa using h0
        have h2 : (x == 0) = false := by simpa using h0
        go_wp2
        go_ret
        exact ⟨ret_int (by rw [He.out, orL_hit (by rw [← Hn.out]; exact hlt) (by rw [Hx.out]; exact h0), Hx.out]), rfl⟩
    · go_wp2
      go_ret
      exact ⟨ret_int (by rw [He.out, drop_all (by rw [← Hn.out]; omega)]; rfl), rfl⟩

theorem cmpInt_calls (x y : Int) (w : World) : Calls Tryz.prog 98 #[.int .i64 x, .int .i64 y] w fun e w' => e = .returned (.int .i64 (cmpL [x] [y])) ∧ w' = w := by
  by_cases h1 : x < y
  · rw [cmpL_lt h1]
    go_enter Tryz.func98, Tryz.ntmps98
    go_wp2
    go_ret
    exact ⟨rfl, rfl⟩
  · by_cases h2 : y < x
    · rw [cmpL_gt h2]
      go_enter Tryz.func98, Tryz.ntmps98
      go_wp2
      go_ret
      exact ⟨rfl, rfl⟩
    · rw [cmpL_eq (by omega)]
      go_enter Tryz.func98, Tryz.ntmps98
      go_wp2
      go_ret
      exact ⟨ret_int (by simp [cmpL]), rfl⟩
theorem cmpL_step (x y : Int) (xs ys : List Int) : cmpL (x :: xs) (y :: ys) = if cmpL [x] [y] ≠ 0 then cmpL [x] [y] else cmpL xs ys := by
  by_cases h1 : x < y
  · rw [cmpL_lt h1, cmpL_lt h1]; simp
  · by_cases h2 : y < x
    · rw [cmpL_gt h2, cmpL_gt h2]; simp
    · rw [cmpL_eq (by omega), cmpL_eq (by omega)]; simp [cmpL]

set_option maxHeartbeats 400000 in
theorem compareS_calls (a b : Option Addr) (c d : Nat) (xs ys : List Int) (w : World) (ha : Ints w a xs) (hb : Ints w b ys) (hl : xs.length = ys.length) :
    Calls Tryz.prog 100 #[.slice a xs.length c, .slice b ys.length d] w fun e w' => e = .returned (.int .i64 (cmpL xs ys)) ∧ w' = w := by
  have hA := Lib.hid ha
  have hB := Lib.hid hb
  have hmx := ha.len
  clear ha hb
  obtain ⟨n, hn⟩ : ∃ n, n = xs.length := ⟨_, rfl⟩
  rw [← hl, ← hn]
  rw [← hn] at hmx hl
  have Hn := Lib.hid hn
  have Hm := Lib.hid hl
  clear hn hl
  go_enter Tryz.func100, Tryz.ntmps100
  go_wp2
  go_loop [11] (fun i => ∃ k : Nat, k ≤ n ∧ i = .int .i64 k ∧ cmpL xs ys = cmpL (xs.drop k) (ys.drop k)) (fun i => n - (intOf i).toNat)
  case atStart => exact ⟨0, Nat.zero_le _, rfl, rfl⟩
  case round =>
    obtain ⟨k, hk, rfl, he⟩ := hrel
    have He := Lib.hid he
    clear he
    by_cases hlt : k < n
    · obtain ⟨a', oa, rfl, _, hca⟩ := hA.out.at_ (k := k) (by rw [← Hn.out]; exact hlt)
      obtain ⟨b', ob, rfl, _, hcb⟩ := hB.out.at_ (k := k) (by rw [← Hm.out]; exact hlt)
      have hd : xs.drop k = xs[k]?.getD 0 :: xs.drop (k + 1) := drop_cons (by rw [← Hn.out]; exact hlt)
      have hd2 : ys.drop k = ys[k]?.getD 0 :: ys.drop (k + 1) := drop_cons (by rw [← Hm.out]; exact hlt)
      obtain ⟨x, hx⟩ : ∃ x, xs[k]?.getD 0 = x := ⟨_, rfl⟩
      obtain ⟨y, hy⟩ : ∃ y, ys[k]?.getD 0 = y := ⟨_, rfl⟩
      rw [hx] at hca hd
      rw [hy] at hcb hd2
      have Hd := Lib.hid (And.intro hd hd2)
      have hcc := cmpInt_calls x y w
      obtain ⟨r, hr⟩ : ∃ r, cmpL [x] [y] = r := ⟨_, rfl⟩
      rw [hr] at hcc
      have Hc := Lib.hid hcc
      have Hr := Lib.hid hr
      clear hd hd2 hx hy hcc hr
      by_cases h0 : r = 0
      · subst h0
        go_wp2_with (go_at_call 98; refine Hc.out.mono ?_; rintro e w' ⟨rfl, rfl⟩)
        exact ⟨⟨k + 1, by omega, by go_num, by rw [He.out, Hd.out.1, Hd.out.2, cmpL_step, Hr.out]; simp⟩, by simp [intOf]; omega⟩
      · have h1 : (r != 0) = true := by simpa using h0
        have h2 : (r == 0) = false := by simpa using h0
        go_wp2_with (go_at_call 98; refine Hc.out.mono ?_; rintro e w' ⟨rfl, rfl⟩)
        go_ret
        exact ⟨ret_int (by rw [He.out, Hd.out.1, Hd.out.2, cmpL_step, Hr.out, if_pos h0]), rfl⟩
    · go_wp2
      go_ret
      exact ⟨ret_int (by rw [He.out, cmpL_end (.inl (drop_all (by rw [← Hn.out]; omega)))]; simp [← Hn.out, ← Hm.out]), rfl⟩

set_option maxHeartbeats 400000 in
theorem clone_calls (a : Option Addr) (c : Nat) (xs : List Int) (w : World) (ha : Ints w a xs) (hn : xs.length ≤ 1000000) :
    Calls Tryz.prog 53 #[.slice a xs.length c] w fun e w' => ∃ v, e = .returned v ∧ Own w' w.heap.size v 3 (ints xs) ∧ Below w.heap.size w w' := by
  have hA := Lib.hid ha
  clear ha
  obtain ⟨n, hnx⟩ : ∃ n, n = xs.length := ⟨_, rfl⟩
  rw [← hnx] at hn ⊢
  have Hn := Lib.hid hnx
  clear hnx
  obtain ⟨i3, hi3, hz3, hs3, hb3⟩ := info_parts Tryz.info3
  have I3 := Lib.hid (And.intro hi3 (And.intro hz3 (And.intro hs3 hb3)))
  clear hi3 hz3 hs3 hb3
  cases a with
  | none =>
    have h0 : xs = [] := by
      cases hx : xs with
      | nil => rfl
      | cons x r =>
        have := hA.out.at_ (k := 0) (by rw [hx]; simp)
        obtain ⟨_, _, e, _⟩ := this
        cases e
    have hn0 : n = 0 := by rw [Hn.out, h0]; rfl
    subst hn0
    have he := fun W : World => Lib.run_eql_slice_nil (P := Tryz.prog) W 23 3 none 0 c 0 0 Tryz.underlying23
    go_enter Tryz.func53, Tryz.ntmps53
    go_wp2
    go_ret
    exact ⟨_, rfl, by rw [h0]; exact Own.nil _ _ _, Below.refl _ _⟩
  | some ad =>
    have he := fun W : World => Lib.run_eql_slice_nil (P := Tryz.prog) W 23 3 (some ad) n c 0 0 Tryz.underlying23
    have hem := Own.new (w := w) (B := w.heap.size) 3 [] (Nat.le_refl _) (Nat.zero_le _)
    have hb : Below w.heap.size w (w.alloc (.cells #[] 3)) := (Below.refl _ _).alloc (Nat.le_refl _) _
    have H := Lib.hid (And.intro hem (And.intro hb (hA.out.below hb)))
    clear hem hb
    go_enter Tryz.func53, Tryz.ntmps53
    go_wp2_with (at_builtin; refine appA rfl (.tmp 5) (.tmp 6) 23 3 rfl i3 (.int .i64 0) 8 Tryz.underlying23 I3.out.1 I3.out.2.1 I3.out.2.2.1 I3.out.2.2.2 rfl (by omega) w.heap.size (.slice (some ⟨w.heap.size, 0, none⟩) 0 0) [] (ints xs) rfl H.out.1 ad n c rfl (by rw [ints_len, ← Hn.out]) H.out.2.2.src (ints_one xs) (by simp; omega) H.out.2.1.size ?_; intro v' w' h2 h3; have H9 := Lib.hid (And.intro h2 h3); clear h2 h3)
    go_ret
    refine ⟨_, rfl, H9.out.1, H.out.2.1.grown H9.out.2 H.out.2.1.size (fun k hk => by cases hk; exact Nat.le_refl _)⟩

set_option maxHeartbeats 400000 in
theorem len1_calls (a : Option Addr) (k c : Nat) (B : Nat) (n : Int) (w : World) (hB : w.cell? ⟨B, 0, none⟩ = some (.int .i64 n)) :
    Calls Tryz.prog 106 #[.slice a k c, .pointer (some ⟨B, 0, none⟩)] w fun e w' => e = .returned (.bool ((k : Int) != n)) ∧ w' = w := by
  go_enter Tryz.func106, Tryz.ntmps106
  go_wp2
  go_ret
  exact ⟨rfl, rfl⟩
end Go.Proofs.YtifkieopaoooeaaGreatDoor

namespace Go.Proofs.YtifkieopaoooeaaGreatDoor
open Go.RowKit Plain

def badLen (n : Int) (m : List (List Int)) : Bool := m.any fun r => ((r.length : Int) != n)

set_option maxHeartbeats 400000 in
theorem index_calls (a : Option Addr) (c : Nat) (m : List (List Int)) (n : Int) (B : Nat) (w : World) (hm : Rows w a m) (hB : w.cell? ⟨B, 0, none⟩ = some (.int .i64 n)) :
    Calls Tryz.prog 127 #[.slice a m.length c, .func (.func 106) #[] #[.pointer (some ⟨B, 0, none⟩)]] w fun e w' => (∃ i : Int, e = .returned (.int .i64 i) ∧ decide (0 ≤ i) = badLen n m) ∧ w' = w := by
  have hA := Lib.hid (And.intro hm hB)
  have hmx := hm.len
  clear hm hB
  obtain ⟨L, hL⟩ : ∃ L, L = m.length := ⟨_, rfl⟩
  rw [← hL] at hmx ⊢
  have HL := Lib.hid hL
  clear hL
  go_enter Tryz.func127, Tryz.ntmps127
  go_wp2
  go_loop [8] (fun i => ∃ k : Nat, k ≤ L ∧ i = .int .i64 k ∧ badLen n m = badLen n (m.drop k)) (fun i => L - (intOf i).toNat)
  case atStart => exact ⟨0, Nat.zero_le _, rfl, rfl⟩
  case round =>
    obtain ⟨k, hk, rfl, he⟩ := hrel
    have He := Lib.hid he
    clear he
    by_cases hlt : k < L
    · have hkm : k < m.length := by rw [← HL.out]; exact hlt
      obtain ⟨g, o, b, d, rfl, hg, hc, -⟩ := hA.out.1.at_ (k := k) hkm
      have hd : m.drop k = (m[k]?.getD []) :: m.drop (k + 1) := by
        rw [List.getElem?_eq_getElem hkm]; exact (List.getElem_cons_drop hkm).symm
      obtain ⟨r, hr⟩ : ∃ r, m[k]?.getD [] = r := ⟨_, rfl⟩
      rw [hr] at hc hd
      obtain ⟨q, hq⟩ : ∃ q, q = r.length := ⟨_, rfl⟩
      rw [← hq] at hc
      have hcall := len1_calls b q d B n w hA.out.2
      have he2 : badLen n m = (((q : Int) != n) || badLen n (m.drop (k + 1))) := by rw [He.out, hd, hq]; rfl
      have H := Lib.hid (And.intro hcall he2)
      clear hd hr hq hcall he2 hkm
      cases hb : ((q : Int) != n) with
      | false =>
        rw [hb] at H
        have Hb := Lib.hid hb
        clear hb
        go_wp2_with (go_at_call 106; refine H.out.1.mono ?_; rintro e w' ⟨rfl, rfl⟩)
        exact ⟨⟨k + 1, by omega, by go_num, by rw [H.out.2]; simp⟩, by simp [intOf]; omega⟩
      | true =>
        rw [hb] at H
        have Hb := Lib.hid hb
        clear hb
        go_wp2_with (go_at_call 106; refine H.out.1.mono ?_; rintro e w' ⟨rfl, rfl⟩)
        go_ret
        exact ⟨⟨(k : Int), rfl, by rw [H.out.2]; simp⟩, rfl⟩
    · go_wp2
      go_ret
      exact ⟨⟨-1, rfl, by rw [He.out, List.drop_eq_nil_of_le (by rw [← HL.out]; omega)]; simp [badLen]⟩, rfl⟩

theorem contains_calls (a : Option Addr) (c : Nat) (m : List (List Int)) (n : Int) (B : Nat) (w : World) (hm : Rows w a m) (hB : w.cell? ⟨B, 0, none⟩ = some (.int .i64 n)) :
    Calls Tryz.prog 105 #[.slice a m.length c, .func (.func 106) #[] #[.pointer (some ⟨B, 0, none⟩)]] w fun e w' => e = .returned (.bool (badLen n m)) ∧ w' = w := by
  have hc := Lib.hid (index_calls a c m n B w hm hB)
  clear hm hB
  obtain ⟨L, hL⟩ : ∃ L, L = m.length := ⟨_, rfl⟩
  rw [← hL] at hc ⊢
  clear hL
  go_enter Tryz.func105, Tryz.ntmps105
  go_wp2_with (go_at_call 127; refine hc.out.mono ?_; rintro e w' ⟨⟨i, rfl, hi⟩, rfl⟩; have Hi := Lib.hid hi; clear hi)
  go_ret
  exact ⟨ret_bool Hi.out, rfl⟩
end Go.Proofs.YtifkieopaoooeaaGreatDoor

namespace Go.Proofs.YtifkieopaoooeaaGreatDoor
open Go.RowKit Plain

/-- The number from 0 to k - 1 that an int selects. -/
def bel (n k : Int) : Int := if k < 1 then 0 else n % k
theorem bel_range {n k : Int} (h : 1 ≤ k) : 0 ≤ bel n k ∧ bel n k < k := by
  rw [bel, if_neg (by omega)]
  exact ⟨Int.emod_nonneg _ (by omega), Int.emod_lt_of_pos _ (by omega)⟩
theorem bel_tmod {n k : Int} (h : ¬ k < 1) : bel n k = if n.tmod k < 0 then n.tmod k + k else n.tmod k := by
  rw [bel, if_neg h, Int.emod_eq_tmod]
  have h2 := Int.tmod_lt_of_pos n (b := k) (by omega)
  have h3 := Int.lt_tmod_of_pos n (b := k) (by omega)
  by_cases h4 : 0 ≤ n ∨ k ∣ n
  · rw [if_pos h4, if_neg]
    · omega
    · rcases h4 with h4 | h4
      · have := Int.tmod_nonneg k h4; omega
      · rw [Int.tmod_eq_zero_of_dvd h4]; omega
  · rw [if_neg h4]
    have hn : ¬ 0 ≤ n := fun h => h4 (.inl h)
    have hd : n.tmod k ≠ 0 := fun h => h4 (.inr (Int.dvd_of_tmod_eq_zero h))
    have h5 : n.tmod k ≤ 0 := by
      have h6 := Int.tmod_nonneg k (a := -n) (by omega)
      rw [Int.neg_tmod] at h6; omega
    rw [if_pos (by omega)]
    omega

theorem below_calls (n k : Int) (w : World) (hk : k ≤ 1000000) : Calls Tryz.prog 19 #[.int .i64 n, .int .i64 k] w fun e w' => e = .returned (.int .i64 (bel n k)) ∧ w' = w := by
  by_cases h1 : k < 1
  · go_enter Tryz.func19, Tryz.ntmps19
    go_wp2
    go_ret
    exact ⟨ret_int (by rw [bel, if_pos h1]), rfl⟩
  · have h1' : decide (k < 1) = false := by simpa using h1
    have hb := bel_tmod (n := n) h1
    have h2 := Int.tmod_lt_of_pos n (b := k) (by omega)
    have h3 := Int.lt_tmod_of_pos n (b := k) (by omega)
    have h0 : (k == 0) = false := by simp; omega
    have h0' : k ≠ 0 := by omega
    obtain ⟨r, hr⟩ : ∃ r, n.tmod k = r := ⟨_, rfl⟩
    rw [hr] at hb h2 h3
    by_cases h4 : r < 0
    · rw [if_pos h4] at hb
      have Hb := Lib.hid hb
      clear hb
      go_enter Tryz.func19, Tryz.ntmps19
      go_wp2
      go_ret
      exact ⟨ret_int (by rw [Hb.out]), rfl⟩
    · rw [if_neg h4] at hb
      have Hb := Lib.hid hb
      clear hb
      go_enter Tryz.func19, Tryz.ntmps19
      go_wp2
      go_ret
      exact ⟨ret_int (by rw [Hb.out]), rfl⟩

/-- The number at a place, 0 if there is none. -/
def numAt (l : List Int) (i : Nat) : Int := l[i]?.getD 0
theorem kitnum_calls (a : Option Addr) (c : Nat) (l : List Int) (i : Nat) (w : World) (ha : Ints w a l) (hi : i ≤ 1000000) :
    Calls Tryz.prog 75 #[.slice a l.length c, .int .i64 i] w fun e w' => e = .returned (.int .i64 (numAt l i)) ∧ w' = w := by
  have hA := Lib.hid ha
  have hm := ha.len
  clear ha
  obtain ⟨L, hL⟩ : ∃ L, L = l.length := ⟨_, rfl⟩
  rw [← hL] at hm ⊢
  have HL := Lib.hid hL
  clear hL
  by_cases h : i < L
  · obtain ⟨b, o, rfl, _, hc⟩ := hA.out.at_ (k := i) (by rw [← HL.out]; exact h)
    go_enter Tryz.func75, Tryz.ntmps75
    go_wp2
    go_ret
    exact ⟨rfl, rfl⟩
  · have h' : decide ((L : Int) ≤ i) = true := by simp; omega
    go_enter Tryz.func75, Tryz.ntmps75
    go_wp2
    go_ret
    exact ⟨ret_int (by rw [numAt, List.getElem?_eq_none (by rw [← HL.out]; omega)]; rfl), rfl⟩
end Go.Proofs.YtifkieopaoooeaaGreatDoor
