/- The reference's key of a point. -/
import Derived.Test.YtlnikgcanimggaaLabels
import Derived.Test.YtlnikgcanimggaaPlainKey
set_option linter.unusedSimpArgs false
set_option linter.unusedVariables false
namespace Go.Proofs.Ytlnikgcanimggaa
open Go.RowKit Plain

/-- A matrix' entry, read. -/
theorem Rows.entry {w : World} {a : Option Addr} {m : List (List Int)} {n : Nat} (h : Rows w a m) (hm : IsMat n m) {i k : Nat} (hi : i < n) (hk : k < n) :
    ∃ g o g2 o2 c, a = some ⟨g, o, none⟩ ∧ w.cell? ⟨g, o + i, none⟩ = some (.slice (some ⟨g2, o2, none⟩) n c) ∧ w.cell? ⟨g2, o2 + k, none⟩ = some (.int .i64 (mat m i k)) := by
  obtain ⟨g, o, b, c, rfl, _, hc, hr⟩ := h.at_ (k := i) (by rw [hm.1]; exact hi)
  have hl := hm.row hi
  rw [hl] at hc
  obtain ⟨g2, o2, rfl, _, hc2⟩ := hr.at_ (k := k) (by rw [hl]; exact hk)
  exact ⟨g, o, g2, o2, c, rfl, hc, hc2⟩

set_option maxRecDepth 100000 in
set_option maxHeartbeats 1000000 in
theorem key_calls (n v : Nat) (ax am : Option Addr) (cx cm : Nat) (x : List Int) (m : List (List Int)) (w : World) (hx : Ints w ax x) (hm : Rows w am m) (hn : n ≤ 1000000) (hxl : x.length = n) (hmm : IsMat n m) (hv : v < n) :
    Calls Try.prog 84 #[.int .i64 n, .slice ax n cx, .slice am n cm, .int .i64 v] w fun e w' => ∃ u, e = .returned u ∧ Own w' w.heap.size u 3 (ints (keyL n x m v)) ∧ Below w.heap.size w w' := by
  have H0 := Lib.hid (And.intro hx (And.intro hm (And.intro hxl hmm)))
  clear hx hm hxl hmm
  obtain ⟨i3, hi3, hz3, hs3, hb3⟩ := info_parts Try.info3
  obtain ⟨i29, hi29, hz29, hs29, hb29⟩ := info_parts Try.info29
  have I3 := Lib.hid (And.intro hi3 (And.intro hz3 (And.intro hs3 hb3)))
  have I29 := Lib.hid (And.intro hi29 (And.intro hz29 (And.intro hs29 hb29)))
  clear hi3 hz3 hs3 hb3 hi29 hz29 hs29 hb29
  obtain ⟨D, hD⟩ : ∃ D, D = w.heap.size := ⟨_, rfl⟩
  rw [← hD]
  have HD := Lib.hid hD
  clear hD
  go_enter Try.func84, Try.ntmps84
  go_wp2
  go_loopw [9, 10] (fun l i wr => ∃ (u : Nat) (cs : List Value), u ≤ n ∧ i = .int .i64 u ∧ Own wr D l 29 cs ∧ OwnRows wr D 3 cs (sortTo (triple x m v) u) ∧ Below D w wr) (fun _ i _ => n - (intOf i).toNat)
  case atStart => exact ⟨0, [], by omega, rfl, Own.nil _ _ _, OwnRows.nil _ _ _, Below.refl _ _⟩
  case round =>
    obtain ⟨u, cs, hu, rfl, ho, hr, hbl⟩ := hrel
    have hx2 := H0.out.1.below (by rw [← HD.out]; exact hbl)
    have hm2 := H0.out.2.1.below (by rw [← HD.out]; exact hbl)
    have hDw : D ≤ wr.heap.size := by have := hbl.size; have := HD.out; omega
    by_cases hlt : u < n
    · obtain ⟨g1, o1, rfl, _, hc1⟩ := hx2.at_ (k := u) (by rw [H0.out.2.2.1]; exact hlt)
      obtain ⟨g, o, ga, oa, ca, rfl, hca, hca2⟩ := hm2.entry H0.out.2.2.2 hv hlt
      obtain ⟨g', o', gb, ob, cb, e', hcb, hcb2⟩ := hm2.entry H0.out.2.2.2 hlt hv
      cases e'
      have hcs : cs.length = u := by rw [hr.1, sortTo_len]
      obtain ⟨a9, c9, rfl, _⟩ := ho.row (by rw [hcs]; unfold maxLen; omega)
      rw [hcs] at ho ⊢
      have H := Lib.hid (And.intro ho (And.intro hr (And.intro hbl (And.intro hDw hcs))))
      clear ho hr hbl hx2 hm2 hDw hcs
      go_wp2
      go_still_tail 18, (by kernel_rfl)
      go_wp2
      obtain ⟨w2, hw2⟩ : ∃ w2, w2 = (wr.alloc (.cells #[.int .i64 (x[u]?.getD 0), .int .i64 (mat m v u), .int .i64 (mat m u v)] 3)).drew := ⟨_, rfl⟩
      rw [← hw2]
      obtain ⟨t, ht⟩ : ∃ t, t = triple x m v u := ⟨_, rfl⟩
      have htl : t.length = 3 := by rw [ht]; rfl
      have F1 : Own w2 D (.slice a9 u c9) 29 cs := by rw [hw2]; exact (H.out.1.alloc _).drewN 1
      have F2 : OwnRows w2 D 3 cs (sortTo (triple x m v) u) := by
        rw [hw2]; exact (H.out.2.1.kept (grown_alloc wr _ none) (fun u xs h => by
          rcases h.blk with e | ⟨g, _, e, _⟩
          · exact .inl e
          · right; rw [e]; simp)).drewN 1
      have F3 : Own w2 D (.slice (some ⟨wr.heap.size, 0, none⟩) 3 3) 3 (ints t) := by
        rw [hw2, ht]
        exact (Own.new (w := wr) 3 (ints (triple x m v u)) H.out.2.2.2.1 (by unfold maxLen; simp [ints, triple])).drewN 1
      have F4 : Below D w w2 := by rw [hw2]; exact (H.out.2.2.1.alloc H.out.2.2.2.1 _).drew
      have F5 : D ≤ w2.heap.size := by rw [hw2]; have := H.out.2.2.2.1; simp; omega
      obtain ⟨T, hT⟩ : ∃ T, T = wr.heap.size := ⟨_, rfl⟩
      rw [← hT] at F3 ⊢
      have F := Lib.hid (And.intro F1 (And.intro F2 (And.intro F3 (And.intro F4 (And.intro F5 (And.intro ht htl))))))
      obtain ⟨S, hS⟩ : ∃ S, S = sortTo (triple x m v) u := ⟨_, rfl⟩
      have hSl : S.length = u := by rw [hS, sortTo_len]
      have hS3 : ∀ y ∈ S, y.length = 3 := by
        intro y hy; rw [hS] at hy; obtain ⟨k, _, rfl⟩ := mem_sortTo hy; rfl
      have HS := Lib.hid (And.intro hS (And.intro hSl hS3))
      clear hw2 F1 F2 F3 F4 F5 ht htl hT hS hSl hS3
      go_loopw [12] (fun p wq => ∃ (k q : Nat), k ≤ u ∧ p = .int .i64 k ∧ wq = w2.drewN q ∧ atTo t S u = atTo t S k) (fun p _ => (intOf p).toNat)
      case atStart => exact ⟨u, 0, Nat.le_refl _, rfl, rfl, rfl⟩
      case round =>
        obtain ⟨k, q, hk, rfl, rfl, hat⟩ := hrel
        have Hat := Lib.hid hat
        clear hat
        by_cases hk0 : 0 < k
        · obtain ⟨uv, hcv, hov⟩ := F.out.2.1.at_ (k := k - 1) (by rw [← HS.out.1, HS.out.2.1]; omega)
          rw [← HS.out.1] at hov
          obtain ⟨y, hy⟩ : ∃ y, y = S[k - 1]?.getD [] := ⟨_, rfl⟩
          have hyl : y.length = 3 := by
            rw [hy, List.getElem?_eq_getElem (by rw [HS.out.2.1]; omega)]
            exact HS.out.2.2 _ (List.getElem_mem _)
          rw [← hy] at hov
          obtain ⟨gk, ck, rfl, _⟩ := hov.form (by rw [ints_len, hyl]; omega)
          rw [ints_len, hyl] at hcv hov
          obtain ⟨g9, rfl, -⟩ := F.out.1.at_form (by omega)
          have hc9 := F.out.1.cell (k - 1) (by rw [F.out.2.1.1, ← HS.out.1, HS.out.2.1]; omega)
          rw [hcv] at hc9
          have hcmp := fun q => compare_calls (some ⟨T, 0, none⟩) (some ⟨gk, 0, none⟩) 3 ck t y (w2.drewN q) (F.out.2.2.1.toInts (by unfold maxLen; rw [F.out.2.2.2.2.2.2]; omega)) (hov.toInts (by unfold maxLen; rw [hyl]; omega))
          rw [F.out.2.2.2.2.2.2, hyl] at hcmp
          obtain ⟨r, hr⟩ : ∃ r, cmpL t y = r := ⟨_, rfl⟩
          rw [hr] at hcmp
          have Hc := Lib.hid hcmp
          have Hr := Lib.hid (And.intro hr hy)
          clear hcmp hr hy hcv hov hyl
          by_cases hr0 : r < 0
          · go_wp2_with (go_at_call 87; refine (Hc.out _).mono ?_; rintro e w' ⟨rfl, q', rfl⟩)
            have h1 : atTo t S k = atTo t S (k - 1) := by
              obtain ⟨k, rfl⟩ : ∃ i, k = i + 1 := ⟨k - 1, by omega⟩
              rw [Nat.add_sub_cancel] at Hr ⊢
              rw [atTo, ← Hr.out.2, Hr.out.1, if_pos hr0]
            go_roundw
            case rel => exact ⟨k - 1, _, by omega, by go_num, rfl, by rw [Hat.out, h1]⟩
            case measure => simp [intOf]; omega
          · have hpos : atTo t S u = k := by
              rw [Hat.out]
              obtain ⟨k, rfl⟩ : ∃ i, k = i + 1 := ⟨k - 1, by omega⟩
              rw [Nat.add_sub_cancel] at Hr
              rw [atTo, ← Hr.out.2, Hr.out.1, if_neg hr0]
            have Hpos := Lib.hid hpos
            clear hpos
            have hr1 : decide (r < 0) = false := by simpa using hr0
            go_wp2_with (first | (go_at_call 87; refine (Hc.out _).mono ?_; rintro e w' ⟨rfl, q', rfl⟩) | (at_builtin; refine app1f rfl (.tmp 55) (.tmp 56) 22 29 rfl i29 (.slice none 0 0) 24 Try.underlying22 I29.out.1 I29.out.2.1 I29.out.2.2.1 I29.out.2.2.2 rfl (by omega) D (.slice none 0 0) (.slice (some ⟨g9, 0, none⟩) u c9) cs u rfl (F.out.1.drewN _) rfl rfl H.out.2.2.2.2 (by omega) F.out.2.2.2.2.1 ?_; intro G cap w' h2 h3 h4 h5 h6; have H9 := Lib.hid (And.intro h2 (And.intro h3 (And.intro h4 h5))); clear h2 h3 h4 h5))
            have e1 : IntKind.i64.wrap ((k : Int) + 1) = (k : Int) + 1 := IntWalk.i64_in _ (by omega)
            have e2 : (0 : Int) ≤ (k : Int) + 1 := by omega
            have e3 : ((k : Int) + 1).toNat = k + 1 := by omega
            have e4 : (k : Int) + 1 ≤ (u : Int) + 1 := by omega
            have e5 : (k : Int) ≤ (u : Int) + 1 := by omega
            go_still_tail 7, (by kernel_rfl)
            clear e1 e2 e3 e4 e5
            change wpList _ _ _ _ _ w'.drew
            have hcl := H.out.2.2.2.2
            refine copy1 rfl (.tmp 61) (.tmp 64) 22 29 rfl Try.underlying22 i29 I29.out.1 I29.out.2.2.1 D G (u + 1) cap (cs ++ [Value.slice none 0 0]) H9.out.1.drew _ _ _ _ _ _ rfl rfl (k + 1) (((cs ++ [Value.slice none 0 0]).drop k).take (u - k)) ?_ ?_ ?_ ?_ ?_
            · have h1 : Nat.min (u + 1 - k) (u - k) = u - k := by show min (u + 1 - k) (u - k) = u - k; omega
              rw [h1]
              simp; omega
            · intro hp
              have hp' : 0 < u - k := by simp at hp; omega
              rw [if_neg (by omega), if_neg (by omega)]
              refine ⟨rfl, _, rfl, fun j y hy => ?_⟩
              rw [add_zero_addr]
              rw [List.getElem?_take] at hy
              split at hy
              · rw [List.getElem?_drop] at hy
                rw [← hy]
                exact H9.out.1.drew.cell (k + j) (by simp; omega)
              · cases hy
            · simp; omega
            · intro y hy
              have hy2 := List.mem_of_mem_drop (List.mem_of_mem_take hy)
              rcases List.mem_append.1 hy2 with h | h
              · obtain ⟨j, hj⟩ := List.mem_iff_getElem?.1 h
                have hjl : j < cs.length := (List.getElem?_eq_some_iff.1 hj).1
                obtain ⟨uv, h1, h2⟩ := F.out.2.1.at_ (k := j) (by rw [← F.out.2.1.1]; exact hjl)
                rw [h1] at hj; cases hj
                rcases h2.2 with ⟨rfl, _⟩ | ⟨_, _, _, rfl, _⟩ <;> rfl
              · rw [List.mem_singleton.1 h]; rfl
            intro w3 ho3 hg3
            have hx3 := ho3.put k (.slice (some ⟨T, 0, none⟩) 3 3)
            rw [ins_copy cs _ _ u k hcl hk] at hx3
            have hl3 : k < (List.take (k + 1) (cs ++ [Value.slice none 0 0]) ++ (List.take (u - k) (List.drop k (cs ++ [Value.slice none 0 0])) ++ List.drop (k + 1 + (List.take (u - k) (List.drop k (cs ++ [Value.slice none 0 0]))).length) (cs ++ [Value.slice none 0 0]))).length := by simp; omega
            have hc3 := ho3.cell k hl3
            rw [List.getElem?_eq_getElem hl3] at hc3
            generalize (List.take (k + 1) (cs ++ [Value.slice none 0 0]) ++ (List.take (u - k) (List.drop k (cs ++ [Value.slice none 0 0])) ++ List.drop (k + 1 + (List.take (u - k) (List.drop k (cs ++ [Value.slice none 0 0]))).length) (cs ++ [Value.slice none 0 0])))[k] = old at hc3
            have hf3 := ho3.frozen k
            have H3 := Lib.hid (And.intro hx3 (And.intro hg3 ho3))
            clear ho3 hg3 hx3 hl3 hcl
            go_wp2
            have key : ∀ (uv : Value) (ys : List Value), Own w2 D uv 3 ys → Own (w3.setCell ⟨G, k, none⟩ (.slice (some ⟨T, 0, none⟩) 3 3)) D uv 3 ys := fun uv ys h => by
              have h1 := (h.drewN (q + q')).kept H9.out.2.1 (h.ne_type F.out.1 (by decide))
              have h2 := h1.drew.kept H3.out.2.1 (h1.ne_type H9.out.1 (by decide))
              exact h2.kept (grown_put k _) (h2.ne_type H3.out.2.2 (by decide))
            refine ⟨⟨u + 1, cs.take k ++ .slice (some ⟨T, 0, none⟩) 3 3 :: cs.drop k, by omega, by go_num, H3.out.1, ?_, ?_⟩, by simp [intOf]; omega⟩
            · have hs : sortTo (triple x m v) (u + 1) = S.take k ++ ([t] ++ S.drop k) := by
                rw [sortTo, insT, ← HS.out.1, ← F.out.2.2.2.2.2.1, HS.out.2.1, Hpos.out]; rfl
              have hr2 : OwnRows (w3.setCell ⟨G, k, none⟩ (.slice (some ⟨T, 0, none⟩) 3 3)) D 3 cs S := ⟨by rw [HS.out.1]; exact F.out.2.1.1, fun i uv xs hu hx => key _ _ (F.out.2.1.2 i uv xs hu (by rw [← HS.out.1]; exact hx))⟩
              rw [hs]
              exact (hr2.take k).app ((OwnRows.one (key _ _ F.out.2.2.1)).app (hr2.drop k))
            · have hD1 : D ≤ w'.heap.size := by have := H9.out.2.1.size; have := F.out.2.2.2.2.1; simp at *; omega
              have b1 : Below D w w' := (below_drewN F.out.2.2.2.1 (q + q')).grown H9.out.2.1 (by have := F.out.2.2.2.2.1; simpa using this) (fun g hg => by
                rcases F.out.1.blk with e | ⟨g', _, e, hB, _⟩
                · rw [e] at hg; cases hg
                · rw [e] at hg; cases hg; exact hB)
              have b2 : Below D w w3 := b1.drew.grown H3.out.2.1 (by simpa using hD1) (fun g hg => by cases hg; exact H9.out.2.2.2)
              exact b2.setCell H9.out.2.2.2 _
        · have hpos : atTo t S u = k := by
            have h0 : k = 0 := by omega
            rw [Hat.out, h0, atTo]
          have Hpos := Lib.hid hpos
          clear hpos
          go_wp2_with ((at_builtin; refine app1f rfl (.tmp 55) (.tmp 56) 22 29 rfl i29 (.slice none 0 0) 24 Try.underlying22 I29.out.1 I29.out.2.1 I29.out.2.2.1 I29.out.2.2.2 rfl (by omega) D (.slice none 0 0) (.slice a9 u c9) cs u rfl (F.out.1.drewN _) rfl rfl H.out.2.2.2.2 (by omega) F.out.2.2.2.2.1 ?_; intro G cap w' h2 h3 h4 h5 h6; have H9 := Lib.hid (And.intro h2 (And.intro h3 (And.intro h4 h5))); clear h2 h3 h4 h5))
          have e1 : IntKind.i64.wrap ((k : Int) + 1) = (k : Int) + 1 := IntWalk.i64_in _ (by omega)
          have e2 : (0 : Int) ≤ (k : Int) + 1 := by omega
          have e3 : ((k : Int) + 1).toNat = k + 1 := by omega
          have e4 : (k : Int) + 1 ≤ (u : Int) + 1 := by omega
          have e5 : (k : Int) ≤ (u : Int) + 1 := by omega
          go_still_tail 7, (by kernel_rfl)
          clear e1 e2 e3 e4 e5
          change wpList _ _ _ _ _ w'.drew
          have hcl := H.out.2.2.2.2
          refine copy1 rfl (.tmp 61) (.tmp 64) 22 29 rfl Try.underlying22 i29 I29.out.1 I29.out.2.2.1 D G (u + 1) cap (cs ++ [Value.slice none 0 0]) H9.out.1.drew _ _ _ _ _ _ rfl rfl (k + 1) (((cs ++ [Value.slice none 0 0]).drop k).take (u - k)) ?_ ?_ ?_ ?_ ?_
          · have h1 : Nat.min (u + 1 - k) (u - k) = u - k := by show min (u + 1 - k) (u - k) = u - k; omega
            rw [h1]
            simp; omega
          · intro hp
            have hp' : 0 < u - k := by simp at hp; omega
            rw [if_neg (by omega), if_neg (by omega)]
            refine ⟨rfl, _, rfl, fun j y hy => ?_⟩
            rw [add_zero_addr]
            rw [List.getElem?_take] at hy
            split at hy
            · rw [List.getElem?_drop] at hy
              rw [← hy]
              exact H9.out.1.drew.cell (k + j) (by simp; omega)
            · cases hy
          · simp; omega
          · intro y hy
            have hy2 := List.mem_of_mem_drop (List.mem_of_mem_take hy)
            rcases List.mem_append.1 hy2 with h | h
            · obtain ⟨j, hj⟩ := List.mem_iff_getElem?.1 h
              have hjl : j < cs.length := (List.getElem?_eq_some_iff.1 hj).1
              obtain ⟨uv, h1, h2⟩ := F.out.2.1.at_ (k := j) (by rw [← F.out.2.1.1]; exact hjl)
              rw [h1] at hj; cases hj
              rcases h2.2 with ⟨rfl, _⟩ | ⟨_, _, _, rfl, _⟩ <;> rfl
            · rw [List.mem_singleton.1 h]; rfl
          intro w3 ho3 hg3
          have hx3 := ho3.put k (.slice (some ⟨T, 0, none⟩) 3 3)
          rw [ins_copy cs _ _ u k hcl hk] at hx3
          have hl3 : k < (List.take (k + 1) (cs ++ [Value.slice none 0 0]) ++ (List.take (u - k) (List.drop k (cs ++ [Value.slice none 0 0])) ++ List.drop (k + 1 + (List.take (u - k) (List.drop k (cs ++ [Value.slice none 0 0]))).length) (cs ++ [Value.slice none 0 0]))).length := by simp; omega
          have hc3 := ho3.cell k hl3
          rw [List.getElem?_eq_getElem hl3] at hc3
          generalize (List.take (k + 1) (cs ++ [Value.slice none 0 0]) ++ (List.take (u - k) (List.drop k (cs ++ [Value.slice none 0 0])) ++ List.drop (k + 1 + (List.take (u - k) (List.drop k (cs ++ [Value.slice none 0 0]))).length) (cs ++ [Value.slice none 0 0])))[k] = old at hc3
          have hf3 := ho3.frozen k
          have H3 := Lib.hid (And.intro hx3 (And.intro hg3 ho3))
          clear ho3 hg3 hx3 hl3 hcl
          go_wp2
          have key : ∀ (uv : Value) (ys : List Value), Own w2 D uv 3 ys → Own (w3.setCell ⟨G, k, none⟩ (.slice (some ⟨T, 0, none⟩) 3 3)) D uv 3 ys := fun uv ys h => by
            have h1 := (h.drewN q).kept H9.out.2.1 (h.ne_type F.out.1 (by decide))
            have h2 := h1.drew.kept H3.out.2.1 (h1.ne_type H9.out.1 (by decide))
            exact h2.kept (grown_put k _) (h2.ne_type H3.out.2.2 (by decide))
          refine ⟨⟨u + 1, cs.take k ++ .slice (some ⟨T, 0, none⟩) 3 3 :: cs.drop k, by omega, by go_num, H3.out.1, ?_, ?_⟩, by simp [intOf]; omega⟩
          · have hs : sortTo (triple x m v) (u + 1) = S.take k ++ ([t] ++ S.drop k) := by
              rw [sortTo, insT, ← HS.out.1, ← F.out.2.2.2.2.2.1, HS.out.2.1, Hpos.out]; rfl
            have hr2 : OwnRows (w3.setCell ⟨G, k, none⟩ (.slice (some ⟨T, 0, none⟩) 3 3)) D 3 cs S := ⟨by rw [HS.out.1]; exact F.out.2.1.1, fun i uv xs hu hx => key _ _ (F.out.2.1.2 i uv xs hu (by rw [← HS.out.1]; exact hx))⟩
            rw [hs]
            exact (hr2.take k).app ((OwnRows.one (key _ _ F.out.2.2.1)).app (hr2.drop k))
          · have hD1 : D ≤ w'.heap.size := by have := H9.out.2.1.size; have := F.out.2.2.2.2.1; simp at *; omega
            have b1 : Below D w w' := (below_drewN F.out.2.2.2.1 q).grown H9.out.2.1 (by have := F.out.2.2.2.2.1; simpa using this) (fun g hg => by
              rcases F.out.1.blk with e | ⟨g', _, e, hB, _⟩
              · rw [e] at hg; cases hg
              · rw [e] at hg; cases hg; exact hB)
            have b2 : Below D w w3 := b1.drew.grown H3.out.2.1 (by simpa using hD1) (fun g hg => by cases hg; exact H9.out.2.2.2)
            exact b2.setCell H9.out.2.2.2 _
    · obtain rfl : u = n := by omega
      obtain ⟨g1, o1, rfl, _, hc1⟩ := hx2.at_ (k := v) (by rw [H0.out.2.2.1]; exact hv)
      have hcs : cs.length = u := by rw [hr.1, sortTo_len]
      obtain ⟨a9, c9, rfl, _⟩ := ho.row (by rw [hcs]; unfold maxLen; omega)
      rw [hcs] at ho ⊢
      obtain ⟨g9, rfl, -⟩ := ho.at_form (by omega)
      obtain ⟨S, hS⟩ : ∃ S, S = sortTo (triple x m v) u := ⟨_, rfl⟩
      have hSl : S.length = u := by rw [hS, sortTo_len]
      have hS3 : ∀ y ∈ S, y.length = 3 := by
        intro y hy; rw [hS] at hy; obtain ⟨k, _, rfl⟩ := mem_sortTo hy; rfl
      rw [← hS] at hr
      obtain ⟨wo, rfl⟩ : ∃ wo : World, wo = wr := ⟨_, rfl⟩
      have HS := Lib.hid (And.intro hS (And.intro hSl (And.intro hS3 hcs)))
      have H := Lib.hid (And.intro ho (And.intro hr (And.intro hbl hDw)))
      obtain ⟨x0, hx0⟩ : ∃ x0, x[v]?.getD 0 = x0 := ⟨_, rfl⟩
      rw [hx0] at hc1
      have Hx0 := Lib.hid hx0
      clear ho hr hbl hx2 hm2 hDw hcs hS hSl hS3 hx0
      go_wp2
      go_loopw [13, 14] (fun out i wr => ∃ k : Nat, k ≤ u ∧ i = .int .i64 k ∧ Own wr wo.heap.size out 3 (ints (x0 :: (S.take k).flatten)) ∧ Below wo.heap.size wo wr) (fun _ i _ => u - (intOf i).toNat)
      case atStart =>
        refine ⟨0, by omega, rfl, ?_, (Below.refl _ _).alloc (Nat.le_refl _) _⟩
        exact Own.new (w := wo) 3 [.int .i64 x0] (Nat.le_refl _) (by unfold maxLen; simp)
      case round =>
        obtain ⟨k, hk, rfl, ho3, hb3⟩ := hrel
        have hfl : (S.take k).flatten.length = 3 * k := by
          rw [flatten_len3 (fun y hy => HS.out.2.2.1 y (List.mem_of_mem_take hy))]; simp [HS.out.2.1]; omega
        have hol : (ints (x0 :: (S.take k).flatten)).length = 3 * k + 1 := by rw [ints_len, List.length_cons, hfl]
        by_cases hkl : k < u
        · obtain ⟨uv, hcv, hov⟩ := H.out.2.1.at_ (k := k) (by rw [HS.out.2.1]; exact hkl)
          obtain ⟨y, hy⟩ : ∃ y, y = S[k]?.getD [] := ⟨_, rfl⟩
          have hyl : y.length = 3 := by
            rw [hy, List.getElem?_eq_getElem (by rw [HS.out.2.1]; omega)]
            exact HS.out.2.2.1 _ (List.getElem_mem _)
          rw [← hy] at hov
          obtain ⟨gk, ck, rfl, _⟩ := hov.form (by rw [ints_len, hyl]; omega)
          rw [ints_len, hyl] at hcv hov
          obtain ⟨gk2, e2, _, hgk, -⟩ := hov.at_form (by omega)
          cases e2
          have hc9 := H.out.1.cell k (by rw [HS.out.2.2.2]; exact hkl)
          rw [hcv] at hc9
          have hc8 : wr.cell? ⟨g9, k, none⟩ = some (.slice (some ⟨gk, 0, none⟩) 3 ck) := (hb3.cell (block_lt_of_cell hc9)).trans hc9
          have hnext : (S.take (k + 1)).flatten = (S.take k).flatten ++ y := by rw [take_flatten (by rw [HS.out.2.1]; exact hkl), hy]
          have hsrc : ∀ (j : Nat) (z : Value), (ints y)[j]? = some z → wr.cell? ⟨gk, 0 + j, none⟩ = some z := fun j z hz => by
            have hj : j < (ints y).length := (List.getElem?_eq_some_iff.1 hz).1
            rw [Nat.zero_add, hb3.cell (p := ⟨gk, j, none⟩) hgk, hov.cell j hj, hz]
          have Hz := Lib.hid (And.intro ho3 (And.intro hb3 (And.intro hnext (And.intro hsrc (And.intro hol hyl)))))
          clear ho3 hb3 hnext hsrc hol hyl hov hcv hc9 hfl
          go_wp2_with (at_builtin; refine appN rfl (.tmp 81) (.tmp 85) 29 3 rfl i3 (.int .i64 0) 8 Try.underlying29 I3.out.1 I3.out.2.1 I3.out.2.2.1 I3.out.2.2.2 rfl (by omega) wo.heap.size u13 (ints (x0 :: (S.take k).flatten)) (ints y) rfl Hz.out.1 gk 0 3 ck rfl (by rw [ints_len, Hz.out.2.2.2.2.2]) Hz.out.2.2.2.1 (fun z hz => by obtain ⟨b, _, rfl⟩ := List.mem_map.1 hz; rfl) (by rw [Hz.out.2.2.2.2.1]; omega) Hz.out.2.1.size ?_; intro v' w' h2 h3 h4; have H9 := Lib.hid (And.intro h2 h3); clear h2 h3 h4)
          refine ⟨⟨k + 1, by omega, by go_num, ?_, ?_⟩, by simp [intOf]; omega⟩
          · rw [Hz.out.2.2.1]
            have := H9.out.1
            simpa [ints] using this
          · exact Hz.out.2.1.grown H9.out.2 Hz.out.2.1.size (fun g hg => by
              rcases Hz.out.1.blk with e | ⟨g', _, e, hB, _⟩
              · rw [e] at hg; cases hg
              · rw [e] at hg; cases hg; exact hB)
        · have hfin : keyL u x m v = x0 :: (S.take k).flatten := by
            rw [keyL, Hx0.out, ← HS.out.1, List.take_of_length_le (by rw [HS.out.2.1]; omega)]
          have Hz := Lib.hid (And.intro ho3 (And.intro hb3 hfin))
          clear ho3 hb3 hfin hol hfl
          go_wp2
          go_ret
          refine ⟨_, rfl, ?_, ?_⟩
          · rw [Hz.out.2.2]; exact Hz.out.1.mono H.out.2.2.2
          · exact H.out.2.2.1.trans (Hz.out.2.1.mono H.out.2.2.2)
end Go.Proofs.Ytlnikgcanimggaa
