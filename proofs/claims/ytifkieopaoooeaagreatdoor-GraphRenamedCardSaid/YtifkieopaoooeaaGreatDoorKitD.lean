/- The kit's Renaming: some permutation. -/
import Derived.Test.YtifkieopaoooeaaGreatDoorKitI
import Derived.Test.YtifkieopaoooeaaGreatDoorMats
import Derived.Test.YtifkieopaoooeaaGreatDoorDrawn
import Derived.Test.YtifkieopaoooeaaGreatDoorPlainRen
import Derived.BigRegion
set_option linter.unusedSimpArgs false
set_option linter.unusedVariables false
namespace Go.Proofs.YtifkieopaoooeaaGreatDoor.Plain
/-- Two places change. -/
theorem PermOf.swap {n : Nat} {s t : Nat → Nat} (h : PermOf n s t) {i k : Nat} (hi : i < n) (hk : k < n) :
    PermOf n (fun a => if a = k then s i else if a = i then s k else s a) (fun b => if t b = i then k else if t b = k then i else t b) := by
  refine ⟨?_, ?_, ?_, ?_⟩
  · intro a ha; (try dsimp only); split
    · exact h.lt i hi
    · split
      · exact h.lt k hk
      · exact h.lt a ha
  · intro b hb; (try dsimp only); split
    · exact hk
    · split
      · exact hi
      · exact h.lt' b hb
  · intro a ha; (try dsimp only)
    by_cases h1 : a = k
    · subst h1
      rw [if_pos rfl, h.left i hi, if_pos rfl]
    · rw [if_neg h1]
      by_cases h2 : a = i
      · subst h2
        rw [if_pos rfl, h.left k hk, if_neg (fun e => h1 e.symm), if_pos rfl]
      · rw [if_neg h2, h.left a ha, if_neg h2, if_neg h1]
  · intro b hb; (try dsimp only)
    have hr := h.right b hb
    by_cases h1 : t b = i
    · rw [if_pos h1, if_pos rfl, ← h1, hr]
    · rw [if_neg h1]
      by_cases h2 : t b = k
      · rw [if_pos h2]
        by_cases h3 : i = k
        · omega
        · rw [if_neg h3, if_pos rfl, ← h2, hr]
      · rw [if_neg h2, if_neg h2, if_neg h1, hr]
theorem permL_swap {n : Nat} {s : Nat → Nat} {i k : Nat} (hi : i < n) (hk : k < n) :
    ((permL n s).set i (s k : Int)).set k (s i : Int) = permL n (fun a => if a = k then s i else if a = i then s k else s a) := by
  apply List.ext_getElem?
  intro a
  rw [List.getElem?_set, List.getElem?_set, List.length_set, permL_len]
  by_cases h1 : k = a
  · subst h1; simp [permL, hk]
  · rw [if_neg h1]
    by_cases h2 : i = a
    · subst h2; have h1' : ¬ i = k := fun e => h1 e.symm
      simp [permL, hi, h1']
    · rw [if_neg h2]
      by_cases ha : a < n
      · have e1 : ¬ a = k := fun e => h1 e.symm
        have e2 : ¬ a = i := fun e => h2 e.symm
        simp [permL, ha, e1, e2]
      · simp [permL, ha]
def startL (n j : Nat) : List Int := (List.range n).map fun a => if a < j then (a : Int) else 0
theorem startL_zero (n : Nat) : List.replicate n 0 = startL n 0 := by
  apply List.ext_getElem?
  intro a
  by_cases h : a < n <;> simp [startL, h, List.getElem?_replicate]
theorem startL_len (n j : Nat) : (startL n j).length = n := by simp [startL]
theorem startL_set {n j : Nat} (h : j < n) : (startL n j).set j (j : Int) = startL n (j + 1) := by
  apply List.ext_getElem?
  intro a
  rw [List.getElem?_set]
  by_cases e : j = a
  · subst e; simp [startL, h]
  · rw [if_neg e]
    by_cases ha : a < n
    · have : (a < j) = (a < j + 1) := by apply propext; omega
      simp [startL, ha, this]
    · simp [startL, ha]
theorem startL_all (n : Nat) : startL n n = permL n id := by
  unfold startL permL
  apply List.map_congr_left
  intro a ha
  rw [if_pos (List.mem_range.1 ha)]; rfl
theorem PermOf.id (n : Nat) : PermOf n id id := ⟨fun _ h => h, fun _ h => h, fun _ _ => rfl, fun _ _ => rfl⟩
end Go.Proofs.YtifkieopaoooeaaGreatDoor.Plain
namespace Go.Proofs.YtifkieopaoooeaaGreatDoor
open Go.RowKit Plain

set_option maxRecDepth 100000 in
set_option maxHeartbeats 1000000 in
theorem renaming_calls (n : Nat) (a : Option Addr) (c : Nat) (l : List Int) (w : World) (ha : Ints w a l) (hn : n ≤ 100) :
    Calls Tryz.prog 45 #[.int .i64 n, .slice a l.length c] w fun e w' => ∃ a' c' s t, e = .returned (.slice a' n c') ∧ PermOf n s t ∧ Ints w' a' (permL n s) ∧ Below w.heap.size w w' := by
  obtain ⟨i3, hi3, hz3, hs3, hb3⟩ := info_parts Tryz.info3
  have I3 := Lib.hid (And.intro hi3 (And.intro hz3 (And.intro hs3 hb3)))
  clear hi3 hz3 hs3 hb3
  have Hnum := Lib.hid (fun (i : Nat) (w1 : World) (h : Below w.heap.size w w1) (hi : i ≤ 1000000) => kitnum_calls a c l i w1 (ha.below h) hi)
  obtain ⟨L, hL⟩ : ∃ L, L = l.length := ⟨_, rfl⟩
  rw [← hL] at Hnum ⊢
  obtain ⟨D, hD⟩ : ∃ D, D = w.heap.size := ⟨_, rfl⟩
  rw [← hD] at Hnum ⊢
  have HD := Lib.hid hD
  clear hL ha
  go_enter Tryz.func45, Tryz.ntmps45
  go_wp2_with (at_make; refine mk1 rfl _ _ 60 3 rfl i3 (.int .i64 0) 8 Tryz.underlying60 I3.out.1 I3.out.2.1 I3.out.2.2.1 I3.out.2.2.2 rfl (by omega) D n rfl rfl (by omega) (by omega) ?_; intro w1 hd hg hz1; have H1 := Lib.hid (And.intro hd hg); clear hd hg hz1)
  rw [← hD] at H1 ⊢
  have hbl : Below D w w1 := (Below.refl _ _).grown H1.out.2 (by omega) (fun k hk => by cases hk)
  have hm0 : Own w1 D (.slice (some ⟨D, 0, none⟩) n n) 3 (ints (startL n 0)) := by rw [← startL_zero, ← ints_zero]; exact H1.out.1
  have H2 := Lib.hid (And.intro hm0 hbl)
  clear hm0 hbl hD H1
  go_loopw [6] (fun i wr => ∃ (k : Nat), k ≤ n ∧ i = .int .i64 k ∧ Own wr D (.slice (some ⟨D, 0, none⟩) n n) 3 (ints (startL n k)) ∧ Below D w wr) (fun i _ => n - (intOf i).toNat)
  case atStart => exact ⟨0, by omega, rfl, H2.out.1, H2.out.2⟩
  case round =>
    clear H2
    obtain ⟨k, hk, rfl, ho, hbl⟩ := hrel
    by_cases hlt : k < n
    · have hc := ho.cell k (by rw [ints_len, startL_len]; exact hlt)
      rw [ints_get (by rw [startL_len]; exact hlt)] at hc
      have hf := ho.frozen k
      have H := Lib.hid (And.intro ho hbl)
      clear ho hbl
      go_wp2
      refine ⟨⟨k + 1, by omega, by go_num, ?_, H.out.2.setCell (Nat.le_refl _) _⟩, by simp [intOf]; omega⟩
      rw [← startL_set hlt, ← ints_set]
      exact H.out.1.put k _
    · obtain rfl : k = n := by omega
      rw [startL_all] at ho
      have H := Lib.hid (And.intro ho hbl)
      clear ho hbl
      go_wp2
      go_loopw [7] (fun i wr => ∃ (x : Nat) (s t : Nat → Nat), x ≤ k ∧ i = .int .i64 x ∧ PermOf k s t ∧ Own wr D (.slice (some ⟨D, 0, none⟩) k k) 3 (ints (permL k s)) ∧ Below D w wr) (fun i _ => k - (intOf i).toNat)
      case atStart => exact ⟨0, id, id, by omega, rfl, PermOf.id k, H.out.1, H.out.2⟩
      case round =>
        clear H
        obtain ⟨x, s, t, hx, rfl, hp, ho, hbl⟩ := hrel
        by_cases hxn : x < k
        · have hnb := Hnum.out x wr hbl (by omega)
          obtain ⟨z, hz⟩ : ∃ z, numAt l x = z := ⟨_, rfl⟩
          have hcast : ((k - x : Nat) : Int) = (k : Int) - x := by omega
          have hbb := below_calls z ((k : Int) - x) wr (by omega)
          have hr := bel_range (n := z) (k := (k : Int) - x) (by omega)
          rw [hz] at hnb
          obtain ⟨b, hb⟩ : ∃ b : Nat, bel z ((k : Int) - x) = b := ⟨(bel z ((k : Int) - x)).toNat, by omega⟩
          rw [hb] at hbb hr
          have hyk : x + b < k := by omega
          have hcx := ho.cell x (by rw [ints_len, permL_len]; exact hxn)
          rw [ints_get (by rw [permL_len]; exact hxn), permL_at hxn] at hcx
          have hcy := ho.cell (x + b) (by rw [ints_len, permL_len]; exact hyk)
          rw [ints_get (by rw [permL_len]; exact hyk), permL_at hyk] at hcy
          have hfx := ho.frozen x
          have hfy := ho.frozen (x + b)
          have H := Lib.hid (And.intro hp (And.intro ho hbl))
          have Hc := Lib.hid (And.intro hnb hbb)
          clear hp ho hbl hnb hbb hz hb hcast
          go_wp2_with fail
          refine Hc.out.1.mono ?_
          rintro e w3 ⟨rfl, hw3⟩
          replace hw3 := hw3.symm
          subst hw3
          go_wp2_with fail
          refine Hc.out.2.mono ?_
          rintro e w3 ⟨rfl, hw3⟩
          replace hw3 := hw3.symm
          subst hw3
          go_wp2
          by_cases hb0 : b = 0
          · subst hb0
            simp only [Nat.add_zero] at hcy hfy
            clear hcy hfy
            go_region
            go_wp2
            refine ⟨⟨x + 1, _, _, by omega, by go_num, H.out.1.swap hxn hyk, ?_, ((H.out.2.2.setCell (Nat.le_refl _) _).setCell (Nat.le_refl _) _).drew⟩, by simp [intOf]; omega⟩
            rw [← permL_swap hxn hyk, ← ints_set, ← ints_set]
            exact ((H.out.2.1.put x _).put (x + 0) _).drew
          · go_region
            go_wp2
            refine ⟨⟨x + 1, _, _, by omega, by go_num, H.out.1.swap hxn hyk, ?_, ((H.out.2.2.setCell (Nat.le_refl _) _).setCell (Nat.le_refl _) _).drew⟩, by simp [intOf]; omega⟩
            rw [← permL_swap hxn hyk, ← ints_set, ← ints_set]
            exact ((H.out.2.1.put x _).put (x + b) _).drew
        · obtain rfl : x = k := by omega
          have H := Lib.hid (And.intro ho hbl)
          clear ho hbl
          go_wp2
          go_ret
          exact ⟨_, _, s, t, rfl, hp, H.out.1.toInts (by rw [permL_len]; unfold maxLen; omega), H.out.2⟩
set_option maxRecDepth 100000 in
set_option maxHeartbeats 1000000 in
theorem renamed_calls (n : Nat) (al ap : Option Addr) (cl cp : Nat) (l : List (List Int)) (p : List Int) (w : World) (hl : Rows w al l) (hp : Ints w ap p) (hpn : p.length = n) (hn : n ≤ 100) (hin : InRange n l) (hll : l.length ≤ 1000) (hlc : ∀ c ∈ l, c.length ≤ 1000) :
    Calls Tryz.prog 46 #[.slice al l.length cl, .slice ap n cp] w fun e w' => ∃ a c, e = .returned (.slice a (renL n p l).length c) ∧ Rows w' a (renL n p l) ∧ Below w.heap.size w w' := by
  obtain ⟨i3, hi3, hz3, hs3, hb3⟩ := info_parts Tryz.info3
  obtain ⟨i23, hi23, hz29, hs29, hb29⟩ := info_parts Tryz.info23
  have I3 := Lib.hid (And.intro hi3 (And.intro hz3 (And.intro hs3 hb3)))
  have I23 := Lib.hid (And.intro hi23 (And.intro hz29 (And.intro hs29 hb29)))
  clear hi3 hz3 hs3 hb3 hi23 hz29 hs29 hb29
  have H0 := Lib.hid (And.intro hl (And.intro hp (And.intro hin hlc)))
  obtain ⟨L, hL⟩ : ∃ L, L = l.length := ⟨_, rfl⟩
  rw [← hL] at hll ⊢
  have HL := Lib.hid (And.intro hL hpn)
  obtain ⟨D, hD⟩ : ∃ D, D = w.heap.size := ⟨_, rfl⟩
  rw [← hD] at ⊢
  have HD := Lib.hid hD
  clear hL hD hl hp hin hlc hpn
  go_enter Tryz.func46, Tryz.ntmps46
  go_wp2
  go_loopw [5, 6] (fun v kk wr => ∃ (k : Nat) (cs : List Value), k ≤ L ∧ kk = .int .i64 k ∧ Own wr D v 23 cs ∧ Cellsof wr D cs ((l.take k).map fun c => renTo p c n) ∧ Below D w wr) (fun _ kk _ => L - (intOf kk).toNat)
  case atStart => exact ⟨0, [], by omega, rfl, Own.nil _ _ _, ⟨rfl, by simp⟩, Below.refl _ _⟩
  case round =>
    obtain ⟨k, cs, hk, rfl, hv, hcs, hbl⟩ := hrel
    obtain ⟨wo, rfl⟩ : ∃ wo : World, wo = wr := ⟨_, rfl⟩
    have hDo : D ≤ wo.heap.size := by have := hbl.size; have := HD.out; omega
    have Hv := Lib.hid (And.intro hv (And.intro hcs (And.intro hbl hDo)))
    clear hv hcs hbl hDo
    by_cases hlt : k < L
    · obtain ⟨x, hx⟩ : ∃ x, l[k]?.getD [] = x := ⟨_, rfl⟩
      have hxl : x.length ≤ 1000 := by
        rw [← hx, List.getElem?_eq_getElem (by rw [← HL.out.1]; exact hlt)]
        exact H0.out.2.2.2 _ (List.getElem_mem _)
      have hrd : ∀ wr, Below D w wr → ∃ g o b cc, al = some ⟨g, o, none⟩ ∧ wr.cell? ⟨g, o + k, none⟩ = some (.slice b x.length cc) ∧ Ints wr b x := fun wr hb => by
        obtain ⟨g, o, b, cc, e, _, hc, hi⟩ := (H0.out.1.below (by rw [← HD.out]; exact hb)).at_ (k := k) (by rw [← HL.out.1]; exact hlt)
        rw [hx] at hc hi
        exact ⟨g, o, b, cc, e, hc, hi⟩
      have hrp : ∀ wr, Below D w wr → ∀ j, j < n → ∃ g o, ap = some ⟨g, o, none⟩ ∧ wr.cell? ⟨g, o + j, none⟩ = some (.int .i64 (p[j]?.getD 0)) := fun wr hb j hj => by
        obtain ⟨g, o, e, _, hc⟩ := (H0.out.2.1.below (by rw [← HD.out]; exact hb)).at_ (k := j) (by rw [HL.out.2]; exact hj)
        exact ⟨g, o, e, hc⟩
      have hxr : ∀ j, j < x.length → ∃ q : Nat, x[j]?.getD 0 = (q : Int) ∧ q < n := fun j hj => by
        obtain ⟨q, hq, hqn⟩ := H0.out.2.2.1.at_ (k := k) (j := j) (by rw [← HL.out.1]; exact hlt) (by rw [hx]; exact hj)
        rw [hx] at hq
        exact ⟨q, hq, hqn⟩
      have Hr := Lib.hid (And.intro hrd (And.intro hrp (And.intro hxr hx)))
      clear hrd hrp hxr hx
      obtain ⟨M, hM⟩ : ∃ M, M = x.length := ⟨_, rfl⟩
      rw [← hM] at hxl Hr
      have HM := Lib.hid hM
      clear hM
      go_wp2
      go_loopw [7, 8] (fun v8 jj wr => ∃ (q : Nat), q ≤ n ∧ jj = .int .i64 q ∧ Own wr wo.heap.size v8 3 (nums (renTo p x q)) ∧ wo.grownBy wr none) (fun _ jj _ => n - (intOf jj).toNat)
      case atStart => exact ⟨0, by omega, rfl, Own.nil _ _ _, World.grownBy.refl _ _⟩
      case round =>
        obtain ⟨q, hq, rfl, ho, hg⟩ := hrel
        have hbr : Below D w wr := Hv.out.2.2.1.grown hg Hv.out.2.2.2 (fun k hk => by cases hk)
        have H := Lib.hid (And.intro ho (And.intro hg hbr))
        clear ho hg hbr
        have hlen := renTo_len p x q
        by_cases hqn : q < n
        · go_wp2
          go_loopw [7, 9] (fun v8 jj wr => ∃ (j : Nat), j ≤ M ∧ jj = .int .i64 j ∧ Own wr wo.heap.size v8 3 (nums (renK p x q (renTo p x q) j)) ∧ wo.grownBy wr none) (fun _ jj _ => M - (intOf jj).toNat)
          case atStart => exact ⟨0, by omega, rfl, H.out.1, H.out.2.1⟩
          case round =>
            clear H
            obtain ⟨j, hj, rfl, ho, hg⟩ := hrel
            have hbr : Below D w wr := Hv.out.2.2.1.grown hg Hv.out.2.2.2 (fun k hk => by cases hk)
            obtain ⟨g, o, b, cc, rfl, hc, hi⟩ := Hr.out.1 wr hbr
            have hlen2 := renK_len p x q (renTo p x q) j
            by_cases hjl : j < M
            · obtain ⟨gb, ob, rfl, _, hcp⟩ := hi.at_ (k := j) (by rw [← HM.out]; exact hjl)
              obtain ⟨z, hz, hzn⟩ := Hr.out.2.2.1 j hjl
              obtain ⟨g2, o2, rfl, hc2⟩ := Hr.out.2.1 wr hbr z hzn
              rw [hz] at hcp
              obtain ⟨y, hy⟩ : ∃ y, p[z]?.getD 0 = y := ⟨_, rfl⟩
              rw [hy] at hc2
              have hcond : p[(x[j]?.getD 0).toNat]?.getD 0 = y := by rw [hz]; simpa using hy
              have H := Lib.hid (And.intro ho (And.intro hg (And.intro hbr hcond)))
              have hsl : (nums (renK p x q (renTo p x q) j)).length < 1099511627776 := by
                rw [nums, List.length_map]
                have : q * x.length ≤ 100 * 1000 := Nat.mul_le_mul (by omega) (by rw [← HM.out]; exact hxl)
                omega
              have hsz : wo.heap.size ≤ wr.heap.size := hg.size
              clear ho hg hbr hi hz hy hcond
              by_cases he : y = q
              · subst he
                have hs : renK p x q (renTo p x q) (j + 1) = renK p x q (renTo p x q) j ++ [q] := by rw [renK, if_pos H.out.2.2.2]
                have Hs := Lib.hid hs
                clear hs
                go_wp2_with (at_builtin; refine app1 rfl (.tmp 43) (.tmp 45) 23 3 rfl i3 (.int .i64 0) 8 Tryz.underlying23 I3.out.1 I3.out.2.1 I3.out.2.2.1 I3.out.2.2.2 rfl (by omega) wo.heap.size (.int .i64 q) u7 (nums (renK p x q (renTo p x q) j)) rfl H.out.1 rfl rfl hsl hsz ?_; intro v' w' h2 h3 h4; have H9 := Lib.hid (And.intro h2 h3); clear h2 h3 h4)
                refine ⟨⟨j + 1, by omega, by go_num, ?_, grown_new H.out.2.1 H9.out.2 ?_⟩, by simp [intOf]; omega⟩
                · rw [Hs.out]
                  have := H9.out.1
                  simpa [nums] using this
                · intro g hg
                  rcases H.out.1.blk with e | ⟨g', _, e, hB, _⟩
                  · rw [e] at hg; cases hg
                  · rw [e] at hg; cases hg; exact .inl hB
              · have hs : renK p x q (renTo p x q) (j + 1) = renK p x q (renTo p x q) j := by rw [renK, if_neg (by rw [H.out.2.2.2]; exact he)]
                have he' : (y == (q : Int)) = false := by simpa using he
                have Hs := Lib.hid hs
                clear hs
                go_wp2
                exact ⟨⟨j + 1, by omega, by go_num, by rw [Hs.out]; exact H.out.1, H.out.2.1⟩, by simp [intOf]; omega⟩
            · obtain rfl : j = M := by omega
              have H := Lib.hid (And.intro ho hg)
              clear ho hg hbr hi
              go_wp2
              exact ⟨⟨q + 1, by omega, by go_num, by rw [renTo, ← HM.out]; exact H.out.1, H.out.2⟩, by simp [intOf]; omega⟩
        · obtain rfl : q = n := by omega
          have hqx : q * x.length ≤ 100 * 1000 := Nat.mul_le_mul (by omega) (by rw [← HM.out]; exact hxl)
          obtain ⟨a8, c8, rfl, _⟩ := H.out.1.row (by rw [nums, List.length_map]; unfold maxLen; omega)
          have hvr : Own wr D u5 23 cs := Hv.out.1.kept H.out.2.1 (by rcases Hv.out.1.blk with e | ⟨g, _, e, _⟩ <;> rw [e] <;> simp)
          have hcr : Cellsof wr D cs ((l.take k).map fun c => renTo p c q) := Hv.out.2.1.kept H.out.2.1 (fun u xs h => by rcases h.blk with e | ⟨g, _, e, _⟩ <;> rw [e] <;> simp)
          have hsz2 : cs.length < 1099511627776 := by
            have := hcr.1
            rw [List.length_map, List.length_take] at this
            omega
          have hDr : D ≤ wr.heap.size := by have := H.out.2.1.size; have := Hv.out.2.2.2; omega
          have htk : (l.take (k + 1)).map (fun c => renTo p c q) = (l.take k).map (fun c => renTo p c q) ++ [renTo p x q] := by
            rw [List.take_add_one, List.map_append, List.getElem?_eq_getElem (by rw [← HL.out.1]; exact hlt)]
            have := Hr.out.2.2.2
            rw [List.getElem?_eq_getElem (by rw [← HL.out.1]; exact hlt)] at this
            simp at this
            simp [this]
          have Hs := Lib.hid (And.intro hsz2 (And.intro hDr (And.intro hvr (And.intro hcr htk))))
          clear hvr hcr hsz2 hDr htk
          obtain ⟨N8, hN8⟩ : ∃ N, (nums (renTo p x q)).length = N := ⟨_, rfl⟩
          rw [hN8] at H ⊢
          clear hN8
          go_wp2_with (at_builtin; refine app1 rfl (.tmp 47) (.tmp 49) 42 23 rfl i23 (.slice none 0 0) 24 Tryz.underlying42 I23.out.1 I23.out.2.1 I23.out.2.2.1 I23.out.2.2.2 rfl (by omega) D (.slice a8 N8 c8) u5 cs rfl Hs.out.2.2.1 rfl rfl Hs.out.1 Hs.out.2.1 ?_; intro v' w' h2 h3 h4; have H9 := Lib.hid (And.intro h2 h3); clear h2 h3 h4)
          obtain ⟨h2, h3⟩ := H9.out
          refine ⟨⟨k + 1, cs ++ [.slice a8 N8 c8], by omega, by go_num, h2, ?_, ?_⟩, by simp [intOf]; omega⟩
          · rw [Hs.out.2.2.2.2]
            refine Cellsof.snoc (Hs.out.2.2.2.1.kept h3 (fun u xs h => h.ne_type Hs.out.2.2.1 (by decide))) ?_
            exact (H.out.1.mono Hv.out.2.2.2).kept h3 (H.out.1.ne_type Hs.out.2.2.1 (by decide))
          · refine H.out.2.2.grown h3 Hs.out.2.1 (fun k hk => ?_)
            rcases Hs.out.2.2.1.blk with e | ⟨g', _, e, hB, _⟩
            · rw [e] at hk; cases hk
            · rw [e] at hk; cases hk; exact hB
    · obtain rfl : k = L := by omega
      have hall : (l.take k).map (fun c => renTo p c n) = l.map (fun c => renTo p c n) := by rw [List.take_of_length_le (by rw [← HL.out.1]; omega)]
      have hcs := Hv.out.2.1
      rw [hall] at hcs
      obtain ⟨a', c', rfl, hrows⟩ := hcs.rows Hv.out.1 (by have := hcs.1; rw [List.length_map, ← HL.out.1] at this; unfold maxLen; omega) (fun y hy => by
        obtain ⟨c, hc, rfl⟩ := List.mem_map.1 hy
        have h1 := renTo_len p c n
        have h2 : n * c.length ≤ 100 * 1000 := Nat.mul_le_mul hn (H0.out.2.2.2 c hc)
        unfold maxLen; omega)
      have Hr := Lib.hid hrows
      clear hrows hall hcs
      go_wp2
      go_ret
      refine ⟨a', c', by rw [renL, List.length_map, List.length_map]; rfl, ?_, Hv.out.2.2.1⟩
      have := Hr.out
      rw [List.map_map] at this
      exact this
end Go.Proofs.YtifkieopaoooeaaGreatDoor
