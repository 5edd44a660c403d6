/- The laws' inside and renamed. -/
import Derived.Test.YtlnikgcanimggaaKitD
set_option linter.unusedSimpArgs false
set_option linter.unusedVariables false
namespace Go.Proofs.Ytlnikgcanimggaa
open Go.RowKit Plain

set_option maxRecDepth 100000 in
set_option maxHeartbeats 1000000 in
theorem inside_calls (n : Nat) (a : Option Addr) (c : Nat) (l : List (List Int)) (w : World) (ha : Rows w a l) (hin : InRange n l) :
    Calls Try.prog 21 #[.int .i64 n, .slice a l.length c] w fun e w' => e = .returned (.bool true) ∧ w' = w := by
  have hml := ha.len
  have H0 := Lib.hid (And.intro ha hin)
  clear ha hin
  obtain ⟨L, hL⟩ : ∃ L, L = l.length := ⟨_, rfl⟩
  rw [← hL] at hml ⊢
  have HL := Lib.hid hL
  clear hL
  go_enter Try.func21, Try.ntmps21
  go_wp2
  go_loop [5] (fun i => ∃ k : Nat, k ≤ L ∧ i = .int .i64 k) (fun i => L - (intOf i).toNat)
  case atStart => exact ⟨0, by omega, rfl⟩
  case round =>
    obtain ⟨k, hk, rfl⟩ := hrel
    by_cases hlt : k < L
    · obtain ⟨g, o, b, cc, rfl, _, hc, hi⟩ := H0.out.1.at_ (k := k) (by rw [← HL.out]; exact hlt)
      obtain ⟨x, hx⟩ : ∃ x, l[k]?.getD [] = x := ⟨_, rfl⟩
      rw [hx] at hc hi
      have hxl := hi.len
      obtain ⟨M, hM⟩ : ∃ M, M = x.length := ⟨_, rfl⟩
      rw [← hM] at hc hxl
      have H := Lib.hid (And.intro hx (And.intro hM hi))
      clear hx hM hi
      go_wp2
      go_loop [6] (fun i => ∃ k : Nat, k ≤ M ∧ i = .int .i64 k) (fun i => M - (intOf i).toNat)
      case atStart => exact ⟨0, by omega, rfl⟩
      case round =>
        obtain ⟨j, hj, rfl⟩ := hrel
        by_cases hjl : j < M
        · obtain ⟨gb, ob, rfl, _, hcp⟩ := H.out.2.2.at_ (k := j) (by rw [← H.out.2.1]; exact hjl)
          obtain ⟨p, hp, hpn⟩ := H0.out.2.at_ (k := k) (j := j) (by rw [← HL.out]; exact hlt) (by rw [H.out.1, ← H.out.2.1]; exact hjl)
          rw [H.out.1] at hp
          rw [hp] at hcp
          clear hp
          have h1 : decide ((p : Int) < 0) = false := by simp
          have h2 : decide ((n : Int) ≤ p) = false := by simp; omega
          go_wp2
          exact ⟨⟨j + 1, by omega, by go_num⟩, by simp [intOf]; omega⟩
        · go_wp2
          exact ⟨⟨k + 1, by omega, by go_num⟩, by simp [intOf]; omega⟩
    · go_wp2
      go_ret
      exact ⟨rfl, rfl⟩

set_option maxRecDepth 100000 in
set_option maxHeartbeats 1000000 in
theorem renamed_calls (n : Nat) (al ap : Option Addr) (cl cp : Nat) (l : List (List Int)) (p : List Int) (w : World) (hl : Rows w al l) (hp : Ints w ap p) (hpn : p.length = n) (hn : n ≤ 100) (hin : InRange n l) (hll : l.length ≤ 1000) (hlc : ∀ c ∈ l, c.length ≤ 1000) :
    Calls Try.prog 19 #[.slice al l.length cl, .slice ap n cp] w fun e w' => ∃ a c, e = .returned (.slice a (renL n p l).length c) ∧ Rows w' a (renL n p l) ∧ Below w.heap.size w w' := by
  obtain ⟨i3, hi3, hz3, hs3, hb3⟩ := info_parts Try.info3
  obtain ⟨i29, hi29, hz29, hs29, hb29⟩ := info_parts Try.info29
  have I3 := Lib.hid (And.intro hi3 (And.intro hz3 (And.intro hs3 hb3)))
  have I29 := Lib.hid (And.intro hi29 (And.intro hz29 (And.intro hs29 hb29)))
  clear hi3 hz3 hs3 hb3 hi29 hz29 hs29 hb29
  have H0 := Lib.hid (And.intro hl (And.intro hp (And.intro hin hlc)))
  obtain ⟨L, hL⟩ : ∃ L, L = l.length := ⟨_, rfl⟩
  rw [← hL] at hll ⊢
  have HL := Lib.hid (And.intro hL hpn)
  obtain ⟨D, hD⟩ : ∃ D, D = w.heap.size := ⟨_, rfl⟩
  rw [← hD] at ⊢
  have HD := Lib.hid hD
  clear hL hD hl hp hin hlc hpn
  go_enter Try.func19, Try.ntmps19
  go_wp2
  go_loopw [5, 6] (fun v kk wr => ∃ (k : Nat) (cs : List Value), k ≤ L ∧ kk = .int .i64 k ∧ Own wr D v 29 cs ∧ Cellsof wr D cs ((l.take k).map fun c => renTo p c n) ∧ Below D w wr) (fun _ kk _ => L - (intOf kk).toNat)
  case atStart => exact ⟨0, [], by omega, rfl, Own.nil _ _ _, ⟨rfl, by simp⟩, Below.refl _ _⟩
  case round =>
    obtain ⟨k, cs, hk, rfl, hv, hcs, hbl⟩ := hrel
    obtain ⟨wo, rfl⟩ : ∃ wo : World, wo = wr := ⟨_, rfl⟩
    have hDo : D ≤ wo.heap.size := by have := hbl.size; have := HD.out; omega
    have Hv := Lib.hid (And.intro hv (And.intro hcs (And.intro hbl hDo)))
    clear hv hcs hbl hDo
    by_cases hlt : k < L
    · obtain ⟨x, hx⟩ : ∃ x, l[k]?.getD [] = x := ⟨_, rfl⟩
      have hxl : x.length ≤ 1000 := by
        rw [← hx, List.getElem?_eq_getElem (by rw [← HL.out.1]; exact hlt)]
        exact H0.out.2.2.2 _ (List.getElem_mem _)
      have hrd : ∀ wr, Below D w wr → ∃ g o b cc, al = some ⟨g, o, none⟩ ∧ wr.cell? ⟨g, o + k, none⟩ = some (.slice b x.length cc) ∧ Ints wr b x := fun wr hb => by
        obtain ⟨g, o, b, cc, e, _, hc, hi⟩ := (H0.out.1.below (by rw [← HD.out]; exact hb)).at_ (k := k) (by rw [← HL.out.1]; exact hlt)
        rw [hx] at hc hi
        exact ⟨g, o, b, cc, e, hc, hi⟩
      have hrp : ∀ wr, Below D w wr → ∀ j, j < n → ∃ g o, ap = some ⟨g, o, none⟩ ∧ wr.cell? ⟨g, o + j, none⟩ = some (.int .i64 (p[j]?.getD 0)) := fun wr hb j hj => by
        obtain ⟨g, o, e, _, hc⟩ := (H0.out.2.1.below (by rw [← HD.out]; exact hb)).at_ (k := j) (by rw [HL.out.2]; exact hj)
        exact ⟨g, o, e, hc⟩
      have hxr : ∀ j, j < x.length → ∃ q : Nat, x[j]?.getD 0 = (q : Int) ∧ q < n := fun j hj => by
        obtain ⟨q, hq, hqn⟩ := H0.out.2.2.1.at_ (k := k) (j := j) (by rw [← HL.out.1]; exact hlt) (by rw [hx]; exact hj)
        rw [hx] at hq
        exact ⟨q, hq, hqn⟩
      have Hr := Lib.hid (And.intro hrd (And.intro hrp (And.intro hxr hx)))
      clear hrd hrp hxr hx
      obtain ⟨M, hM⟩ : ∃ M, M = x.length := ⟨_, rfl⟩
      rw [← hM] at hxl Hr
      have HM := Lib.hid hM
      clear hM
      go_wp2
      go_loopw [7, 8] (fun v8 jj wr => ∃ (q : Nat), q ≤ n ∧ jj = .int .i64 q ∧ Own wr wo.heap.size v8 3 (nums (renTo p x q)) ∧ wo.grownBy wr none) (fun _ jj _ => n - (intOf jj).toNat)
      case atStart => exact ⟨0, by omega, rfl, Own.nil _ _ _, World.grownBy.refl _ _⟩
      case round =>
        obtain ⟨q, hq, rfl, ho, hg⟩ := hrel
        have hbr : Below D w wr := Hv.out.2.2.1.grown hg Hv.out.2.2.2 (fun k hk => by cases hk)
        have H := Lib.hid (And.intro ho (And.intro hg hbr))
        clear ho hg hbr
        have hlen := renTo_len p x q
        by_cases hqn : q < n
        · go_wp2
          go_loopw [7, 9] (fun v8 jj wr => ∃ (j : Nat), j ≤ M ∧ jj = .int .i64 j ∧ Own wr wo.heap.size v8 3 (nums (renK p x q (renTo p x q) j)) ∧ wo.grownBy wr none) (fun _ jj _ => M - (intOf jj).toNat)
          case atStart => exact ⟨0, by omega, rfl, H.out.1, H.out.2.1⟩
          case round =>
            clear H
            obtain ⟨j, hj, rfl, ho, hg⟩ := hrel
            have hbr : Below D w wr := Hv.out.2.2.1.grown hg Hv.out.2.2.2 (fun k hk => by cases hk)
            obtain ⟨g, o, b, cc, rfl, hc, hi⟩ := Hr.out.1 wr hbr
            have hlen2 := renK_len p x q (renTo p x q) j
            by_cases hjl : j < M
            · obtain ⟨gb, ob, rfl, _, hcp⟩ := hi.at_ (k := j) (by rw [← HM.out]; exact hjl)
              obtain ⟨z, hz, hzn⟩ := Hr.out.2.2.1 j hjl
              obtain ⟨g2, o2, rfl, hc2⟩ := Hr.out.2.1 wr hbr z hzn
              rw [hz] at hcp
              obtain ⟨y, hy⟩ : ∃ y, p[z]?.getD 0 = y := ⟨_, rfl⟩
              rw [hy] at hc2
              have hcond : p[(x[j]?.getD 0).toNat]?.getD 0 = y := by rw [hz]; simpa using hy
              have H := Lib.hid (And.intro ho (And.intro hg (And.intro hbr hcond)))
              have hsl : (nums (renK p x q (renTo p x q) j)).length < 1099511627776 := by
                rw [nums, List.length_map]
                have : q * x.length ≤ 100 * 1000 := Nat.mul_le_mul (by omega) (by rw [← HM.out]; exact hxl)
                omega
              have hsz : wo.heap.size ≤ wr.heap.size := hg.size
              clear ho hg hbr hi hz hy hcond
              by_cases he : y = q
              · subst he
                have hs : renK p x q (renTo p x q) (j + 1) = renK p x q (renTo p x q) j ++ [q] := by rw [renK, if_pos H.out.2.2.2]
                have Hs := Lib.hid hs
                clear hs
                go_wp2_with (at_builtin; refine app1 rfl (.tmp 43) (.tmp 45) 29 3 rfl i3 (.int .i64 0) 8 Try.underlying29 I3.out.1 I3.out.2.1 I3.out.2.2.1 I3.out.2.2.2 rfl (by omega) wo.heap.size (.int .i64 q) u7 (nums (renK p x q (renTo p x q) j)) rfl H.out.1 rfl rfl hsl hsz ?_; intro v' w' h2 h3 h4; have H9 := Lib.hid (And.intro h2 h3); clear h2 h3 h4)
                refine ⟨⟨j + 1, by omega, by go_num, ?_, grown_new H.out.2.1 H9.out.2 ?_⟩, by simp [intOf]; omega⟩
                · rw [Hs.out]
                  have := H9.out.1
                  simpa [nums] using this
                · intro g hg
                  rcases H.out.1.blk with e | ⟨g', _, e, hB, _⟩
                  · rw [e] at hg; cases hg
                  · rw [e] at hg; cases hg; exact .inl hB
              · have hs : renK p x q (renTo p x q) (j + 1) = renK p x q (renTo p x q) j := by rw [renK, if_neg (by rw [H.out.2.2.2]; exact he)]
                have he' : (y == (q : Int)) = false := by simpa using he
                have Hs := Lib.hid hs
                clear hs
                go_wp2
                exact ⟨⟨j + 1, by omega, by go_num, by rw [Hs.out]; exact H.out.1, H.out.2.1⟩, by simp [intOf]; omega⟩
            · obtain rfl : j = M := by omega
              have H := Lib.hid (And.intro ho hg)
              clear ho hg hbr hi
              go_wp2
              exact ⟨⟨q + 1, by omega, by go_num, by rw [renTo, ← HM.out]; exact H.out.1, H.out.2⟩, by simp [intOf]; omega⟩
        · obtain rfl : q = n := by omega
          have hqx : q * x.length ≤ 100 * 1000 := Nat.mul_le_mul (by omega) (by rw [← HM.out]; exact hxl)
          obtain ⟨a8, c8, rfl, _⟩ := H.out.1.row (by rw [nums, List.length_map]; unfold maxLen; omega)
          have hvr : Own wr D u5 29 cs := Hv.out.1.kept H.out.2.1 (by rcases Hv.out.1.blk with e | ⟨g, _, e, _⟩ <;> rw [e] <;> simp)
          have hcr : Cellsof wr D cs ((l.take k).map fun c => renTo p c q) := Hv.out.2.1.kept H.out.2.1 (fun u xs h => by rcases h.blk with e | ⟨g, _, e, _⟩ <;> rw [e] <;> simp)
          have hsz2 : cs.length < 1099511627776 := by
            have := hcr.1
            rw [List.length_map, List.length_take] at this
            omega
          have hDr : D ≤ wr.heap.size := by have := H.out.2.1.size; have := Hv.out.2.2.2; omega
          have htk : (l.take (k + 1)).map (fun c => renTo p c q) = (l.take k).map (fun c => renTo p c q) ++ [renTo p x q] := by
            rw [List.take_add_one, List.map_append, List.getElem?_eq_getElem (by rw [← HL.out.1]; exact hlt)]
            have := Hr.out.2.2.2
            rw [List.getElem?_eq_getElem (by rw [← HL.out.1]; exact hlt)] at this
            simp at this
            simp [this]
          have Hs := Lib.hid (And.intro hsz2 (And.intro hDr (And.intro hvr (And.intro hcr htk))))
          clear hvr hcr hsz2 hDr htk
          obtain ⟨N8, hN8⟩ : ∃ N, (nums (renTo p x q)).length = N := ⟨_, rfl⟩
          rw [hN8] at H ⊢
          clear hN8
          go_wp2_with (at_builtin; refine app1 rfl (.tmp 47) (.tmp 49) 22 29 rfl i29 (.slice none 0 0) 24 Try.underlying22 I29.out.1 I29.out.2.1 I29.out.2.2.1 I29.out.2.2.2 rfl (by omega) D (.slice a8 N8 c8) u5 cs rfl Hs.out.2.2.1 rfl rfl Hs.out.1 Hs.out.2.1 ?_; intro v' w' h2 h3 h4; have H9 := Lib.hid (And.intro h2 h3); clear h2 h3 h4)
          obtain ⟨h2, h3⟩ := H9.out
          refine ⟨⟨k + 1, cs ++ [.slice a8 N8 c8], by omega, by go_num, h2, ?_, ?_⟩, by simp [intOf]; omega⟩
          · rw [Hs.out.2.2.2.2]
            refine Cellsof.snoc (Hs.out.2.2.2.1.kept h3 (fun u xs h => h.ne_type Hs.out.2.2.1 (by decide))) ?_
            exact (H.out.1.mono Hv.out.2.2.2).kept h3 (H.out.1.ne_type Hs.out.2.2.1 (by decide))
          · refine H.out.2.2.grown h3 Hs.out.2.1 (fun k hk => ?_)
            rcases Hs.out.2.2.1.blk with e | ⟨g', _, e, hB, _⟩
            · rw [e] at hk; cases hk
            · rw [e] at hk; cases hk; exact hB
    · obtain rfl : k = L := by omega
      have hall : (l.take k).map (fun c => renTo p c n) = l.map (fun c => renTo p c n) := by rw [List.take_of_length_le (by rw [← HL.out.1]; omega)]
      have hcs := Hv.out.2.1
      rw [hall] at hcs
      obtain ⟨a', c', rfl, hrows⟩ := hcs.rows Hv.out.1 (by have := hcs.1; rw [List.length_map, ← HL.out.1] at this; unfold maxLen; omega) (fun y hy => by
        obtain ⟨c, hc, rfl⟩ := List.mem_map.1 hy
        have h1 := renTo_len p c n
        have h2 : n * c.length ≤ 100 * 1000 := Nat.mul_le_mul hn (H0.out.2.2.2 c hc)
        unfold maxLen; omega)
      have Hr := Lib.hid hrows
      clear hrows hall hcs
      go_wp2
      go_ret
      refine ⟨a', c', by rw [renL, List.length_map, List.length_map]; rfl, ?_, Hv.out.2.2.1⟩
      have := Hr.out
      rw [List.map_map] at this
      exact this
end Go.Proofs.Ytlnikgcanimggaa
