/- The kit's Renaming: some permutation. -/
import Derived.Test.YtlnikgcanimggaaMat
import Derived.Test.YtlnikgcanimggaaPlainMoves
import Derived.BigRegion
set_option linter.unusedSimpArgs false
set_option linter.unusedVariables false
namespace Go.Proofs.Ytlnikgcanimggaa.Plain
/-- Two places change. -/
theorem PermOf.swap {n : Nat} {s t : Nat → Nat} (h : PermOf n s t) {i k : Nat} (hi : i < n) (hk : k < n) :
    PermOf n (fun a => if a = k then s i else if a = i then s k else s a) (fun b => if t b = i then k else if t b = k then i else t b) := by
  refine ⟨?_, ?_, ?_, ?_⟩
  · intro a ha; (try dsimp only); split
    · exact h.lt i hi
    · split
      · exact h.lt k hk
      · exact h.lt a ha
  · intro b hb; (try dsimp only); split
    · exact hk
    · split
      · exact hi
      · exact h.lt' b hb
  · intro a ha; (try dsimp only)
    by_cases h1 : a = k
    · subst h1
      rw [if_pos rfl, h.left i hi, if_pos rfl]
    · rw [if_neg h1]
      by_cases h2 : a = i
      · subst h2
        rw [if_pos rfl, h.left k hk, if_neg (fun e => h1 e.symm), if_pos rfl]
      · rw [if_neg h2, h.left a ha, if_neg h2, if_neg h1]
  · intro b hb; (try dsimp only)
    have hr := h.right b hb
    by_cases h1 : t b = i
    · rw [if_pos h1, if_pos rfl, ← h1, hr]
    · rw [if_neg h1]
      by_cases h2 : t b = k
      · rw [if_pos h2]
        by_cases h3 : i = k
        · omega
        · rw [if_neg h3, if_pos rfl, ← h2, hr]
      · rw [if_neg h2, if_neg h2, if_neg h1, hr]
theorem permL_swap {n : Nat} {s : Nat → Nat} {i k : Nat} (hi : i < n) (hk : k < n) :
    ((permL n s).set i (s k : Int)).set k (s i : Int) = permL n (fun a => if a = k then s i else if a = i then s k else s a) := by
  apply List.ext_getElem?
  intro a
  rw [List.getElem?_set, List.getElem?_set, List.length_set, permL_len]
  by_cases h1 : k = a
  · subst h1; simp [permL, hk]
  · rw [if_neg h1]
    by_cases h2 : i = a
    · subst h2; have h1' : ¬ i = k := fun e => h1 e.symm
      simp [permL, hi, h1']
    · rw [if_neg h2]
      by_cases ha : a < n
      · have e1 : ¬ a = k := fun e => h1 e.symm
        have e2 : ¬ a = i := fun e => h2 e.symm
        simp [permL, ha, e1, e2]
      · simp [permL, ha]
def startL (n j : Nat) : List Int := (List.range n).map fun a => if a < j then (a : Int) else 0
theorem startL_zero (n : Nat) : List.replicate n 0 = startL n 0 := by
  apply List.ext_getElem?
  intro a
  by_cases h : a < n <;> simp [startL, h, List.getElem?_replicate]
theorem startL_len (n j : Nat) : (startL n j).length = n := by simp [startL]
theorem startL_set {n j : Nat} (h : j < n) : (startL n j).set j (j : Int) = startL n (j + 1) := by
  apply List.ext_getElem?
  intro a
  rw [List.getElem?_set]
  by_cases e : j = a
  · subst e; simp [startL, h]
  · rw [if_neg e]
    by_cases ha : a < n
    · have : (a < j) = (a < j + 1) := by apply propext; omega
      simp [startL, ha, this]
    · simp [startL, ha]
theorem startL_all (n : Nat) : startL n n = permL n id := by
  unfold startL permL
  apply List.map_congr_left
  intro a ha
  rw [if_pos (List.mem_range.1 ha)]; rfl
theorem PermOf.id (n : Nat) : PermOf n id id := ⟨fun _ h => h, fun _ h => h, fun _ _ => rfl, fun _ _ => rfl⟩
end Go.Proofs.Ytlnikgcanimggaa.Plain
namespace Go.Proofs.Ytlnikgcanimggaa
open Go.RowKit Plain

set_option maxRecDepth 100000 in
set_option maxHeartbeats 1000000 in
theorem renaming_calls (n : Nat) (a : Option Addr) (c : Nat) (l : List Int) (w : World) (ha : Ints w a l) (hn : n ≤ 100) :
    Calls Try.prog 18 #[.int .i64 n, .slice a l.length c] w fun e w' => ∃ a' c' s t, e = .returned (.slice a' n c') ∧ PermOf n s t ∧ Ints w' a' (permL n s) ∧ Below w.heap.size w w' := by
  obtain ⟨i3, hi3, hz3, hs3, hb3⟩ := info_parts Try.info3
  have I3 := Lib.hid (And.intro hi3 (And.intro hz3 (And.intro hs3 hb3)))
  clear hi3 hz3 hs3 hb3
  have Hnum := Lib.hid (fun (i : Nat) (w1 : World) (h : Below w.heap.size w w1) (hi : i ≤ 1000000) => number_calls a c l i w1 (ha.below h) hi)
  obtain ⟨L, hL⟩ : ∃ L, L = l.length := ⟨_, rfl⟩
  rw [← hL] at Hnum ⊢
  obtain ⟨D, hD⟩ : ∃ D, D = w.heap.size := ⟨_, rfl⟩
  rw [← hD] at Hnum ⊢
  have HD := Lib.hid hD
  clear hL ha
  go_enter Try.func18, Try.ntmps18
  go_wp2_with (at_make; refine mk1 rfl _ _ 32 3 rfl i3 (.int .i64 0) 8 Try.underlying32 I3.out.1 I3.out.2.1 I3.out.2.2.1 I3.out.2.2.2 rfl (by omega) D n rfl rfl (by omega) (by omega) ?_; intro w1 hd hg hz1; have H1 := Lib.hid (And.intro hd hg); clear hd hg hz1)
  rw [← hD] at H1 ⊢
  have hbl : Below D w w1 := (Below.refl _ _).grown H1.out.2 (by omega) (fun k hk => by cases hk)
  have hm0 : Own w1 D (.slice (some ⟨D, 0, none⟩) n n) 3 (ints (startL n 0)) := by rw [← startL_zero, ← ints_zero]; exact H1.out.1
  have H2 := Lib.hid (And.intro hm0 hbl)
  clear hm0 hbl hD H1
  go_loopw [6] (fun i wr => ∃ (k : Nat), k ≤ n ∧ i = .int .i64 k ∧ Own wr D (.slice (some ⟨D, 0, none⟩) n n) 3 (ints (startL n k)) ∧ Below D w wr) (fun i _ => n - (intOf i).toNat)
  case atStart => exact ⟨0, by omega, rfl, H2.out.1, H2.out.2⟩
  case round =>
    clear H2
    obtain ⟨k, hk, rfl, ho, hbl⟩ := hrel
    by_cases hlt : k < n
    · have hc := ho.cell k (by rw [ints_len, startL_len]; exact hlt)
      rw [ints_get (by rw [startL_len]; exact hlt)] at hc
      have hf := ho.frozen k
      have H := Lib.hid (And.intro ho hbl)
      clear ho hbl
      go_wp2
      refine ⟨⟨k + 1, by omega, by go_num, ?_, H.out.2.setCell (Nat.le_refl _) _⟩, by simp [intOf]; omega⟩
      rw [← startL_set hlt, ← ints_set]
      exact H.out.1.put k _
    · obtain rfl : k = n := by omega
      rw [startL_all] at ho
      have H := Lib.hid (And.intro ho hbl)
      clear ho hbl
      go_wp2
      go_loopw [7] (fun i wr => ∃ (x : Nat) (s t : Nat → Nat), x ≤ k ∧ i = .int .i64 x ∧ PermOf k s t ∧ Own wr D (.slice (some ⟨D, 0, none⟩) k k) 3 (ints (permL k s)) ∧ Below D w wr) (fun i _ => k - (intOf i).toNat)
      case atStart => exact ⟨0, id, id, by omega, rfl, PermOf.id k, H.out.1, H.out.2⟩
      case round =>
        clear H
        obtain ⟨x, s, t, hx, rfl, hp, ho, hbl⟩ := hrel
        by_cases hxn : x < k
        · have hnb := Hnum.out x wr hbl (by omega)
          obtain ⟨z, hz⟩ : ∃ z, num l x = z := ⟨_, rfl⟩
          have hcast : ((k - x : Nat) : Int) = (k : Int) - x := by omega
          have hbb := below_calls z ((k : Int) - x) wr (by omega)
          have hr := bel_range (n := z) (k := (k : Int) - x) (by omega)
          rw [hz] at hnb
          obtain ⟨b, hb⟩ : ∃ b : Nat, bel z ((k : Int) - x) = b := ⟨(bel z ((k : Int) - x)).toNat, by omega⟩
          rw [hb] at hbb hr
          have hyk : x + b < k := by omega
          have hcx := ho.cell x (by rw [ints_len, permL_len]; exact hxn)
          rw [ints_get (by rw [permL_len]; exact hxn), permL_at hxn] at hcx
          have hcy := ho.cell (x + b) (by rw [ints_len, permL_len]; exact hyk)
          rw [ints_get (by rw [permL_len]; exact hyk), permL_at hyk] at hcy
          have hfx := ho.frozen x
          have hfy := ho.frozen (x + b)
          have H := Lib.hid (And.intro hp (And.intro ho hbl))
          have Hc := Lib.hid (And.intro hnb hbb)
          clear hp ho hbl hnb hbb hz hb hcast
          go_wp2_with fail
          refine Hc.out.1.mono ?_
          rintro e w3 ⟨rfl, hw3⟩
          replace hw3 := hw3.symm
          subst hw3
          go_wp2_with fail
          refine Hc.out.2.mono ?_
          rintro e w3 ⟨rfl, hw3⟩
          replace hw3 := hw3.symm
          subst hw3
          go_wp2
          by_cases hb0 : b = 0
          · subst hb0
            simp only [Nat.add_zero] at hcy hfy
            clear hcy hfy
            go_region
            go_wp2
            refine ⟨⟨x + 1, _, _, by omega, by go_num, H.out.1.swap hxn hyk, ?_, ((H.out.2.2.setCell (Nat.le_refl _) _).setCell (Nat.le_refl _) _).drew⟩, by simp [intOf]; omega⟩
            rw [← permL_swap hxn hyk, ← ints_set, ← ints_set]
            exact ((H.out.2.1.put x _).put (x + 0) _).drew
          · go_region
            go_wp2
            refine ⟨⟨x + 1, _, _, by omega, by go_num, H.out.1.swap hxn hyk, ?_, ((H.out.2.2.setCell (Nat.le_refl _) _).setCell (Nat.le_refl _) _).drew⟩, by simp [intOf]; omega⟩
            rw [← permL_swap hxn hyk, ← ints_set, ← ints_set]
            exact ((H.out.2.1.put x _).put (x + b) _).drew
        · obtain rfl : x = k := by omega
          have H := Lib.hid (And.intro ho hbl)
          clear ho hbl
          go_wp2
          go_ret
          exact ⟨_, _, s, t, rfl, hp, H.out.1.toInts (by rw [permL_len]; unfold maxLen; omega), H.out.2⟩
end Go.Proofs.Ytlnikgcanimggaa
