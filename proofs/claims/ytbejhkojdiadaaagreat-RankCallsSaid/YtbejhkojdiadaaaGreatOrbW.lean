/- The reference's orbits. -/
import Derived.Test.YtbejhkojdiadaaaGreatCloseT
set_option linter.unusedSimpArgs false
set_option linter.unusedVariables false
namespace Go.Proofs.YtbejhkojdiadaaaGreat
open Go.RowKit PlainPm
/-- The points of a row below m. -/
def orbR {n : Nat} (t : Nat → Nat → Option (Pm n)) (k m : Nat) : List Nat := (List.range m).filter fun q => decide (k ≤ q) && (decide (q = k) || (t k q).isSome)
theorem orbR_snoc {n : Nat} {t : Nat → Nat → Option (Pm n)} {k m : Nat} (h : k ≤ m) : orbR t k (m + 1) = orbR t k m ++ (if m = k ∨ (t k m).isSome = true then [m] else []) := by
  unfold orbR
  rw [List.range_succ, List.filter_append]
  congr 1
  by_cases e : m = k ∨ (t k m).isSome = true
  · rw [if_pos e, List.filter_cons_of_pos (by simpa [h] using e)]; rfl
  · rw [if_neg e, List.filter_cons_of_neg (by simpa [h] using e)]; rfl
theorem orbR_len {n : Nat} (t : Nat → Nat → Option (Pm n)) (k m : Nat) : (orbR t k m).length ≤ m := by
  have := List.length_filter_le (fun q => decide (k ≤ q) && (decide (q = k) || (t k q).isSome)) (List.range m)
  rw [List.length_range] at this; exact this
theorem orbR_start {n : Nat} (t : Nat → Nat → Option (Pm n)) (k : Nat) : orbR t k k = [] := by
  unfold orbR
  rw [List.filter_eq_nil_iff]
  intro q hq h
  have := List.mem_range.1 hq
  simp at h; omega
theorem orbR_pts {n : Nat} {t : Nat → Nat → Option (Pm n)} (h : TabOk t) {i : Nat} : ptsOf n (tabTw t i).orb = orbR t i n := by
  unfold ptsOf orbR tabTw
  apply List.filter_congr
  intro q hq
  have hqn := List.mem_range.1 hq
  have key : (t i q).isSome = true → i ≤ q := fun hs => by
    obtain ⟨y, hy⟩ := Option.isSome_iff_exists.1 hs
    obtain ⟨h1, h2, h3, h4, h5⟩ := h.ok i q y hy
    by_cases hlt : q < i
    · have := h5 q hlt
      exact absurd (y.inj h1 (by omega) (h4.trans this.symm)) (by omega)
    · omega
  by_cases hq2 : q = i
  · subst hq2; simp [hqn]
  · by_cases hs : (t i q).isSome = true
    · have := key hs; simp [hqn, hs, hq2, this]
    · simp [hqn, hs, hq2]
set_option maxRecDepth 100000 in
set_option maxHeartbeats 2000000 in
theorem orbit154 {n B g c k : Nat} {w : World} {R : Nat → Nat} {t : Nat → Nat → Option (Pm n)} (hT : TabW n B g w R t) (hk : k < n) :
    Calls Tryz.prog 154 #[.slice (some ⟨g, 0, none⟩) n c, .int .i64 (k : Int)] w fun e w' => ∃ v, e = .returned v ∧ Own w' w.heap.size v 3 (ints (nts (orbR t k n))) ∧ Below w.heap.size w w' := by
  obtain ⟨i3, hi3, hz3, hs3, hb3⟩ := info_parts Tryz.info3
  have I3 := Lib.hid (And.intro hi3 (And.intro hz3 (And.intro hs3 hb3)))
  clear hi3 hz3 hs3 hb3
  have hn := hT.hn
  have H := Lib.hid hT
  clear hT
  have hn1 := hn.2
  go_enter Tryz.func154, Tryz.ntmps154
  go_wp2_with fail
  go_loopw [5, 6] (fun v i wr => ∃ (q : Nat) (us : List Value), k ≤ q ∧ q ≤ n ∧ i = .int .i64 (q : Int) ∧ Own wr w.heap.size v 3 us ∧ us = ints (nts (orbR t k q)) ∧ Below w.heap.size w wr) (fun _ i _ => n - (intOf i).toNat)
  case atStart => exact ⟨k, [], by omega, by omega, rfl, Own.nil _ _ _, by rw [orbR_start]; rfl, Below.refl _ _⟩
  case round =>
    obtain ⟨q, us, hkq, hq, rfl, ho, hu, hb⟩ := hrel
    have hsz := hb.size
    have hul : us.length < 1099511627776 := by
      have h1 := orbR_len t k q
      rw [hu, ints_len]; simp only [nts, List.length_map]; omega
    by_cases hqn : q < n
    · have hT' := H.out.below hb
      have tp := hT'.top k hk
      obtain ⟨u, hu0, _, hov⟩ := H.out.at_ hk hqn
      have hu1 := (hb.cell (block_lt_of_cell hu0)).trans hu0
      have HQ := Lib.hid (And.intro ho (And.intro hu hb))
      have hq1 : (q : Int) < n := by omega
      have hk1 : (k : Int) < n := by omega
      clear ho hu hb hT' hu0
      by_cases e : q = k
      · have he : ((q : Int) == (k : Int)) = true := by simp [e]
        have Hs := Lib.hid (show q = k ∨ (t k q).isSome = true from .inl e)
        clear hov e
        go_wp2_with (at_builtin; refine app1 rfl (.tmp 27) (.tmp 29) 26 3 rfl i3 (.int .i64 0) 8 Tryz.underlying26 I3.out.1 I3.out.2.1 I3.out.2.2.1 I3.out.2.2.2 rfl (by omega) w.heap.size (.int .i64 (q : Int)) u5 us rfl HQ.out.1 rfl rfl hul hsz ?_; intro v8 w8 k1 k2 k3; have H8 := Lib.hid (And.intro k1 (And.intro k2 k3)); clear k1 k2 k3)
        have hb8 := HQ.out.2.2.grown H8.out.2.1 hsz (fun g hg => (HQ.out.1.block_lt hg).2)
        refine ⟨⟨q + 1, us ++ [.int .i64 (q : Int)], by omega, by omega, by go_num, H8.out.1, ?_, hb8⟩, by simp [intOf]; omega⟩
        rw [orbR_snoc hkq, if_pos Hs.out, HQ.out.2.1]; simp [ints, nts]
      · have he : ((q : Int) == (k : Int)) = false := by simp; omega
        cases hto : t k q with
        | none =>
          rw [hto] at hov
          have hun : u = .slice none 0 0 := hov
          subst hun
          have hnil : ∀ W, (binOp .neq 27 (.slice none 0 0) (.slice none 0 0)).run Tryz.prog W = .ok (.bool false) W := fun W => neq_nil27 W none 0 0
          have Hs := Lib.hid (show ¬ (q = k ∨ (t k q).isSome = true) from by rw [hto]; simp; exact e)
          clear hov hto e
          go_wp2_with fail
          exact ⟨⟨q + 1, us, by omega, by omega, by go_num, HQ.out.1, by rw [orbR_snoc hkq, if_neg Hs.out, List.append_nil]; exact HQ.out.2.1, HQ.out.2.2⟩, by simp [intOf]; omega⟩
        | some y =>
          rw [hto] at hov
          have hov : PmV w (rowsM n R) u y := hov
          obtain ⟨ub, uo, uc, rfl⟩ := hov.form
          have hnil : ∀ W, (binOp .neq 27 (.slice (some ⟨ub, uo, none⟩) n uc) (.slice none 0 0)).run Tryz.prog W = .ok (.bool true) W := fun W => neq_nil27 W _ _ _
          have Hs := Lib.hid (show q = k ∨ (t k q).isSome = true from by rw [hto]; simp)
          clear hov hto e
          go_wp2_with (at_builtin; refine app1 rfl (.tmp 27) (.tmp 29) 26 3 rfl i3 (.int .i64 0) 8 Tryz.underlying26 I3.out.1 I3.out.2.1 I3.out.2.2.1 I3.out.2.2.2 rfl (by omega) w.heap.size (.int .i64 (q : Int)) u5 us rfl HQ.out.1 rfl rfl hul hsz ?_; intro v8 w8 k1 k2 k3; have H8 := Lib.hid (And.intro k1 (And.intro k2 k3)); clear k1 k2 k3)
          have hb8 := HQ.out.2.2.grown H8.out.2.1 hsz (fun g hg => (HQ.out.1.block_lt hg).2)
          refine ⟨⟨q + 1, us ++ [.int .i64 (q : Int)], by omega, by omega, by go_num, H8.out.1, ?_, hb8⟩, by simp [intOf]; omega⟩
          rw [orbR_snoc hkq, if_pos Hs.out, HQ.out.2.1]; simp [ints, nts]
    · obtain rfl : q = n := by omega
      have HQ := Lib.hid (And.intro ho (And.intro hu hb))
      clear ho hu hb
      go_wp2_with fail
      go_ret
      exact ⟨_, rfl, by rw [← HQ.out.2.1]; exact HQ.out.1, HQ.out.2.2⟩
end Go.Proofs.YtbejhkojdiadaaaGreat
