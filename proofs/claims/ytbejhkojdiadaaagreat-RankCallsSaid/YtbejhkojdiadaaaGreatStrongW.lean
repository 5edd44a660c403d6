/- The kit's Strong: a chain's representatives in one list. -/
import Derived.Test.YtbejhkojdiadaaaGreatCheckX
set_option linter.unusedSimpArgs false
set_option linter.unusedVariables false
namespace Go.Proofs.YtbejhkojdiadaaaGreat
open Go.RowKit PlainPm
/-- Values that read as lists. -/
def RV (w : World) (us : List Value) (xss : List (List Int)) : Prop :=
  us.length = xss.length ∧ ∀ (i : Nat) u xs, us[i]? = some u → xss[i]? = some xs → ∃ b c, u = .slice b xs.length c ∧ Ints w b xs
theorem RV.below {w w' : World} {us : List Value} {xss : List (List Int)} (h : RV w us xss) (k : Below w.heap.size w w') : RV w' us xss :=
  ⟨h.1, fun i u xs hu hx => by obtain ⟨b, c, e, h2⟩ := h.2 i u xs hu hx; exact ⟨b, c, e, h2.below k⟩⟩
theorem RV.app {w : World} {us us' : List Value} {xss xss' : List (List Int)} (h : RV w us xss) (h' : RV w us' xss') : RV w (us ++ us') (xss ++ xss') := by
  refine ⟨by simp [h.1, h'.1], fun i u xs hu hx => ?_⟩
  by_cases hi : i < us.length
  · rw [List.getElem?_append_left hi] at hu
    rw [List.getElem?_append_left (by rw [← h.1]; exact hi)] at hx
    exact h.2 i u xs hu hx
  · rw [List.getElem?_append_right (by omega)] at hu
    rw [List.getElem?_append_right (by rw [← h.1]; omega), ← h.1] at hx
    exact h'.2 _ u xs hu hx
theorem RV.one_ {w : World} {us : List Value} {xss : List (List Int)} (h : RV w us xss) : ∀ y ∈ us, y.oneCell' = true := fun y hy => by
  obtain ⟨k, hk⟩ := List.mem_iff_getElem?.1 hy
  have hkl : k < xss.length := by rw [← h.1]; exact (List.getElem?_eq_some_iff.1 hk).1
  obtain ⟨b, c, rfl, _⟩ := h.2 k y _ hk (List.getElem?_eq_getElem hkl)
  rfl
set_option maxRecDepth 100000 in
set_option maxHeartbeats 1000000 in
theorem strong46 {w : World} {d : Int} {a b : Option Addr} {lo lr c e : Nat} {rs : List (List (List Int))} (h : Rows2 w b rs) (hlr : rs.length = lr) (hl : lr ≤ 64) (hs : ∀ xss ∈ rs, 0 < xss.length ∧ xss.length ≤ 64) :
    Calls Tryz.prog 46 #[.agg #[.int .i64 d, .slice a lo c, .slice b lr e]] w fun e w' => ∃ v us, e = .returned v ∧ Own w' w.heap.size v 27 us ∧ RV w us rs.flatten ∧ Below w.heap.size w w' := by
  obtain ⟨i27, hi27, hz27, hs27, hb27⟩ := info_parts Tryz.info27
  have I27 := Lib.hid (And.intro hi27 (And.intro hz27 (And.intro hs27 hb27)))
  clear hi27 hz27 hs27 hb27
  obtain ⟨vs, h1, h2, h3⟩ := h
  obtain ⟨W1, hW1⟩ : ∃ W1, W1 = w.alloc (.cells #[.int .i64 d, .slice a lo c, .slice b lr e] 25) := ⟨_, rfl⟩
  have hbw : Below w.heap.size w W1 := by rw [hW1]; exact alloc_b (Below.refl _ _) _
  have hc1 : W1.heap[w.heap.size]? = some (.cells #[.int .i64 d, .slice a lo c, .slice b lr e] 25) := by rw [hW1]; exact World.alloc_heap_new w _
  have hlt : w.heap.size < W1.heap.size := by rw [hW1]; simp
  have H := Lib.hid (And.intro h1 (And.intro h2 (And.intro h3 (And.intro hlr (And.intro hs (And.intro hbw (And.intro hc1 hlt)))))))
  clear h1 h2 h3 hlr hs hbw hc1 hlt
  go_enter Tryz.func46, Tryz.ntmps46
  go_wp2_with fail
  try rw [← hW1]
  clear hW1
  go_loopw [3, 4] (fun v i wr => ∃ (k : Nat) (us : List Value), k ≤ lr ∧ i = .int .i64 (k : Int) ∧ Own wr W1.heap.size v 27 us ∧ RV w us (rs.take k).flatten ∧ us.length ≤ k * 64 ∧ Below W1.heap.size W1 wr) (fun _ i _ => lr - (intOf i).toNat)
  case atStart => exact ⟨0, [], by omega, rfl, Own.nil _ _ _, ⟨rfl, fun i u xs h => by simp at h⟩, by simp, Below.refl _ _⟩
  case round =>
    obtain ⟨k, us, hk, rfl, ho, hp, hul, hb⟩ := hrel
    obtain ⟨x0, x1, x2, _, _, _⟩ := box_cells ((hb.block _ H.out.2.2.2.2.2.2.2).trans H.out.2.2.2.2.2.2.1)
    have hsz := hb.size
    have HP := Lib.hid (And.intro ho (And.intro hp (And.intro hul hb)))
    clear ho hp hul hb
    by_cases hkl : k < lr
    · obtain ⟨xss, hx⟩ : ∃ x, rs[k]? = some x := ⟨_, List.getElem?_eq_getElem (by rw [H.out.2.2.2.1]; exact hkl)⟩
      obtain ⟨u, hu⟩ : ∃ x, vs[k]? = some x := ⟨_, List.getElem?_eq_getElem (by rw [H.out.2.1, H.out.2.2.2.1]; exact hkl)⟩
      obtain ⟨ra, rc, rfl, qs, r1, r2, r3⟩ := H.out.2.2.1 k u xss hu hx
      obtain ⟨hl0, hl64⟩ := H.out.2.2.2.2.1 xss (List.mem_of_getElem? hx)
      have hbw := below_trans H.out.2.2.2.2.2.1 HP.out.2.2.2
      obtain ⟨ab, ao, hae, _, hac⟩ := (H.out.1.below hbw).2 k _ hu
      subst hae
      have r1' := r1.below hbw
      obtain ⟨fb, fo, hra, _, _⟩ := r1'.2 0 _ (List.getElem?_eq_getElem (by rw [r2]; exact hl0))
      subst hra
      obtain ⟨m, hm⟩ : ∃ m, xss.length = m := ⟨_, rfl⟩
      rw [hm] at hac
      have hsrc : ∀ j y, qs[j]? = some y → wr.cell? ⟨fb, fo + j, none⟩ = some y := fun j y hy => by
        obtain ⟨b', o', e1, _, h⟩ := r1'.2 j y hy
        cases e1; exact h
      have hRV : RV w qs xss := ⟨r2, r3⟩
      have HQ := Lib.hid (And.intro hx (And.intro hRV (And.intro hsrc (And.intro (r2.trans hm) hRV.one_))))
      have hk1 : (k : Int) < lr := by omega
      have hm64 : m ≤ 64 := by omega
      have hul : us.length + m < 1099511627776 := by
        have := HP.out.2.2.1
        have : k * 64 ≤ 64 * 64 := Nat.mul_le_mul (by omega) (Nat.le_refl _)
        omega
      clear hx hu hsrc hRV hm hl64
      go_wp2_with (at_builtin; refine appN rfl (.tmp 12) (.tmp 17) 44 27 rfl i27 (.slice none 0 0) 24 Tryz.underlying44 I27.out.1 I27.out.2.1 I27.out.2.2.1 I27.out.2.2.2 rfl (by omega) W1.heap.size _ us qs rfl HP.out.1 fb fo m rc rfl HQ.out.2.2.2.1 HQ.out.2.2.1 HQ.out.2.2.2.2 hul hsz ?_; intro v8 w8 k1 k2 k3; have H8 := Lib.hid (And.intro k1 (And.intro k2 k3)); clear k1 k2 k3)
      refine ⟨⟨k + 1, us ++ qs, by omega, by go_num, H8.out.1, ?_, ?_, HP.out.2.2.2.grown H8.out.2.1 (by omega) (fun g hg => (HP.out.1.block_lt hg).2)⟩, by simp [intOf]; omega⟩
      · rw [List.take_add_one, HQ.out.1, Option.toList_some, List.flatten_append]
        simpa using HP.out.2.1.app HQ.out.2.1
      · rw [List.length_append, HQ.out.2.2.2.1]; have := HP.out.2.2.1; omega
    · obtain rfl : k = lr := by omega
      have hk1 : ¬ (k : Int) < k := by omega
      go_wp2_with fail
      go_ret
      have h5 := HP.out.2.1
      rw [List.take_of_length_le (by rw [H.out.2.2.2.1]; omega)] at h5
      exact ⟨_, rfl, us, HP.out.1.mono (by have := H.out.2.2.2.2.2.2.2; omega), h5, below_trans H.out.2.2.2.2.2.1 HP.out.2.2.2⟩
end Go.Proofs.YtbejhkojdiadaaaGreat
