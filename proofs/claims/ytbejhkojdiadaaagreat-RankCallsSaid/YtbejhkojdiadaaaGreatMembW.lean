/- A chain and a permutation checked together. -/
import Derived.Test.YtbejhkojdiadaaaGreatCheck54
set_option linter.unusedSimpArgs false
set_option linter.unusedVariables false
namespace Go.Proofs.YtbejhkojdiadaaaGreat
open Go.RowKit PlainPm
/-- The answer for a chain and a permutation. -/
def MemR (d : Int) (os : List (List Int)) (rs : List (List (List Int))) (p : List Int) (E : Int) : Prop :=
  ∃ E0, ChkR d os rs E0 ∧ E = if E0 ≠ 0 then E0 else if chkPerm p ≠ 0 then chkPerm p else if (p.length : Int) ≠ d then 10 else 0
theorem MemR.uniq {d : Int} {os : List (List Int)} {rs : List (List (List Int))} {p : List Int} {E E' : Int} (h : MemR d os rs p E) (h' : MemR d os rs p E') : E = E' := by
  obtain ⟨E0, h1, rfl⟩ := h
  obtain ⟨E1, h2, rfl⟩ := h'
  rw [h1.uniq h2]
set_option maxRecDepth 100000 in
set_option maxHeartbeats 1000000 in
theorem member58 {w : World} {v : Value} {d : Int} {os : List (List Int)} {rs : List (List (List Int))} {a : Option Addr} {c : Nat} {p : List Int} (h : ChV w v d os rs) (hp : Ints w a p) :
    Calls Tryz.prog 58 #[v, .slice a p.length c] w fun e w' => (∃ E : Int, e = .returned (.int .i64 E) ∧ MemR d os rs p E) ∧ Below w.heap.size w w' := by
  obtain ⟨a1, c1, b1, e1, rfl, h1, h2⟩ := h
  obtain ⟨W1, hW1⟩ : ∃ W1, W1 = w.alloc (.cells #[.int .i64 d, .slice a1 os.length c1, .slice b1 rs.length e1] 25) := ⟨_, rfl⟩
  have hbw : Below w.heap.size w W1 := by rw [hW1]; exact alloc_b (Below.refl _ _) _
  have hc1 : W1.heap[w.heap.size]? = some (.cells #[.int .i64 d, .slice a1 os.length c1, .slice b1 rs.length e1] 25) := by rw [hW1]; exact World.alloc_heap_new w _
  have hlt : w.heap.size < W1.heap.size := by rw [hW1]; simp
  have hchk := check54 (w := W1) (v := .agg #[.int .i64 d, .slice a1 os.length c1, .slice b1 rs.length e1]) (d := d) (os := os) (rs := rs) ⟨a1, c1, b1, e1, rfl, h1.below hbw, h2.below hbw⟩
  obtain ⟨x0, x1, x2, _, _, _⟩ := box_cells hc1
  obtain ⟨lo, hlo⟩ : ∃ l, os.length = l := ⟨_, rfl⟩
  obtain ⟨lr, hlr⟩ : ∃ l, rs.length = l := ⟨_, rfl⟩
  obtain ⟨lp, hlp⟩ : ∃ l, p.length = l := ⟨_, rfl⟩
  have hpc := fun (W : World) (hb : Below w.heap.size w W) => perm_calls (c := c) (hp.below hb)
  obtain ⟨K, hK⟩ : ∃ K, chkPerm p = K := ⟨_, rfl⟩
  rw [hlp, hK] at hpc
  rw [hlo] at x1
  rw [hlr] at x2
  rw [hlo, hlr] at hchk hW1 hc1 ⊢
  rw [hlp]
  have hmr : ∀ E0, ChkR d os rs E0 → MemR d os rs p (if E0 ≠ 0 then E0 else if K ≠ 0 then K else if (lp : Int) ≠ d then 10 else 0) := fun E0 h => ⟨E0, h, by rw [hK, hlp]⟩
  have H := Lib.hid (And.intro hbw (And.intro hc1 (And.intro hlt (And.intro hchk (And.intro hpc hmr)))))
  clear h1 h2 hp hbw hc1 hlt hchk hlo hlr hlp hpc hK hmr
  by_cases hv : ChkR d os rs 0
  · have H0 := Lib.hid (H.out.2.2.2.1.mono (fun e w' h => (show e = .returned (.int .i64 0) ∧ Below W1.heap.size W1 w' from by
      obtain ⟨⟨E0, he, hr⟩, hb⟩ := h
      exact ⟨by rw [he, hr.uniq hv], hb⟩)))
    have hm := H.out.2.2.2.2.2 0 hv
    rw [if_neg (by simp)] at hm
    clear hv
    by_cases hKz : K = 0
    · subst hKz
      rw [if_neg (by simp)] at hm
      by_cases hl : (lp : Int) = d
      · have hb : ((lp : Int) != d) = false := by simp [hl]
        rw [if_neg (by simp [hl])] at hm
        have HM := Lib.hid hm
        clear hm hl
        go_enter Tryz.func58, Tryz.ntmps58
        go_wp2_with (first
          | (go_at_call 92; refine H2.out.2.mono ?_; rintro e w3 ⟨rfl, k3⟩; have hc3 := (k3.block _ (Array.getElem?_eq_some_iff.1 hc2).1).trans hc2; obtain ⟨z0, z1, z2, _, _, _⟩ := box_cells hc3; have H3 := Lib.hid k3; clear k3)
          | (go_at_call 54; (try rw [← hW1]); refine H0.out.mono ?_; rintro e w2 ⟨rfl, k2⟩; have H2 := Lib.hid (And.intro k2 (H.out.2.2.2.2.1 w2 (below_trans H.out.1 k2))); have hc2 := (k2.block _ H.out.2.2.1).trans H.out.2.1; clear k2))
        go_ret
        exact ⟨⟨_, rfl, HM.out⟩, below_trans H.out.1 (below_trans H2.out.1 H3.out)⟩
      · have hb : ((lp : Int) != d) = true := by simp [hl]
        rw [if_pos hl] at hm
        have HM := Lib.hid hm
        clear hm hl
        go_enter Tryz.func58, Tryz.ntmps58
        go_wp2_with (first
          | (go_at_call 92; refine H2.out.2.mono ?_; rintro e w3 ⟨rfl, k3⟩; have hc3 := (k3.block _ (Array.getElem?_eq_some_iff.1 hc2).1).trans hc2; obtain ⟨z0, z1, z2, _, _, _⟩ := box_cells hc3; have H3 := Lib.hid k3; clear k3)
          | (go_at_call 54; (try rw [← hW1]); refine H0.out.mono ?_; rintro e w2 ⟨rfl, k2⟩; have H2 := Lib.hid (And.intro k2 (H.out.2.2.2.2.1 w2 (below_trans H.out.1 k2))); have hc2 := (k2.block _ H.out.2.2.1).trans H.out.2.1; clear k2))
        go_ret
        exact ⟨⟨_, rfl, HM.out⟩, below_trans H.out.1 (below_trans H2.out.1 H3.out)⟩
    · have hb : (K != 0) = true := by simp [hKz]
      rw [if_pos hKz] at hm
      have HM := Lib.hid hm
      clear hm hKz
      go_enter Tryz.func58, Tryz.ntmps58
      go_wp2_with (first
        | (go_at_call 92; refine H2.out.2.mono ?_; rintro e w3 ⟨rfl, k3⟩; have hc3 := (k3.block _ (Array.getElem?_eq_some_iff.1 hc2).1).trans hc2; obtain ⟨z0, z1, z2, _, _, _⟩ := box_cells hc3; have H3 := Lib.hid k3; clear k3)
        | (go_at_call 54; (try rw [← hW1]); refine H0.out.mono ?_; rintro e w2 ⟨rfl, k2⟩; have H2 := Lib.hid (And.intro k2 (H.out.2.2.2.2.1 w2 (below_trans H.out.1 k2))); have hc2 := (k2.block _ H.out.2.2.1).trans H.out.2.1; clear k2))
      go_ret
      exact ⟨⟨_, rfl, HM.out⟩, below_trans H.out.1 (below_trans H2.out.1 H3.out)⟩
  · have H0 := Lib.hid (H.out.2.2.2.1.mono (fun e w' h => (show (∃ E0 : Int, e = .returned (.int .i64 E0) ∧ (E0 != 0) = true ∧ MemR d os rs p E0) ∧ Below W1.heap.size W1 w' from by
      obtain ⟨⟨E0, he, hr⟩, hb⟩ := h
      have hE : E0 ≠ 0 := fun h => hv (h ▸ hr)
      have hm := H.out.2.2.2.2.2 E0 hr
      rw [if_pos hE] at hm
      exact ⟨⟨E0, he, by simp [hE], hm⟩, hb⟩)))
    clear hv
    go_enter Tryz.func58, Tryz.ntmps58
    go_wp2_with (go_at_call 54; (try rw [← hW1]); refine H0.out.mono ?_; rintro e w2 ⟨⟨E0, rfl, hE, k1⟩, k2⟩; have H2 := Lib.hid (And.intro k1 k2); clear k1 k2)
    go_ret
    exact ⟨⟨_, rfl, H2.out.1⟩, below_trans H.out.1 H2.out.2⟩
end Go.Proofs.YtbejhkojdiadaaaGreat
