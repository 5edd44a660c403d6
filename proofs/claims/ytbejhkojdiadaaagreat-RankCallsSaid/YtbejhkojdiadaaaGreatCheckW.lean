/- Two chains compared; the check of a chain. -/
import Derived.Test.YtbejhkojdiadaaaGreatReps
import Derived.Test.YtbejhkojdiadaaaGreatChnW
import Derived.Test.YtbejhkojdiadaaaGreatPermChk
set_option linter.unusedSimpArgs false
set_option linter.unusedVariables false
namespace Go.Proofs.YtbejhkojdiadaaaGreat
open Go.RowKit PlainPm
/-- The value reads as a chain, whatever it holds. -/
def ChV (w : World) (v : Value) (d : Int) (os : List (List Int)) (rs : List (List (List Int))) : Prop :=
  ∃ a c b e, v = .agg #[.int .i64 d, .slice a os.length c, .slice b rs.length e] ∧ Rows w a os ∧ Rows2 w b rs
theorem ChV.below {w w' : World} {v : Value} {d : Int} {os : List (List Int)} {rs : List (List (List Int))} (h : ChV w v d os rs) (k : Below w.heap.size w w') : ChV w' v d os rs := by
  obtain ⟨a, c, b, e, h1, h2, h3⟩ := h
  exact ⟨a, c, b, e, h1, h2.below k, h3.below k⟩
theorem box3 (w : World) (u0 u1 u2 : Value) : (w.alloc (.cells #[u0, u1, u2] 25)).cell? ⟨w.heap.size, 0, none⟩ = some u0 ∧ (w.alloc (.cells #[u0, u1, u2] 25)).cell? ⟨w.heap.size, 1, none⟩ = some u1 ∧ (w.alloc (.cells #[u0, u1, u2] 25)).cell? ⟨w.heap.size, 2, none⟩ = some u2 := by
  have := heap_new w (.cells #[u0, u1, u2] 25)
  refine ⟨?_, ?_, ?_⟩ <;> (simp only [World.cell?, this]; rfl)
set_option maxRecDepth 100000 in
set_option maxHeartbeats 1000000 in
theorem same102 {w : World} {v v' : Value} {d d' : Int} {os os' : List (List Int)} {rs rs' : List (List (List Int))} (h : ChV w v d os rs) (h' : ChV w v' d' os' rs') :
    Calls Tryz.prog 102 #[v, v'] w fun e w' => e = .returned (.bool (decide (d = d' ∧ os = os' ∧ rs = rs'))) ∧ Below w.heap.size w w' := by
  obtain ⟨a, c, b, e, rfl, h1, h2⟩ := h
  obtain ⟨a', c', b', e', rfl, h1', h2'⟩ := h'
  obtain ⟨W, hW⟩ : ∃ W, (w.alloc (.cells #[.int .i64 d, .slice a os.length c, .slice b rs.length e] 25)).alloc (.cells #[.int .i64 d', .slice a' os'.length c', .slice b' rs'.length e'] 25) = W := ⟨_, rfl⟩
  have hb : Below w.heap.size w W := by rw [← hW]; exact alloc_b (alloc_b (Below.refl _ _) _) _
  have HO := Lib.hid (fun q => eq137 a a' c c' os os' (W.drewN q) (h1.below (below_drewN hb q)) (h1'.below (below_drewN hb q)))
  have HR := Lib.hid (fun q => eq139 b b' e e' rs rs' (W.drewN q) (h2.below (below_drewN hb q)) (h2'.below (below_drewN hb q)))
  have hb' : ∀ q, Below w.heap.size w (W.drewN q) := fun q => below_drewN hb q
  have HB := Lib.hid hb'
  obtain ⟨l1, hl1⟩ : ∃ l, os.length = l := ⟨_, rfl⟩
  obtain ⟨l2, hl2⟩ : ∃ l, rs.length = l := ⟨_, rfl⟩
  obtain ⟨l1', hl1'⟩ : ∃ l, os'.length = l := ⟨_, rfl⟩
  obtain ⟨l2', hl2'⟩ : ∃ l, rs'.length = l := ⟨_, rfl⟩
  rw [hl1, hl2, hl1', hl2'] at hW
  rw [hl1, hl1'] at HO
  rw [hl2, hl2'] at HR
  rw [hl1, hl2, hl1', hl2']
  obtain ⟨B2, hB2⟩ : ∃ B, decide (os = os') = B := ⟨_, rfl⟩
  obtain ⟨B3, hB3⟩ : ∃ B, decide (rs = rs') = B := ⟨_, rfl⟩
  obtain ⟨R, hR⟩ : ∃ R, decide (d = d' ∧ os = os' ∧ rs = rs') = R := ⟨_, rfl⟩
  rw [hB2] at HO
  rw [hB3] at HR
  have hres : R = (decide (d = d') && B2 && B3) := by rw [← hR, ← hB2, ← hB3]; simp [Bool.decide_and, Bool.and_assoc]
  rw [hR, hres]
  have e0 : W.heap[w.heap.size]? = some (.cells #[.int .i64 d, .slice a l1 c, .slice b l2 e] 25) := by
    rw [← hW, Below.heap_alloc _ _ _ (by rw [heap_new0]; omega)]; exact heap_new _ _
  have e1 : W.heap[w.heap.size + 1]? = some (.cells #[.int .i64 d', .slice a' l1' c', .slice b' l2' e'] 25) := by
    rw [← hW, ← heap_new0 w (.cells #[.int .i64 d, .slice a l1 c, .slice b l2 e] 25)]; exact heap_new _ _
  obtain ⟨x0, x1, x2, _, _, _⟩ := box_cells e0
  obtain ⟨x3, x4, x5, _, _, _⟩ := box_cells e1
  clear e0 e1
  clear h1 h2 h1' h2' hb hb' hl1 hl2 hl1' hl2' hB2 hB3 hR hres
  by_cases hd : d = d'
  · subst hd
    cases B2 with
    | false =>
      go_enter Tryz.func102, Tryz.ntmps102
      go_wp2_with (first
        | (go_at_call 137; refine (HO.out 0).mono ?_; rintro e1 w1 ⟨rfl, q1, rfl⟩))
      go_ret
      exact ⟨by simp, HB.out _⟩
    | true =>
      go_enter Tryz.func102, Tryz.ntmps102
      go_wp2_with (first
        | (go_at_call 137; refine (HO.out 0).mono ?_; rintro e1 w1 ⟨rfl, q1, rfl⟩)
        | (go_at_call 139; refine (HR.out q1).mono ?_; rintro e1 w1 ⟨rfl, q2, rfl⟩))
      go_ret
      exact ⟨by simp, HB.out _⟩
  · have hdd : (d == d') = false := by simp [hd]
    have Hd := Lib.hid hd
    clear hd
    go_enter Tryz.func102, Tryz.ntmps102
    go_wp2_with fail
    go_ret
    exact ⟨by simp [Hd.out], HB.out 0⟩
end Go.Proofs.YtbejhkojdiadaaaGreat
