/- What an edge does to what is still to be read, whatever the state. -/
import Derived.Test.YtifkieopaoooeaaGreatDoorEdgeQ
set_option linter.unusedSimpArgs false
set_option linter.unusedVariables false
namespace Go.Proofs.YtifkieopaoooeaaGreatDoor
open Go.RowKit Plain PlainG
/-- Whether the colours begin here. -/
def isColon (b : ByteArray) (N : Nat) (s : St) : Bool := match s with | .ok a2 => decide (a2 < b.size ∧ (bytesOf b)[a2]?.getD 0 = 58 ∧ 0 < N) | .error _ => false
theorem RgS.posE {w : World} {p : Nat} {b : ByteArray} {s : St} (h : RgS w p b s) (hb : b.size ≤ 50000) : ∃ a : Nat, a ≤ 100000 ∧ w.cell? ⟨p, 1, none⟩ = some (.int .i64 (a : Int)) ∧ ∀ a2, s = .ok a2 → a = a2 := by
  cases s with
  | ok a => exact ⟨a, by have := h.1; omega, h.2.c1, fun a2 e => by cases e; rfl⟩
  | error f => obtain ⟨_, a, ha, h3⟩ := h; exact ⟨a, ha, h3.c1, fun a2 e => by cases e⟩
theorem num_colon {b : List Nat} {a : Nat} {top : Int} (h58 : b[a]?.getD 0 = 58) : num b a top = .error (11, a) := by
  have h0 : numL b a 3 0 0 = (0, 0) := numL_stop (by simp only [Nat.add_zero]; rw [h58]; simp [isD])
  unfold num
  rw [h0]
  simp
theorem edge_any {b : ByteArray} {N a1 A fu v1 v2 : Nat} {P : Except Flt Gr} {es : List (Int × Int)} {c2 : Bool} {s2 : St} (hN : N ≤ 24) (hel : es.length ≤ a1) (hes : es.length ≤ 20000) (hfu : b.size ≤ a1 + fu) (hP : P = preP N es (restP (bytesOf b) N fu a1 es.getLast?))
    (hlt : a1 < b.size) (h1 : sgn (bytesOf b) a1 32 = s2) (hcol : isColon b N s2 = false) (hA : ∀ a2, s2 = .ok a2 → A = a2)
    (hv1 : IsNum (bytesOf b) ((N : Int) - 1) s2 v1) (hv2 : IsNum (bytesOf b) ((N : Int) - 1) (nxt (nxt s2 (numS (bytesOf b) ((N : Int) - 1))) (fun a => sgn (bytesOf b) a 45)) v2)
    (hc2 : (es.getLast?.any fun l => !bef l ((v1 : Int), (v2 : Int))) = c2) :
    Qs b N P (failS c2 (9, A) (failS (decide (v2 ≤ v1)) (3, A) (nxt (nxt (nxt s2 (numS (bytesOf b) ((N : Int) - 1))) (fun a => sgn (bytesOf b) a 45)) (numS (bytesOf b) ((N : Int) - 1))))) (es ++ [((v1 : Int), (v2 : Int))]) ∧
    ∀ a3, failS c2 (9, A) (failS (decide (v2 ≤ v1)) (3, A) (nxt (nxt (nxt s2 (numS (bytesOf b) ((N : Int) - 1))) (fun a => sgn (bytesOf b) a 45)) (numS (bytesOf b) ((N : Int) - 1)))) = .ok a3 → a1 < a3 := by
  obtain ⟨fu, rfl⟩ : ∃ f, fu = f + 1 := ⟨fu - 1, by omega⟩
  cases s2 with
  | error f =>
    rw [nxt_err, nxt_err, nxt_err, failS_err, failS_err]
    exact ⟨⟨by simp; omega, by rw [hP, restP_sgn (by rw [bytesOf_len]; exact hlt) h1]; rfl⟩, fun a3 h => by cases h⟩
  | ok a2 =>
    obtain rfl := hA a2 rfl
    rw [nxt_ok] at hv2 ⊢
    by_cases h58 : A < b.size ∧ (bytesOf b)[A]?.getD 0 = 58
    · have hN0 : N = 0 := by
        unfold isColon at hcol
        simp only [decide_eq_false_iff_not] at hcol
        have : ¬ 0 < N := fun h => hcol ⟨h58.1, h58.2, h⟩
        omega
      subst hN0
      have hs : numS (bytesOf b) (((0 : Nat) : Int) - 1) A = .error (11, A) := by unfold numS; rw [num_colon h58.2]
      rw [hs, nxt_err, nxt_err, failS_err, failS_err]
      refine ⟨⟨by simp; omega, ?_⟩, fun a3 h => by cases h⟩
      rw [hP, restP_cols (by rw [bytesOf_len]; exact hlt) h1 (by rw [bytesOf_len]; exact h58)]
      unfold colsA
      rfl
    · exact edge_done hN hel hes hfu hP hlt h1 h58 hv1 hv2 hc2
/-- Where the loop over the colours stands. -/
structure EC (W0 w : World) (p q N gu : Nat) (b : ByteArray) (es : List (Int × Int)) (v : Value) (s : St) (cs : List Int) : Prop where
  rg : RgS w p b s
  gb : GB w q N v (.slice (some ⟨gu, 0, none⟩) N N)
  es' : OwnE w W0.heap.size 69 v es
  cs' : Own w 0 (.slice (some ⟨gu, 0, none⟩) N N) 3 (ints cs)
  kept : Kept W0 w [p, q, gu]
  pq : p ≠ q
  pu : p ≠ gu
  qu : gu ≠ q
  lp : p < W0.heap.size
  lq : q < W0.heap.size
  lu : gu < W0.heap.size
section
variable {W0 w w' : World} {p q N gu : Nat} {b : ByteArray} {es : List (Int × Int)} {v : Value} {s s' : St} {cs : List Int}
theorem ES.toEC (h : ES W0 w p q N gu b es v s) : EC W0 w p q N gu b es v s (List.replicate N 0) := ⟨h.rg, h.gb, h.es', h.cs', h.kept, h.pq, h.pu, h.qu, h.lp, h.lq, h.lu⟩
theorem EC.vb (h : EC W0 w p q N gu b es v s cs) : ∀ g, v.ownBlock = some g → W0.heap.size ≤ g ∧ g < w.heap.size := fun g hg => ⟨(h.es'.block_lt hg).2, (h.es'.block_lt hg).1⟩
theorem EC.rd (h : EC W0 w p q N gu b es v s cs) (k : RgN w w' p b s') : EC W0 w' p q N gu b es v s' cs := by
  have hv : v.ownBlock ≠ some p := fun e => by have := (h.vb p e).1; have := h.lp; omega
  exact ⟨k.1, h.gb.grown k.2 (by intro e; cases e; exact h.pq rfl), h.es'.kept k.2 (.inr hv), h.cs'.kept k.2 (.inr (by intro e; cases e; exact h.pu rfl)), h.kept.trans (Kept.ofGrown k.2 (by intro g e; cases e; simp)), h.pq, h.pu, h.qu, h.lp, h.lq, h.lu⟩
theorem EC.drewN (h : EC W0 w p q N gu b es v s cs) (n : Nat) : EC W0 (w.drewN n) p q N gu b es v s cs :=
  h.rd ⟨h.rg.drewN n, grown_drewN w n _⟩
theorem EC.at1 {a : Nat} (h : EC W0 w p q N gu b es v (.ok a) cs) (ha : a + 1 ≤ b.size) : EC W0 (w.setCell ⟨p, 1, none⟩ (.int .i64 ((a + 1 : Nat) : Int))) p q N gu b es v (.ok (a + 1)) cs :=
  h.rd ⟨⟨ha, h.rg.2.set1 (a + 1)⟩, grown_put 1 _⟩
theorem EC.put (h : EC W0 w p q N gu b es v s cs) (k : Nat) (c : Int) : EC W0 (w.setCell ⟨gu, k, none⟩ (.int .i64 c)) p q N gu b es v s (cs.set k c) := by
  have hv : v.ownBlock ≠ some gu := fun e => by have := (h.vb gu e).1; have := h.lu; omega
  have hp := h.pu
  have hq := h.qu
  refine ⟨h.rg.grown (grown_put k _) (by intro e; cases e; exact hp rfl), h.gb.grown (grown_put k _) (by intro e; cases e; exact hq rfl), h.es'.kept (grown_put k _) (.inr hv), ?_, h.kept.trans (Kept.ofGrown (grown_put k _) (by intro g e; cases e; simp)), h.pq, h.pu, h.qu, h.lp, h.lq, h.lu⟩
  have := h.cs'.put k (.int .i64 c)
  rwa [ints_set] at this
end
/-- The state behind the colours. -/
def colE (b : ByteArray) (s : St) (z : Bool) (a : Nat) : St := failS z (3, a) (nxt s fun a3 => if a3 < b.size then .error (11, a3) else .ok a3)
theorem cols_end {b : ByteArray} {N a1 a2 fu : Nat} {P : Except Flt Gr} {es : List (Int × Int)} {cs : List Int} (hfu : b.size ≤ a1 + fu) (hP : P = preP N es (restP (bytesOf b) N fu a1 es.getLast?))
    (hlt : a1 < b.size) (h1 : sgn (bytesOf b) a1 32 = .ok a2) (hcol : isColon b N (.ok a2) = true) (hl : cs.length = N) (hcs : IsCols (bytesOf b) (.ok (a2 + 1)) cs) :
    P = match colE b (colS (bytesOf b) N (.ok (a2 + 1))) (cs.all (· == 0)) a2 with | .error f => .error f | .ok _ => .ok ⟨N, es, cs⟩ := by
  obtain ⟨fu, rfl⟩ : ∃ f, fu = f + 1 := ⟨fu - 1, by omega⟩
  unfold isColon at hcol
  simp only [decide_eq_true_eq] at hcol
  rw [hP, restP_cols (by rw [bytesOf_len]; exact hlt) h1 (by rw [bytesOf_len]; exact ⟨hcol.1, hcol.2.1⟩)]
  obtain ⟨e1, e2⟩ := colsP_state N (a2 + 1) cs hl hcs
  unfold colsA colE
  rw [if_neg (by omega), e1]
  cases e3 : colsP (bytesOf b) N (a2 + 1) with
  | error f => simp only [e3]; rw [nxt_err, failS_err]; rfl
  | ok y =>
    obtain ⟨ds, a3⟩ := y
    obtain rfl := e2 _ _ e3
    simp only [e3]
    rw [nxt_ok, bytesOf_len]
    by_cases h3 : a3 < b.size
    · rw [if_pos h3, if_pos h3, failS_err]; rfl
    · rw [if_neg h3, if_neg h3]
      cases hz : ds.all (· == 0)
      · unfold failS; simp [preP]
      · unfold failS; simp [preP, nxt]
end Go.Proofs.YtifkieopaoooeaaGreatDoor
