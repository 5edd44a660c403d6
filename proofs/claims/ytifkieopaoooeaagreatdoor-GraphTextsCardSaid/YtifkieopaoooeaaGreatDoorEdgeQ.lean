/- What an edge does to what is still to be read. -/
import Derived.Test.YtifkieopaoooeaaGreatDoorParseR
set_option linter.unusedSimpArgs false
set_option linter.unusedVariables false
namespace Go.Proofs.YtifkieopaoooeaaGreatDoor
open Go.RowKit Plain PlainG
/-- What the loop has read, and what is still to be read. -/
def Qs (b : ByteArray) (N : Nat) (P : Except Flt Gr) (s : St) (es : List (Int × Int)) : Prop :=
  match s with
  | .ok a => es.length ≤ a ∧ ∃ f, b.size ≤ a + f ∧ P = preP N es (restP (bytesOf b) N f a es.getLast?)
  | .error f => es.length ≤ 20001 ∧ P = .error f
theorem edge_pos {b : List Nat} {N a0 a3 : Nat} {last : Option (Int × Int)} {x : Int × Int} (hN : N ≤ 24) (h : edgeP b N a0 last = .ok (x, a3)) : a0 < a3 := by
  unfold edgeP at h
  cases e1 : num b a0 ((N : Int) - 1) with
  | error f => rw [e1] at h; simp at h
  | ok x1 =>
    obtain ⟨i, a1⟩ := x1
    rw [e1] at h
    have p1 := (num_inv e1 (by omega)).2.2.1
    simp only at h
    cases e2 : sgn b a1 45 with
    | error f => rw [e2] at h; simp at h
    | ok a2 =>
      rw [e2] at h
      have p2 := (sgn_pos e2).1
      simp only at h
      cases e3 : num b a2 ((N : Int) - 1) with
      | error f => rw [e3] at h; simp at h
      | ok x3 =>
        obtain ⟨k, a4⟩ := x3
        rw [e3] at h
        have p3 := (num_inv e3 (by omega)).2.2.1
        simp only at h
        split at h
        · simp at h
        · split at h
          · simp at h
          · simp at h; omega
theorem edge_done {b : ByteArray} {N a1 a2 fu v1 v2 : Nat} {P : Except Flt Gr} {es : List (Int × Int)} {c2 : Bool} (hN : N ≤ 24) (hel : es.length ≤ a1) (hes : es.length ≤ 20000) (hfu : b.size ≤ a1 + fu) (hP : P = preP N es (restP (bytesOf b) N fu a1 es.getLast?))
    (hlt : a1 < b.size) (h1 : sgn (bytesOf b) a1 32 = .ok a2) (hcol : ¬ (a2 < b.size ∧ (bytesOf b)[a2]?.getD 0 = 58))
    (hv1 : IsNum (bytesOf b) ((N : Int) - 1) (.ok a2) v1) (hv2 : IsNum (bytesOf b) ((N : Int) - 1) (nxt (numS (bytesOf b) ((N : Int) - 1) a2) (fun a => sgn (bytesOf b) a 45)) v2)
    (hc2 : (es.getLast?.any fun l => !bef l ((v1 : Int), (v2 : Int))) = c2) :
    Qs b N P (failS c2 (9, a2) (failS (decide (v2 ≤ v1)) (3, a2) (nxt (nxt (numS (bytesOf b) ((N : Int) - 1) a2) (fun a => sgn (bytesOf b) a 45)) (numS (bytesOf b) ((N : Int) - 1))))) (es ++ [((v1 : Int), (v2 : Int))]) ∧
    ∀ a3, failS c2 (9, a2) (failS (decide (v2 ≤ v1)) (3, a2) (nxt (nxt (numS (bytesOf b) ((N : Int) - 1) a2) (fun a => sgn (bytesOf b) a 45)) (numS (bytesOf b) ((N : Int) - 1)))) = .ok a3 → a1 < a3 := by
  obtain ⟨e1, e2⟩ := edge_state (last := es.getLast?) hv1 hv2
  subst hc2
  rw [e1]
  obtain ⟨fu, rfl⟩ : ∃ f, fu = f + 1 := ⟨fu - 1, by omega⟩
  have hp := (sgn_pos h1).1
  cases he : edgeP (bytesOf b) N a2 es.getLast? with
  | error f => exact ⟨⟨by simp; omega, by rw [hP, restP_edge (by rw [bytesOf_len]; exact hlt) h1 (by rw [bytesOf_len]; exact hcol) he]; rfl⟩, fun a3 h => by cases h⟩
  | ok y =>
    obtain ⟨x, a3⟩ := y
    have hx := e2 x a3 he
    have h3 := edge_pos hN he
    refine ⟨⟨by simp; omega, fu, by omega, ?_⟩, fun a4 h => by cases h; omega⟩
    have := restP_go (es := es) (f := fu) (by rw [bytesOf_len]; exact hlt) h1 (by rw [bytesOf_len]; exact hcol) he
    rw [hP, this, hx]
    simp
def meas (w : World) (p : Nat) : Nat := match w.cell? ⟨p, 2, none⟩ with | some u => if intOf u = 0 then 30000 - posOf w p else 0 | none => 0
theorem meas_ok {w : World} {p a : Nat} {b : ByteArray} (h : Rg w p b a (0, 0)) : meas w p = 30000 - a := by
  unfold meas; rw [h.c2, h.pos]; simp [intOf]
theorem meas_err {w : World} {p a : Nat} {b : ByteArray} {f : Flt} (h : Rg w p b a f) (hf : f.1 ≠ 0) : meas w p = 0 := by
  unfold meas; rw [h.c2]; simp [intOf, hf]
theorem meas_st {w : World} {p a1 : Nat} {b : ByteArray} {s : St} (h : RgS w p b s) (h1 : a1 < 30000) (ha : ∀ a3, s = .ok a3 → a1 < a3) : meas w p < 30000 - a1 := by
  cases s with
  | ok a => rw [meas_ok h.2]; have := ha a rfl; omega
  | error f => obtain ⟨h2, a, _, h3⟩ := h; rw [meas_err h3 h2]; omega
theorem keepE {W0 W W3 : World} {p q N gu g X i1 i2 : Nat} {b : ByteArray} {es : List (Int × Int)} {v v1 v2 v3 v4 v5 : Value} {s : St} {x y : Int}
    (h : W.cell? ⟨q, 1, none⟩ = some v1 ∧ W.cell? ⟨g, i1, none⟩ = some v2 ∧ W.cell? ⟨g, i2, none⟩ = some v3 ∧ W.cell? ⟨X, 0, none⟩ = some v4 ∧ W.cell? ⟨X, 1, none⟩ = some v5 ∧ EX W0 W p q N gu b es v s X x y) (k : Below W.heap.size W W3) :
    W3.cell? ⟨q, 1, none⟩ = some v1 ∧ W3.cell? ⟨g, i1, none⟩ = some v2 ∧ W3.cell? ⟨g, i2, none⟩ = some v3 ∧ W3.cell? ⟨X, 0, none⟩ = some v4 ∧ W3.cell? ⟨X, 1, none⟩ = some v5 ∧ EX W0 W3 p q N gu b es v s X x y :=
  ⟨(k.cell (p := ⟨q, 1, none⟩) (block_lt_of_cell h.1)).trans h.1, (k.cell (p := ⟨g, i1, none⟩) (block_lt_of_cell h.2.1)).trans h.2.1, (k.cell (p := ⟨g, i2, none⟩) (block_lt_of_cell h.2.2.1)).trans h.2.2.1, (k.cell (p := ⟨X, 0, none⟩) (block_lt_of_cell h.2.2.2.1)).trans h.2.2.2.1, (k.cell (p := ⟨X, 1, none⟩) (block_lt_of_cell h.2.2.2.2.1)).trans h.2.2.2.2.1, h.2.2.2.2.2.below k⟩
end Go.Proofs.YtifkieopaoooeaaGreatDoor
