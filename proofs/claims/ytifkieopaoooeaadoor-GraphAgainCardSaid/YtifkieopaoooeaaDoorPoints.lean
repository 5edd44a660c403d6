/- The program's labels: a loop over an iterator of points and labels. -/
import Derived.RangeFuncBox
import Derived.RangeFuncLeaves
import Derived.RangeFuncWrites
import Derived.RangeFuncFrom
import Derived.Shelf.Abstract
import Derived.WalkKit
import Derived.OwnWalkIn
import Derived.TacticsInMore
import Derived.LoopNIn
import Derived.LoopIn
import Derived.Test.YtifkieopaoooeaaDoorRoundR
set_option linter.unusedSimpArgs false
set_option linter.unusedVariables false
namespace Go.Proofs.YtifkieopaoooeaaDoor
open Go.RowKit Go.Shelf Plain

attribute [local go_sem] Oper.semAt_some

/-- A point below n, and its label. -/
abbrev Pt (n : Nat) := { x : Int × Nat // 0 ≤ x.1 ∧ x.1 < n }
/-- The points of a partition, with their labels, cell by cell. -/
def IsPts (n : Nat) (l : List (List Int)) (A : List (List (Pt n))) : Prop :=
  A.length = l.length ∧ ∀ (k : Nat) c, l[k]? = some c → ∃ ac, A[k]? = some ac ∧ ac.length = c.length ∧ ∀ (j : Nat) (p : Int), c[j]? = some p → ∃ a : Pt n, ac[j]? = some a ∧ a.1 = (p, k)
theorem pts_cell {n : Nat} (k : Nat) : ∀ (c : List Int), (∀ p ∈ c, 0 ≤ p ∧ p < n) → ∃ ac : List (Pt n), ac.length = c.length ∧ ∀ (j : Nat) (p : Int), c[j]? = some p → ∃ a : Pt n, ac[j]? = some a ∧ a.1 = (p, k)
  | [], _ => ⟨[], rfl, fun j p h => by simp at h⟩
  | p :: r, h => by
    obtain ⟨ac, h1, h2⟩ := pts_cell k r (fun q hq => h q (List.mem_cons_of_mem _ hq))
    refine ⟨⟨(p, k), h p (by simp)⟩ :: ac, by simp [h1], fun j q hq => ?_⟩
    cases j with
    | zero => simp at hq; subst hq; exact ⟨_, rfl, rfl⟩
    | succ j => simp only [List.getElem?_cons_succ] at hq ⊢; exact h2 j q hq
theorem pts_from {n : Nat} : ∀ (l : List (List Int)) (i : Nat), (∀ c ∈ l, ∀ p ∈ c, 0 ≤ p ∧ p < n) → ∃ A : List (List (Pt n)), A.length = l.length ∧
    ∀ (k : Nat) c, l[k]? = some c → ∃ ac, A[k]? = some ac ∧ ac.length = c.length ∧ ∀ (j : Nat) (p : Int), c[j]? = some p → ∃ a : Pt n, ac[j]? = some a ∧ a.1 = (p, i + k)
  | [], i, _ => ⟨[], rfl, fun k c h => by simp at h⟩
  | c :: r, i, h => by
    obtain ⟨ac, h1, h2⟩ := pts_cell i c (h c (by simp))
    obtain ⟨A, h3, h4⟩ := pts_from r (i + 1) (fun d hd => h d (List.mem_cons_of_mem _ hd))
    refine ⟨ac :: A, by simp [h3], fun k d hd => ?_⟩
    cases k with
    | zero => simp at hd; subst hd; exact ⟨ac, rfl, h1, h2⟩
    | succ k =>
      simp only [List.getElem?_cons_succ] at hd ⊢
      obtain ⟨bc, h5, h6, h7⟩ := h4 k d hd
      refine ⟨bc, h5, h6, fun j p hp => ?_⟩
      obtain ⟨a, h8, h9⟩ := h7 j p hp
      exact ⟨a, h8, by rw [h9]; congr 1; omega⟩
theorem pts_of {n : Nat} {l : List (List Int)} (h : InRange n l) : ∃ A, IsPts n l A := by
  obtain ⟨A, h1, h2⟩ := pts_from l 0 h
  exact ⟨A, h1, fun k c hc => by
    obtain ⟨ac, h3, h4, h5⟩ := h2 k c hc
    exact ⟨ac, h3, h4, fun j p hp => by obtain ⟨a, h6, h7⟩ := h5 j p hp; exact ⟨a, h6, by rw [h7, Nat.zero_add]⟩⟩⟩

/-- The points before place j of cell k. -/
def ptsTo {n : Nat} (A : List (List (Pt n))) (k j : Nat) : List (Pt n) := (A.take k).flatten ++ (A[k]?.getD []).take j
theorem ptsTo_len {n : Nat} (A : List (List (Pt n))) (k j : Nat) (hk : k < A.length) (hj : j < (A[k]?.getD []).length) : (ptsTo A k j).length < A.flatten.length := by
  have h1 : A.flatten = (A.take k).flatten ++ (A.drop k).flatten := by rw [← List.flatten_append, List.take_append_drop]
  have h2 : A.drop k = (A[k]?.getD []) :: A.drop (k + 1) := drop_cons hk
  rw [h1, h2, ptsTo, List.flatten_cons]
  simp only [List.length_append, List.length_take]; omega
theorem ptsTo_next {n : Nat} {A : List (List (Pt n))} {k j : Nat} {a : Pt n} (h : (A[k]?.getD [])[j]? = some a) : ptsTo A k (j + 1) = ptsTo A k j ++ [a] := by
  have hj := (List.getElem?_eq_some_iff.1 h).1
  rw [ptsTo, ptsTo, List.take_succ_eq_append_getElem hj, List.append_assoc, (List.getElem?_eq_some_iff.1 h).2]
theorem ptsTo_cell {n : Nat} {A : List (List (Pt n))} {k j : Nat} (hk : k < A.length) (hj : (A[k]?.getD []).length ≤ j) : ptsTo A k j = ptsTo A (k + 1) 0 := by
  rw [ptsTo, ptsTo, List.take_of_length_le hj, List.take_zero, List.append_nil, List.take_succ_eq_append_getElem hk, List.flatten_append, List.getElem?_eq_getElem hk]; simp
theorem ptsTo_all {n : Nat} {A : List (List (Pt n))} {k : Nat} (hk : A.length ≤ k) : ptsTo A k 0 = A.flatten := by
  rw [ptsTo, List.take_of_length_le hk]; simp

def encPt {n : Nat} (x : Pt n) : Array Value := #[.int .i64 x.1.1, .int .i64 (x.1.2 : Int)]

set_option maxRecDepth 100000 in
set_option maxHeartbeats 2000000 in
/-- The iterator's closure: for every body that keeps what lay below n0. -/
theorem points1_in (F : Fence) (nn : Nat) (h96 : F.fn 65) (hro : F.round = none) (hn1 : 1 ≤ nn) (lp Bs n0 : Nat) (n : Nat) (a : Option Addr) (c : Nat) (l : List (List Int)) (A : List (List (Pt n))) (hA : IsPts n l A)
    (J Jx : List (Pt n) → World → Prop)
    (hY : ∀ pre x W, J pre W → pre.length < A.flatten.length → YieldAt F (nn - 1) Tryd.prog lp (encPt x) W fun e W' =>
      (e = .returned (.bool true) ∧ J (pre ++ [x]) W' ∧ Below n0 W W') ∨ (e = .returned (.bool false) ∧ Jx (pre ++ [x]) W'))
    (W w : World) (hBs : W.cell? ⟨Bs, 0, none⟩ = some (.slice a l.length c)) (hl : Rows w a l) (hw0 : w.heap.size = n0) (hWw : Below n0 w W) (h0 : J [] W) :
    CallsIn F nn Tryd.prog 65 #[.func (.yield lp) #[] #[], .pointer (some ⟨Bs, 0, none⟩)] W fun e W' => (∃ v, e = .returned v) ∧
      (J A.flatten W' ∨ (∃ pre, Jx pre W')) := by
  have hlen := hl.len
  have H0 := Lib.hid (And.intro hl (And.intro hw0 (And.intro hWw hA)))
  clear hl hw0 hWw hA
  obtain ⟨m, hm⟩ : ∃ m, m = l.length := ⟨_, rfl⟩
  rw [← hm] at hBs hlen
  have Hm := Lib.hid hm
  clear hm
  refine callsIn_of_wp Tryd.func65 rfl h96 ?_ hro
  simp only [Tryd.ntmps65, List.size_toArray, List.length_cons, List.length_nil, Nat.reduceAdd, Nat.reduceSub, Array.replicate_succ, Array.replicate_zero, List.push_toArray, List.append_toArray, List.nil_append, List.cons_append]
  gi_wp2
  gi_loopw [9] (fun i wr => ∃ k : Nat, k ≤ m ∧ i = .int .i64 k ∧ J (ptsTo A k 0) wr ∧ Below n0 W wr) (fun i _ => m - (intOf i).toNat)
  case atStart => exact ⟨0, Nat.zero_le _, rfl, h0, Below.refl _ _⟩
  case round =>
    obtain ⟨k, hk, rfl, hJs, hnx⟩ := hrel
    by_cases hlt : k < m
    · obtain ⟨g, o, b, cc, rfl, hg, hc1, hi⟩ := H0.out.1.at_ (k := k) (by rw [← Hm.out]; exact hlt)
      have hcx : wr.cell? ⟨g, o + k, none⟩ = some (.slice b (l[k]?.getD []).length cc) := by
        rw [(H0.out.2.2.1.trans hnx).cell (by rw [← H0.out.2.1]; exact hg)]; exact hc1
      obtain ⟨x, hx⟩ : ∃ x, l[k]?.getD [] = x := ⟨_, rfl⟩
      rw [hx] at hcx hi
      have hxl := hi.len
      obtain ⟨L, hL⟩ : ∃ L, L = x.length := ⟨_, rfl⟩
      rw [← hL] at hcx hxl
      have Hx := Lib.hid (And.intro hx (And.intro hL hi))
      have HJ := Lib.hid (And.intro hJs hnx)
      clear hx hL hi hJs hnx hc1 h0
      gi_wp2
      gi_loopw [16] (fun j wq => ∃ j' : Nat, j' ≤ L ∧ j = .int .i64 j' ∧ J (ptsTo A k j') wq ∧ Below n0 W wq) (fun j _ => L - (intOf j).toNat)
      case atStart => exact ⟨0, Nat.zero_le _, rfl, HJ.out.1, HJ.out.2⟩
      case round =>
        obtain ⟨j, hj, rfl, hJ2, hb2⟩ := hrel
        have HJ2 := Lib.hid (And.intro hJ2 hb2)
        clear hJ2 hb2
        by_cases hjl : j < L
        · obtain ⟨gb, ob, rfl, hgb, hcp⟩ := Hx.out.2.2.at_ (k := j) (by rw [← Hx.out.2.1]; exact hjl)
          have hcp2 : wr.cell? ⟨gb, ob + j, none⟩ = some (.int .i64 (x[j]?.getD 0)) := by
            rw [(H0.out.2.2.1.trans HJ2.out.2).cell (by rw [← H0.out.2.1]; exact hgb)]; exact hcp
          have hlx : l[k]? = some x := by
            have hk2 : k < l.length := by rw [← Hm.out]; exact hlt
            rw [List.getElem?_eq_getElem hk2]; rw [← Hx.out.1, List.getElem?_eq_getElem hk2]; rfl
          have hAl : k < A.length := by rw [H0.out.2.2.2.1, ← Hm.out]; exact hlt
          obtain ⟨ac, hac, hacl, hall⟩ := H0.out.2.2.2.2 k x hlx
          have hjx : j < x.length := by rw [← Hx.out.2.1]; exact hjl
          obtain ⟨a0, ha0, hav⟩ := hall j x[j] (List.getElem?_eq_getElem hjx)
          have hacd : A[k]?.getD [] = ac := by rw [hac]; rfl
          have hnext : ptsTo A k (j + 1) = ptsTo A k j ++ [a0] := ptsTo_next (by rw [hacd]; exact ha0)
          obtain ⟨fn, tmps, assign, body, hy, hR⟩ := hY _ a0 wr HJ2.out.1 (ptsTo_len A k j hAl (by rw [hacd, hacl]; exact hjx))
          have e1 : a0.1.1 = x[j]?.getD 0 := by rw [hav, List.getElem?_eq_getElem hjx]; rfl
          have e2 : a0.1.2 = k := by rw [hav]
          simp only [encPt, e1, e2] at hy
          have Hn := Lib.hid hnext
          clear hnext hac hacl hall ha0 hav hacd e1 e2 hlx hAl hjx hcp
          gi_wp2
          refine hR.mono ?_
          rintro e W3 (⟨rfl, hJ3, hk3⟩ | ⟨rfl, hJx3⟩)
          · have H3 := Lib.hid (And.intro hJ3 hk3)
            clear hJ3 hk3
            gi_wp2
            go_roundw
            case rel => exact ⟨j + 1, by omega, by go_num, by rw [Hn.out]; exact H3.out.1, HJ2.out.2.trans H3.out.2⟩
            case measure => simp [intOf]; omega
          · have H3 := Lib.hid hJx3
            clear hJx3
            gi_wp2
            refine bodyPost_ret (results_none rfl _ _ _) rfl ?_
            exact ⟨⟨_, rfl⟩, .inr ⟨_, H3.out⟩⟩
        · have hcell : ptsTo A k j = ptsTo A (k + 1) 0 := by
            have hlx : l[k]? = some x := by
              have hk2 : k < l.length := by rw [← Hm.out]; exact hlt
              rw [List.getElem?_eq_getElem hk2]; rw [← Hx.out.1, List.getElem?_eq_getElem hk2]; rfl
            obtain ⟨ac, hac, hacl, _⟩ := H0.out.2.2.2.2 k x hlx
            refine ptsTo_cell (by rw [H0.out.2.2.2.1, ← Hm.out]; exact hlt) ?_
            rw [hac]; simp only [Option.getD_some]; rw [hacl, ← Hx.out.2.1]; omega
          have Hce := Lib.hid hcell
          clear hcell
          gi_wp2
          go_roundw
          case rel => exact ⟨k + 1, by omega, by go_num, by rw [← Hce.out]; exact HJ2.out.1, HJ2.out.2⟩
          case measure => simp [intOf]; omega
    · have HJ := Lib.hid hJs
      clear hJs
      gi_wp2
      go_end0
      refine ⟨⟨_, rfl⟩, .inl ?_⟩
      have := HJ.out
      rwa [ptsTo_all (by rw [H0.out.2.2.2.1, ← Hm.out]; omega)] at this
end Go.Proofs.YtifkieopaoooeaaDoor
