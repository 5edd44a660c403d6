/- The sameness of graphs. -/
import Derived.ChangeKeysEq
import Derived.Test.YtjjjohmppehejaaGreatChkP
import Derived.Test.YtjjjohmppehejaaGreatVerts
import Derived.Test.YtjjjohmppehejaaGreatSame
set_option linter.unusedSimpArgs false
set_option linter.unusedVariables false
namespace Go.Proofs.YtjjjohmppehejaaGreat
open Go.RowKit Plain PlainG
theorem run_eq_pair {T : TypeId} (hu : Tryz.prog.underlying T = some (.array 2 3)) (p1 p2 q1 q2 : Int) (w : World) : (Op.equal T (.agg #[.int .i64 p1, .int .i64 p2]) (.agg #[.int .i64 q1, .int .i64 q2])).run Tryz.prog w = .ok (p1 == q1 && p2 == q2) w := by
  obtain ⟨i, hi, _⟩ := info_parts Tryz.info3
  have hc : Tryz.prog.cellsOf 3 = 1 := by kernel_rfl
  refine (run_equalIn_array w 9999 _ _ hu hi).trans ?_
  rw [hc]
  simp [Op.eqItems, List.range_succ, go_sem]
  by_cases h1 : p1 = q1 <;> by_cases h2 : p2 = q2 <;> simp [h1, h2]
theorem run_neq_pair {T : TypeId} (hu : Tryz.prog.underlying T = some (.array 2 3)) (p1 p2 q1 q2 : Int) (w : World) : (binOp .neq T (.agg #[.int .i64 p1, .int .i64 p2]) (.agg #[.int .i64 q1, .int .i64 q2])).run Tryz.prog w = .ok (.bool (!(p1 == q1 && p2 == q2))) w := by
  simp only [binOp]
  simp [run_eq_pair hu]
theorem run_eql_pair {T : TypeId} (hu : Tryz.prog.underlying T = some (.array 2 3)) (p1 p2 q1 q2 : Int) (w : World) : (binOp .eql T (.agg #[.int .i64 p1, .int .i64 p2]) (.agg #[.int .i64 q1, .int .i64 q2])).run Tryz.prog w = .ok (.bool (p1 == q1 && p2 == q2)) w := by
  simp only [binOp]
  simp [run_eq_pair hu]
def sameG (g h : Gr) : Bool := decide (g.n = h.n ∧ g.es = h.es ∧ g.cs = h.cs)
theorem sameG_iff {g h : Gr} : sameG g h = true ↔ g = h := by
  unfold sameG
  rw [decide_eq_true_iff]
  constructor
  · rintro ⟨h1, h2, h3⟩; cases g; cases h; simp only at h1 h2 h3; subst h1; subst h2; subst h3; rfl
  · rintro rfl; exact ⟨rfl, rfl, rfl⟩
set_option maxRecDepth 100000 in
set_option maxHeartbeats 4000000 in
theorem sameGraph_calls {w : World} {a1 b1 a2 b2 : Option Addr} {c1 d1 c2 d2 : Nat} {g h : Gr} (he1 : Edg w a1 g.es) (hc1 : Ints w b1 g.cs) (he2 : Edg w a2 h.es) (hc2 : Ints w b2 h.cs) :
    Calls Tryz.prog 21 #[.agg #[.int .i64 g.n, .slice a1 g.es.length c1, .slice b1 g.cs.length d1], .agg #[.int .i64 h.n, .slice a2 h.es.length c2, .slice b2 h.cs.length d2]] w fun e w' => e = .returned (.bool (sameG g h)) ∧ Below w.heap.size w w' := by
  obtain ⟨r, hr⟩ : ∃ r, sameG g h = r := ⟨_, rfl⟩
  rw [hr]
  unfold sameG at hr
  have hmx1 := he1.len
  have hmx2 := he2.len
  obtain ⟨W, hW⟩ : ∃ W, W = (w.alloc (.cells #[.int .i64 g.n, .slice a1 g.es.length c1, .slice b1 g.cs.length d1] 25)).alloc (.cells #[.int .i64 h.n, .slice a2 h.es.length c2, .slice b2 h.cs.length d2] 25) := ⟨_, rfl⟩
  have hbW : Below w.heap.size w W := by rw [hW]; exact ((Below.refl _ w).alloc (Nat.le_refl _) _).alloc (by simp) _
  have hsame := sameInts_calls b1 b2 d1 d2 g.cs h.cs W (hc1.below hbW) (hc2.below hbW)
  have he1' := he1.below hbW
  have he2' := he2.below hbW
  have bx : W.cell? ⟨w.heap.size, 0, none⟩ = some (.int .i64 g.n) ∧ W.cell? ⟨w.heap.size, 1, none⟩ = some (.slice a1 g.es.length c1) ∧ W.cell? ⟨w.heap.size, 2, none⟩ = some (.slice b1 g.cs.length d1) ∧ W.cell? ⟨w.heap.size + 1, 0, none⟩ = some (.int .i64 h.n) ∧ W.cell? ⟨w.heap.size + 1, 1, none⟩ = some (.slice a2 h.es.length c2) ∧ W.cell? ⟨w.heap.size + 1, 2, none⟩ = some (.slice b2 h.cs.length d2) := by
    rw [hW]; refine ⟨by simp, by simp, by simp, by simp, by simp, by simp⟩
  obtain ⟨n1, hn1⟩ : ∃ n1, g.n = n1 := ⟨_, rfl⟩
  obtain ⟨n2, hn2⟩ : ∃ n2, h.n = n2 := ⟨_, rfl⟩
  obtain ⟨L1, hL1⟩ : ∃ L1, g.es.length = L1 := ⟨_, rfl⟩
  obtain ⟨L2, hL2⟩ : ∃ L2, h.es.length = L2 := ⟨_, rfl⟩
  obtain ⟨M1, hM1⟩ : ∃ M1, g.cs.length = M1 := ⟨_, rfl⟩
  obtain ⟨M2, hM2⟩ : ∃ M2, h.cs.length = M2 := ⟨_, rfl⟩
  rw [hn1, hn2, hL1, hL2, hM1, hM2] at hW bx
  rw [hn1, hn2, hL1, hL2, hM1, hM2]
  rw [hL1] at hmx1
  rw [hL2] at hmx2
  rw [hM1, hM2] at hsame
  have HW := Lib.hid hW
  have hF : r = false → ∀ w', Below W.heap.size W w' → Below w.heap.size w w' := fun _ w' h => hbW.trans (h.mono hbW.size)
  clear he1 he2 hc1 hc2
  by_cases c1 : n1 = n2
  · subst c1
    have c1' : (n1 != n1) = false := by simp
    by_cases c2 : L1 = L2
    · subst c2
      cases c3 : decide (g.cs = h.cs)
      · have hrf : r = false := by rw [← hr, decide_eq_false_iff_not]; rintro ⟨_, _, e⟩; rw [e, decide_eq_true rfl] at c3; cases c3
        rw [c3] at hsame
        subst hrf
        have H := Lib.hid (And.intro hsame (And.intro bx hbW))
        clear hsame hF he1' he2' hr hn1 hn2 hL1 hL2 hM1 hM2 c3 hbW hW
        obtain ⟨x0, x1, x2, x3, x4, x5⟩ := bx
        go_enter Tryz.func21, Tryz.ntmps21
        go_wp2_with (rw [← HW.out]; go_at_call 19; refine H.out.1.mono ?_; rintro e w2 ⟨rfl, q, rfl⟩)
        go_ret
        exact ⟨rfl, H.out.2.2.trans (below_drewN (Below.refl _ _) _)⟩
      · have hcc : g.cs = h.cs := of_decide_eq_true c3
        rw [c3] at hsame
        have hre : r = decide (g.es = h.es) := by rw [← hr]; rw [hn1, hn2, hcc]; simp
        have H := Lib.hid (And.intro hsame (And.intro he1' (And.intro he2' (And.intro hbW (And.intro hre (And.intro hL1 hL2))))))
        clear hsame hF he1' he2' hr hn1 hn2 hL1 hL2 hM1 hM2 c3 hbW hW hre hcc
        obtain ⟨x0, x1, x2, x3, x4, x5⟩ := bx
        go_enter Tryz.func21, Tryz.ntmps21
        go_wp2_with (rw [← HW.out]; go_at_call 19; refine H.out.1.mono ?_; rintro e w2 ⟨rfl, q, rfl⟩)
        go_loopw [5] (fun i wr => ∃ k q : Nat, k ≤ L1 ∧ i = .int .i64 k ∧ wr = W.drewN q ∧ agreeTo g.es h.es k) (fun i _ => L1 - (intOf i).toNat)
        case atStart => exact ⟨0, _, Nat.zero_le _, rfl, rfl, fun i hi => by omega⟩
        case round =>
          obtain ⟨k, q, hk, rfl, rfl, ha⟩ := hrel
          have HA := Lib.hid ha
          clear ha
          by_cases hlt : k < L1
          · have hk1 : k < g.es.length := by rw [H.out.2.2.2.2.2.1]; exact hlt
            have hk2 : k < h.es.length := by rw [H.out.2.2.2.2.2.2]; exact hlt
            obtain ⟨x, hx⟩ : ∃ x, g.es[k]? = some x := ⟨_, List.getElem?_eq_getElem hk1⟩
            obtain ⟨y, hy⟩ : ∃ y, h.es[k]? = some y := ⟨_, List.getElem?_eq_getElem hk2⟩
            obtain ⟨B1, o1, rfl, _, e1, e2⟩ := H.out.2.1.at_ k _ hx
            obtain ⟨B2, o2, rfl, _, e3, e4⟩ := H.out.2.2.1.at_ k _ hy
            obtain ⟨p1, p2⟩ := x
            obtain ⟨q1, q2⟩ := y
            simp only at e1 e2 e3 e4
            have HX := Lib.hid (And.intro hx hy)
            clear hx hy
            have hneq := fun w => run_neq_pair Tryz.underlying58 p1 p2 q1 q2 w
            cases hb : (p1 == q1 && p2 == q2)
            · rw [hb, Bool.not_false] at hneq
              have HB := Lib.hid hb
              clear hb
              go_wp2
              go_quiet (fail)
              go_wp2
              go_ret
              have hr9 := H.out.2.2.2.2.1
              refine ⟨ret_bool ?_, H.out.2.2.2.1.trans (below_drewN (below_drewN (Below.refl _ _) _) _)⟩
              rw [hr9]
              symm
              rw [decide_eq_false_iff_not]
              intro e
              have h1 := HX.out.1
              rw [e, HX.out.2] at h1
              injection h1 with h1
              injection h1 with h1 h2
              have hb := HB.out
              rw [h1, h2] at hb
              simp at hb
            · rw [hb, Bool.not_true] at hneq
              have HB := Lib.hid hb
              clear hb
              go_wp2
              go_quiet (fail)
              go_wp2
              refine ⟨⟨k + 1, _, by omega, by go_num, rfl, agreeTo_succ HA.out ?_⟩, by simp [intOf]; omega⟩
              have hb := HB.out
              simp at hb
              rw [HX.out.1, HX.out.2, hb.1, hb.2]
          · go_wp2
            go_ret
            have : g.es = h.es := agreeTo_all (by rw [H.out.2.2.2.2.2.1, H.out.2.2.2.2.2.2]) k (by rw [H.out.2.2.2.2.2.1]; omega) HA.out
            exact ⟨ret_bool (by rw [H.out.2.2.2.2.1, decide_eq_true this]), H.out.2.2.2.1.trans (below_drewN (Below.refl _ _) _)⟩
    · have c2' : ((L1 : Int) != (L2 : Int)) = true := by simp; omega
      have hrf : r = false := by rw [← hr, decide_eq_false_iff_not]; rintro ⟨_, e, _⟩; rw [e] at hL1; omega
      subst hrf
      have H := Lib.hid (And.intro bx hbW)
      clear hsame hF he1' he2' hr hn1 hn2 hL1 hL2 hM1 hM2 hbW hW
      obtain ⟨x0, x1, x2, x3, x4, x5⟩ := bx
      go_enter Tryz.func21, Tryz.ntmps21
      go_wp2
      go_ret
      exact ⟨rfl, ((Below.refl _ w).alloc (Nat.le_refl _) _).alloc (by simp) _⟩
  · have c1' : (n1 != n2) = true := by simp [c1]
    have hrf : r = false := by rw [← hr, decide_eq_false_iff_not]; rintro ⟨e, _, _⟩; rw [hn1, hn2] at e; exact c1 e
    subst hrf
    clear hsame hF he1' he2' hr hn1 hn2 hL1 hL2 hM1 hM2 hbW hW bx
    go_enter Tryz.func21, Tryz.ntmps21
    go_wp2
    go_ret
    exact ⟨rfl, ((Below.refl _ w).alloc (Nat.le_refl _) _).alloc (by simp) _⟩
end Go.Proofs.YtjjjohmppehejaaGreat
