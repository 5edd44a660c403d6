/- The levels of a chain with their representatives: an iterator. -/
import Derived.Test.YtbejhkojdiadaaaGreatSame
set_option linter.unusedSimpArgs false
set_option linter.unusedVariables false
namespace Go.Proofs.YtbejhkojdiadaaaGreat
open Go.RowKit Go.Shelf PlainPm

attribute [local go_sem] Oper.semAt_some

def encR (vs : List Value) (i : Fin vs.length) : Array Value := #[.int .i64 (i.val : Int), vs[i.val]]
theorem fin_take {m k : Nat} (h : k < m) : (List.finRange m).take (k + 1) = (List.finRange m).take k ++ [⟨k, h⟩] := by
  rw [List.take_add_one, List.getElem?_eq_getElem (by simpa using h)]
  simp
set_option maxRecDepth 100000 in
set_option maxHeartbeats 2000000 in
theorem reps1_in (F : Fence) (nn : Nat) (hfn : F.fn 136) (hro : F.round = none) (hn1 : 1 ≤ nn) (lp Y n0 : Nat) (a : Option Addr) (c : Nat) (vs : List Value)
    (J Jx : List (Fin vs.length) → World → Prop)
    (hY : ∀ pre x W, J pre W → pre.length < vs.length → YieldAt F (nn - 1) Tryz.prog lp (encR vs x) W fun e W' =>
      (e = .returned (.bool true) ∧ J (pre ++ [x]) W' ∧ Below n0 W W') ∨ (e = .returned (.bool false) ∧ Jx (pre ++ [x]) W'))
    (W w : World) (hBs : W.cell? ⟨Y, 2, none⟩ = some (.slice a vs.length c)) (hl : Row w a vs) (hw0 : w.heap.size = n0) (hWw : Below n0 w W) (h0 : J [] W) :
    CallsIn F nn Tryz.prog 136 #[.func (.yield lp) #[] #[], .pointer (some ⟨Y, 0, none⟩)] W fun e W' => (∃ v, e = .returned v) ∧
      (J (List.finRange vs.length) W' ∨ (∃ pre, Jx pre W')) := by
  have hlen := hl.len'
  have H0 := Lib.hid (And.intro hl (And.intro hw0 hWw))
  clear hl hw0 hWw
  obtain ⟨m, hm⟩ : ∃ m, m = vs.length := ⟨_, rfl⟩
  rw [← hm] at hBs hlen
  have Hm := Lib.hid hm
  clear hm
  refine callsIn_of_wp Tryz.func136 rfl hfn ?_ hro
  simp only [Tryz.ntmps136, List.size_toArray, List.length_cons, List.length_nil, Nat.reduceAdd, Nat.reduceSub, Array.replicate_succ, Array.replicate_zero, List.push_toArray, List.append_toArray, List.nil_append, List.cons_append]
  gi_wp2
  gi_loopw [8] (fun i wr => ∃ k : Nat, k ≤ m ∧ i = .int .i64 k ∧ J ((List.finRange vs.length).take k) wr ∧ Below n0 W wr) (fun i _ => m - (intOf i).toNat)
  case atStart => exact ⟨0, Nat.zero_le _, rfl, by simpa using h0, Below.refl _ _⟩
  case round =>
    obtain ⟨k, hk, rfl, hJs, hnx⟩ := hrel
    by_cases hlt : k < m
    · have hkl : k < vs.length := by rw [← Hm.out]; exact hlt
      obtain ⟨g, o, rfl, hg, hc1⟩ := H0.out.1.2 k vs[k] (List.getElem?_eq_getElem hkl)
      have hcx : wr.cell? ⟨g, o + k, none⟩ = some vs[k] := by
        rw [(H0.out.2.2.trans hnx).cell (by rw [← H0.out.2.1]; exact hg)]; exact hc1
      obtain ⟨fn, tmps, assign, body, hy, hR⟩ := hY _ ⟨k, hkl⟩ wr hJs (by rw [List.length_take]; simp; omega)
      obtain ⟨x, hx⟩ : ∃ x, vs[k] = x := ⟨_, rfl⟩
      unfold encR at hy
      dsimp only at hy
      rw [hx] at hcx hy
      have Hx := Lib.hid (And.intro hx hnx)
      clear hx hnx hc1 h0 hJs
      gi_wp2
      refine hR.mono ?_
      rintro e W3 (⟨rfl, hJ3, hk3⟩ | ⟨rfl, hJx3⟩)
      · have H3 := Lib.hid (And.intro hJ3 hk3)
        clear hJ3 hk3
        gi_wp2
        go_roundw
        case rel => exact ⟨k + 1, by omega, by go_num, by rw [fin_take hkl]; exact H3.out.1, Hx.out.2.trans H3.out.2⟩
        case measure => simp [intOf]; omega
      · have H3 := Lib.hid hJx3
        clear hJx3
        gi_wp2
        refine bodyPost_ret (results_none rfl _ _ _) rfl ?_
        exact ⟨⟨_, rfl⟩, .inr ⟨_, H3.out⟩⟩
    · have HJ := Lib.hid hJs
      clear hJs
      gi_wp2
      go_end0
      refine ⟨⟨_, rfl⟩, .inl ?_⟩
      have := HJ.out
      rwa [List.take_of_length_le (by simp; rw [← Hm.out]; omega)] at this
theorem reps_stops (F : Fence) (nn : Nat) (hfn : F.fn 136) (hro : F.round = none) (hn1 : 1 ≤ nn) (Y n0 : Nat) (a : Option Addr) (c : Nat) (vs : List Value) (w0 w : World)
    (hBs : w.cell? ⟨Y, 2, none⟩ = some (.slice a vs.length c)) (hl : Row w0 a vs) (hw0 : w0.heap.size = n0) (hb : Below n0 w0 w) :
    SeqStopsK F nn Tryz.prog 136 #[.pointer (some ⟨Y, 0, none⟩)] (encR vs) (Below n0) (fun ys => ys = List.finRange vs.length) (fun _ => True) vs.length w := fun lp J Jx W hW _ _ hY h0 => by
  have hlt := block_lt_of_cell hBs
  have hc' := (hW.cell (p := ⟨Y, 2, none⟩) hlt).trans hBs
  refine (reps1_in F nn hfn hro hn1 lp Y n0 a c vs J Jx hY W w0 hc' hl hw0 (hb.trans (hW.mono (by have := hb.size; omega))) h0).mono ?_
  rintro e W' ⟨he, hj | ⟨pre, hj⟩⟩
  · exact ⟨he, .inl ⟨_, rfl, hj⟩⟩
  · exact ⟨he, .inr ⟨_, trivial, hj⟩⟩
theorem reps_calls (u0 u1 u2 : Value) (w : World) :
    Calls Tryz.prog 101 #[.agg #[u0, u1, u2]] w fun e w' => e = .returned (.func (.func 136) #[] #[.pointer (some ⟨w.heap.size, 0, none⟩)]) ∧ w' = w.alloc (.cells #[u0, u1, u2] 25) := by
  go_enter Tryz.func101, Tryz.ntmps101
  go_wp2
  go_ret
  exact ⟨rfl, rfl⟩
end Go.Proofs.YtbejhkojdiadaaaGreat
