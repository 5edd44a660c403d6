/- The reference's check and none. -/
import Derived.Test.YtjjjohmppehejaaGreatCkG
import Derived.Test.YtjjjohmppehejaaGreatChkR
set_option linter.unusedSimpArgs false
set_option linter.unusedVariables false
namespace Go.Proofs.YtjjjohmppehejaaGreat
open Go.RowKit Plain PlainG
theorem ckA_one (g : Gr) : ckA [g] = if chkGr g ≠ 0 then chkGr g else if 10 < g.n then 5 else 0 := by
  unfold ckA chkL bigL
  by_cases h : chkGr g = 0 <;> simp [h, chkL]
theorem rcheck_calls {w : World} {a b : Option Addr} {c d : Nat} {g : Gr} (he : Edg w a g.es) (hc : Ints w b g.cs) :
    Calls Tryz.prog 33 #[.agg #[.int .i64 g.n, .slice a g.es.length c, .slice b g.cs.length d]] w fun e w' => e = .returned (.int .i64 (ckA [g])) ∧ Below w.heap.size w w' := by
  have hb : Below w.heap.size w (w.alloc (.cells #[.int .i64 g.n, .slice a g.es.length c, .slice b g.cs.length d] 25)) := alloc_below (Below.refl _ _) _
  have K := gcheckR_calls (c := c) (d := d) (he.below hb) (hc.below hb)
  rw [ckA_one]
  obtain ⟨E, hE⟩ : ∃ E, chkGr g = E := ⟨_, rfl⟩
  obtain ⟨n, hn⟩ : ∃ n, g.n = n := ⟨_, rfl⟩
  obtain ⟨L, hL⟩ : ∃ n, g.es.length = n := ⟨_, rfl⟩
  obtain ⟨M, hM⟩ : ∃ n, g.cs.length = n := ⟨_, rfl⟩
  rw [hE, hn, hL, hM] at K
  rw [hn, hL, hM] at hb
  rw [hE, hn, hL, hM]
  obtain ⟨X, hX⟩ : ∃ X, w.heap.size = X := ⟨_, rfl⟩
  obtain ⟨W1, hW1⟩ : ∃ W1, w.alloc (.cells #[.int .i64 n, .slice a L c, .slice b M d] 25) = W1 := ⟨_, rfl⟩
  rw [hW1] at K hb
  have x0 : W1.cell? ⟨X, 0, none⟩ = some (.int .i64 n) := by rw [← hW1, ← hX]; simp
  have x1 : W1.cell? ⟨X, 1, none⟩ = some (.slice a L c) := by rw [← hW1, ← hX]; simp
  have x2 : W1.cell? ⟨X, 2, none⟩ = some (.slice b M d) := by rw [← hW1, ← hX]; simp
  have H := Lib.hid (And.intro K (And.intro hb hX))
  clear he hc K hb hE hn hL hM
  by_cases h0 : E = 0
  · subst h0
    rw [if_neg (by simp)]
    by_cases hbig : 10 < n
    · rw [if_pos hbig]
      go_enter Tryz.func33, Tryz.ntmps33
      go_wp2_with (go_at_call 40; refine H.out.1.mono ?_; rintro e w2 ⟨rfl, hw⟩; have y0 := (hw.cell (block_lt_of_cell x0)).trans x0; have H2 := Lib.hid (below_two H.out.2.1 hw); clear hw x0 x1 x2)
      go_ret
      exact ⟨rfl, H2.out⟩
    · rw [if_neg hbig]
      have hb2 : decide (10 < n) = false := decide_eq_false hbig
      go_enter Tryz.func33, Tryz.ntmps33
      go_wp2_with (go_at_call 40; refine H.out.1.mono ?_; rintro e w2 ⟨rfl, hw⟩; have y0 := (hw.cell (block_lt_of_cell x0)).trans x0; have H2 := Lib.hid (below_two H.out.2.1 hw); clear hw x0 x1 x2)
      go_ret
      exact ⟨rfl, H2.out⟩
  · rw [if_pos h0]
    have hE1 : (E != 0) = true := by simpa using h0
    go_enter Tryz.func33, Tryz.ntmps33
    go_wp2_with (go_at_call 40; refine H.out.1.mono ?_; rintro e w2 ⟨rfl, hw⟩; have H2 := Lib.hid (below_two H.out.2.1 hw); clear hw x0 x1 x2)
    go_ret
    exact ⟨rfl, H2.out⟩
set_option maxHeartbeats 400000 in
theorem none_calls (n : Nat) (hn : n ≤ 1000) (w : World) : Calls Tryz.prog 34 #[.int .i64 (n : Int)] w fun e w' => e = .returned (.slice (some ⟨w.heap.size, 0, none⟩) n n) ∧ Own w' w.heap.size (.slice (some ⟨w.heap.size, 0, none⟩) n n) 3 (ints (List.replicate n (-1))) ∧ Below w.heap.size w w' := by
  obtain ⟨i3, hi3, hz3, hs3, hb3⟩ := info_parts Tryz.info3
  have I3 := Lib.hid (And.intro hi3 (And.intro hz3 (And.intro hs3 hb3)))
  clear hi3 hz3 hs3 hb3
  obtain ⟨X, hX⟩ : ∃ X, w.heap.size = X := ⟨_, rfl⟩
  rw [hX]
  have HX := Lib.hid hX
  go_enter Tryz.func34, Tryz.ntmps34
  go_wp2_with (at_make; refine mk1 rfl _ _ 23 3 rfl i3 (.int .i64 0) 8 Tryz.underlying23 I3.out.1 I3.out.2.1 I3.out.2.2.1 I3.out.2.2.2 rfl (by omega) X n rfl rfl (by omega) (by omega) ?_; intro w1 hd hg hz1; rw [HX.out] at hd; have H1 := Lib.hid (And.intro hd hg); clear hd hg hz1)
  try rw [HX.out]
  clear hX
  go_loopw [4] (fun i wr => ∃ k : Nat, k ≤ n ∧ i = .int .i64 (k : Int) ∧ Own wr X (.slice (some ⟨X, 0, none⟩) n n) 3 (ints (List.replicate k (-1) ++ List.replicate (n - k) 0)) ∧ w.grownBy wr (some X)) (fun i _ => n - (intOf i).toNat)
  case atStart =>
    refine ⟨0, by omega, rfl, ?_, ?_⟩
    · have := H1.out.1; rw [ints_zero] at this; simpa using this
    · exact ⟨H1.out.2.os, H1.out.2.tape, H1.out.2.output, H1.out.2.size, fun k hk _ => H1.out.2.block k hk (by simp)⟩
  case round =>
    obtain ⟨k, hk, rfl, ho, hg⟩ := hrel
    by_cases hkn : k < n
    · have hc := ho.cell k (by rw [ints_len]; simp; omega)
      have hf := ho.frozen k
      have he : (ints (List.replicate k (-1) ++ List.replicate (n - k) 0))[k]? = some (.int .i64 0) := by
        rw [ints, List.getElem?_map, List.getElem?_append_right (by simp)]
        simp [show 0 < n - k by omega]
      rw [he] at hc
      have H2 := Lib.hid (And.intro ho hg)
      clear ho hg he
      go_wp2
      refine ⟨⟨k + 1, by omega, by go_num, ?_, H2.out.2.trans (grown_put _ _)⟩, by simp [intOf]; omega⟩
      have := H2.out.1.put k (.int .i64 (-1))
      rw [ints_set] at this
      have e : (List.replicate k (-1 : Int) ++ List.replicate (n - k) 0).set k (-1) = List.replicate (k + 1) (-1) ++ List.replicate (n - (k + 1)) 0 := by
        rw [show n - k = (n - (k + 1)) + 1 by omega, List.replicate_succ, List.set_append_right _ _ (by simp), List.replicate_succ']
        simp
      rw [e] at this
      exact this
    · obtain rfl : k = n := by omega
      have H2 := Lib.hid (And.intro ho hg)
      clear ho hg
      go_wp2
      go_ret
      refine ⟨rfl, by have := H2.out.1; simpa using this, ?_⟩
      have g := H2.out.2
      exact ⟨g.os, g.tape, g.output, g.size, fun j hj => g.block j (by rw [HX.out]; exact hj) (by intro e; injection e with e; omega)⟩
end Go.Proofs.YtjjjohmppehejaaGreat
