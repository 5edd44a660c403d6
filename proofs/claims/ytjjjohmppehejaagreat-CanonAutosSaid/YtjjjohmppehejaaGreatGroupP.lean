/- Group and Many: the program's. -/
import Derived.Test.YtjjjohmppehejaaGreatGrpW
import Derived.Test.YtjjjohmppehejaaGreatRefS
set_option linter.unusedSimpArgs false
set_option linter.unusedVariables false
namespace Go.Proofs.YtjjjohmppehejaaGreat
open Go.RowKit Plain PlainG PlainX
/-- A chain: degree, orbits, representatives. -/
structure Chn where
  d : Int
  orbs : List (List Int)
  reps : List (List (List Int))
def grpA (g : Gr) : Chn × Int := if ckA [g] ≠ 0 then (⟨0, [], []⟩, ckA [g]) else (⟨g.n, orbsA (adj g.es) g.cs g.n.toNat g.n.toNat, repsA (adj g.es) g.cs g.n.toNat g.n.toNat⟩, 0)
/-- A chain that is handed back. -/
def ChnRes (w : World) (r : Chn × Int) (e : Ending) (w' : World) : Prop :=
  ∃ a c b d, e = .returned (.tuple #[.agg #[.int .i64 r.1.d, .slice a r.1.orbs.length c, .slice b r.1.reps.length d], .int .i64 r.2]) ∧ Rows w' a r.1.orbs ∧ Rows2 w' b r.1.reps ∧ Below w.heap.size w w'
theorem ckA_vals {gs : List Gr} (h : ckA gs = 0) : chkL gs = 0 ∧ bigL gs = false := by
  unfold ckA at h
  split at h
  · exact absurd h (by assumption)
  · rename_i h1
    have h1 : chkL gs = 0 := by simpa using h1
    refine ⟨h1, ?_⟩
    cases hb : bigL gs with
    | false => rfl
    | true => rw [hb] at h; simp at h
theorem ck_one {g : Gr} (h : ckA [g] = 0) : chkGr g = 0 ∧ g.n ≤ 10 := by
  rw [ckA_one] at h
  by_cases h1 : chkGr g = 0
  · rw [if_neg (by simpa using h1)] at h
    by_cases h2 : 10 < g.n
    · rw [if_pos h2] at h; cases h
    · exact ⟨h1, by omega⟩
  · rw [if_pos h1] at h; exact absurd h h1
theorem gsl_one {w : World} {g : Gr} {ea ca : Option Addr} {ec cc : Nat} (T : TypeId) (he : Edg w ea g.es) (hc : Ints w ca g.cs) :
    GSl (w.alloc (.cells #[.int .i64 g.n, .slice ea g.es.length ec, .slice ca g.cs.length cc] T)) (some ⟨w.heap.size, 0, none⟩) [g] := by
  have hb : Below w.heap.size w (w.alloc (.cells #[.int .i64 g.n, .slice ea g.es.length ec, .slice ca g.cs.length cc] T)) := alloc_below (Below.refl _ _) _
  refine ⟨by simp, fun i h hi => ?_⟩
  match i, hi with
  | 0, hi =>
    simp at hi; subst hi
    exact ⟨w.heap.size, 0, ea, ec, ca, cc, rfl, by simp, by simp, by simp, by simp, he.below hb, hc.below hb⟩
theorem zbox {w : World} : (w.alloc (.cells #[.int .i64 0, .slice none 0 0, .slice none 0 0] 31)).heap[w.heap.size]? = some (.cells #[.int .i64 0, .slice none 0 0, .slice none 0 0] 31) := by
  show (w.heap.push _)[w.heap.size]? = some _
  simp
set_option maxRecDepth 100000 in
set_option maxHeartbeats 2000000 in
theorem Group_calls {w : World} {g : Gr} {ea ca : Option Addr} {ec cc : Nat} (he : Edg w ea g.es) (hc : Ints w ca g.cs) :
    Calls Tryz.prog 10 #[.agg #[.int .i64 g.n, .slice ea g.es.length ec, .slice ca g.cs.length cc]] w fun e w' => ChnRes w (grpA g) e w' := by
  obtain ⟨X, hX⟩ : ∃ X, w.heap.size = X := ⟨_, rfl⟩
  obtain ⟨n, hn⟩ : ∃ n, g.n = n := ⟨_, rfl⟩
  obtain ⟨L, hL⟩ : ∃ L, g.es.length = L := ⟨_, rfl⟩
  obtain ⟨M, hM⟩ : ∃ M, g.cs.length = M := ⟨_, rfl⟩
  obtain ⟨W1, hW1⟩ : ∃ W1, (w.alloc (.cells #[.int .i64 n, .slice ea L ec, .slice ca M cc] 25)).alloc (.cells #[.int .i64 0, .slice none 0 0, .slice none 0 0] 31) = W1 := ⟨_, rfl⟩
  have hs1 : W1.heap.size = X + 2 := by rw [← hW1, ← hX]; simp
  have hb1 : Below w.heap.size w W1 := by rw [← hW1]; exact alloc_b (alloc_b (Below.refl _ _) _) _
  have x0 : W1.cell? ⟨X, 0, none⟩ = some (.int .i64 n) := by rw [← hW1, ← hX]; simp
  have x1 : W1.cell? ⟨X, 1, none⟩ = some (.slice ea L ec) := by rw [← hW1, ← hX]; simp
  have x2 : W1.cell? ⟨X, 2, none⟩ = some (.slice ca M cc) := by rw [← hW1, ← hX]; simp
  have hbox : W1.heap[X + 1]? = some (.cells #[.int .i64 0, .slice none 0 0, .slice none 0 0] 31) := by
    rw [← hW1, ← hX]
    have := zbox (w := w.alloc (.cells #[.int .i64 n, .slice ea L ec, .slice ca M cc] 25))
    simpa using this
  obtain ⟨W2, hW2⟩ : ∃ W2, W1.alloc (.cells #[.int .i64 n, .slice ea L ec, .slice ca M cc] 25) = W2 := ⟨_, rfl⟩
  have hb2 : Below W1.heap.size W1 W2 := by rw [← hW2]; exact alloc_b (Below.refl _ _) _
  have K31 := ccheck_calls (some ⟨W1.heap.size, 0, none⟩) 1 [g] W2 (by
    have := gsl_one (ec := ec) (cc := cc) 25 (he.below hb1) (hc.below hb1)
    rw [hn, hL, hM, hW2] at this
    exact this)
  have K32 := fun (h0 : ckA [g] = 0) (W : World) (k : Below W1.heap.size W1 W) =>
    let c := ck_one h0
    have g1 := chkGr_ok.1 c.1
    group_own (w := W) (n := g.n.toNat) (ec := ec) (cc := cc) ((he.below hb1).below k) ((hc.below hb1).below k) (fun x hx => by have := (chkE_srt g1.2.2.1).2.1 x hx; omega) (by omega) (by omega)
  rw [hL] at K32
  have H := Lib.hid (And.intro hb1 (And.intro hb2 (And.intro hs1 hX)))
  obtain ⟨E, hE⟩ : ∃ E, ckA [g] = E := ⟨_, rfl⟩
  rw [hE, hs1] at K31
  simp only [List.length_cons, List.length_nil, Nat.zero_add] at K31
  rw [hn, hL, hM]
  clear he hc hb1 hb2
  by_cases h0 : E = 0
  · subst h0
    obtain ⟨h1, h2⟩ := ck_one hE
    have g1 := chkGr_ok.1 h1
    have K := K32 hE
    obtain ⟨N, hN⟩ : ∃ N, g.n.toNat = N := ⟨_, rfl⟩
    have hnN : n = (N : Int) := by omega
    rw [hN] at K
    have hMN : M = N := by omega
    subst hnN
    subst hMN
    have hres : grpA g = (⟨(M : Int), orbsA (adj g.es) g.cs M M, repsA (adj g.es) g.cs M M⟩, 0) := by
      unfold grpA
      rw [if_neg (by simp [hE]), hn]; simp
    rw [hres]
    have HK := Lib.hid (And.intro K K31)
    have H0 := Lib.hid (show M ≤ 100 by omega)
    clear K K31 K32 hE h1 h2 g1 hres hn hL hM hN
    go_enter Tryz.func10, Tryz.ntmps10
    go_wp2_with (go_at_call 31; refine HK.out.2.mono ?_; rintro e w3 ⟨rfl, hw3⟩; have hb3 := below_two H.out.2.1 hw3; have y0 := (hb3.cell (block_lt_of_cell x0)).trans x0; have y1 := (hb3.cell (block_lt_of_cell x1)).trans x1; have y2 := (hb3.cell (block_lt_of_cell x2)).trans x2; have hB3 := (hb3.block (X + 1) (by rw [H.out.2.2.1]; omega)).trans hbox; have H3 := Lib.hid (And.intro hb3 hB3); clear hw3 hb3 hB3 x0 x1 x2 hbox hW1 hW2)
    go_wp2_with (go_at_call 32; refine (HK.out.1 _ H3.out.1).mono ?_; rintro e w4 ⟨a, c, b, d, rfl, -, -, hw4, csO, csR, o1, o2, o3, o4⟩; have hB4 := (hw4.block (X + 1) (by have h1 := H3.out.1.size; have h2 := H.out.2.2.1; omega)).trans H3.out.2; have bc := box_cells hB4; obtain ⟨c0, c1, c2, f1, f2, f0⟩ := bc; have hX3 : X + 1 < w3.heap.size := (by have h1 := H3.out.1.size; have h2 := H.out.2.2.1; omega); have H4 := Lib.hid (And.intro o1 (And.intro o2 (And.intro o3 (And.intro o4 (And.intro hw4 hB4))))); clear o1 o2 o3 o4 hw4 hB4)
    obtain ⟨WF, hWF⟩ : ∃ WF, WF = ((w4.setCell ⟨X + 1, 0, none⟩ (.int .i64 (M : Int))).setCell ⟨X + 1, 1, none⟩ (.slice a M c)).setCell ⟨X + 1, 2, none⟩ (.slice b M d) := ⟨_, rfl⟩
    have hF : WF.heap[X + 1]? = some (.cells #[.int .i64 (M : Int), .slice a M c, .slice b M d] 31) := by
      rw [hWF]; exact box_set2 (box_set1 (box_set0 H4.out.2.2.2.2.2))
    have gF : w4.grownBy WF (some (X + 1)) := by rw [hWF]; exact ((grown_put 0 _).trans (grown_put 1 _)).trans (grown_put 2 _)
    rw [← hWF]
    clear hWF c0 c1 c2 f0 f1 f2
    obtain ⟨f0, f1, f2, _, _, _⟩ := box_cells hF
    have hO9 := H4.out.1.off gF hX3
    have hR9 := H4.out.2.2.1.off gF hX3
    have hM100 : M ≤ 100 := H0.out
    obtain ⟨aO', cO', hvO, hrO⟩ := (H4.out.2.1.off gF hX3).rows hO9 (by rw [H4.out.2.1.1]; simp [orbsA]; unfold maxLen; omega) (fun xs hxs => by
      obtain ⟨i, _, rfl⟩ := List.mem_map.1 hxs
      rw [nts_len, orbA, List.length_map]; have := lev_len (adj g.es) g.cs M i; unfold maxLen; omega)
    obtain ⟨aR', cR', hvR, hrR⟩ := (H4.out.2.2.2.1.off gF hX3).rows2 hR9 (by rw [H4.out.2.2.2.1.1]; simp [repsA]; omega) (reps_ok (adj g.es) g.cs M hM100)
    have l1 : (orbsA (adj g.es) g.cs M M).length = M := by simp [orbsA]
    have l2 : (repsA (adj g.es) g.cs M M).length = M := by simp [repsA]
    rw [l1] at hvO
    rw [l2] at hvR
    cases hvO
    cases hvR
    have hbF : Below w.heap.size w WF := by
      refine (below_two H.out.1 (below_two H3.out.1 H4.out.2.2.2.2.1)).grown gF (Nat.le_trans H.out.1.size (Nat.le_trans H3.out.1.size H4.out.2.2.2.2.1.size)) (fun g hg => ?_)
      cases hg; rw [H.out.2.2.2]; omega
    refine bodyPost_ret (v := .tuple #[.agg #[.int .i64 (M : Int), .slice a M c, .slice b M d], .int .i64 0]) (by simp [results, Tryz.results10, go_sem, f0, f1, f2]) rfl ?_
    refine ⟨a, c, b, d, ?_, hrO, hrR, hbF⟩
    simp only [l1, l2]
  · have h0b : (E != 0) = true := by simpa using h0
    have hres : grpA g = (⟨0, [], []⟩, E) := by
      unfold grpA
      rw [if_pos (by rw [hE]; exact h0), hE]
    rw [hres]
    have HK := Lib.hid (And.intro K31 h0)
    clear K31 K32 hE hres hn hL hM h0
    go_enter Tryz.func10, Tryz.ntmps10
    go_wp2_with (go_at_call 31; refine HK.out.1.mono ?_; rintro e w3 ⟨rfl, hw3⟩; have hb3 := below_two H.out.2.1 hw3; have hB3 := (hb3.block (X + 1) (by rw [H.out.2.2.1]; omega)).trans hbox; have bc := box_cells hB3; obtain ⟨c0, c1, c2, f1, f2, f0⟩ := bc; have H3 := Lib.hid (And.intro hb3 hB3); clear hw3 hb3 hB3 x0 x1 x2 hbox hW1 hW2)
    obtain ⟨WF, hWF⟩ : ∃ WF, WF = ((w3.setCell ⟨X + 1, 0, none⟩ (.int .i64 0)).setCell ⟨X + 1, 1, none⟩ (.slice none 0 0)).setCell ⟨X + 1, 2, none⟩ (.slice none 0 0) := ⟨_, rfl⟩
    have hF : WF.heap[X + 1]? = some (.cells #[.int .i64 0, .slice none 0 0, .slice none 0 0] 31) := by
      rw [hWF]; exact box_set2 (box_set1 (box_set0 H3.out.2))
    have gF : w3.grownBy WF (some (X + 1)) := by rw [hWF]; exact ((grown_put 0 _).trans (grown_put 1 _)).trans (grown_put 2 _)
    rw [← hWF]
    clear hWF c0 c1 c2 f0 f1 f2
    obtain ⟨f0, f1, f2, _, _, _⟩ := box_cells hF
    have hbF : Below w.heap.size w WF := by
      refine (below_two H.out.1 H3.out.1).grown gF (Nat.le_trans H.out.1.size H3.out.1.size) (fun g hg => ?_)
      cases hg; rw [H.out.2.2.2]; omega
    refine bodyPost_ret (v := .tuple #[.agg #[.int .i64 0, .slice none 0 0, .slice none 0 0], .int .i64 E]) (by simp [results, Tryz.results10, go_sem, f0, f1, f2]) rfl ?_
    exact ⟨none, 0, none, 0, rfl, ⟨[], Row.nil, rfl, fun i u xs h => by simp at h⟩, ⟨[], Row.nil, rfl, fun i u xs h => by simp at h⟩, hbF⟩
end Go.Proofs.YtjjjohmppehejaaGreat
