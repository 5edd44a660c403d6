/- Complement: the program's, and the reference's. · Complement, the reference's. · Word: the program's. · Word: the reference's. -/
import Derived.Test.YtjjjohmppehejaaGreatMoveA
import Derived.BigRegion
set_option linter.unusedSimpArgs false
set_option linter.unusedVariables false
namespace Go.Proofs.YtjjjohmppehejaaGreat
open Go.RowKit Plain PlainG
def notAdj (es : List E2) (i k : Nat) : Bool := !adj es i k
theorem rowsF_at {w : World} {G n : Nat} {f : Nat → Nat → Int} (h : Rows w (some ⟨G, 0, none⟩) (matF n f)) {i k : Nat} (hi : i < n) (hk : k < n) :
    ∃ rb ro rc, w.cell? ⟨G, i, none⟩ = some (.slice (some ⟨rb, ro, none⟩) n rc) ∧ w.cell? ⟨rb, ro + k, none⟩ = some (.int .i64 (f i k)) := by
  obtain ⟨g, o, bb, cc, ea, hg, hcell, hrow⟩ := h.at_ (k := i) (by rw [(matF_isMat n f).1]; exact hi)
  injection ea with ea
  injection ea with e1 e2
  subst e1; subst e2
  rw [matF_row hi] at hcell hrow
  obtain ⟨rb, ro, rfl, _, h2⟩ := hrow.at_ (k := k) (by simpa using hk)
  rw [Nat.zero_add] at hcell
  simp only [List.length_map, List.length_range] at hcell
  refine ⟨rb, ro, cc, hcell, ?_⟩
  rw [h2]
  simp [hk]
end Go.Proofs.YtjjjohmppehejaaGreat

namespace Go.Proofs.YtjjjohmppehejaaGreat
open Go.RowKit Plain PlainG
def OfNil (w : World) (e : Ending) (w' : World) : Prop := ∃ b1 d1, e = .returned (.agg #[.int .i64 0, .slice none 0 0, .slice b1 0 d1]) ∧ Own w' w.heap.size (.slice b1 0 d1) 3 (ints []) ∧ Below w.heap.size w w'
/-- The matrix while it is turned round. -/
def flipF (es : List E2) (i k : Nat) (a b : Nat) : Int := if a < i ∨ (a = i ∧ b < k) then 1 - adjF es a b else adjF es a b
theorem flipF_step (es : List E2) (i k : Nat) : (fun a b => if a = i ∧ b = k then 1 - adjF es i k else flipF es i k a b) = flipF es i (k + 1) := by
  funext a b
  unfold flipF
  by_cases h : a = i ∧ b = k
  · obtain ⟨rfl, rfl⟩ := h
    rw [if_pos ⟨rfl, rfl⟩, if_pos (by omega)]
  · rw [if_neg h]
    by_cases h2 : a < i ∨ (a = i ∧ b < k)
    · rw [if_pos h2, if_pos (by omega)]
    · rw [if_neg h2, if_neg (by omega)]
theorem matF_cong {n : Nat} {f g : Nat → Nat → Int} (h : ∀ a b, a < n → b < n → f a b = g a b) : matF n f = matF n g := by
  unfold matF
  refine List.map_congr_left fun a ha => List.map_congr_left fun b hb => h a b (List.mem_range.1 ha) (List.mem_range.1 hb)
theorem flipF_row (es : List E2) (n i : Nat) : matF n (flipF es i n) = matF n (flipF es (i + 1) 0) := matF_cong fun a b _ hb => by
  unfold flipF
  by_cases h2 : a < i ∨ (a = i ∧ b < n)
  · rw [if_pos h2, if_pos (by omega)]
  · rw [if_neg h2, if_neg (by omega)]
theorem flipF_zero (es : List E2) : flipF es 0 0 = adjF es := by
  funext a b; unfold flipF; rw [if_neg (by omega)]
theorem flip_canon (es : List E2) (n : Nat) : canon n (one (flipF es n 0)) = canon n (notAdj es) := canon_cong fun i k _ hk => by
  unfold one flipF notAdj adjF
  rw [if_pos (by omega)]
  cases adj es i k <;> rfl
theorem adj01 (es : List E2) (i k : Nat) : IntKind.i64.wrap (1 - adjF es i k) = 1 - adjF es i k := by
  unfold adjF; split <;> exact IntWalk.i64_in _ (by omega)
end Go.Proofs.YtjjjohmppehejaaGreat

namespace Go.Proofs.YtjjjohmppehejaaGreat
open Go.RowKit Plain PlainG
theorem slice_to23 (bb oo N c h : Nat) (h1 : h ≤ N) (h2 : N ≤ c) (W : World) :
    (Instr.slice 23 (.slice (some ⟨bb, oo, none⟩) N c) none (some (.int .i64 (h : Int))) none).run Tryz.prog W = .ok (.slice (some ⟨bb, oo, none⟩) h c) W := by
  obtain ⟨i3, hi3, hz3, hs3, hb3⟩ := info_parts Tryz.info3
  by_cases hc0 : c = 0
  · subst hc0
    obtain rfl : N = 0 := by omega
    obtain rfl : h = 0 := by omega
    simp [Instr.slice, run_underlying Tryz.underlying23, Instr.sliceBounds, run_sliceBound, sizeOf, typeInfo, hi3, hs3]
  · simp [Instr.slice, run_underlying Tryz.underlying23, Instr.sliceBounds, run_sliceBound, sizeOf, typeInfo, hi3, hs3, hc0, add_zero_addr, show (0:Int) ≤ h by omega, show (h:Int) ≤ c by omega, h1, h2]
def WordRes (w : World) (r : List Int × Int) (e : Ending) (w' : World) : Prop :=
  ∃ a c, e = .returned (.tuple #[.slice a r.1.length c, .int .i64 r.2]) ∧ Ints w' a r.1 ∧ Below w.heap.size w w'
theorem OwnMat.rowAt {w : World} {B g n : Nat} {cs : List Value} {f : Nat → Nat → Int} (h : OwnMat w B g n cs (matF n f)) {i : Nat} (hi : i < n) :
    ∃ q c, w.cell? ⟨g, i, none⟩ = some (.slice (some ⟨q, 0, none⟩) n c) ∧ n ≤ c ∧ ∀ j, j < n → w.cell? ⟨q, 0 + j, none⟩ = some (.int .i64 (f i j)) := by
  obtain ⟨q, c, h1, h2, _, _, _⟩ := h.entry hi hi
  refine ⟨q, c, h2, ?_, fun j hj => ?_⟩
  · have hrow := h.rows.2 i _ _ h1 (List.getElem?_eq_getElem (by rw [(matF_isMat n f).1]; exact hi))
    obtain ⟨_, _, _, _, _, hc, _⟩ := hrow.at_form (by omega)
    exact hc
  · obtain ⟨q', c', h3, _, h5, _, _⟩ := h.entry hi hj
    rw [h1] at h3
    cases h3
    rw [Nat.zero_add]; exact h5
theorem moveA_ok {g : Gr} {pl : List Int} (h : (moveA g pl).2 = 0) : ∃ N : Nat, N ≤ 24 ∧ (moveA g pl).1.n = N ∧ (∀ x ∈ (moveA g pl).1.es, 0 ≤ x.1 ∧ x.1 < x.2 ∧ x.2 < N) ∧ (moveA g pl).1.cs.length = N := by
  unfold moveA at h ⊢
  by_cases h0 : chkGr g ≠ 0
  · rw [if_pos h0] at h; exact absurd h h0
  · rw [if_neg h0] at h ⊢
    obtain ⟨N, hN, hN24, _, _, _⟩ := chk_edges (Classical.not_not.1 h0)
    by_cases hp : permB g.n pl = true
    · rw [if_pos hp]
      refine ⟨N, hN24, by simp only [movedG]; omega, fun x hx => ?_, by simp only [movedG, movTo_len]; omega⟩
      have := (chkE_srt (chkE_canon g.n.toNat (adj (g.es.map (mvE pl))))).2.1 x hx
      omega
    · rw [if_neg hp] at h; simp at h
set_option maxRecDepth 100000 in
set_option maxHeartbeats 8000000 in
theorem gword_calls {w : World} {a b p : Option Addr} {c d e : Nat} {g : Gr} {pl : List Int} (he : Edg w a g.es) (hc : Ints w b g.cs) (hp : Ints w p pl) (hpl : pl.length ≤ 1000) :
    Calls Tryz.prog 43 #[.agg #[.int .i64 g.n, .slice a g.es.length c, .slice b g.cs.length d], .slice p pl.length e] w fun r w' => WordRes w (wordA g pl) r w' := by
  obtain ⟨i3, hi3, hz3, hs3, hb3⟩ := info_parts Tryz.info3
  have I3 := Lib.hid (And.intro hi3 (And.intro hz3 (And.intro hs3 hb3)))
  clear hi3 hz3 hs3 hb3
  obtain ⟨W1, hW1⟩ : ∃ W1, W1 = w.alloc (.cells #[.int .i64 g.n, .slice a g.es.length c, .slice b g.cs.length d] 25) := ⟨_, rfl⟩
  have hb1 : Below w.heap.size w W1 := by rw [hW1]; exact (Below.refl _ _).alloc (Nat.le_refl _) _
  have x0 : W1.cell? ⟨w.heap.size, 0, none⟩ = some (.int .i64 g.n) := by rw [hW1]; simp
  have x1 : W1.cell? ⟨w.heap.size, 1, none⟩ = some (.slice a g.es.length c) := by rw [hW1]; simp
  have x2 : W1.cell? ⟨w.heap.size, 2, none⟩ = some (.slice b g.cs.length d) := by rw [hW1]; simp
  have K35 := gmove_calls (c := c) (d := d) (e := e) (he.below hb1) (hc.below hb1) (hp.below hb1) hpl
  have hA := @moveA_ok g pl
  obtain ⟨z, hz⟩ : ∃ z, wordA g pl = z := ⟨_, rfl⟩
  rw [hz]
  unfold wordA at hz
  obtain ⟨⟨h, E⟩, hm⟩ : ∃ m, moveA g pl = m := ⟨_, rfl⟩
  rw [hm] at hz K35 hA
  unfold MakeRes at K35
  simp only at hz K35 hA
  obtain ⟨L, hL⟩ : ∃ L, g.es.length = L := ⟨_, rfl⟩
  obtain ⟨M, hM⟩ : ∃ M, g.cs.length = M := ⟨_, rfl⟩
  obtain ⟨N0, hN0⟩ : ∃ N0, g.n = N0 := ⟨_, rfl⟩
  obtain ⟨Q, hQ⟩ : ∃ Q, pl.length = Q := ⟨_, rfl⟩
  rw [hN0, hL, hM, hQ] at K35 ⊢
  rw [hN0] at x0 hW1
  rw [hL] at x1 hW1
  rw [hM] at x2 hW1
  obtain ⟨L1, hL1⟩ : ∃ L1, h.es.length = L1 := ⟨_, rfl⟩
  obtain ⟨M1, hM1⟩ : ∃ M1, h.cs.length = M1 := ⟨_, rfl⟩
  rw [hL1, hM1] at K35
  have HW := Lib.hid hW1
  have hsz : W1.heap.size = w.heap.size + 1 := by rw [hW1]; simp
  by_cases hE : E = 0
  · rw [if_neg (by simpa using hE)] at hz
    obtain ⟨N, hN24, hN, hev, hcl⟩ := hA hE
    obtain rfl : M1 = N := by rw [← hM1]; exact hcl
    rw [hN] at K35
    have hwl : z = (h.cs ++ rowsW h.es M1, 0) := by rw [← hz]; unfold wordG; rw [hN, Int.toNat_natCast]
    have K78 := fun (w' : World) (a' b' : Option Addr) (c' d' : Nat) (h1 : Edg w' a' h.es) => gmatrix_calls (w := w') (b := b') (c := c') (d := d') (L := L1) (M := M1) (n := M1) h1 hL1 (by omega) (fun x hx => by have := hev x hx; omega)
    have H := Lib.hid (And.intro K35 (And.intro K78 (And.intro hwl (And.intro hb1 (And.intro hcl hsz)))))
    subst hE
    clear K35 K78 hwl hb1 hA hz hm hW1 he hc hp hL hM hN0 hQ hL1 hM1 hN hev hcl hpl hsz
    go_enter Tryz.func43, Tryz.ntmps43
    go_upto_region 1 with (fail)
    rw [← HW.out]
    clear HW
    go_upto_region 2 with (go_at_call 41; refine H.out.1.mono ?_; rintro r w2 ⟨a1, c1, b1, d1, rfl, q1, q2, q3⟩; have HA := Lib.hid (And.intro q1 (And.intro q2 q3)); clear q1 q2 q3)
    obtain ⟨X, hX⟩ : ∃ X, w2.heap.size = X := ⟨_, rfl⟩
    obtain ⟨W3, hW3⟩ : ∃ W3, W3 = w2.alloc (.cells #[.int .i64 (M1 : Int), .slice a1 L1 c1, .slice b1 M1 d1] 25) := ⟨_, rfl⟩
    rw [← hW3]
    have hb3 : Below w2.heap.size w2 W3 := by rw [hW3]; exact (Below.refl _ _).alloc (Nat.le_refl _) _
    have y0 : W3.cell? ⟨X, 0, none⟩ = some (.int .i64 (M1 : Int)) := by rw [hW3, ← hX]; simp
    have y1 : W3.cell? ⟨X, 1, none⟩ = some (.slice a1 L1 c1) := by rw [hW3, ← hX]; simp
    have y2 : W3.cell? ⟨X, 2, none⟩ = some (.slice b1 M1 d1) := by rw [hW3, ← hX]; simp
    have hs3 : W3.heap.size = X + 1 := by rw [hW3, ← hX]; simp
    have hfar : ∀ w', Below W3.heap.size W3 w' → w'.cell? ⟨X, 0, none⟩ = some (.int .i64 (M1 : Int)) ∧ w'.cell? ⟨X, 2, none⟩ = some (.slice b1 M1 d1) := fun w' h =>
      ⟨(h.cell (p := ⟨X, 0, none⟩) (block_lt_of_cell y0)).trans y0, (h.cell (p := ⟨X, 2, none⟩) (block_lt_of_cell y2)).trans y2⟩
    have hbw3 : Below w.heap.size w W3 := (H.out.2.2.2.1.trans (HA.out.2.2.mono (by have := H.out.2.2.2.2.2; omega))).trans (hb3.mono (by have := HA.out.2.2.size; have := H.out.2.2.2.2.2; omega))
    have K78 := H.out.2.1 W3 a1 b1 c1 d1 (HA.out.1.below hb3)
    have HB := Lib.hid (And.intro K78 (And.intro (HA.out.2.1.below hb3) (And.intro hfar (And.intro hbw3 (And.intro hb3 hs3)))))
    clear hW3 hb3 hfar hbw3 K78 hs3 x0 x1 x2
    have K53 := fun (w' : World) (d' : Nat) (hh : Ints w' b1 h.cs) => clone_calls b1 d' h.cs w' hh (by rw [H.out.2.2.2.2.1]; omega)
    rw [H.out.2.2.2.2.1] at K53
    have K53 := Lib.hid K53
    try rw [hX]
    go_wp2_with (first
      | (go_at_call 64; refine HB.out.1.mono ?_; rintro r w4 ⟨G, mc, rfl, hmat, hw4⟩; obtain ⟨y0, y2⟩ := HB.out.2.2.1 _ hw4; have HC := Lib.hid (And.intro hmat hw4); clear hmat hw4 y1)
      | (go_at_call 65; refine (K53.out _ _ (HB.out.2.1.below HC.out.2)).mono ?_; rintro r w5 ⟨v, rfl, ho, hw5⟩; obtain ⟨y0, y2⟩ := HB.out.2.2.1 _ (HC.out.2.trans (hw5.mono HC.out.2.size)); have HD := Lib.hid (And.intro ho hw5); clear ho hw5))
    obtain ⟨B5, hB5⟩ : ∃ B5, w4.heap.size = B5 := ⟨_, rfl⟩
    have HB5 := Lib.hid hB5
    clear hB5 y2
    go_loopw [9, 27] (fun v i wi => ∃ (k : Nat), k ≤ M1 ∧ i = .int .i64 (k : Int) ∧ Own wi B5 v 3 (ints (h.cs ++ rowsW h.es k)) ∧ Below B5 w4 wi) (fun _ i _ => M1 - (intOf i).toNat)
    case atStart => exact ⟨0, Nat.zero_le _, rfl, by rw [← HB5.out]; simpa [rowsW] using HD.out.1, by rw [← HB5.out]; exact HD.out.2⟩
    case round =>
      obtain ⟨k, hk, rfl, hU, hb⟩ := hrel
      have hrl := rowsW_len h.es k
      by_cases hlt : k < M1
      · have hmW := HC.out.1.belowB (by rw [HB5.out]; exact hb : Below w4.heap.size w4 wr)
        obtain ⟨q, cc, g1, hqc, g2⟩ := hmW.rowAt hlt
        have hsl := fun W => slice_to23 q 0 M1 cc k (by omega) hqc W
        have hkI : (k : Int) < M1 := by omega
        have hsz : B5 ≤ wr.heap.size := by have h1 := hb.size; have h2 := HB5.out; omega
        have hkk : k * k ≤ 24 * 24 := Nat.mul_le_mul (by omega) (by omega)
        have hll : (h.cs ++ rowsW h.es k).length ≤ 1000 := by rw [List.length_append, H.out.2.2.2.2.1]; omega
        have hsrc : ∀ j y, (ints ((List.range k).map fun i => if adj h.es k i = true then 1 else 0))[j]? = some y → wr.cell? ⟨q, 0 + j, none⟩ = some y := fun j y hy => by
          have hjl := (List.getElem?_eq_some_iff.1 hy).1
          simp only [ints_len, List.length_map, List.length_range] at hjl
          rw [g2 j (by omega)]
          simp only [ints, List.getElem?_map, List.getElem?_range hjl, Option.map_some] at hy
          rw [← hy]; rfl
        have hv := hU.blk
        have HY := Lib.hid (And.intro hU (And.intro hb (And.intro hsrc (And.intro hll hsz))))
        clear hU hb hmW g2 hqc hsrc hll hkk hsz hv hrl
        go_wp2_with (at_builtin; refine appN rfl (.tmp 30) (.tmp 36) 23 3 rfl i3 (.int .i64 0) 8 Tryz.underlying23 I3.out.1 I3.out.2.1 I3.out.2.2.1 I3.out.2.2.2 rfl (by omega) B5 u9 (ints (h.cs ++ rowsW h.es k)) (ints ((List.range k).map fun i => if adj h.es k i = true then 1 else 0)) rfl HY.out.1 q 0 k cc rfl (by simp [ints]) HY.out.2.2.1 (ints_one _) (by rw [ints_len]; have := HY.out.2.2.2.1; omega) HY.out.2.2.2.2 ?_; intro v' w6 k2 k3 k4; have HZ := Lib.hid (And.intro k2 (HY.out.2.1.grown k3 HY.out.2.2.2.2 (fun g hg => by
          rcases HY.out.1.blk with e | ⟨g', _, e, h1, _⟩
          · rw [e] at hg; cases hg
          · rw [e] at hg; cases hg; exact h1))); clear k2 k3 k4)
        refine ⟨⟨k + 1, by omega, by go_num, ?_, HZ.out.2⟩, by simp [intOf]; omega⟩
        have hh := HZ.out.1
        rw [rowsW_succ, ← List.append_assoc]
        rw [show ints ((h.cs ++ rowsW h.es k) ++ (List.range k).map fun i => if adj h.es k i = true then 1 else 0) = ints (h.cs ++ rowsW h.es k) ++ ints ((List.range k).map fun i => if adj h.es k i = true then 1 else 0) by simp [ints]]
        exact hh
      · obtain rfl : k = M1 := by omega
        have hkk : k * k ≤ 24 * 24 := Nat.mul_le_mul (by omega) (by omega)
        have hll : (h.cs ++ rowsW h.es k).length ≤ 1000 := by rw [List.length_append, H.out.2.2.2.2.1]; omega
        obtain ⟨av, cv, hv, hrow⟩ := hU.row (by rw [ints_len]; unfold maxLen; omega)
        rw [ints_len] at hv
        have hI : Ints wr av (h.cs ++ rowsW h.es k) := hrow
        have HY := Lib.hid (And.intro hI (And.intro hb hv))
        clear hU hb hrow hI hll hrl hkk hv
        go_wp2
        go_ret2
        have hz := H.out.2.2.1
        rw [HY.out.2.2, hz]
        refine ⟨av, cv, rfl, HY.out.1, ?_⟩
        have h1 := HB.out.2.2.2.1
        have h2 : Below w.heap.size w w4 := h1.trans (HC.out.2.mono h1.size)
        exact h2.trans (HY.out.2.1.mono (by rw [← HB5.out]; exact h2.size))
  · rw [if_pos (by simpa using hE)] at hz
    have hEn : (E != 0) = true := by simp [hE]
    have hzz : z = ([], E) := hz.symm
    have H := Lib.hid (And.intro K35 (And.intro hzz (And.intro hb1 hsz)))
    clear K35 hzz hb1 hA hz hm hW1 he hc hp hL hM hN0 hQ hL1 hM1 hpl hsz hE
    go_enter Tryz.func43, Tryz.ntmps43
    go_upto_region 1 with (fail)
    rw [← HW.out]
    clear HW
    go_wp2_with (go_at_call 41; refine H.out.1.mono ?_; rintro r w2 ⟨a1, c1, b1, d1, rfl, q1, q2, q3⟩; have HA := Lib.hid q3; clear q1 q2 q3)
    go_ret2
    rw [H.out.2.1]
    exact ⟨none, 0, rfl, ⟨by simp [maxLen], fun i u hu => by simp at hu⟩, (H.out.2.2.1.trans (HA.out.mono (by have := H.out.2.2.2; omega))).alloc (by have := HA.out.size; have := H.out.2.2.2; omega) _⟩
end Go.Proofs.YtjjjohmppehejaaGreat

namespace Go.Proofs.YtjjjohmppehejaaGreat
open Go.RowKit Plain PlainG
def WordV (w : World) (r : List Int) (e : Ending) (w' : World) : Prop :=
  ∃ a c, e = .returned (.slice a r.length c) ∧ Ints w' a r ∧ Below w.heap.size w w'
/-- One more row of the word, begun. -/
def rowW (es : List E2) (k j : Nat) : List Int := (List.range j).map fun i => if adj es k i = true then 1 else 0
theorem rowW_succ (es : List E2) (k j : Nat) : rowW es k (j + 1) = rowW es k j ++ [adjF es j k] := by
  unfold rowW adjF
  rw [List.range_succ, List.map_append, adj_symm es j k]
  rfl
theorem rowsW_one (es : List E2) : rowsW es 1 = [] := by simp [rowsW]
theorem rowsW_zero (es : List E2) : rowsW es 0 = [] := by simp [rowsW]
end Go.Proofs.YtjjjohmppehejaaGreat
