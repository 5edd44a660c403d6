/- Cells and Refined, the program's; the sameness of rows; literals. -/
import Derived.Test.YtjjjohmppehejaaGreatMats
import Derived.Test.YtjjjohmppehejaaGreatSortB
import Derived.Test.YtjjjohmppehejaaGreatRefine
import Derived.Test.YtjjjohmppehejaaGreatChkP
set_option linter.unusedSimpArgs false
set_option linter.unusedVariables false
namespace Go.Proofs.YtjjjohmppehejaaGreat
open Go.RowKit Plain PlainG
def cellsA (g : Gr) : List (List Int) × Int := if chkGr g = 0 then ofA g.cs else ([], chkGr g)
def matG (g : Gr) : List (List Int) := matF g.n.toNat (adjF g.es)
def refinedA (g : Gr) : List (List Int) × Int := if chkGr g = 0 then refineA g.n (ofA g.cs).1 (matG g) else ([], chkGr g)
theorem ofA_ok {g : Gr} (h : chkGr g = 0) : (ofA g.cs).2 = 0 := by
  obtain ⟨h1, h2, _, h4, _⟩ := chkGr_ok.1 h
  unfold ofA; rw [if_neg (by omega)]
set_option maxHeartbeats 1000000 in
theorem gcells_calls {w : World} {a b : Option Addr} {c d : Nat} {g : Gr} (he : Edg w a g.es) (hc : Ints w b g.cs) :
    Calls Tryz.prog 76 #[.agg #[.int .i64 g.n, .slice a g.es.length c, .slice b g.cs.length d]] w fun e w' => ∃ a c, e = .returned (.tuple #[.slice a (cellsA g).1.length c, .int .i64 (cellsA g).2]) ∧ Rows w' a (cellsA g).1 ∧ Below w.heap.size w w' := by
  have hb : Below w.heap.size w (w.alloc (.cells #[.int .i64 g.n, .slice a g.es.length c, .slice b g.cs.length d] 25)) := (Below.refl _ w).alloc (Nat.le_refl _) _
  have hck := gcheck_calls (c := c) (d := d) (he.below hb) (hc.below hb)
  have hof := fun w2 (h : Below (w.alloc (.cells #[.int .i64 g.n, .slice a g.es.length c, .slice b g.cs.length d] 25)).heap.size (w.alloc (.cells #[.int .i64 g.n, .slice a g.es.length c, .slice b g.cs.length d] 25)) w2) => ofE_calls b d g.cs w2 ((hc.below hb).below h)
  obtain ⟨n, hn⟩ : ∃ n, g.n = n := ⟨_, rfl⟩
  obtain ⟨L, hL⟩ : ∃ L, g.es.length = L := ⟨_, rfl⟩
  obtain ⟨M, hM⟩ : ∃ M, g.cs.length = M := ⟨_, rfl⟩
  obtain ⟨r, hr⟩ : ∃ r, cellsA g = r := ⟨_, rfl⟩
  obtain ⟨r1, r2⟩ := r
  unfold cellsA at hr
  obtain ⟨z, hz⟩ : ∃ z, chkGr g = z := ⟨_, rfl⟩
  have hre : cellsA g = (r1, r2) := hr
  rw [hn, hL, hM] at hck hb ⊢
  rw [hn, hL, hM] at hof
  rw [hre]
  rw [hz] at hck hr
  have hbx := fun w2 h => box3 (w := w) (w2 := w2) (a := .int .i64 n) (b := .slice a L c) (c := .slice b M d) (T := 25) h
  by_cases h0 : z = 0
  · subst h0
    rw [if_pos rfl] at hr
    rw [hr] at hof
    have H := Lib.hid (And.intro hck (And.intro hb (And.intro hof hbx)))
    clear hck hb hof hbx he hc hn hL hM hz hre hr
    go_enter Tryz.func76, Tryz.ntmps76
    go_wp2_with (first
      | (go_at_call 46; refine H.out.1.mono ?_; rintro e w2 ⟨rfl, hw2⟩; have HA := Lib.hid hw2; obtain ⟨q0, q1, q2, q3⟩ := H.out.2.2.2 _ hw2; clear hw2)
      | (go_at_call 88; refine (H.out.2.2.1 _ HA.out).mono ?_; rintro e w3 ⟨a3, c3, rfl, hr3, hb3⟩; have HB := Lib.hid (And.intro hr3 hb3); clear hr3 hb3))
    go_ret2
    exact ⟨a3, c3, rfl, HB.out.1, (H.out.2.1.trans (HA.out.mono (by simp))).trans (HB.out.2.mono (by have := HA.out.size; simp at this; omega))⟩
  · rw [if_neg h0] at hr
    injection hr with hr1 hr2
    subst hr1; subst hr2
    have hzn : (z != 0) = true := by simp [h0]
    have H := Lib.hid (And.intro hck hb)
    clear hck hb hof hbx he hc hn hL hM hz hre
    go_enter Tryz.func76, Tryz.ntmps76
    go_wp2_with (go_at_call 46; refine H.out.1.mono ?_; rintro e w2 ⟨rfl, hw2⟩; have HA := Lib.hid hw2; clear hw2)
    go_ret2
    exact ⟨none, 0, rfl, Rows.empty, H.out.2.trans (HA.out.mono (by simp))⟩
theorem OwnMat.rowsF {w : World} {B G n : Nat} {cs : List Value} {f : Nat → Nat → Int} (h : OwnMat w B G n cs (matF n f)) (hn : n ≤ 1000) : Rows w (some ⟨G, 0, none⟩) (matF n f) :=
  h.rows_ (by unfold maxLen; omega) (fun xs hx => by
    have := (matF_isMat n f).2 xs hx
    unfold maxLen; omega)
set_option maxHeartbeats 2000000 in
theorem grefined_callsB {w : World} {a b : Option Addr} {c d : Nat} {g : Gr} (he : Edg w a g.es) (hc : Ints w b g.cs) :
    Calls Tryz.prog 62 #[.agg #[.int .i64 g.n, .slice a g.es.length c, .slice b g.cs.length d]] w fun e w' => ∃ a c, e = .returned (.tuple #[.slice a (refinedA g).1.length c, .int .i64 (refinedA g).2]) ∧ RowsB w.heap.size w' a (refinedA g).1 ∧ Below w.heap.size w w' := by
  have hb : Below w.heap.size w (w.alloc (.cells #[.int .i64 g.n, .slice a g.es.length c, .slice b g.cs.length d] 25)) := (Below.refl _ w).alloc (Nat.le_refl _) _
  have hck := gcells_calls (c := c) (d := d) (he.below hb) (hc.below hb)
  have hbx := fun w2 h => box3 (w := w) (w2 := w2) (a := .int .i64 g.n) (b := .slice a g.es.length c) (c := .slice b g.cs.length d) (T := 25) h
  by_cases h0 : chkGr g = 0
  · obtain ⟨n0, n1, hE0, hcl, hok⟩ := chkGr_ok.1 h0
    have hc2 := ofA_ok h0
    have hcA : cellsA g = ofA g.cs := by unfold cellsA; rw [if_pos h0]
    rw [hcA, hc2] at hck
    have hrA : refinedA g = refineA g.n (ofA g.cs).1 (matG g) := by unfold refinedA; rw [if_pos h0]
    rw [hrA]
    obtain ⟨N, hn⟩ : ∃ N : Nat, g.n = N := ⟨g.n.toNat, by omega⟩
    have hmg : matG g = matF N (adjF g.es) := by unfold matG; rw [hn]; simp
    have hml : (matF N (adjF g.es)).length = N := (matF_isMat N _).1
    have hev : ∀ x ∈ g.es, 0 ≤ x.1 ∧ x.1 < (N : Int) ∧ 0 ≤ x.2 ∧ x.2 < (N : Int) := fun x hx => by
      have := (chkE_srt hE0).2.1 x hx
      omega
    obtain ⟨l, hl⟩ : ∃ l, (ofA g.cs).1 = l := ⟨_, rfl⟩
    rw [hl] at hck
    rw [hn, hmg, hl]
    have hmat := fun w2 (h : Below w.heap.size w w2) => gmatrix_calls (c := c) (d := d) (b := b) (M := g.cs.length) (he.below h) rfl (by omega : N ≤ 100) hev
    have href := fun w2 (al : Option Addr) (cl : Nat) (am : Option Addr) (h1 : Rows w2 al l) (h2 : Rows w2 am (matF N (adjF g.es))) => refine_callsB (N : Int) al am cl N l (matF N (adjF g.es)) w2 h1 h2
    rw [hml] at href
    rw [hn] at hck hbx hb
    obtain ⟨L, hL⟩ : ∃ L, g.es.length = L := ⟨_, rfl⟩
    obtain ⟨M, hM⟩ : ∃ M, g.cs.length = M := ⟨_, rfl⟩
    rw [hL, hM] at hck hbx hb hmat
    rw [hL, hM]
    obtain ⟨r, hr⟩ : ∃ r, refineA (N : Int) l (matF N (adjF g.es)) = r := ⟨_, rfl⟩
    rw [hr] at href ⊢
    have H := Lib.hid (And.intro hck (And.intro hb (And.intro hbx (And.intro hmat href))))
    have HN := Lib.hid (show N ≤ 1000 by omega)
    clear hck hb hbx hmat href he hc h0 n0 n1 hE0 hcl hok hc2 hcA hrA hn hmg hml hev hl hL hM hr
    go_enter Tryz.func62, Tryz.ntmps62
    go_wp2_with (go_at_call 76; refine H.out.1.mono ?_; rintro e w2 ⟨a2, c2, rfl, hr2, hw2⟩; have HA := Lib.hid (And.intro hr2 hw2); obtain ⟨q0, q1, q2, q3⟩ := H.out.2.2.1 _ hw2; clear hr2 hw2)
    go_region_with (first
      | (go_at_call 64; refine (H.out.2.2.2.1 _ (below_drewN (H.out.2.1.trans (HA.out.2.mono (by simp))) _)).mono ?_; rintro e w3 ⟨G3, cs3, rfl, hm3, hw3⟩; have HB := Lib.hid (And.intro hm3 hw3); have hk3 := Lib.hid (HA.out.2.trans ((below_drewN (Below.refl w2.heap.size w2) _).trans hw3 |>.mono HA.out.2.size)); obtain ⟨p0, p1, p2, p3⟩ := H.out.2.2.1 _ hk3.out; clear hm3 hw3)
      | (go_at_call 77; refine (H.out.2.2.2.2 _ _ _ _ (HA.out.1.below ((below_drewN (Below.refl w2.heap.size w2) _).trans HB.out.2)) (HB.out.1.rowsF HN.out)).mono ?_; rintro e w4 ⟨a4, c4, rfl, hr4, hw4⟩; have HC := Lib.hid (And.intro hr4 hw4); clear hr4 hw4))
    all_goals
      go_wp2
      go_ret2
      exact ⟨a4, c4, rfl, HC.out.1.mono (by have e1 := hk3.out.size; have e2 := H.out.2.1.size; simp at e1; omega), (H.out.2.1.trans (hk3.out.mono (by simp))).trans (HC.out.2.mono (by have h1 := hk3.out.size; simp at h1; omega))⟩
  · have hcA : cellsA g = ([], chkGr g) := by unfold cellsA; rw [if_neg h0]
    have hrA : refinedA g = ([], chkGr g) := by unfold refinedA; rw [if_neg h0]
    rw [hcA] at hck
    rw [hrA]
    obtain ⟨n, hn⟩ : ∃ n, g.n = n := ⟨_, rfl⟩
    obtain ⟨L, hL⟩ : ∃ L, g.es.length = L := ⟨_, rfl⟩
    obtain ⟨M, hM⟩ : ∃ M, g.cs.length = M := ⟨_, rfl⟩
    obtain ⟨z, hz⟩ : ∃ z, chkGr g = z := ⟨_, rfl⟩
    rw [hn, hL, hM] at hck hb ⊢
    rw [hz] at hck h0 ⊢
    have hzn : (z != 0) = true := by simp [h0]
    have H := Lib.hid (And.intro hck hb)
    clear hck hb hbx he hc hn hL hM hz
    go_enter Tryz.func62, Tryz.ntmps62
    go_wp2_with (go_at_call 76; refine H.out.1.mono ?_; rintro e w2 ⟨a2, c2, rfl, hr2, hw2⟩; have HA := Lib.hid hw2; clear hr2 hw2)
    go_ret2
    exact ⟨none, 0, rfl, RowsB.none, H.out.2.trans (HA.out.mono (by simp))⟩
theorem grefined_calls {w : World} {a b : Option Addr} {c d : Nat} {g : Gr} (he : Edg w a g.es) (hc : Ints w b g.cs) :
    Calls Tryz.prog 62 #[.agg #[.int .i64 g.n, .slice a g.es.length c, .slice b g.cs.length d]] w fun e w' => ∃ a c, e = .returned (.tuple #[.slice a (refinedA g).1.length c, .int .i64 (refinedA g).2]) ∧ Rows w' a (refinedA g).1 ∧ Below w.heap.size w w' :=
  (grefined_callsB he hc).mono fun e w' ⟨a, c, h1, h2, h3⟩ => ⟨a, c, h1, h2.1, h3⟩
end Go.Proofs.YtjjjohmppehejaaGreat
