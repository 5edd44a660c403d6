/- Forests of parents: plain. · The forest of parents: forest, root, unite, partition. -/
import Derived.Test.YtlnikgcanimggaaGreatGroupedM
import Derived.Deep.RegionHeld3
import Derived.WalkMore
set_option linter.unusedSimpArgs false
set_option linter.unusedVariables false
namespace Go.Proofs.YtlnikgcanimggaaGreat.Plain
/-- The root of a point, by the parents fs. -/
inductive Root (fs : Nat → Nat) : Nat → Nat → Prop
  | base {p : Nat} : fs p = p → Root fs p p
  | step {p r : Nat} : fs p ≠ p → Root fs (fs p) r → Root fs p r
theorem Root.fix {fs : Nat → Nat} {p r : Nat} (h : Root fs p r) : fs r = r := by
  induction h with
  | base h => exact h
  | step _ _ ih => exact ih
theorem Root.of_fix {fs : Nat → Nat} {p r : Nat} (h : Root fs p r) (hp : fs p = p) : r = p := by
  cases h with
  | base _ => rfl
  | step h _ => exact absurd hp h
theorem Root.next {fs : Nat → Nat} {p r : Nat} (h : Root fs p r) (hp : fs p ≠ p) : Root fs (fs p) r := by
  cases h with
  | base h => exact absurd h hp
  | step _ h => exact h
def Valid (fs : Nat → Nat) : Prop := ∀ p, fs p ≤ p
theorem Root.le {fs : Nat → Nat} (hv : Valid fs) {p r : Nat} (h : Root fs p r) : r ≤ p := by
  induction h with
  | base h => exact Nat.le_refl _
  | step _ _ ih => exact Nat.le_trans ih (hv _)
def setF (fs : Nat → Nat) (p v : Nat) : Nat → Nat := fun x => if x = p then v else fs x
/-- The way to the root is halved: the roots stay. -/
theorem halve_root {fs : Nat → Nat} (hv : Valid fs) {p : Nat} (hp : fs p ≠ p) {x r : Nat} (h : Root fs x r) : Root (setF fs p (fs (fs p))) x r := by
  have hlt : fs p < p := by have := hv p; omega
  induction h with
  | @base x hx =>
    have hxp : x ≠ p := fun e => hp (e ▸ hx)
    exact .base (by rw [setF, if_neg hxp]; exact hx)
  | @step x r hx hr ih =>
    by_cases e : x = p
    · subst e
      have hy : setF fs x (fs (fs x)) (fs x) = fs (fs x) := by rw [setF, if_neg (by omega)]
      have hxx : setF fs x (fs (fs x)) x = fs (fs x) := by rw [setF, if_pos rfl]
      have hle := hv (fs x)
      refine .step (by rw [hxx]; omega) ?_
      rw [hxx]
      by_cases hyy : fs (fs x) = fs x
      · have : r = fs x := hr.of_fix hyy
        rw [hyy] at hy ⊢
        rw [this]
        exact .base (by rw [hyy] at *; exact hy)
      · have := ih.next (by rw [hy]; exact hyy)
        rwa [hy] at this
    · refine .step (by rw [setF, if_neg e]; exact hx) ?_
      rw [show setF fs p (fs (fs p)) x = fs x by rw [setF, if_neg e]]
      exact ih
theorem halve_valid {fs : Nat → Nat} (hv : Valid fs) (p : Nat) : Valid (setF fs p (fs (fs p))) := fun x => by
  rw [setF]; split
  · rename_i e; subst e; exact Nat.le_trans (hv _) (hv _)
  · exact hv x
/-- Two trees are united; the lesser root stays. -/
def uniteR (r : Nat → Nat) (p q : Nat) : Nat → Nat := fun x => if r x = max (r p) (r q) then min (r p) (r q) else r x
theorem unite_root {fs r : Nat → Nat} {p q : Nat} (hp : fs (r p) = r p) (hq : fs (r q) = r q) {x : Nat} (h : Root fs x (r x)) :
    Root (setF fs (max (r p) (r q)) (min (r p) (r q))) x (uniteR r p q x) := by
  generalize hM : max (r p) (r q) = M
  generalize hm : min (r p) (r q) = m
  have hfM : fs M = M := by rw [← hM]; rcases Nat.le_total (r p) (r q) with h | h <;> simp [Nat.max_eq_right, Nat.max_eq_left, h, hp, hq]
  have hfm : fs m = m := by rw [← hm]; rcases Nat.le_total (r p) (r q) with h | h <;> simp [Nat.min_eq_right, Nat.min_eq_left, h, hp, hq]
  have key : ∀ {x y : Nat}, Root fs x y → Root (setF fs M m) x (if y = M then m else y) := by
    intro x y h
    induction h with
    | @base x hx =>
      by_cases e : x = M
      · rw [if_pos e]
        by_cases e2 : M = m
        · rw [← e2, ← e]; exact .base (by rw [e, setF, if_pos rfl])
        · refine .step (by rw [setF, if_pos e, e]; exact fun h => e2 h.symm) ?_
          rw [setF, if_pos e]
          exact .base (by rw [setF]; split; · rfl
                          · exact hfm)
      · rw [if_neg e]; exact .base (by rw [setF, if_neg e]; exact hx)
    | @step x y hx hr ih =>
      have e : x ≠ M := fun e => hx (by rw [e]; exact hfM)
      refine .step (by rw [setF, if_neg e]; exact hx) ?_
      rw [show setF fs M m x = fs x by rw [setF, if_neg e]]
      exact ih
  unfold uniteR
  rw [hM, hm]
  exact key h
theorem unite_valid {fs : Nat → Nat} (hv : Valid fs) (a b : Nat) : Valid (setF fs (max a b) (min a b)) := fun x => by
  rw [setF]; split
  · rename_i e; subst e; omega
  · exact hv x
end Go.Proofs.YtlnikgcanimggaaGreat.Plain

namespace Go.Proofs.YtlnikgcanimggaaGreat
open Go.RowKit Go.Sort Go.Shelf Plain

/-- The block F holds the parents fs, 64 of them. -/
def ForestAt (w : World) (F : Nat) (fs : Nat → Nat) : Prop :=
  ∃ cs, w.heap[F]? = some (.cells cs 79 (0, 0)) ∧ cs.size = 64 ∧ ∀ p : Nat, p < 64 → cs[p]? = some (.int .i64 (fs p : Int))
theorem ForestAt.cell {w : World} {F : Nat} {fs : Nat → Nat} (h : ForestAt w F fs) {p : Nat} (hp : p < 64) : w.cell? ⟨F, p, none⟩ = some (.int .i64 (fs p : Int)) := by
  obtain ⟨cs, hb, _, hc⟩ := h
  rw [cell_of_row w F p cs 79 (0, 0) hb]; exact hc p hp
theorem ForestAt.frozen {w : World} {F : Nat} {fs : Nat → Nat} (h : ForestAt w F fs) (p : Nat) : w.frozen? ⟨F, p, none⟩ = false := by
  obtain ⟨cs, hb, _, hc⟩ := h
  simp [World.frozen?, hb]
theorem ForestAt.put {w : World} {F : Nat} {fs : Nat → Nat} (h : ForestAt w F fs) {p : Nat} (hp : p < 64) (v : Nat) : ForestAt (w.setCell ⟨F, p, none⟩ (.int .i64 (v : Int))) F (setF fs p v) := by
  obtain ⟨cs, hb, hs, hc⟩ := h
  refine ⟨cs.setIfInBounds p (.int .i64 (v : Int)), ?_, by simpa using hs, fun q hq => ?_⟩
  · simp [World.setCell, Array.getElem?_modify, hb]
  · rw [Array.getElem?_setIfInBounds]
    by_cases e : p = q
    · subst e; simp [setF]; omega
    · rw [if_neg e, hc q hq, setF, if_neg (fun e' => e e'.symm)]
theorem ForestAt.kept {w w' : World} {F : Nat} {fs : Nat → Nat} (h : ForestAt w F fs) {row : Option Nat} (hg : w.grownBy w' row) (hne : row ≠ some F) : ForestAt w' F fs := by
  obtain ⟨cs, hb, hs, hc⟩ := h
  have hlt : F < w.heap.size := by
    rcases Nat.lt_or_ge F w.heap.size with h | h
    · exact h
    · rw [Array.getElem?_eq_none h] at hb; cases hb
  exact ⟨cs, (hg.block F hlt (fun e => hne e.symm)).trans hb, hs, hc⟩
theorem ForestAt.lt {w : World} {F : Nat} {fs : Nat → Nat} (h : ForestAt w F fs) : F < w.heap.size := by
  obtain ⟨cs, hb, _, _⟩ := h
  rcases Nat.lt_or_ge F w.heap.size with h | h
  · exact h
  · rw [Array.getElem?_eq_none h] at hb; cases hb
/-- A forest whose roots are r. -/
def FInv (F : Nat) (r : Nat → Nat) (w : World) : Prop := ∃ fs, ForestAt w F fs ∧ Valid fs ∧ ∀ p, p < 64 → Root fs p (r p)
theorem FInv.stable (F : Nat) (r : Nat → Nat) : Stable F (FInv F r) := fun W W' row hg hne ⟨fs, h1, h2, h3⟩ => ⟨fs, h1.kept hg hne, h2, h3⟩
theorem FInv.drewN {F : Nat} {r : Nat → Nat} {w : World} (h : FInv F r w) (q : Nat) : FInv F r (w.drewN q) := h

set_option maxRecDepth 100000 in
set_option maxHeartbeats 1000000 in
theorem root_calls (F p : Nat) (hp : p < 64) (r : Nat → Nat) (w : World) (h : FInv F r w) :
    Calls Tryz.prog 46 #[.pointer (some ⟨F, 0, none⟩), .int .i64 p] w fun e w' => e = .returned (.int .i64 (r p : Int)) ∧ w.grownBy w' (some F) ∧ FInv F r w' := by
  have H0 := Lib.hid h
  clear h
  go_enter Tryz.func46, Tryz.ntmps46
  go_wp2
  go_step3
  go_wp2
  go_step3
  go_wp2
  go_loopw [1] (fun i wr => ∃ (q : Nat) (fs : Nat → Nat), q < 64 ∧ i = .int .i64 q ∧ ForestAt wr F fs ∧ Valid fs ∧ (∀ p, p < 64 → Root fs p (r p)) ∧ Root fs q (r p) ∧ w.grownBy wr (some F)) (fun i _ => (intOf i).toNat)
  case atStart =>
    obtain ⟨fs, h1, h2, h3⟩ := H0.out
    exact ⟨p, fs, hp, rfl, h1, h2, h3, h3 p hp, World.grownBy.refl _ _⟩
  case round =>
    obtain ⟨q, fs, hq, rfl, hf, hv, hr, hq2, hg⟩ := hrel
    have hc := hf.cell hq
    have hfz := hf.frozen q
    have hle := hv q
    have H := Lib.hid (And.intro hf (And.intro hv (And.intro hr (And.intro hq2 hg))))
    have hc2 := hf.cell (p := fs q) (by omega)
    have hle2 := hv (fs q)
    clear hf hv hr hq2 hg
    by_cases e : fs q = q
    · have he := H.out.2.2.2.1.of_fix e
      rw [e] at hc
      have He := Lib.hid he
      clear hc2 e hle hle2 he
      go_wp2
      rw [Exit.noGoto_ret]
      go_ret
      exact ⟨ret_int (by rw [He.out]), H.out.2.2.2.2, fs, H.out.1, H.out.2.1, H.out.2.2.1⟩
    · have Hn := Lib.hid e
      obtain ⟨y, hy⟩ : ∃ y, fs q = y := ⟨_, rfl⟩
      obtain ⟨z, hz⟩ : ∃ z, fs y = z := ⟨_, rfl⟩
      rw [hy] at hc hc2 hle hle2 e
      rw [hz] at hc2 hle2
      have hne : ((y : Int) == (q : Int)) = false := by simp; omega
      have hy64 : y < 64 := by omega
      have Hy := Lib.hid (And.intro hy hz)
      clear hy hz e
      go_wp2
      go_region
      go_wp2
      have ez : fs (fs q) = z := by rw [Hy.out.1, Hy.out.2]
      have hr2 := halve_root H.out.2.1 Hn.out H.out.2.2.2.1
      have hput := H.out.1.put hq z
      have hzq : z ≠ q := by have := Hn.out; rw [Hy.out.1] at this; omega
      rw [ez] at hr2
      refine ⟨⟨z, setF fs q z, by omega, rfl, hput, by rw [← ez]; exact halve_valid H.out.2.1 q, fun p hp => by rw [← ez]; exact halve_root H.out.2.1 Hn.out (H.out.2.2.1 p hp), ?_, grown_new H.out.2.2.2.2 ((grown_put q _).trans (grown_drewN _ 1 _)) (fun g hg => .inr (by cases hg; rfl))⟩, by simp [intOf]; omega⟩
      have := hr2.next (by rw [setF, if_pos rfl]; exact hzq)
      rwa [setF, if_pos rfl] at this

theorem uniteR_lt {r : Nat → Nat} (hr : ∀ p, p < 64 → r p < 64) {p q : Nat} (hp : p < 64) (hq : q < 64) : ∀ x, x < 64 → uniteR r p q x < 64 := fun x hx => by
  have := hr p hp
  have := hr q hq
  have := hr x hx
  rw [uniteR]; split <;> omega
theorem FInv.lt64 {F : Nat} {r : Nat → Nat} {w : World} (h : FInv F r w) : ∀ p, p < 64 → r p < 64 := fun p hp => by
  obtain ⟨fs, _, hv, hr⟩ := h
  have := (hr p hp).le hv
  omega

set_option maxRecDepth 100000 in
set_option maxHeartbeats 1000000 in
theorem unite_calls (F p q : Nat) (hp : p < 64) (hq : q < 64) (r : Nat → Nat) (w : World) (h : FInv F r w) :
    Calls Tryz.prog 22 #[.pointer (some ⟨F, 0, none⟩), .int .i64 p, .int .i64 q] w fun e w' => e = .returned (.tuple #[]) ∧ w.grownBy w' (some F) ∧ FInv F (uniteR r p q) w' := by
  have h1 := root_calls F p hp r w h
  have h2 := fun (w1 : World) (h : FInv F r w1) => root_calls F q hq r w1 h
  have hl := h.lt64
  have hpl := hl p hp
  have hql := hl q hq
  have H1 := Lib.hid h1
  have H2 := Lib.hid h2
  obtain ⟨a, ha⟩ : ∃ a, r p = a := ⟨_, rfl⟩
  obtain ⟨b, hb⟩ : ∃ a, r q = a := ⟨_, rfl⟩
  rw [ha] at H1 hpl
  rw [hb] at H2 hql
  have Ha := Lib.hid (And.intro ha hb)
  clear h1 h2 h hl ha hb
  go_enter Tryz.func22, Tryz.ntmps22
  go_wp2_with fail
  refine H1.out.mono ?_
  rintro e w1 ⟨rfl, hg1, hi1⟩
  have H3 := Lib.hid (And.intro hg1 hi1)
  clear hg1 hi1
  go_wp2_with fail
  refine (H2.out w1 H3.out.2).mono ?_
  rintro e w2 ⟨rfl, hg2, hi2⟩
  obtain ⟨fs, hf, hv, hr⟩ := hi2
  have hM : max a b < 64 := by omega
  have hc1 := hf.cell hM
  have hz1 := hf.frozen (max a b)
  have hput := hf.put hM (min a b)
  have hfix1 : fs a = a := by have := (hr p hp).fix; rwa [Ha.out.1] at this
  have hfix2 : fs b = b := by have := (hr q hq).fix; rwa [Ha.out.2] at this
  have hfin : FInv F (uniteR r p q) (w2.setCell ⟨F, max a b, none⟩ (.int .i64 ((min a b : Nat) : Int))) := by
    refine ⟨_, hput, unite_valid hv a b, fun x hx => ?_⟩
    have := unite_root (fs := fs) (r := r) (p := p) (q := q) (by rw [Ha.out.1]; exact hfix1) (by rw [Ha.out.2]; exact hfix2) (hr x hx)
    rwa [Ha.out.1, Ha.out.2] at this
  have hgr : w.grownBy (w2.setCell ⟨F, max a b, none⟩ (.int .i64 ((min a b : Nat) : Int))) (some F) := (grown_new H3.out.1 hg2 (fun g hg => .inr (by cases hg; rfl))).trans (grown_put _ _)
  have H4 := Lib.hid (And.intro hgr hfin)
  clear hg2 hf hv hr hput hfix1 hfix2 hfin hgr
  obtain ⟨M, hMe⟩ : ∃ M, max a b = M := ⟨_, rfl⟩
  obtain ⟨m, hme⟩ : ∃ m, min a b = m := ⟨_, rfl⟩
  have e1 : max (a : Int) (b : Int) = (M : Int) := by omega
  have e2 : min (a : Int) (b : Int) = (m : Int) := by omega
  rw [hMe] at hc1 hz1 hM
  rw [hMe, hme] at H4
  clear hMe hme
  go_wp2
  go_end0
  exact ⟨rfl, H4.out⟩

theorem ForestAt.new (w : World) : ForestAt (w.alloc (.cells (Array.replicate 64 (.int .i64 0)) 79)) w.heap.size (fun _ => 0) := by
  refine ⟨_, heap_alloc_new w _, by simp, fun p hp => ?_⟩
  rw [Array.getElem?_replicate, if_pos hp]; rfl
def firstF (i : Nat) : Nat → Nat := fun x => if x < i then x else 0
theorem firstF_set (i : Nat) : setF (firstF i) i i = firstF (i + 1) := by
  funext x
  unfold setF firstF
  by_cases h : x = i
  · rw [if_pos h, if_pos (by omega), h]
  · rw [if_neg h]
    by_cases h2 : x < i
    · rw [if_pos h2, if_pos (by omega)]
    · rw [if_neg h2, if_neg (by omega)]
set_option maxRecDepth 100000 in
set_option maxHeartbeats 1000000 in
theorem forest_calls (w : World) : Calls Tryz.prog 20 #[] w fun e w' => ∃ F, e = .returned (.pointer (some ⟨F, 0, none⟩)) ∧ F = w.heap.size ∧ FInv F id w' ∧ Below w.heap.size w w' := by
  have hM := Lib.hid (ForestAt.new w)
  have hbl : Below w.heap.size w (w.alloc (.cells (Array.replicate 64 (.int .i64 0)) 79)) := (Below.refl _ _).alloc (Nat.le_refl _) _
  have hB := Lib.hid hbl
  clear hbl
  obtain ⟨F, hF⟩ : ∃ F, F = w.heap.size := ⟨_, rfl⟩
  have HF := Lib.hid hF
  rw [← hF] at hM
  go_enter Tryz.func20, Tryz.ntmps20
  go_wp2
  rw [← hF]
  clear hF
  go_loopw [3] (fun i wr => ∃ i' : Nat, i' ≤ 64 ∧ i = .int .i64 i' ∧ ForestAt wr F (firstF i') ∧ Below w.heap.size w wr) (fun i _ => 64 - (intOf i).toNat)
  case atStart => exact ⟨0, by omega, rfl, hM.out, hB.out⟩
  case round =>
    clear hM hB
    obtain ⟨i, hi, rfl, hf, hb⟩ := hrel
    by_cases hlt : i < 64
    · have hc := hf.cell hlt
      have hz := hf.frozen i
      have hput := hf.put hlt i
      rw [firstF_set] at hput
      have hb2 := hb.setCell (p := ⟨F, i, none⟩) (by rw [HF.out]; exact Nat.le_refl _) (.int .i64 (i : Int))
      have H := Lib.hid (And.intro hput hb2)
      clear hf hb hput hb2
      go_wp2
      exact ⟨⟨i + 1, by omega, by go_num, H.out⟩, by simp [intOf]; omega⟩
    · obtain rfl : i = 64 := by omega
      have H := Lib.hid (And.intro hf hb)
      clear hf hb
      go_wp2
      go_ret
      refine ⟨F, rfl, HF.out, ⟨_, H.out.1, fun x => ?_, fun p hp => ?_⟩, H.out.2⟩
      · unfold firstF; split <;> omega
      · exact .base (by unfold firstF; rw [if_pos hp])

set_option maxRecDepth 100000 in
set_option maxHeartbeats 2000000 in
theorem partition1_calls (F B x y : Nat) (hx : x < 64) (hy : y < 64) (r : Nat → Nat) (w : World) (h : FInv F r w) (hB : w.cell? ⟨B, 0, none⟩ = some (.pointer (some ⟨F, 0, none⟩))) (hne : B ≠ F) (hlt : B < w.heap.size) :
    Calls Tryz.prog 47 #[.int .i64 x, .int .i64 y, .pointer (some ⟨B, 0, none⟩)] w fun e w' => e = .returned (.int .i64 ((r x : Int) - r y)) ∧ w.grownBy w' (some F) ∧ FInv F r w' := by
  have hl := h.lt64
  have hrx := hl x hx
  have hry := hl y hy
  have h1 := fun (w1 : World) (h : FInv F r w1) => root_calls F x hx r w1 h
  have h2 := fun (w1 : World) (h : FInv F r w1) => root_calls F y hy r w1 h
  have H1 := Lib.hid h1
  have H2 := Lib.hid h2
  obtain ⟨a, ha⟩ : ∃ a, r x = a := ⟨_, rfl⟩
  obtain ⟨b, hb⟩ : ∃ a, r y = a := ⟨_, rfl⟩
  rw [ha] at H1 hrx ⊢
  rw [hb] at H2 hry ⊢
  have hg0 : w.grownBy w.drew (some F) := grown_drewN w 1 _
  have hi0 : FInv F r w.drew := h
  have hB0 : w.drew.cell? ⟨B, 0, none⟩ = some (.pointer (some ⟨F, 0, none⟩)) := hB
  have hw1 : IntKind.i64.wrap ((a : Int) - (b : Int)) = (a : Int) - (b : Int) := IntWalk.i64_in _ (by omega)
  clear h1 h2 hl ha hb
  have keepB : ∀ w1 w2 : World, w1.grownBy w2 (some F) → w.grownBy w1 (some F) → w1.cell? ⟨B, 0, none⟩ = some (.pointer (some ⟨F, 0, none⟩)) → w2.cell? ⟨B, 0, none⟩ = some (.pointer (some ⟨F, 0, none⟩)) := fun w1 w2 hg hg0 h => (World.cell?_of_block (hg.block B (by have := hg0.size; omega) (by intro e; exact hne (Option.some.inj e)))).trans h
  have KB := Lib.hid keepB
  clear keepB h hB
  go_enter Tryz.func47, Tryz.ntmps47
  go_wp2
  go_region_held3 (fun w' => w'.cell? ⟨B, 0, none⟩ = some (.pointer (some ⟨F, 0, none⟩)) ∧ FInv F r w' ∧ w.grownBy w' (some F))
    (first | assumption | exact ⟨hB0, hi0, hg0⟩ | (go_split_ands; exact ⟨KB.out _ _ hgA (by assumption) (by assumption), hiA, grown_new (by assumption) hgA (fun g hg => .inr (by cases hg; rfl))⟩))
    (first
      | (go_at_call 46; go_split_ands; with_reducible refine (H1.out _ (by assumption)).mono ?_; rintro e w' ⟨rfl, hgA, hiA⟩)
      | (go_at_call 46; go_split_ands; with_reducible refine (H2.out _ (by assumption)).mono ?_; rintro e w' ⟨rfl, hgA, hiA⟩))
  all_goals
    go_split_ands
    go_wp2
    go_ret
    exact ⟨rfl, by assumption, by assumption⟩

theorem cmp_one (x y : Nat) : ((x : Int) - y < 0 ↔ cmpL [(x : Int)] [(y : Int)] < 0) ∧ ((x : Int) - y = 0 ↔ [(x : Int)] = [(y : Int)]) := by
  rcases Nat.lt_trichotomy x y with h | h | h
  · rw [cmpL_lt (by omega)]
    refine ⟨⟨fun _ => by omega, fun _ => by omega⟩, ⟨fun h => by omega, fun h => ?_⟩⟩
    injection h with h _; omega
  · subst h
    refine ⟨⟨fun h => by omega, fun h => ?_⟩, ⟨fun _ => rfl, fun _ => by omega⟩⟩
    rw [cmpL_self] at h; omega
  · rw [cmpL_gt (by omega)]
    refine ⟨⟨fun h => by omega, fun h => by omega⟩, ⟨fun h => by omega, fun h => ?_⟩⟩
    injection h with h _; omega

set_option maxRecDepth 100000 in
set_option maxHeartbeats 1000000 in
theorem partitionF_calls (F n : Nat) (hn : n ≤ 64) (r : Nat → Nat) (w : World) (h : FInv F r w) :
    Calls Tryz.prog 23 #[.pointer (some ⟨F, 0, none⟩), .int .i64 n] w fun e w' => ∃ a c P, e = .returned (.slice a (P.map (·.map Int.ofNat)).length c) ∧ Rows w' a (P.map (·.map Int.ofNat)) ∧ IsPart (fun x => [(r x : Int)]) (· < n) P ∧ w.grownBy w' (some F) := by
  have hlt : F < w.heap.size := by obtain ⟨fs, hf, _⟩ := h; exact hf.lt
  have hga : w.grownBy (w.alloc (.cells #[.pointer (some ⟨F, 0, none⟩)] 47)) none := grown_alloc w _ none
  have hi1 : FInv F r (w.alloc (.cells #[.pointer (some ⟨F, 0, none⟩)] 47)) := FInv.stable F r _ _ none hga (by simp) h
  have hcb : (w.alloc (.cells #[.pointer (some ⟨F, 0, none⟩)] 47)).cell? ⟨w.heap.size, 0, none⟩ = some (.pointer (some ⟨F, 0, none⟩)) := by simp [go_sem]
  have hok : CmpMut (w.alloc (.cells #[.pointer (some ⟨F, 0, none⟩)] 47)) 47 #[.pointer (some ⟨w.heap.size, 0, none⟩)] n (fun x y => (r x : Int) - r y) F (FInv F r) := by
    refine ⟨enters_of Tryz.func47 (by kernel_rfl) rfl, FInv.stable F r, by simp; omega, fun W hW cs fr e => ?_, fun W hg hi x y hx hy => ?_⟩
    · obtain ⟨fs, ⟨cs', hb, _⟩, _⟩ := hW
      rw [hb] at e
      injection e with e
      injection e with _ e2
      exact absurd e2 (by decide)
    · refine partition1_calls F w.heap.size x y (by omega) (by omega) r W hi ?_ (by omega) ?_
      · rw [World.cell?_of_block (hg.block w.heap.size (by simp) (by intro e; have e2 : w.heap.size = F := Option.some.inj e; omega))]; exact hcb
      · have := hg.size; simp at this; omega
  have hg := groupedM_calls n hn (fun x => [(r x : Int)]) 47 _ _ F (FInv F r) _ hok hi1 (fun x y _ _ => cmp_one (r x) (r y))
  have H := Lib.hid (And.intro hg (grown_alloc w (.cells #[.pointer (some ⟨F, 0, none⟩)] 47) (some F)))
  clear hg hga hi1 hcb hok h
  go_enter Tryz.func23, Tryz.ntmps23
  go_wp2_with (go_at_call 36; refine H.out.1.mono ?_; rintro e w1 ⟨a1, c1, P, rfl, hr, hp, hb1⟩; have H1 := Lib.hid (And.intro hr (And.intro hp hb1)); clear hr hp hb1)
  go_ret
  exact ⟨a1, c1, P, by rw [List.length_map]; rfl, H1.out.1, H1.out.2.1, grown_new H.out.2 H1.out.2.2 (fun g hg => .inr (by cases hg; rfl))⟩
end Go.Proofs.YtlnikgcanimggaaGreat
