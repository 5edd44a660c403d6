/- A range over a function whose yield hands a value that the body reads in memory: the law, for a body that goes on to its end. -/
import Derived.Test.YtjjjohmppehejaaGreatVerts
import Derived.RangeFuncFrom
set_option linter.unusedSimpArgs false
set_option linter.unusedVariables false
namespace Go.Proofs.YtjjjohmppehejaaGreat
open Go.RowKit
/-- What the body must leave: it has come to its end; the blocks that lay stay, but those of S. -/
def endX {α : Type} (I : List α → World → Prop) (S : List Nat) (xs : List α) (W : World) : Exit → Act → World → Prop
  | .normal, _, W' => I xs W' ∧ Kept W W' S
  | _, _, _ => False
theorem wpIn_rangeX {P : Program} {α β : Type} {g : Operand} {ps : Array Tmp} {assign body : Code} {Q : Exit → Act → World → Prop} {a : Act} {w : World} {n : Nat}
    {gf : Nat} {lb : Array Value} (hg : a.eval g = .func (.func gf) #[] lb) (eg : ∀ args w, (callFunc gf args).run P w = .ok (.enter gf args) w)
    (enc : α → Value) (Good : α → World → Prop) (hps : ps.size = 1) (S : List Nat) (hS : ∀ s ∈ S, s < w.heap.size) (I : List β → World → Prop) (xs : List β) (pr : α → β)
    (hI : OwnFrom w.heap.size I) (hG : OwnFrom w.heap.size Good) (h0 : I [] w) (a₁ : α → Act)
    (hseq : ∀ (l : Nat) (J : List β → World → Prop) (W : World), Below w.heap.size w W → (∀ pre A B, J pre A → Below A.heap.size A B → J pre B) →
      (∀ (nn : Nat) pre x A, J pre A → Good x A → YieldAt Fence.wide nn P l #[enc x] A fun e B => e = .returned (.bool true) ∧ J (pre ++ [pr x]) B ∧ Kept A B S) → J [] W →
      Calls P gf (#[.func (.yield l) #[] #[]] ++ lb) W fun e B => (∃ v, e = .returned v) ∧ J xs B ∧ Kept W B S)
    (hassign : ∀ (nn l : Nat) (x : α) (W : World) (K : Act → World → Prop), K (a₁ x) W →
      assign.wpIn (Fence.wide.inRound l) nn P (Exit.then K (fun _ _ _ => False)) { tmps := (ps.zip #[enc x]).foldl (fun t (p, v) => t.setIfInBounds p v) a.tmps, defers := [] } W)
    (hbody : ∀ (nn l : Nat) (pre : List β) (x : α) (W : World), I pre W → Good x W → w.heap.size ≤ W.heap.size → body.wpIn (Fence.wide.inRound l) nn P (endX I S (pre ++ [pr x]) W) (a₁ x) W)
    (hdone : ∀ (D : Nat) (W : World), w.heap.size ≤ D → I xs W → Kept w W S → W.heap[D]? = some (.deferred (some [])) → Q .normal { a with defers := { target := .collected D, args := #[] } :: a.defers } W) :
    (Code.rangeFunc g ps assign body).wpIn Fence.wide n P Q a w := by
  refine wpIn_rangeFunc fun fn _ => ?_
  obtain ⟨rec, hrec⟩ : ∃ rec : LoopState → Loop, rec = fun st => { state := st, pending := none, fn, tmps := a.tmps, params := ps, assign, body, defers := w.heap.size } := ⟨_, rfl⟩
  obtain ⟨D, hD⟩ : ∃ D, w.heap.size = D := ⟨_, rfl⟩
  obtain ⟨W1, hW1⟩ : ∃ W1, (w.alloc (.deferred (some []))).alloc (.loop (rec .ready)) = W1 := ⟨_, rfl⟩
  have hL1 : W1.heap[D + 1]? = some (.loop (rec .ready)) := by
    rw [← hW1, ← hD]; have := World.alloc_heap_new (w.alloc (.deferred (some []))) (.loop (rec .ready)); rwa [World.size_alloc] at this
  have hK1 : W1.heap[D]? = some (.deferred (some [])) := by
    rw [← hW1, ← hD]; exact (Below.heap_alloc _ _ _ (by simp)).trans (World.alloc_heap_new w _)
  have hI1 : I [] W1 := by rw [← hW1]; exact hI.alloc _ (hI.alloc _ h0)
  have hs1 : W1.heap.size = D + 2 := by rw [← hW1, ← hD]; simp
  have hb1 : Below w.heap.size w W1 := by
    rw [← hW1]; exact ((Below.refl _ w).alloc (Nat.le_refl _) _).alloc (by simp) _
  have nL : D + 1 ∉ S := fun hm => by have := hS _ hm; omega
  have nD : D ∉ S := fun hm => by have := hS _ hm; omega
  have hround : Fence.wide.round = none := rfl
  rw [hround]
  refine ⟨D + 1, [{ target := .collected D, args := #[] }], W1, { target := .fn (.func gf) lb, args := #[.func (.yield (D + 1)) #[] #[]] }, W1, gf,
    #[.func (.yield (D + 1)) #[] #[]] ++ lb, W1, ?_, ?_, fun _ _ => trivial, ?_, (fun h => by cases h), ?_⟩
  · rw [← hW1, ← hD, hrec]; exact run_enterLoop_outer _ _ _ _ _
  · simp only [resolve, hg]
    simp [go_sem]
  · simp [invoke, go_sem, eg]
  · refine callsIn_wide.2 ((hseq (D + 1) (fun pre W => I pre W ∧ W.heap[D + 1]? = some (.loop (rec .ready)) ∧ W.heap[D]? = some (.deferred (some []))) W1 hb1 ?_ ?_ ⟨hI1, hL1, hK1⟩).mono ?_)
    · rintro pre A B ⟨h1, h2, h3⟩ hAB
      exact ⟨hI pre A B none h1 (grown_below hAB none) (fun r e => by cases e), (hAB.block _ (Array.getElem?_eq_some_iff.1 h2).1).trans h2, (hAB.block _ (Array.getElem?_eq_some_iff.1 h3).1).trans h3⟩
    · rintro nn pre x A ⟨h1, h2, h3⟩ hx
      have hlt : D + 1 < A.heap.size := (Array.getElem?_eq_some_iff.1 h2).1
      have hy := run_yield (P := P) (args := #[enc x]) h2 (by rw [hrec]; simp [hps])
      rw [hrec] at hy
      refine ⟨fn, _, assign, body, hy, roundIn_of_wpIn trivial (hassign nn _ x A _ ⟨_, run_beginRound h2 (by rw [hrec]), ?_⟩)⟩
      obtain ⟨A2, hA2⟩ : ∃ A2, A.putObj (D + 1) (.loop { rec .ready with state := .busy }) = A2 := ⟨_, rfl⟩
      have hl2 : A2.heap[D + 1]? = some (.loop { rec .ready with state := .busy }) := by rw [← hA2]; exact World.putObj_heap_same hlt
      have hk2 : ∀ k, k ≠ D + 1 → A2.heap[k]? = A.heap[k]? := fun k hk => by rw [← hA2]; exact World.putObj_heap_other hk
      have hs2 : A2.heap.size = A.heap.size := by rw [← hA2]; simp
      have g2 : A.grownBy A2 (some (D + 1)) := by rw [← hA2]; exact grownBy_putObj' A (D + 1) _
      have hcl : ∀ r, some (D + 1) = some r → w.heap.size ≤ r ∧ ∃ o : Obj, A.heap[r]? = some o ∧ o.isCells = false := fun r e => by
        cases e; exact ⟨by omega, _, h2, rfl⟩
      rw [hA2]
      refine wpIn_mono (hbody nn _ pre x A2 (hI _ _ _ _ h1 g2 hcl) (hG _ _ _ _ hx g2 hcl) (by omega)) ?_
      intro e a3 W3 hp
      cases e with
      | normal =>
        obtain ⟨hi3, hk3⟩ := hp
        have hl3 : W3.heap[D + 1]? = some (.loop { rec .ready with state := .busy }) := (hk3.block _ (by omega) nL).trans hl2
        have hr := run_endRound (P := P) none hl3
        have hrd : ({ rec .ready with state := .busy } : Loop) = rec .busy := by rw [hrec]
        have hfin : ({ ({ rec .ready with state := .busy } : Loop) with state := if (none : Option Code).isNone = true then .ready else .done, pending := none } : Loop) = rec .ready := by rw [hrec]; rfl
        rw [hfin] at hr
        have hl3' : D + 1 < W3.heap.size := (Array.getElem?_eq_some_iff.1 hl3).1
        refine ⟨_, _, hr, rfl, ⟨?_, World.putObj_heap_same hl3', ?_⟩, ?_⟩
        · exact hI.putObj _ hi3 (by omega) hl3 rfl
        · rw [World.putObj_heap_other (by omega)]
          exact (hk3.block _ (by omega) nD).trans ((hk2 D (by omega)).trans h3)
        · refine ⟨hk3.os.trans (g2.os), hk3.tape.trans g2.tape, hk3.output.trans g2.output, ?_, fun k hk hn => ?_⟩
          · have := hk3.size; simp only [World.putObj_size]; omega
          · by_cases e : k = D + 1
            · subst e; rw [World.putObj_heap_same hl3', h2]
            · rw [World.putObj_heap_other e, hk3.block k (by omega) hn, hk2 k e]
      | ret => exact hp.elim
      | exit id => exact hp.elim
      | goto t => exact hp.elim
      | panic ch => exact hp.elim
      | outgrown => exact hp.elim
    · rintro e W2 ⟨⟨v, rfl⟩, ⟨hi, hl, hk⟩, hkk⟩
      refine ⟨none, _, by have := run_endLoop (P := P) hl (by rw [hrec]; simp); rw [hrec] at this; exact this, ?_⟩
      have hl' : D + 1 < W2.heap.size := (Array.getElem?_eq_some_iff.1 hl).1
      refine hdone D _ (by omega) (hI.putObj _ hi (by omega) hl rfl) ?_ ((World.putObj_heap_other (by omega)).trans hk)
      refine ⟨hkk.os.trans hb1.os, hkk.tape.trans hb1.tape, hkk.output.trans hb1.output, ?_, fun k hk9 hn => ?_⟩
      · have := hkk.size; simp only [World.putObj_size]; omega
      · rw [World.putObj_heap_other (by omega), hkk.block k (by omega) hn]
        exact hb1.block k hk9
end Go.Proofs.YtjjjohmppehejaaGreat
