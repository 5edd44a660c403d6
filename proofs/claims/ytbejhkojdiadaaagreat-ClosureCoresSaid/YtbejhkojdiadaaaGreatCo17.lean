/- append of whatever row is read, also an empty one without an address. · A range over a function whose yield hands a value that the body reads in memory: the law by states and by a list of the blocks that the body writes, with a return out of the body. · conjugates: an iterator over the conjugates of a list that may grow meanwhile. · normal: the reference's. · What reads cells alone lasts while blocks that are no cells turn. -/
import Derived.Test.YtbejhkojdiadaaaGreatCo01
import Derived.Test.YtbejhkojdiadaaaGreatCo02
import Derived.Test.YtbejhkojdiadaaaGreatCo03
import Derived.Test.YtbejhkojdiadaaaGreatCo04
import Derived.Test.YtbejhkojdiadaaaGreatCo05
import Derived.Test.YtbejhkojdiadaaaGreatCo06
import Derived.Test.YtbejhkojdiadaaaGreatCo07
import Derived.Test.YtbejhkojdiadaaaGreatCo08
import Derived.Test.YtbejhkojdiadaaaGreatCo09
import Derived.Test.YtbejhkojdiadaaaGreatCo10
import Derived.Test.YtbejhkojdiadaaaGreatCo11
import Derived.Test.YtbejhkojdiadaaaGreatCo12
import Derived.Test.YtbejhkojdiadaaaGreatCo13
import Derived.Test.YtbejhkojdiadaaaGreatCo14
import Derived.Test.YtbejhkojdiadaaaGreatCo15
import Derived.Test.YtbejhkojdiadaaaGreatCo16
import Derived.Test.YtbejhkojdiadaaaGreatProg
import Derived.Deep.AppendSrc
import Derived.RangeFuncFrom
import Derived.WalkKit
import Derived.WalkSpells
import Derived.BigQuiet
import Derived.Deep.QuietTactic
import Derived.Deep.LoopGhost
import Derived.Lib.Hide
import Derived.Maps.AppendAt
import Derived.Deep.AppendLies
import Derived.StillTailTactics
import Derived.Laws.CopyOwn
import Derived.Deep.OwnRows
import Derived.Deep.DeepCutAuto
import Derived.Laws.Cover3
import Derived.Deep.RegionHeld3
import Derived.RangeFuncRecord
import Derived.Lib.SlicesSearch
import Derived.RangeFuncBox
import Derived.RangeFuncLeaves
import Derived.RangeFuncWrites
import Derived.Shelf.Abstract
import Derived.OwnWalkIn
import Derived.TacticsInMore
import Derived.LoopNIn
import Derived.LoopIn
import Derived.Shelf.GgSortFunc.Insertion
import Derived.Shelf.SlIter.Collect
import Derived.Shelf.Sort.Plain
import Derived.Deep.RegionLaw
import Derived.ControlIn
set_option linter.unusedSimpArgs false
set_option linter.unusedVariables false
namespace Go.Proofs.YtbejhkojdiadaaaGreat
open Go.RowKit PlainPm
theorem run_app_row {P : Program} {w : World} {B : Nat} (T ty e : TypeId) (i : TypeInfo) (z : Value) (bytes : Nat) (ht : P.underlying T = some (.slice e)) (hi : P.info? e = some i) (hz : i.zero = some z) (hs1 : i.size = 1) (hby : i.bytes = bytes) (hzs : z.cells.size = 1) (hb64 : bytes ≤ 64)
    {v : Value} {xs ys : List Value} (h : Own w B v e xs) {a : Option Addr} {m c : Nat} (hr : Row w a ys) (hm : ys.length = m) (h1 : ∀ y ∈ ys, y.oneCell' = true) (hl : xs.length + m < 1000000) (hB : B ≤ w.heap.size) :
    ∃ v' w', (Builtin.append_ #[T, T] ty #[v, .slice a m c]).run P w = .ok v' w' ∧ Own w' B v' e (xs ++ ys) ∧ w.grownBy w' v.ownBlock ∧ (v'.ownBlock = v.ownBlock ∨ ∃ g, v'.ownBlock = some g ∧ w.heap.size ≤ g) := by
  cases a with
  | some ad =>
    obtain ⟨v', w', hr', h2, h3, _, h5⟩ := run_append_own_at (P := P) w B T ty e i z 1 bytes ht hi hz hs1 hby hzs (by omega) v xs.length xs h ad m c ys (by omega) (by
      intro j y hj
      obtain ⟨b, o, ea, _, hc⟩ := hr.2 j y hj
      cases ea
      rw [add_zero_addr]; exact hc) h1 (by unfold maxLen; omega) (Nat.le_trans (Nat.mul_le_mul_left _ hb64) (by omega)) hB
    refine ⟨v', w', hr', by unfold Own; rw [List.length_append, hm]; exact h2, h3, ?_⟩
    rcases h5 with h5 | h5
    · exact .inl h5
    · exact .inr ⟨_, h5, Nat.le_refl _⟩
  | none =>
    have hy : ys = [] := by
      cases ys with
      | nil => rfl
      | cons y r => obtain ⟨b, o, ea, _⟩ := hr.2 0 y rfl; cases ea
    subst hy
    have hm0 : m = 0 := by rw [← hm]; rfl
    subst hm0
    rw [List.append_nil]
    obtain ⟨hlen, hv⟩ := (show w.ownsRow B e 1 v xs.length xs from h)
    rcases hv with ⟨hv, hx⟩ | ⟨g, cap, cur, hv, hg, hcur, hle, hcap, h3, h4⟩
    · subst hv
      refine ⟨_, w, ?_, h, grown_below (Below.refl _ _) _, .inl rfl⟩
      simp [Builtin.append_, run_underlying ht, sizeOf, typeInfo, hi, Builtin.lenOf, Builtin.firstCells]
    · subst hv
      refine ⟨_, w, ?_, h, grown_below (Below.refl _ _) _, .inl rfl⟩
      have := run_append_room_src (P := P) w T T ty e i ht hi g 0 xs.length cap (.slice none 0 c) 0 [] (Src.ofNil w ht c) (by omega) (fun j hj => by simp at hj) (fun j hj => by simp at hj)
      simpa [World.setCells] using this
theorem step_appR {w : World} {ops : Array Oper} {o : Oper} {a : Act} {K : Act → World → Prop} {Q : Exit → Act → World → Prop} {E : Prop} (hgd : o.guard = none) (s x : Operand) (T e : TypeId)
    (ho : o.op = .call { callee := .builtin .append, args := #[s, x], argTypes := #[T, T] })
    (i : TypeInfo) (z : Value) (bytes : Nat) (ht : Tryz.prog.underlying T = some (.slice e)) (hi : Tryz.prog.info? e = some i) (hz : i.zero = some z) (hs1 : i.size = 1) (hby : i.bytes = bytes) (hzs : z.cells.size = 1) (hb64 : bytes ≤ 64)
    (B : Nat) (v : Value) (xs ys : List Value) (hs : a.eval s = v) (Wb : World) (h : Own Wb B v e xs) (sa : Option Addr) (m c : Nat) (hx : a.eval x = .slice sa m c) (hr : Row Wb sa ys) (hm : ys.length = m)
    (h1 : ∀ y ∈ ys, y.oneCell' = true) (hl : xs.length + m < 1000000) (hB : B ≤ Wb.heap.size) (hb : Below Wb.heap.size Wb w)
    (hK : ∀ v' w', Own w' B v' e (xs ++ ys) → Wb.grownBy w' v.ownBlock → K (a.put o.dst v') w') :
    if Region.wanted o (yielded ops a.tmps) = true then Oper.wp Tryz.prog o a w K Q else E := by
  have hw : Region.wanted o (yielded ops a.tmps) = true := by simp [Region.wanted, hgd]
  rw [if_pos hw]
  obtain ⟨v', w', hrr, h2, h3, _⟩ := run_app_row (P := Tryz.prog) T o.type e i z bytes ht hi hz hs1 hby hzs hb64 (h.below hb) (hr.below hb) hm h1 hl (Nat.le_trans hB hb.size) (c := c)
  unfold Oper.wp execOp
  simp only [ho, resolve, invoke, builtin, Sem.run_bind, Sem.run_pure, Result.andThen_ok, List.map_toArray, List.map_cons, List.map_nil, hs, hx, hrr]
  exact hK v' w' h2 ((grown_below hb _).trans h3)
end Go.Proofs.YtbejhkojdiadaaaGreat
namespace Go.Proofs.YtbejhkojdiadaaaGreat
open Go.RowKit
def OwnFromS {σ : Type} (B : Nat) (I : σ → List Nat → World → Prop) : Prop := OwnFrom B (fun (s : σ × List Nat) => I s.1 s.2)
def OwnFromW (B : Nat) (I : World → Prop) : Prop := OwnFrom B (fun (_ : Unit) => I)
def postY {σ : Type} (I : σ → List Nat → World → Prop) (Ix : World → Prop) (M : List Nat) (R : σ → Prop) (W : World) : Exit → Act → World → Prop
  | .normal, _, W' => ∃ s M', R s ∧ I s M' W' ∧ Stp W M W' M'
  | .ret, _, W' => Ix W' ∧ Kept W W' M
  | _, _, _ => False
def SeqY {α σ : Type} (P : Program) (gf : Nat) (lb : Array Value) (enc : α → Value) (Core : σ → List Nat → World → Prop) (Good : σ → List Nat → α → World → Prop) (nx : σ → α → σ → Prop) (Fin : σ → Prop) (s0 : σ) (M0 : List Nat) (w : World) : Prop :=
  ∀ (l : Nat) (J : σ → List Nat → World → Prop) (Jx : World → Prop) (W : World), Below w.heap.size w W → w.heap.size ≤ l → l < W.heap.size → OwnFromS W.heap.size J → OwnFromW W.heap.size Jx → (∀ s M A, J s M A → Core s M A ∧ ∀ m ∈ M, m < A.heap.size) →
      (∀ (nn : Nat) s M x A, J s M A → Good s M x A → YieldAt Fence.wide nn P l #[enc x] A fun e B => (e = .returned (.bool true) ∧ ∃ s' M', nx s x s' ∧ J s' M' B ∧ Stp A M B M') ∨ (e = .returned (.bool false) ∧ Jx B ∧ Kept A B (l :: M))) → J s0 M0 W →
      Calls P gf (#[.func (.yield l) #[] #[]] ++ lb) W fun e B => (∃ v, e = .returned v) ∧ ((∃ s M, Fin s ∧ J s M B ∧ Stp W M0 B M) ∨ (Jx B ∧ Kept W B (l :: M0)))
theorem wpIn_rangeYD {P : Program} {α σ : Type} {g : Operand} {ps : Array Tmp} {assign body : Code} {Q : Exit → Act → World → Prop} {a : Act} {w : World} {n : Nat}
    {gf : Nat} {lb : Array Value} (hg : a.eval g = .func (.func gf) #[] lb) (eg : ∀ args w, (callFunc gf args).run P w = .ok (.enter gf args) w)
    (enc : α → Value) (hps : ps.size = 1) (M0 : List Nat) (hM0 : ∀ m ∈ M0, m < w.heap.size) (I : σ → List Nat → World → Prop) (Ix : World → Prop) (Core : σ → List Nat → World → Prop) (Good : σ → List Nat → α → World → Prop) (nx : σ → α → σ → Prop) (Fin : σ → Prop) (s0 : σ)
    (hseq : SeqY P gf lb enc Core Good nx Fin s0 M0 w)
    (hI : OwnFromS w.heap.size I) (hIx : OwnFromW w.heap.size Ix) (hG : ∀ s M, OwnFrom w.heap.size (Good s M)) (hC : ∀ s M A, I s M A → Core s M A ∧ ∀ m ∈ M, m < A.heap.size) (h0 : I s0 M0 w) (a₁ : α → Act)
    (hassign : ∀ (nn l : Nat) (x : α) (W : World) (K : Act → World → Prop), K (a₁ x) W →
      assign.wpIn (Fence.wide.inRound l) nn P (Exit.then K (fun _ _ _ => False)) { tmps := (ps.zip #[enc x]).foldl (fun t (p, v) => t.setIfInBounds p v) a.tmps, defers := [] } W)
    (hbody : ∀ (nn l : Nat) (s : σ) (M : List Nat) (x : α) (W : World), I s M W → Good s M x W → Stp w M0 W M → body.wpIn (Fence.wide.inRound l) nn P (postY I Ix M (nx s x) W) (a₁ x) W)
    (hdone : ∀ (D : Nat) (s : σ) (M : List Nat) (W : World), w.heap.size ≤ D → Fin s → I s M W → Stp w M0 W M → W.heap[D]? = some (.deferred (some [])) → D ∉ M → Q .normal { a with defers := { target := .collected D, args := #[] } :: a.defers } W)
    (hstop : ∀ (D : Nat) (W : World), w.heap.size ≤ D → Ix W → Kept w W M0 → W.heap[D]? = some (.deferred (some [])) → Code.ret.wpIn Fence.wide n P Q { a with defers := { target := .collected D, args := #[] } :: a.defers } W) :
    (Code.rangeFunc g ps assign body).wpIn Fence.wide n P Q a w := by
  refine wpIn_rangeFunc fun fn _ => ?_
  obtain ⟨rec, hrec⟩ : ∃ rec : LoopState → Option Code → Loop, rec = fun st pe => { state := st, pending := pe, fn, tmps := a.tmps, params := ps, assign, body, defers := w.heap.size } := ⟨_, rfl⟩
  obtain ⟨D, hD⟩ : ∃ D, w.heap.size = D := ⟨_, rfl⟩
  obtain ⟨W1, hW1⟩ : ∃ W1, (w.alloc (.deferred (some []))).alloc (.loop (rec .ready none)) = W1 := ⟨_, rfl⟩
  have hL1 : W1.heap[D + 1]? = some (.loop (rec .ready none)) := by
    rw [← hW1, ← hD]; have := World.alloc_heap_new (w.alloc (.deferred (some []))) (.loop (rec .ready none)); rwa [World.size_alloc] at this
  have hK1 : W1.heap[D]? = some (.deferred (some [])) := by
    rw [← hW1, ← hD]; exact (Below.heap_alloc _ _ _ (by simp)).trans (World.alloc_heap_new w _)
  have hI1 : I s0 M0 W1 := by rw [← hW1]; exact OwnFrom.alloc hI (s := (s0, M0)) _ (OwnFrom.alloc hI (s := (s0, M0)) _ h0)
  have hs1 : W1.heap.size = D + 2 := by rw [← hW1, ← hD]; simp
  have hb1 : Below w.heap.size w W1 := by
    rw [← hW1]; exact ((Below.refl _ w).alloc (Nat.le_refl _) _).alloc (by simp) _
  have hround : Fence.wide.round = none := rfl
  rw [hround]
  refine ⟨D + 1, [{ target := .collected D, args := #[] }], W1, { target := .fn (.func gf) lb, args := #[.func (.yield (D + 1)) #[] #[]] }, W1, gf,
    #[.func (.yield (D + 1)) #[] #[]] ++ lb, W1, ?_, ?_, fun _ _ => trivial, ?_, (fun h => by cases h), ?_⟩
  · rw [← hW1, ← hD, hrec]; exact run_enterLoop_outer _ _ _ _ _
  · simp only [resolve, hg]
    simp [go_sem]
  · simp [invoke, go_sem, eg]
  · have hle : w.heap.size ≤ W1.heap.size := by omega
    have keepB : ∀ {A B : World} {row : Option Nat} {k : Nat} {o : Obj}, A.heap[k]? = some o → k < W1.heap.size → A.grownBy B row → (∀ r, row = some r → W1.heap.size ≤ r ∧ ∃ o : Obj, A.heap[r]? = some o ∧ o.isCells = false) → B.heap[k]? = some o := fun {A B row k o} hk hlt hg' hr =>
      (hg'.block k (Array.getElem?_eq_some_iff.1 hk).1 (fun e => by have := (hr k e.symm).1; omega)).trans hk
    refine callsIn_wide.2 ((hseq (D + 1) (fun s M W => (I s M W ∧ Stp w M0 W M) ∧ W.heap[D + 1]? = some (.loop (rec .ready none)) ∧ W.heap[D]? = some (.deferred (some [])) ∧ D ∉ M ∧ D + 1 ∉ M)
      (fun W => Ix W ∧ W.heap[D + 1]? = some (.loop (rec .done (some .ret))) ∧ W.heap[D]? = some (.deferred (some []))) W1 hb1 (by omega) (by omega) ?_ ?_ (fun s M A h => hC s M A h.1.1) ?_ ⟨⟨hI1, Stp.below hb1⟩, hL1, hK1, fun hm => by have := hM0 _ hm; omega, fun hm => by have := hM0 _ hm; omega⟩).mono ?_)
    · rintro ⟨s, M⟩ A B row ⟨⟨h1, hst⟩, h2, h3, h4⟩ hAB hr
      refine ⟨⟨hI (s, M) A B row h1 hAB (fun r e => ⟨Nat.le_trans hle (hr r e).1, (hr r e).2⟩), ⟨⟨hAB.os.trans hst.kept.os, hAB.tape.trans hst.kept.tape, hAB.output.trans hst.kept.output, Nat.le_trans hst.kept.size hAB.size, fun k hk hn => ?_⟩, hst.new⟩⟩, keepB h2 (by omega) hAB hr, keepB h3 (by omega) hAB hr, h4⟩
      exact (hAB.block k (Nat.lt_of_lt_of_le hk hst.kept.size) (fun e => by have := (hr k e.symm).1; omega)).trans (hst.kept.block k hk hn)
    · rintro u A B row ⟨h1, h2, h3⟩ hAB hr
      exact ⟨hIx u A B row h1 hAB (fun r e => ⟨Nat.le_trans hle (hr r e).1, (hr r e).2⟩), keepB h2 (by omega) hAB hr, keepB h3 (by omega) hAB hr⟩
    · rintro nn s M x A ⟨⟨h1, hst⟩, h2, h3, nD, nL⟩ hx
      have hlt : D + 1 < A.heap.size := (Array.getElem?_eq_some_iff.1 h2).1
      have hy := run_yield (P := P) (args := #[enc x]) h2 (by rw [hrec]; simp [hps])
      rw [hrec] at hy
      refine ⟨fn, _, assign, body, hy, roundIn_of_wpIn trivial (hassign nn _ x A _ ⟨_, run_beginRound h2 (by rw [hrec]), ?_⟩)⟩
      obtain ⟨A2, hA2⟩ : ∃ A2, A.putObj (D + 1) (.loop { rec .ready none with state := .busy }) = A2 := ⟨_, rfl⟩
      have hl2 : A2.heap[D + 1]? = some (.loop { rec .ready none with state := .busy }) := by rw [← hA2]; exact World.putObj_heap_same hlt
      have hk2 : ∀ k, k ≠ D + 1 → A2.heap[k]? = A.heap[k]? := fun k hk => by rw [← hA2]; exact World.putObj_heap_other hk
      have hs2 : A2.heap.size = A.heap.size := by rw [← hA2]; simp
      have g2 : A.grownBy A2 (some (D + 1)) := by rw [← hA2]; exact grownBy_putObj' A (D + 1) _
      have hcl : ∀ r, some (D + 1) = some r → w.heap.size ≤ r ∧ ∃ o : Obj, A.heap[r]? = some o ∧ o.isCells = false := fun r e => by
        cases e; exact ⟨by omega, _, h2, rfl⟩
      have hst2 : Stp w M0 A2 M := ⟨⟨g2.os.trans hst.kept.os, g2.tape.trans hst.kept.tape, g2.output.trans hst.kept.output, by rw [hs2]; exact hst.kept.size, fun k hk hn => (hk2 k (by omega)).trans (hst.kept.block k hk hn)⟩, hst.new⟩
      rw [hA2]
      have fin : ∀ (jump : Option Code) (W3 : World), Kept A2 W3 M →
          (Instr.endRound (D + 1) jump).run P W3 = .ok (.bool jump.isNone) (W3.putObj (D + 1) (.loop (rec (if jump.isNone then .ready else .done) jump))) ∧
          W3.heap[D + 1]? = some (.loop { rec .ready none with state := .busy }) ∧
          (W3.putObj (D + 1) (.loop (rec (if jump.isNone then .ready else .done) jump))).heap[D + 1]? = some (.loop (rec (if jump.isNone then .ready else .done) jump)) ∧
          (W3.putObj (D + 1) (.loop (rec (if jump.isNone then .ready else .done) jump))).heap[D]? = some (.deferred (some [])) := fun jump W3 hk3 => by
        have hl3 : W3.heap[D + 1]? = some (.loop { rec .ready none with state := .busy }) := (hk3.block _ (by omega) nL).trans hl2
        have := run_endRound (P := P) jump hl3
        rw [hrec] at this ⊢
        exact ⟨this, by rw [hrec] at hl3; exact hl3, World.putObj_heap_same (Array.getElem?_eq_some_iff.1 hl3).1, (World.putObj_heap_other (by omega)).trans ((hk3.block _ (by omega) nD).trans ((hk2 D (by omega)).trans h3))⟩
      have kk : ∀ (W3 : World) (o : Obj), Kept A2 W3 M → (∀ k, k < A.heap.size → k ∉ M → k ≠ D + 1 → (W3.putObj (D + 1) o).heap[k]? = A.heap[k]?) := fun W3 o hk3 k hk hn hne => by
        rw [World.putObj_heap_other hne, hk3.block k (by omega) hn, hk2 k hne]
      refine wpIn_mono (hbody nn _ s M x A2 (hI (s, M) _ _ _ h1 g2 hcl) (hG s M _ _ _ _ hx g2 hcl) hst2) ?_
      intro e a3 W3 hp
      cases e with
      | normal =>
        obtain ⟨s', M', hr', hi3, hs3⟩ := hp
        have hk3 := hs3.kept
        obtain ⟨hr, hl3, hl4, hk4⟩ := fin none W3 hk3
        have hl3' : D + 1 < W3.heap.size := (Array.getElem?_eq_some_iff.1 hl3).1
        have hnew : ∀ m ∈ M', m ∈ M ∨ A.heap.size ≤ m := fun m hm => by rw [← hs2]; exact hs3.new m hm
        have hAW : Kept A (W3.putObj (D + 1) (.loop (rec .ready none))) M := by
          refine ⟨hk3.os.trans (g2.os), hk3.tape.trans g2.tape, hk3.output.trans g2.output, ?_, fun k hk hn => ?_⟩
          · have := hk3.size; simp only [World.putObj_size]; omega
          · by_cases e : k = D + 1
            · subst e; exact hl4.trans h2.symm
            · exact kk W3 _ hk3 k hk hn e
        refine ⟨_, _, hr, .inl ⟨rfl, s', M', hr', ⟨⟨OwnFrom.putObj hI (s := (s', M')) _ hi3 (by omega) hl3 rfl, hst.trans ⟨hAW, hnew⟩⟩, hl4, hk4, fun hm => ?_, fun hm => ?_⟩, ⟨hAW, hnew⟩⟩⟩
        · rcases hnew _ hm with h | h
          · exact nD h
          · omega
        · rcases hnew _ hm with h | h
          · exact nL h
          · omega
      | ret =>
        obtain ⟨hi3, hk3⟩ := hp
        obtain ⟨hr, hl3, hl4, hk4⟩ := fin (some .ret) W3 hk3
        refine ⟨_, _, hr, .inr ⟨rfl, ⟨?_, hl4, hk4⟩, ?_⟩⟩
        · exact OwnFrom.putObj hIx (s := ()) _ hi3 (by omega) hl3 rfl
        · refine ⟨hk3.os.trans (g2.os), hk3.tape.trans g2.tape, hk3.output.trans g2.output, ?_, fun k hk hn => ?_⟩
          · have := hk3.size; simp only [World.putObj_size]; omega
          · exact kk W3 _ hk3 k hk (fun h => hn (List.mem_cons_of_mem _ h)) (fun h => hn (h ▸ List.mem_cons_self ..))
      | exit id => exact hp.elim
      | goto t => exact hp.elim
      | panic ch => exact hp.elim
      | outgrown => exact hp.elim
    · rintro e W2 ⟨⟨v, rfl⟩, h⟩
      rcases h with ⟨s, M, hfin, ⟨⟨hi, hst⟩, hl, hk, nD, nL⟩, _⟩ | ⟨⟨hi, hl, hk⟩, hkk⟩
      · refine ⟨none, _, by have := run_endLoop (P := P) hl (by rw [hrec]; simp); rw [hrec] at this; exact this, hdone D s M _ (by omega) hfin (OwnFrom.putObj hI (s := (s, M)) _ hi (by omega) hl rfl) ?_ ((World.putObj_heap_other (by omega)).trans hk) nD⟩
        refine ⟨⟨hst.kept.os, hst.kept.tape, hst.kept.output, by have := hst.kept.size; simp only [World.putObj_size]; omega, fun k hk9 hn => ?_⟩, hst.new⟩
        rw [World.putObj_heap_other (by omega)]
        exact hst.kept.block k hk9 hn
      · refine ⟨some .ret, _, by have := run_endLoop (P := P) hl (by rw [hrec]; simp); rw [hrec] at this; exact this, (hstop D _ (by omega) (OwnFrom.putObj hIx (s := ()) _ hi (by omega) hl rfl) ?_ ((World.putObj_heap_other (by omega)).trans hk))⟩
        refine ⟨hkk.os.trans hb1.os, hkk.tape.trans hb1.tape, hkk.output.trans hb1.output, ?_, fun k hk9 hn => ?_⟩
        · have := hkk.size; simp only [World.putObj_size]; omega
        · rw [World.putObj_heap_other (by omega), hkk.block k (by omega) (fun h => by rcases List.mem_cons.1 h with h | h; omega; exact hn h)]
          exact hb1.block k hk9
theorem wpIn_rangeY {P : Program} {α σ : Type} {g : Operand} {ps : Array Tmp} {assign body : Code} {Q : Exit → Act → World → Prop} {a : Act} {w : World} {n : Nat}
    {gf : Nat} {lb : Array Value} (hg : a.eval g = .func (.func gf) #[] lb) (eg : ∀ args w, (callFunc gf args).run P w = .ok (.enter gf args) w)
    (enc : α → Value) (hps : ps.size = 1) (M0 : List Nat) (hM0 : ∀ m ∈ M0, m < w.heap.size) (I : σ → List Nat → World → Prop) (Ix : World → Prop) (Core : σ → List Nat → World → Prop) (Good : σ → List Nat → α → World → Prop) (nx : σ → α → σ → Prop) (Fin : σ → Prop) (s0 : σ)
    (hseq : SeqY P gf lb enc Core Good nx Fin s0 M0 w)
    (hI : OwnFromS w.heap.size I) (hIx : OwnFromW w.heap.size Ix) (hG : ∀ s M, OwnFrom w.heap.size (Good s M)) (hC : ∀ s M A, I s M A → Core s M A ∧ ∀ m ∈ M, m < A.heap.size) (h0 : I s0 M0 w) (a₁ : α → Act)
    (hassign : ∀ (nn l : Nat) (x : α) (W : World) (K : Act → World → Prop), K (a₁ x) W →
      assign.wpIn (Fence.wide.inRound l) nn P (Exit.then K (fun _ _ _ => False)) { tmps := (ps.zip #[enc x]).foldl (fun t (p, v) => t.setIfInBounds p v) a.tmps, defers := [] } W)
    (hbody : ∀ (nn l : Nat) (s : σ) (M : List Nat) (x : α) (W : World), I s M W → Good s M x W → Stp w M0 W M → body.wpIn (Fence.wide.inRound l) nn P (postY I Ix M (nx s x) W) (a₁ x) W)
    (hdone : ∀ (D : Nat) (s : σ) (M : List Nat) (W : World), w.heap.size ≤ D → Fin s → I s M W → Stp w M0 W M → W.heap[D]? = some (.deferred (some [])) → Q .normal { a with defers := { target := .collected D, args := #[] } :: a.defers } W)
    (hstop : ∀ (D : Nat) (W : World), w.heap.size ≤ D → Ix W → Kept w W M0 → W.heap[D]? = some (.deferred (some [])) → Code.ret.wpIn Fence.wide n P Q { a with defers := { target := .collected D, args := #[] } :: a.defers } W) :
    (Code.rangeFunc g ps assign body).wpIn Fence.wide n P Q a w :=
  wpIn_rangeYD hg eg enc hps M0 hM0 I Ix Core Good nx Fin s0 hseq hI hIx hG hC h0 a₁ hassign hbody (fun D s M W h1 h2 h3 h4 h5 _ => hdone D s M W h1 h2 h3 h4 h5) hstop
end Go.Proofs.YtbejhkojdiadaaaGreat
namespace Go.Proofs.YtbejhkojdiadaaaGreat
open Go.RowKit PlainPm
attribute [local go_sem] Oper.semAt_some
theorem conj76 {w : World} (p a : Option Addr) (l c : Nat) :
    Calls Tryz.prog 76 #[.pointer p, .slice a l c] w fun e w' => e = .returned (.func (.func 117) #[] #[.pointer (some ⟨w.heap.size, 0, none⟩), .pointer (some ⟨w.heap.size + 1, 0, none⟩)]) ∧ w' = (w.alloc (.cells #[.pointer p] 89)).alloc (.cells #[.slice a l c] 44) := by
  go_enter Tryz.func76, Tryz.ntmps76
  go_wp2
  go_ret
  exact ⟨rfl, rfl⟩
section
variable {n : Nat}
def cjCore (n Lb N : Nat) (s : List (Pm n) × Nat) (M : List Nat) (A : World) : Prop := (∃ v, A.cell? ⟨Lb, 0, none⟩ = some v ∧ PmsV A [] v s.1) ∧ s.1.length ≤ N
def cjGood (B : List (Pm n)) (s : List (Pm n) × Nat) (M : List Nat) (q : Value × Pm n) (A : World) : Prop :=
  PmV A M q.1 q.2 ∧ ∃ p y, s.1[s.2 / B.length]? = some p ∧ B[s.2 % B.length]? = some y ∧ q.2 = cj p y
def cjNx (s : List (Pm n) × Nat) (q : Value × Pm n) (s' : List (Pm n) × Nat) : Prop := s'.2 = s.2 + 1 ∧ s.1 <+: s'.1
def cjFin (B : List (Pm n)) (s : List (Pm n) × Nat) : Prop := s.2 = s.1.length * B.length
theorem ownS_below {σ : Type} {D : Nat} {J : σ → List Nat → World → Prop} (hJ : OwnFromS D J) {s : σ} {M : List Nat} {A B : World} (h : J s M A) (k : Below A.heap.size A B) : J s M B :=
  hJ (s, M) A B none h (grown_below k none) (fun r e => by cases e)
theorem pms_at {w : World} {v : Value} {l : List (Pm n)} (h : PmsV w [] v l) : ∃ a c, v = .slice a l.length c ∧ l.length ≤ 9223372036854775807 ∧ ∀ k x, l[k]? = some x → ∃ g o u, a = some ⟨g, o, none⟩ ∧ w.cell? ⟨g, o + k, none⟩ = some u ∧ PmV w [] u x := by
  obtain ⟨a, c, vs, rfl, h1, h2⟩ := h
  refine ⟨a, c, rfl, by rw [← h2.1]; exact h1.len', fun k x hk => ?_⟩
  obtain ⟨u, hu, hp⟩ := h2.2 k x hk
  obtain ⟨g, o, rfl, _, hc⟩ := h1.2 k u hu
  exact ⟨g, o, u, rfl, hc, hp⟩
theorem PmsN.v {w : World} {M : List Nat} {v : Value} {l : List (Pm n)} (h : PmsN w M v l) : PmsV w [] v l := by
  obtain ⟨a, c, vs, rfl, h1, h2⟩ := h
  exact ⟨a, c, vs, rfl, h1 w (Kept.refl _ _), ⟨h2.1, fun i x hx => by obtain ⟨u, hu, hp⟩ := h2.2 i x hx; exact ⟨u, hu, hp.weak⟩⟩⟩
theorem div_mod {k m b : Nat} (h : m < b) : (k * b + m) / b = k ∧ (k * b + m) % b = m := by
  have hb : 0 < b := by omega
  exact ⟨by rw [Nat.mul_comm, Nat.mul_add_div hb, Nat.div_eq_of_lt h, Nat.add_zero], by rw [Nat.mul_comm, Nat.mul_add_mod, Nat.mod_eq_of_lt h]⟩
set_option maxRecDepth 100000 in
set_option maxHeartbeats 4000000 in
theorem conj117 (hn : 0 < n ∧ n ≤ 64) {w : World} {Lb N X Y : Nat} {vb : Value} {B l0 : List (Pm n)} {M0 : List Nat} (hX : w.cell? ⟨X, 0, none⟩ = some (.pointer (some ⟨Lb, 0, none⟩))) (hY : w.cell? ⟨Y, 0, none⟩ = some vb) (nX : X ∉ M0) (nY : Y ∉ M0) (hB : PmsN w M0 vb B) (hN : N < 9223372036854775807) :
    SeqY Tryz.prog 117 #[.pointer (some ⟨X, 0, none⟩), .pointer (some ⟨Y, 0, none⟩)] Prod.fst (cjCore n Lb N) (cjGood B) cjNx (cjFin B) (l0, 0) M0 w := by
  intro lp J Jx W hW _ _ hJ hJx hC hY' h0
  have cX := (hW.cell (p := ⟨X, 0, none⟩) (block_lt_of_cell hX)).trans hX
  have cY := (hW.cell (p := ⟨Y, 0, none⟩) (block_lt_of_cell hY)).trans hY
  have lX : X < W.heap.size := block_lt_of_cell cX
  have lY : Y < W.heap.size := block_lt_of_cell cY
  have hB' : PmsN W M0 vb B := hB.kept (Kept.ofBelow hW)
  obtain ⟨ab, cb, evb, hlen, -⟩ := pms_at hB'.v
  obtain ⟨b, hb⟩ : ∃ b, B.length = b := ⟨_, rfl⟩
  rw [hb] at evb hlen
  subst evb
  have H := Lib.hid (And.intro hY' (And.intro hC (And.intro hJ (And.intro hB' (And.intro h0 hb)))))
  clear hX hY hW hY' hC hJ hB' h0 hB hb hJx
  refine (callsIn_wide (n := 9)).1 ?_
  have w84 : Fence.wide.fn 84 := trivial
  have wd : Fence.wide.depth = none := rfl
  refine callsIn_of_wp Tryz.func117 rfl trivial ?_ rfl
  simp only [Tryz.ntmps117, List.size_toArray, List.length_cons, List.length_nil, Nat.reduceAdd, Nat.reduceSub, Array.replicate_succ, Array.replicate_zero, List.push_toArray, List.append_toArray, List.nil_append, List.cons_append]
  gi_wp2
  gi_loopw [4] (fun i wr => ∃ (k : Nat) (l : List (Pm n)) (M : List Nat), i = .int .i64 (k : Int) ∧ k ≤ l.length ∧ J (l, k * B.length) M wr ∧ Stp W M0 wr M) (fun i _ => N - (intOf i).toNat)
  case atStart => exact ⟨0, l0, M0, rfl, Nat.zero_le _, by rw [Nat.zero_mul]; exact H.out.2.2.2.2.1, Stp.refl _ _⟩
  case round =>
    obtain ⟨k, l, M, rfl, hkl, hj, hst⟩ := hrel
    obtain ⟨⟨⟨v, hv, hpv⟩, hlN⟩, hM⟩ := H.out.2.1 _ _ _ hj
    dsimp only at hpv hlN
    have dX := (hst.kept.cell (p := ⟨X, 0, none⟩) lX nX).trans cX
    have dY := (hst.kept.cell (p := ⟨Y, 0, none⟩) lY nY).trans cY
    obtain ⟨av, cv, rfl, hl63, hat⟩ := pms_at hpv
    obtain ⟨L, hL⟩ : ∃ L, l.length = L := ⟨_, rfl⟩
    rw [hL] at hv hl63 hkl hlN
    have HK := Lib.hid (And.intro hj (And.intro hst (And.intro hM (And.intro hat hL))))
    clear hj hst hM hat hL hpv
    obtain ⟨wo, rfl⟩ : ∃ wo, wo = wr := ⟨_, rfl⟩
    by_cases hlt : k < L
    · gi_wp2
      gi_loopw [19] (fun i wi => ∃ (m : Nat) (l2 : List (Pm n)) (M2 : List Nat), i = .int .i64 (m : Int) ∧ m ≤ b ∧ J (l2, k * B.length + m) M2 wi ∧ Stp W M0 wi M2 ∧ l <+: l2) (fun i _ => b - (intOf i).toNat)
      case atStart => exact ⟨0, l, M, rfl, Nat.zero_le _, HK.out.1, HK.out.2.1, List.prefix_refl _⟩
      case round =>
        obtain ⟨m, l2, M2, rfl, hmb, hj, hst, hpre⟩ := hrel
        obtain ⟨⟨⟨v2, hv2, hpv⟩, hlN2⟩, hM⟩ := H.out.2.1 _ _ _ hj
        dsimp only at hpv hlN2
        have eX := (hst.kept.cell (p := ⟨X, 0, none⟩) lX nX).trans cX
        have hL2 : L ≤ l2.length := by rw [← HK.out.2.2.2.2]; exact hpre.length_le
        by_cases hmlt : m < b
        · obtain ⟨a2, c2, rfl, hl263, hat2⟩ := pms_at hpv
          obtain ⟨L2, hL2e⟩ : ∃ L2, l2.length = L2 := ⟨_, rfl⟩
          rw [hL2e] at hv2 hl263 hL2
          obtain ⟨p, hp⟩ : ∃ p, l2[k]? = some p := ⟨_, List.getElem?_eq_getElem (by rw [hL2e]; omega)⟩
          obtain ⟨y, hy⟩ : ∃ y, B[m]? = some y := ⟨_, List.getElem?_eq_getElem (by rw [H.out.2.2.2.2.2]; exact hmlt)⟩
          obtain ⟨g1, o1, u1, rfl, hc1, hp1⟩ := hat2 k p hp
          obtain ⟨aB, cB, eB, _, hatB⟩ := pms_at (H.out.2.2.2.1.kept hst.kept).v
          simp only [Value.slice.injEq] at eB
          obtain ⟨rfl, -, rfl⟩ := eB
          obtain ⟨g2, o2, u2, rfl, hc2, hp2⟩ := hatB m y hy
          have h84 := px84 hn hp1 hp2
          have hgd : ∃ p' y', l2[(k * B.length + m) / B.length]? = some p' ∧ B[(k * B.length + m) % B.length]? = some y' ∧ cj p y = cj p' y' := by
            obtain ⟨d1, d2⟩ := div_mod (k := k) (m := m) (b := B.length) (by rw [H.out.2.2.2.2.2]; exact hmlt)
            rw [d1, d2]; exact ⟨p, y, hp, hy, rfl⟩
          have HY := Lib.hid (And.intro hj (And.intro hst (And.intro hM (And.intro hgd (And.intro h84 hpre)))))
          have hk1 : (k : Int) < L2 := by omega
          have hm1 : (m : Int) < b := by omega
          clear hj hst hM hgd h84 hp hy hp1 hp2 hatB hat2 hpv hpre hL2e
          gi_wp2_with (gi_at_call 84; (with_reducible refine (callsIn_wide.2 HY.out.2.2.2.2.1).mono ?_); rintro e w3 ⟨v3, rfl, k1, k2⟩; have hyy := H.out.1 8 (l2, k * B.length + m) M2 (v3, cj p y) w3 (ownS_below H.out.2.2.1 HY.out.1 k2) ⟨k1.pm HY.out.2.2.1, HY.out.2.2.2.1⟩; obtain ⟨fn, tmps, assign, body, hyr, hR⟩ := hyy; dsimp only at hyr; have H3 := Lib.hid k2; clear k1 k2)
          refine hR.mono ?_
          rintro e W4 (⟨rfl, ⟨l3, c3⟩, M3, ⟨hc, hpr⟩, hj3, hst3⟩ | ⟨rfl, hjx, hkx⟩)
          · dsimp only at hc hpr
            subst hc
            have H4 := Lib.hid (And.intro hj3 (And.intro (HY.out.2.1.trans ((Stp.below H3.out).trans hst3)) (HY.out.2.2.2.2.2.trans hpr)))
            clear hj3 hst3 hpr hR hyr
            gi_wp2
            go_roundw
            case rel => exact ⟨m + 1, l3, M3, by go_num, by omega, H4.out.1, H4.out.2.1, H4.out.2.2⟩
            case measure => simp [intOf]; omega
          · have H4 := Lib.hid (And.intro hjx ((HY.out.2.1.kept.mono (S' := lp :: M0) (fun q hq => List.mem_cons_of_mem _ hq)).transW ((Kept.ofBelow H3.out : Kept _ _ (lp :: M2)).trans hkx) (fun q hq => by
              rcases List.mem_cons.1 hq with h | h
              · exact .inl (h ▸ List.mem_cons_self ..)
              · rcases HY.out.2.1.new q h with h | h
                · exact .inl (List.mem_cons_of_mem _ h)
                · exact .inr h)))
            clear hjx hkx hR hyr
            gi_wp2
            refine bodyPost_ret (results_none rfl _ _ _) rfl ?_
            exact ⟨⟨_, rfl⟩, .inr H4.out⟩
        · have hmb' : m = b := by omega
          rw [hmb'] at hj
          have HY := Lib.hid (And.intro hj (And.intro hst hL2))
          clear hj hst hM hpv hpre hv2 hL2
          gi_wp2
          go_roundw
          case rel => exact ⟨k + 1, l2, M2, by go_num, by have := HY.out.2.2; omega, by rw [Nat.succ_mul, H.out.2.2.2.2.2] at *; have := HY.out.1; rwa [H.out.2.2.2.2.2] at this, HY.out.2.1⟩
          case measure => simp [intOf]; omega
    · gi_wp2
      go_end0
      refine ⟨⟨_, rfl⟩, .inl ⟨(l, k * B.length), M, ?_, HK.out.1, HK.out.2.1⟩⟩
      have : k = l.length := by rw [HK.out.2.2.2.2]; omega
      rw [this]
      rfl
end
end Go.Proofs.YtbejhkojdiadaaaGreat
namespace Go.Proofs.YtbejhkojdiadaaaGreat
open Go.RowKit PlainPm
section
variable {n : Nat}
theorem nrm_lists {A B : List (Pm n)} {G1 G2 : Pm n → Prop} (g1 : IsG G1) (h1 : ∀ x, Grp (· ∈ A) x ↔ G1 x) (h2 : ∀ x, Grp (· ∈ B) x ↔ G2 x) : Nrm G1 G2 ↔ ∀ a ∈ A, ∀ b ∈ B, G1 (cj a b) :=
  ⟨fun h a ha b hb => h a ((h1 a).1 (Grp.base ha)) b ((h2 b).1 (Grp.base hb)), fun h => ((nrm_of (L := (· ∈ A)) (B := (· ∈ B)) g1 (fun x => (h1 x).symm) h).grp).sub fun y hy => (h2 y).2 hy⟩
theorem keep6n {X : Nat} {V A B : World} {u0 u1 u2 s0 s1 s2 : Value} (h : A.cell? ⟨X, 0, none⟩ = some u0 ∧ A.cell? ⟨X, 1, none⟩ = some u1 ∧ A.cell? ⟨X, 2, none⟩ = some u2 ∧ A.cell? ⟨X + 1, 0, none⟩ = some s0 ∧ A.cell? ⟨X + 1, 1, none⟩ = some s1 ∧ A.cell? ⟨X + 1, 2, none⟩ = some s2 ∧ Below V.heap.size V A) (k : Below A.heap.size A B) :
    B.cell? ⟨X, 0, none⟩ = some u0 ∧ B.cell? ⟨X, 1, none⟩ = some u1 ∧ B.cell? ⟨X, 2, none⟩ = some u2 ∧ B.cell? ⟨X + 1, 0, none⟩ = some s0 ∧ B.cell? ⟨X + 1, 1, none⟩ = some s1 ∧ B.cell? ⟨X + 1, 2, none⟩ = some s2 ∧ Below V.heap.size V B :=
  ⟨(k.cell (block_lt_of_cell h.1)).trans h.1, (k.cell (block_lt_of_cell h.2.1)).trans h.2.1, (k.cell (block_lt_of_cell h.2.2.1)).trans h.2.2.1, (k.cell (block_lt_of_cell h.2.2.2.1)).trans h.2.2.2.1, (k.cell (block_lt_of_cell h.2.2.2.2.1)).trans h.2.2.2.2.1, (k.cell (block_lt_of_cell h.2.2.2.2.2.1)).trans h.2.2.2.2.2.1, below_trans h.2.2.2.2.2.2 k⟩
end
end Go.Proofs.YtbejhkojdiadaaaGreat
namespace Go.Proofs.YtbejhkojdiadaaaGreat
open Go.RowKit PlainPm
structure Up (w w' : World) : Prop where
  size : w.heap.size ≤ w'.heap.size
  cell : ∀ p u, w.cell? p = some u → w'.cell? p = some u
section
variable {n : Nat} {w w' : World} {a : Option Addr}
theorem Row.up {vs : List Value} (h : Row w a vs) (k : Up w w') : Row w' a vs :=
  ⟨h.1, fun i u hu => by obtain ⟨b, o, e, hb, hc⟩ := h.2 i u hu; exact ⟨b, o, e, Nat.lt_of_lt_of_le hb k.size, k.cell _ _ hc⟩⟩
theorem IsInts.up {v : Value} {xs : List Int} (h : IsInts w v xs) (k : Up w w') : IsInts w' v xs := by
  obtain ⟨a, c, e, h⟩ := h; exact ⟨a, c, e, Row.up h k⟩
theorem Rows.up {xss : List (List Int)} (h : Rows w a xss) (k : Up w w') : Rows w' a xss := by
  obtain ⟨vs, h1, h2, h3⟩ := h
  exact ⟨vs, h1.up k, h2, fun i u xs hu hx => (h3 i u xs hu hx).up k⟩
theorem Rows2.up {xsss : List (List (List Int))} (h : Rows2 w a xsss) (k : Up w w') : Rows2 w' a xsss := by
  obtain ⟨vs, h1, h2, h3⟩ := h
  exact ⟨vs, h1.up k, h2, fun i u xss hu hx => by obtain ⟨b, c, e, h⟩ := h3 i u xss hu hx; exact ⟨b, c, e, h.up k⟩⟩
theorem CapR.up {l : Nat} {vs : List Value} (h : CapR w a l) (hr : Row w a vs) (hl : l ≤ vs.length) (k : Up w w') : CapR w' a l := fun ad ea i hi x l' c hc => by
  obtain ⟨b, o, e, hb, hcell⟩ := hr.2 i _ (List.getElem?_eq_getElem (by omega))
  subst ea
  cases e
  refine h _ rfl i hi x l' c ?_
  rw [add_zero_addr] at hc ⊢
  rw [hcell]
  rw [k.cell _ _ hcell] at hc
  exact hc
theorem GrG.up {v : Value} {G : Pm n → Prop} (h : GrG w v G) (k : Up w w') : GrG w' v G := by
  obtain ⟨T, a, c, b, d, h1, h2, h3, h4, h5, h6⟩ := h
  obtain ⟨vs, r1, r2, _⟩ := id h3
  obtain ⟨vs', r1', r2', _⟩ := id h4
  exact ⟨T, a, c, b, d, h1, h2, h3.up k, h4.up k, h5.up r1 (by rw [r2]; simp [orbI]) k, h6.up r1' (by rw [r2']; simp [repI]) k⟩
theorem PmV.up {M : List Nat} {v : Value} {x : Pm n} (h : PmV w M v x) (k : Up w w') : PmV w' M v x := by
  obtain ⟨b, o, c, e, h1, h2, h3⟩ := h
  exact ⟨b, o, c, e, h1, Nat.lt_of_lt_of_le h2 k.size, fun i hi => k.cell _ _ (h3 i hi)⟩
theorem PmL.up {M : List Nat} {us : List Value} {l : List (Pm n)} (h : PmL w M us l) (k : Up w w') : PmL w' M us l :=
  ⟨h.1, fun i x hx => by obtain ⟨u, hu, hp⟩ := h.2 i x hx; exact ⟨u, hu, hp.up k⟩⟩
structure Turn (w w' : World) (row : Option Nat) : Prop where
  g : w.grownBy w' row
  r : ∀ r, row = some r → ∃ o : Obj, w.heap[r]? = some o ∧ o.isCells = false
theorem Turn.up {row : Option Nat} (h : Turn w w' row) : Up w w' :=
  ⟨h.g.size, fun p u hc => by
    have hlt := block_lt_of_cell hc
    have hne : some p.block ≠ row := fun e => by
      obtain ⟨o, ho, hcl⟩ := h.r _ e.symm
      unfold World.cell? at hc
      rw [ho] at hc
      cases o <;> simp [Obj.isCells] at hcl hc
    unfold World.cell? at hc ⊢
    rw [h.g.block p.block hlt hne]
    exact hc⟩
theorem Turn.cells {row : Option Nat} (h : Turn w w' row) {k : Nat} {cur : Array Value} {e : TypeId} {fr : Nat × Nat} (hk : w.heap[k]? = some (.cells cur e fr)) : w'.heap[k]? = some (.cells cur e fr) := by
  refine (h.g.block k (Array.getElem?_eq_some_iff.1 hk).1 (fun e => ?_)).trans hk
  obtain ⟨o, ho, hcl⟩ := h.r _ e.symm
  rw [hk] at ho
  cases ho
  simp [Obj.isCells] at hcl
theorem Own.turn {row : Option Nat} {B : Nat} {v : Value} {e : TypeId} {xs : List Value} (h : Own w B v e xs) (k : Turn w w' row) : Own w' B v e xs := by
  refine h.kept k.g ?_
  rcases h.blk with h1 | ⟨g, cur, h1, _, _, h2⟩
  · exact .inl h1
  · refine .inr fun e => ?_
    rw [h1] at e
    obtain ⟨o, ho, hcl⟩ := k.r g e.symm
    rw [h2] at ho
    cases ho
    simp [Obj.isCells] at hcl
theorem GrS.turn {row : Option Nat} {v : Value} {G : Pm n → Prop} {S : List Nat} (h : GrS w v G S) (k : Turn w w' row) : GrS w' v G S := by
  intro W' hk
  cases row with
  | none => exact h W' ((Kept.ofGrown k.g (fun j e => by cases e)).trans hk)
  | some r =>
    obtain ⟨o, ho, hcl⟩ := k.r r rfl
    have hlt : r < w.heap.size := (Array.getElem?_eq_some_iff.1 ho).1
    have hltW : r < W'.heap.size := Nat.lt_of_lt_of_le hlt (Nat.le_trans k.g.size hk.size)
    have h2 := h (W'.putObj r o) ⟨hk.os.trans k.g.os, hk.tape.trans k.g.tape, hk.output.trans k.g.output, by simp only [World.putObj_size]; exact Nat.le_trans k.g.size hk.size, fun j hj hn => by
      by_cases e : j = r
      · subst e; rw [World.putObj_heap_same hltW, ho]
      · rw [World.putObj_heap_other e, hk.block j (Nat.lt_of_lt_of_le hj k.g.size) hn]
        exact k.g.block j hj (fun e2 => e (by cases e2; rfl))⟩
    refine h2.up ⟨by simp, fun p u hc => ?_⟩
    by_cases e : p.block = r
    · unfold World.cell? at hc
      rw [e, World.putObj_heap_same hltW] at hc
      cases o <;> simp [Obj.isCells] at hcl hc
    · unfold World.cell? at hc ⊢
      rwa [World.putObj_heap_other e] at hc
theorem BldV.turn {row : Option Nat} {bk : Nat} {G : Pm n → Prop} {S : List Nat} (h : BldV w bk G S) (k : Turn w w' row) : BldV w' bk G S := by
  obtain ⟨a, c, b, d, h1, h2⟩ := h
  exact ⟨a, c, b, d, k.cells h1, h2.turn k⟩
end
end Go.Proofs.YtbejhkojdiadaaaGreat
