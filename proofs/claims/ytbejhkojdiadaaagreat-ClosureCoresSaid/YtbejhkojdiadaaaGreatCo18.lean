/- closed: the builder of the least group that contains permutations and is normalised by others. · closure: the reference's. · The examples of chapter 11: groups by their tables, and what they have to do with each other: plain. -/
import Derived.Test.YtbejhkojdiadaaaGreatCo01
import Derived.Test.YtbejhkojdiadaaaGreatCo02
import Derived.Test.YtbejhkojdiadaaaGreatCo03
import Derived.Test.YtbejhkojdiadaaaGreatCo04
import Derived.Test.YtbejhkojdiadaaaGreatCo05
import Derived.Test.YtbejhkojdiadaaaGreatCo06
import Derived.Test.YtbejhkojdiadaaaGreatCo07
import Derived.Test.YtbejhkojdiadaaaGreatCo08
import Derived.Test.YtbejhkojdiadaaaGreatCo09
import Derived.Test.YtbejhkojdiadaaaGreatCo10
import Derived.Test.YtbejhkojdiadaaaGreatCo11
import Derived.Test.YtbejhkojdiadaaaGreatCo12
import Derived.Test.YtbejhkojdiadaaaGreatCo13
import Derived.Test.YtbejhkojdiadaaaGreatCo14
import Derived.Test.YtbejhkojdiadaaaGreatCo15
import Derived.Test.YtbejhkojdiadaaaGreatCo16
import Derived.Test.YtbejhkojdiadaaaGreatCo17
import Derived.Test.YtbejhkojdiadaaaGreatProg
import Derived.WalkKit
import Derived.WalkSpells
import Derived.BigQuiet
import Derived.Deep.QuietTactic
import Derived.Deep.LoopGhost
import Derived.Lib.Hide
import Derived.Maps.AppendAt
import Derived.Deep.AppendLies
import Derived.StillTailTactics
import Derived.Laws.CopyOwn
import Derived.Deep.OwnRows
import Derived.Deep.DeepCutAuto
import Derived.Laws.Cover3
import Derived.Deep.RegionHeld3
import Derived.RangeFuncRecord
import Derived.Lib.SlicesSearch
import Derived.RangeFuncBox
import Derived.RangeFuncLeaves
import Derived.RangeFuncWrites
import Derived.RangeFuncFrom
import Derived.Shelf.Abstract
import Derived.OwnWalkIn
import Derived.TacticsInMore
import Derived.LoopNIn
import Derived.LoopIn
import Derived.Shelf.GgSortFunc.Insertion
import Derived.Shelf.SlIter.Collect
import Derived.Shelf.Sort.Plain
import Derived.Deep.RegionLaw
import Derived.ControlIn
set_option linter.unusedSimpArgs false
set_option linter.unusedVariables false
namespace Go.Proofs.YtbejhkojdiadaaaGreat
open Go.RowKit PlainPm
attribute [local go_sem] Oper.semAt_some
section
variable {n : Nat}
structure ClP (L B l : List (Pm n)) (c : Nat) : Prop where
  pre : L <+: l
  nc : ∀ x ∈ l, NcG (· ∈ L) (· ∈ B) x
  done : ∀ c', c' < c → ∃ p y, l[c' / B.length]? = some p ∧ B[c' % B.length]? = some y ∧ Grp (· ∈ l) (cj p y)
  bd : ∃ O R, ChG (Grp (· ∈ l)) O R ∧ l.length ≤ L.length + sg n O
theorem ClP.start {L B : List (Pm n)} (h : ∃ O R, ChG (Grp (· ∈ L)) O R) : ClP L B L 0 := by
  obtain ⟨O, R, h⟩ := h
  exact ⟨List.prefix_refl _, fun x hx => NcG.base hx, fun c' hc => by omega, O, R, h, by omega⟩
theorem ClP.keep {L B l : List (Pm n)} {c : Nat} {p y : Pm n} (h : ClP L B l c) (hp : l[c / B.length]? = some p) (hy : B[c % B.length]? = some y) (hg : Grp (· ∈ l) (cj p y)) : ClP L B l (c + 1) :=
  ⟨h.pre, h.nc, fun c' hc => by
    rcases Nat.lt_or_ge c' c with h1 | h1
    · exact h.done c' h1
    · have : c' = c := by omega
      subst this; exact ⟨p, y, hp, hy, hg⟩, h.bd⟩
theorem ClP.add {L B l : List (Pm n)} {c : Nat} {p y : Pm n} (h : ClP L B l c) (hp : l[c / B.length]? = some p) (hy : B[c % B.length]? = some y) (hg : ¬ Grp (· ∈ l) (cj p y)) (hc : ∃ O R, ChG (Grp (· ∈ l ++ [cj p y])) O R) : ClP L B (l ++ [cj p y]) (c + 1) := by
  have up : ∀ {x : Pm n}, Grp (· ∈ l) x → Grp (· ∈ l ++ [cj p y]) x := fun hx => Grp.sub Grp.isG (fun s hs => Grp.base (List.mem_append_left _ hs)) hx
  have at_ : ∀ {i : Nat} {q : Pm n}, l[i]? = some q → (l ++ [cj p y])[i]? = some q := fun {i q} hi => by
    rw [List.getElem?_append_left (List.getElem?_eq_some_iff.1 hi).1]; exact hi
  have hm : cj p y ∈ l ++ [cj p y] := List.mem_append_right _ (List.mem_singleton.2 rfl)
  obtain ⟨O', R', h'⟩ := hc
  obtain ⟨O, R, h0, hb⟩ := h.bd
  refine ⟨h.pre.trans (List.prefix_append _ _), fun x hx => ?_, fun c' hc' => ?_, O', R', h', ?_⟩
  · rcases List.mem_append.1 hx with hx | hx
    · exact h.nc x hx
    · rw [List.mem_singleton.1 hx]
      exact NcG.nrm _ (h.nc p (List.mem_of_getElem? hp)) y (List.mem_of_getElem? hy)
  · rcases Nat.lt_or_ge c' c with h1 | h1
    · obtain ⟨q, z, e1, e2, e3⟩ := h.done c' h1
      exact ⟨q, z, at_ e1, e2, up e3⟩
    · have : c' = c := by omega
      subst this; exact ⟨p, y, at_ hp, hy, Grp.base hm⟩
  · have := sg_lt h0 h' (fun x hx => up hx) (Grp.base hm) hg
    rw [List.length_append, List.length_singleton]; omega
theorem ClP.fin {L B l : List (Pm n)} (h : ClP L B l (l.length * B.length)) (x : Pm n) : Grp (· ∈ l) x ↔ NcG (· ∈ L) (· ∈ B) x := by
  refine NcG.of Grp.isG (fun y hy => Grp.base (h.pre.subset hy)) (nrm_of Grp.isG (fun _ => Iff.rfl) fun a ha y hy => ?_) (fun y hy => Grp.sub NcG.isG h.nc hy) x
  obtain ⟨i, hi, rfl⟩ := List.mem_iff_getElem.1 ha
  obtain ⟨k, hk, rfl⟩ := List.mem_iff_getElem.1 hy
  obtain ⟨d1, d2⟩ := div_mod (k := i) (m := k) (b := B.length) hk
  have hlt : i * B.length + k < l.length * B.length := by
    have : (i + 1) * B.length ≤ l.length * B.length := Nat.mul_le_mul_right _ hi
    rw [Nat.succ_mul] at this
    omega
  obtain ⟨p, z, e1, e2, e3⟩ := h.done _ hlt
  rw [d1, List.getElem?_eq_getElem hi] at e1
  rw [d2, List.getElem?_eq_getElem hk] at e2
  cases e1; cases e2
  exact e3
theorem ClP.len {L B l : List (Pm n)} {c : Nat} (h : ClP L B l c) : l.length ≤ L.length + n * n := by
  obtain ⟨O, R, h0, hb⟩ := h.bd
  have := sg_le h0
  omega
theorem BldV.ch {w : World} {bk : Nat} {G : Pm n → Prop} {S : List Nat} (hn : 0 < n ∧ n ≤ 64) (hG : IsG G) (h : BldV w bk G S) : ∃ O R, ChG G O R := by
  obtain ⟨a, c, b, d, _, hgs⟩ := h
  obtain ⟨T, hT, _⟩ := hgs.now.lev hG ⟨hn.1, hn.2⟩
  exact ⟨_, _, hT.chG hG⟩
theorem bld_has (hn : 0 < n ∧ n ≤ 64) {w : World} {bk : Nat} {G : Pm n → Prop} {S : List Nat} (hG : IsG G) (hb : BldV w bk G S) {x : Pm n} {va : Value} (hx : PmV w [] va x) :
    Calls Tryz.prog 77 #[.pointer (some ⟨bk, 0, none⟩), va] w fun e w' => BoolIs e (G x) ∧ Below w.heap.size w w' := by
  obtain ⟨a, c, b, d, hcell, hgs⟩ := hb
  obtain ⟨T, hT, ab, ao, c', bb, bo, e', he', hlv⟩ := hgs.now.lev hG ⟨hn.1, hn.2⟩
  simp only [cv, Value.agg.injEq, Array.mk.injEq, List.cons.injEq, Value.slice.injEq, and_true, true_and] at he'
  obtain ⟨⟨rfl, rfl⟩, rfl, rfl⟩ := he'
  exact has77 hn hG hT hcell hlv hx
theorem bld_with (hn : 0 < n ∧ n ≤ 64) {w : World} {bk : Nat} {G : Pm n → Prop} {S : List Nat} (hG : IsG G) (hb : BldV w bk G S) {v : Value} {L : List (Pm n)} (hl : L.length ≤ 4096) (hv : PmsN w [bk] v L) (hS : ∀ m ∈ S, m < w.heap.size) :
    Calls Tryz.prog 72 #[.pointer (some ⟨bk, 0, none⟩), v] w fun e w' => e = .returned (.pointer (some ⟨bk, 0, none⟩)) ∧ BldV w' bk (Grp fun x => G x ∨ x ∈ L) S ∧ Kept w w' [bk] :=
  with72 (G := G) hn (hb.congr fun x => ⟨fun h => Grp.base (.inl h), Grp.sub hG (fun s hs => by
    rcases hs with h | h
    · exact h
    · cases h)⟩) hl hv hS
set_option maxHeartbeats 400000 in
theorem clone123 {L : List (Pm n)} {v : Value} {w0 w : World} (hv : PmsV w0 [] v L) (h0 : Below w0.heap.size w0 w) (hL : L.length ≤ 1000000) :
    Calls Tryz.prog 123 #[v] w fun e w' => ∃ v' us, e = .returned v' ∧ Own w' w.heap.size v' 27 us ∧ PmL w0 [] us L ∧ Below w.heap.size w w' := by
  obtain ⟨a, c, us, rfl, hr, hp⟩ := hv
  have hpl := hp.1
  have h1c : ∀ u ∈ us, u.oneCell' = true := fun u hu => by
    obtain ⟨i, hi, rfl⟩ := List.mem_iff_getElem.1 hu
    obtain ⟨v, e, b, o, c, rfl, _⟩ := hp.2 i _ (List.getElem?_eq_getElem (by rw [← hpl]; exact hi))
    rw [List.getElem?_eq_getElem hi] at e
    rw [Option.some.inj e]
    rfl
  obtain ⟨m, hm⟩ : ∃ m, L.length = m := ⟨_, rfl⟩
  rw [hm] at hL hpl ⊢
  obtain ⟨i27, hi27, hz27, hs27, hb27⟩ := info_parts Tryz.info27
  have I27 := Lib.hid (And.intro hi27 (And.intro hz27 (And.intro hs27 hb27)))
  have HR := Lib.hid (And.intro hr (And.intro hp (And.intro hpl h1c)))
  clear hi27 hz27 hs27 hb27 hr hp hpl h1c hm
  cases a with
  | none =>
    have h0 : us = [] := by
      cases hx : us with
      | nil => rfl
      | cons x r =>
        obtain ⟨_, _, e, _⟩ := HR.out.1.2 0 x (by rw [hx]; rfl)
        cases e
    have hm0 : m = 0 := by rw [← HR.out.2.2.1, h0]; rfl
    subst hm0
    have he := fun W : World => Lib.run_eql_slice_nil (P := Tryz.prog) W 44 27 none 0 c 0 0 Tryz.underlying44
    go_enter Tryz.func123, Tryz.ntmps123
    go_wp2
    go_ret
    exact ⟨_, us, rfl, by rw [h0]; exact Own.nil _ _ _, HR.out.2.1, Below.refl _ _⟩
  | some ad =>
    have he := fun W : World => Lib.run_eql_slice_nil (P := Tryz.prog) W 44 27 (some ad) m c 0 0 Tryz.underlying44
    have hem := Own.new (w := w) (B := w.heap.size) 27 [] (Nat.le_refl _) (Nat.zero_le _)
    have hb : Below w.heap.size w (w.alloc (.cells #[] 27)) := (Below.refl _ _).alloc (Nat.le_refl _) _
    have hsrc : ∀ j y, us[j]? = some y → (w.alloc (.cells #[] 27)).cell? (ad.add j) = some y := fun j y hy => by
      obtain ⟨b, o, e, hlt, hc⟩ := HR.out.1.2 j y hy
      cases e
      rw [add_zero_addr]
      exact ((below_trans h0 hb).cell hlt).trans hc
    have H := Lib.hid (And.intro hem (And.intro hb hsrc))
    clear hem hb hsrc
    go_enter Tryz.func123, Tryz.ntmps123
    go_wp2_with (at_builtin; refine appA rfl (.tmp 5) (.tmp 6) 44 27 rfl i27 (.slice none 0 0) 24 Tryz.underlying44 I27.out.1 I27.out.2.1 I27.out.2.2.1 I27.out.2.2.2 rfl (by omega) w.heap.size (.slice (some ⟨w.heap.size, 0, none⟩) 0 0) [] us rfl H.out.1 ad m c rfl HR.out.2.2.1 H.out.2.2 HR.out.2.2.2 (by simp; omega) H.out.2.1.size ?_; intro v' w' h2 h3; have H9 := Lib.hid (And.intro h2 h3); clear h2 h3)
    go_ret
    exact ⟨_, us, rfl, H9.out.1, HR.out.2.1, H.out.2.1.grown H9.out.2 H.out.2.1.size (fun k hk => by cases hk; exact Nat.le_refl _)⟩
structure ClI (D bk X Y : Nat) (L B : List (Pm n)) (s : List (Pm n) × Nat) (M : List Nat) (A : World) (v : Value) (us : List Value) : Prop where
  p : ClP L B s.1 s.2
  xb : A.heap[X]? = some (.cells #[.pointer (some ⟨bk, 0, none⟩)] 82 (0, 0))
  yb : A.heap[Y]? = some (.cells #[v] 44 (0, 0))
  own : Own A D v 27 us
  pml : PmL A M us s.1
  bld : BldV A bk (Grp (· ∈ s.1)) (M ++ List.range D)
  bm : bk ∈ M
  ym : Y ∈ M
  vm : ∀ g, v.ownBlock = some g → g ∈ M
  xm : X ∉ M
  lt : ∀ m ∈ M, m < A.heap.size
def ClJ (D bk X Y : Nat) (L B : List (Pm n)) (s : List (Pm n) × Nat) (M : List Nat) (A : World) : Prop := ∃ v us, ClI D bk X Y L B s M A v us
theorem app1In {F : Fence} {N : Nat} {P : Program} {w : World} {ops : Array Oper} {rest : List Oper} {o : Oper} {a : Act} {Q : Exit → Act → World → Prop} (hgd : o.guard = none) (s x : Operand) (T e : TypeId)
    (ho : o.op = .call { callee := .builtin .append, args := #[s, x], argTypes := #[T, T] })
    (i : TypeInfo) (z : Value) (bytes : Nat) (ht : P.underlying T = some (.slice e)) (hi : P.info? e = some i) (hz : i.zero = some z)
    (hsize : i.size = 1) (hby : i.bytes = bytes) (hzs : z.cells.size = 1) (hb64 : bytes ≤ 64)
    (B : Nat) (u : Value) (v : Value) (xs : List Value) (hs : a.eval s = v) (hown : Own w B v e xs) (hx : a.eval x = .slice (some ⟨w.heap.size, 0, none⟩) 1 1)
    (h1 : u.oneCell' = true) (hlen : xs.length < 1099511627776) (hB : B ≤ w.heap.size)
    (h : ∀ v' w', Own w' B v' e (xs ++ [u]) → w.grownBy w' v.ownBlock → (v'.ownBlock = v.ownBlock ∨ ∃ g, v'.ownBlock = some g ∧ w.heap.size ≤ g) → wpListIn F N P ops Q rest (a.put o.dst v') w') :
    wpListIn F N P ops Q (o :: rest) a (w.alloc (.cells #[u] e)) := by
  refine wpListIn_plain hgd fun K hK' => ?_
  obtain ⟨v', w', hr, h2, h3, _, h5⟩ := run_append_own_at (P := P) (w.alloc (.cells #[u] e)) B T o.type e i z 1 bytes ht hi hz hsize hby hzs (by omega) v xs.length xs (hown.alloc _) ⟨w.heap.size, 0, none⟩ 1 1 [u] rfl (cell_one_new _ _ _)
    (by intro y hy; rw [List.mem_singleton.1 hy]; exact h1) (by unfold maxLen; omega) (Nat.le_trans (Nat.mul_le_mul_left _ hb64) (by omega)) (by simp; omega)
  unfold Oper.wpIn
  refine ⟨?_, ?_⟩
  · simp [Oper.about, ho, resolve, Target.leads, Sem.run_pure]
  · rw [Oper.semAt_plain F _ _ (by rw [ho]; intro c hc'; cases hc')]
    simp [execOp, ho, resolve, invoke, builtin, hs, hx, hr, Result.andThen]
    refine hK' _ _ (h v' w' (by unfold Own; rw [List.length_append]; exact h2) ((grown_alloc w _ _).trans h3) ?_)
    rcases h5 with h5 | h5
    · exact .inl h5
    · exact .inr ⟨_, h5, by simp⟩
theorem BldV.keptB {w w' : World} {bk : Nat} {G : Pm n → Prop} {S S' : List Nat} (h : BldV w bk G S) (k : Kept w w' S') (hS : ∀ m ∈ S', m ∈ S) (hb : w'.heap[bk]? = w.heap[bk]?) : BldV w' bk G S := by
  obtain ⟨a, c, b, d, h1, h2⟩ := h
  exact ⟨a, c, b, d, hb.trans h1, h2.kept (k.mono fun m hm => List.mem_cons_of_mem _ (hS m hm))⟩
theorem BldV.ext {w : World} {bk : Nat} {G : Pm n → Prop} {S S' : List Nat} (h : BldV w bk G S) (hS : ∀ m ∈ S', m ∈ S ∨ m = bk ∨ w.heap.size ≤ m) : BldV w bk G S' := by
  obtain ⟨a, c, b, d, h1, h2⟩ := h
  refine ⟨a, c, b, d, h1, h2.ext fun m hm => ?_⟩
  rcases List.mem_cons.1 hm with rfl | hm
  · exact .inl (List.mem_cons_self ..)
  · rcases hS m hm with h | rfl | h
    · exact .inl (List.mem_cons_of_mem _ h)
    · exact .inl (List.mem_cons_self ..)
    · exact .inr h
theorem own_ne {W : World} {B : Nat} {v : Value} {e e' : TypeId} {xs : List Value} {k : Nat} {cur : Array Value} (h : Own W B v e xs) (hk : W.heap[k]? = some (.cells cur e' (0, 0))) (hne : e' ≠ e) : v.ownBlock ≠ some k := fun hv => by
  rcases h.blk with h1 | ⟨g, cur', h1, _, _, h2⟩
  · rw [h1] at hv; cases hv
  · rw [h1] at hv; cases hv
    rw [hk] at h2
    injection h2 with h2
    injection h2 with _ h3 _
    exact hne h3
theorem box1_set {W : World} {Y : Nat} {v v' : Value} {t : TypeId} (h : W.heap[Y]? = some (.cells #[v] t (0, 0))) : (W.setCell ⟨Y, 0, none⟩ v').heap[Y]? = some (.cells #[v'] t (0, 0)) := by
  have hl := (Array.getElem?_eq_some_iff.1 h).1
  have h2 : W.heap[Y] = .cells #[v] t (0, 0) := by rw [Array.getElem?_eq_getElem hl] at h; exact Option.some.inj h
  simp [World.setCell, Array.getElem_modify, hl, h2]
theorem mem_ob {v : Value} {g : Nat} : g ∈ v.ownBlock.toList ↔ v.ownBlock = some g := by cases v.ownBlock <;> simp [eq_comm]
theorem ClI.grow {D bk X Y : Nat} {L B l : List (Pm n)} {c : Nat} {M : List Nat} {W w7 w9 w11 : World} {v v' va : Value} {us : List Value} {x : Pm n} {o : Obj} (h : ClI D bk X Y L B (l, c) M W v us) (hpm : PmV W M va x)
    (hp : ∃ p y, l[c / B.length]? = some p ∧ B[c % B.length]? = some y ∧ x = cj p y) (hg : ¬ Grp (· ∈ l) x) (b7 : Below W.heap.size W w7) (k9 : Kept (w7.alloc o) w9 [bk])
    (b9 : BldV w9 bk (Grp fun z => Grp (· ∈ l) z ∨ z ∈ [x]) (M ++ List.range D)) (hn : 0 < n ∧ n ≤ 64) (o11 : Own w11 D v' 27 (us ++ [va])) (g11 : w9.grownBy w11 v.ownBlock) (loc : v'.ownBlock = v.ownBlock ∨ ∃ g, v'.ownBlock = some g ∧ w9.heap.size ≤ g) :
    ∃ M', ClJ D bk X Y L B (l ++ [x], c + 1) M' (w11.setCell ⟨Y, 0, none⟩ v') ∧ Stp W M (w11.setCell ⟨Y, 0, none⟩ v') M' := by
  have hbM := h.bm
  have K0 : Below W.heap.size W (w7.alloc o) := alloc_b b7 _
  have K1 : Kept W w9 M := (Kept.ofBelow K0).trans (k9.mono fun m hm => by rw [List.mem_singleton.1 hm]; exact hbM)
  have K2 : Kept w9 w11 M := Kept.ofGrown g11 h.vm
  have K3 : Kept w11 (w11.setCell ⟨Y, 0, none⟩ v') M := Kept.ofGrown (grown_put 0 v') (fun k e => by cases e; exact h.ym)
  have K3Y : Kept w11 (w11.setCell ⟨Y, 0, none⟩ v') [Y] := Kept.ofGrown (grown_put 0 v') (fun k e => by cases e; exact List.mem_cons_self ..)
  have hbk0 : ∃ cur, W.heap[bk]? = some (.cells cur 81 (0, 0)) := by obtain ⟨a, c, b, d, h1, _⟩ := h.bld; exact ⟨_, h1⟩
  obtain ⟨cur0, hbk0⟩ := hbk0
  have hYb : Y ≠ bk := fun e => by
    have h1 := h.yb
    rw [e, hbk0] at h1
    injection h1 with h1
    injection h1 with _ h2 _
    exact absurd h2 (by decide)
  have ltY := (Array.getElem?_eq_some_iff.1 h.yb).1
  have s0 := K0.size
  have y9 : w9.heap[Y]? = some (.cells #[v] 44 (0, 0)) := (k9.block Y (by omega) (fun e => hYb (List.mem_singleton.1 e))).trans ((K0.block Y ltY).trans h.yb)
  have hbk9 : ∃ cur, w9.heap[bk]? = some (.cells cur 81 (0, 0)) := by obtain ⟨a, c, b, d, h1, _⟩ := b9; exact ⟨_, h1⟩
  obtain ⟨cur9, hbk9⟩ := hbk9
  have o9 : Own w9 D v 27 us := (h.own.below K0).keptL k9 (fun g e hm => own_ne h.own hbk0 (by decide) (by rw [e, List.mem_singleton.1 hm]))
  have y11 : w11.heap[Y]? = some (.cells #[v] 44 (0, 0)) := (g11.block Y (Array.getElem?_eq_some_iff.1 y9).1 (fun e => own_ne o9 y9 (by decide) e.symm)).trans y9
  have bk11 : w11.heap[bk]? = w9.heap[bk]? := g11.block bk (Array.getElem?_eq_some_iff.1 hbk9).1 (fun e => own_ne o9 hbk9 (by decide) e.symm)
  have hS : Stp W M (w11.setCell ⟨Y, 0, none⟩ v') (v'.ownBlock.toList ++ M) := ⟨(K1.trans K2).trans K3, fun m hm => by
    rcases List.mem_append.1 hm with hm | hm
    · rcases loc with e | ⟨g, e, hge⟩
      · exact .inl (h.vm m (by rw [← e]; exact mem_ob.1 hm))
      · rw [mem_ob.1 hm] at e; cases e
        exact .inr (Nat.le_trans K1.size hge)
    · exact .inl hm⟩
  obtain ⟨p, y, e1, e2, e3⟩ := hp
  have b9x : BldV w9 bk (Grp fun z => Grp (· ∈ l) z ∨ z ∈ [x]) ((v'.ownBlock.toList ++ M) ++ List.range D) := b9.ext fun m hm => by
    rcases List.mem_append.1 hm with hm | hm
    · rcases List.mem_append.1 hm with hm | hm
      · rcases loc with e | ⟨g, e, hge⟩
        · exact .inl (List.mem_append_left _ (h.vm m (by rw [← e]; exact mem_ob.1 hm)))
        · rw [mem_ob.1 hm] at e; cases e
          exact .inr (.inr hge)
      · exact .inl (List.mem_append_left _ hm)
    · exact .inl (List.mem_append_right _ hm)
  have hbl : BldV (w11.setCell ⟨Y, 0, none⟩ v') bk (Grp (· ∈ l ++ [x])) ((v'.ownBlock.toList ++ M) ++ List.range D) := by
    have inM : ∀ m ∈ M, m ∈ (v'.ownBlock.toList ++ M) ++ List.range D := fun m hm => List.mem_append_left _ (List.mem_append_right _ hm)
    refine ((b9x.keptB K2 inM bk11).keptB K3 inM ((grown_put 0 v').block bk (Array.getElem?_eq_some_iff.1 (bk11.trans hbk9)).1 (fun e => by cases e; exact hYb rfl))).congr fun z => ?_
    exact ⟨Grp.sub Grp.isG (fun s hs => by
      rcases hs with hs | hs
      · exact Grp.sub Grp.isG (fun q hq => Grp.base (List.mem_append_left _ hq)) hs
      · exact Grp.base (List.mem_append_right _ hs)), Grp.sub Grp.isG (fun s hs => by
      rcases List.mem_append.1 hs with hs | hs
      · exact Grp.base (.inl (Grp.base hs))
      · exact Grp.base (.inr hs))⟩
  have sz3 : (w11.setCell ⟨Y, 0, none⟩ v').heap.size = w11.heap.size := by simp [World.setCell]
  have hsz : w9.heap.size ≤ w11.heap.size := g11.size
  refine ⟨v'.ownBlock.toList ++ M, ⟨v', us ++ [va], ?_, ?_, box1_set y11, o11.keptL K3Y (fun g e hm => own_ne o11 (show w11.heap[Y]? = _ from y11) (by decide) (by rw [e, List.mem_singleton.1 hm])), (h.pml.snoc hpm).stp hS, ?_, List.mem_append_right _ h.bm, List.mem_append_right _ h.ym, fun g e => List.mem_append_left _ (mem_ob.2 e), ?_, ?_⟩, hS⟩
  · subst e3
    exact h.p.add e1 e2 hg (hbl.ch hn Grp.isG)
  · exact (((K1.trans K2).trans K3).block X (Array.getElem?_eq_some_iff.1 h.xb).1 h.xm).trans h.xb
  · exact hbl
  · intro hm
    rcases List.mem_append.1 hm with hm | hm
    · rcases loc with e | ⟨g, e, hge⟩
      · exact h.xm (h.vm X (by rw [← e]; exact mem_ob.1 hm))
      · rw [mem_ob.1 hm] at e; cases e
        have := (Array.getElem?_eq_some_iff.1 h.xb).1
        have := K1.size
        omega
    · exact h.xm hm
  · intro m hm
    rw [sz3]
    rcases List.mem_append.1 hm with hm | hm
    · exact (o11.block_lt (mem_ob.1 hm)).1
    · exact Nat.lt_of_lt_of_le (Nat.lt_of_lt_of_le (h.lt m hm) K1.size) hsz
theorem ClJ.ownFrom (E D bk X Y : Nat) (L B : List (Pm n)) : OwnFromS E (ClJ (n := n) D bk X Y L B) := by
  rintro ⟨s, M⟩ A A' row ⟨v, us, h⟩ hg hr
  have k : Turn A A' row := ⟨hg, fun r e => (hr r e).2⟩
  exact ⟨v, us, h.p, k.cells h.xb, k.cells h.yb, h.own.turn k, h.pml.up k.up, h.bld.turn k, h.bm, h.ym, h.vm, h.xm, fun m hm => Nat.lt_of_lt_of_le (h.lt m hm) hg.size⟩
theorem pms_ownB {D : Nat} {W : World} {M : List Nat} {v : Value} {us : List Value} {l : List (Pm n)} (ho : Own W D v 27 us) (hp : PmL W M us l) (hl : l.length ≤ 1000000) : PmsV W [] v l := by
  obtain ⟨a, c, rfl, hr⟩ := ho.row (by rw [hp.1]; unfold maxLen; omega)
  exact ⟨a, c, us, by rw [hp.1], hr, hp.1, fun i x hx => by obtain ⟨u, hu, hpm⟩ := hp.2 i x hx; exact ⟨u, hu, hpm.weak⟩⟩
theorem ClJ.core {D bk X Y N : Nat} {L B : List (Pm n)} (hN : L.length + n * n ≤ N) (hN2 : N ≤ 1000000) (s : List (Pm n) × Nat) (M : List Nat) (A : World) (h : ClJ D bk X Y L B s M A) : cjCore n Y N s M A ∧ ∀ m ∈ M, m < A.heap.size := by
  obtain ⟨v, us, h⟩ := h
  have hl := h.p.len
  exact ⟨⟨⟨v, by simp [World.cell?, h.yb], pms_ownB h.own h.pml (by omega)⟩, by omega⟩, h.lt⟩
theorem pmsN_lit1 {w : World} {va : Value} {x : Pm n} {M M' : List Nat} (h : PmV w M va x) (hM : ∀ m ∈ M', m ∈ M) (hlt : ∀ m ∈ M', m < w.heap.size) : PmsN (w.alloc (.cells #[va] 27)) M' (.slice (some ⟨w.heap.size, 0, none⟩) 1 1) [x] := by
  obtain ⟨b, o, c, e, h1, h2, h3⟩ := h
  have hb : Below w.heap.size w (w.alloc (.cells #[va] 27)) := alloc_b (Below.refl _ _) _
  refine ⟨_, _, [va], rfl, fun W' k => ⟨by simp [maxLen], fun i u hu => ?_⟩, rfl, fun i y hy => ?_⟩
  · match i, hu with
    | 0, hu =>
      cases hu
      have hk := k.block w.heap.size (by simp) (fun hm => by have := hlt _ hm; omega)
      refine ⟨_, _, rfl, Nat.lt_of_lt_of_le (by simp) k.size, ?_⟩
      unfold World.cell?
      rw [hk, World.alloc_heap_new]
      rfl
  · match i, hy with
    | 0, hy =>
      cases hy
      exact ⟨va, rfl, b, o, c, e, fun hm => h1 (hM _ hm), Nat.lt_of_lt_of_le h2 hb.size, fun j hj => (hb.cell (p := ⟨b, o + j, none⟩) h2).trans (h3 j hj)⟩
theorem box1_cells {W : World} {Y : Nat} {v : Value} {t : TypeId} (h : W.heap[Y]? = some (.cells #[v] t (0, 0))) : W.cell? ⟨Y, 0, none⟩ = some v ∧ W.frozen? ⟨Y, 0, none⟩ = false := by
  constructor <;> simp [World.cell?, World.frozen?, h]
theorem conj76' {w : World} (p a : Option Addr) (l c : Nat) :
    Calls Tryz.prog 76 #[.pointer p, .slice a l c] w fun e w' => ∃ U V, e = .returned (.func (.func 117) #[] #[.pointer (some ⟨U, 0, none⟩), .pointer (some ⟨V, 0, none⟩)]) ∧ w'.cell? ⟨U, 0, none⟩ = some (.pointer p) ∧ w'.cell? ⟨V, 0, none⟩ = some (.slice a l c) ∧ w.heap.size ≤ U ∧ w.heap.size ≤ V ∧ Below w.heap.size w w' := by
  refine (conj76 p a l c).mono ?_
  rintro e w' ⟨rfl, rfl⟩
  refine ⟨_, _, rfl, ?_, ?_, Nat.le_refl _, Nat.le_succ _, alloc_b (alloc_b (Below.refl _ _) _) _⟩
  · rw [World.cell?_alloc_past _ _ _ (by simp), World.cell?_alloc_at _ _ _ _ rfl]; rfl
  · rw [World.cell?_alloc_at _ _ _ _ (by simp)]; rfl
set_option maxRecDepth 100000 in
set_option maxHeartbeats 4000000 in
theorem closed80 (hn : 0 < n ∧ n ≤ 64) {w : World} {vl vb : Value} {L B : List (Pm n)} (hL : L.length ≤ 4096) (hl : PmsV w [] vl L) (hb : PmsV w [] vb B) :
    Calls Tryz.prog 80 #[.int .i64 (n : Int), vl, vb] w fun e w' => ∃ bk, e = .returned (.pointer (some ⟨bk, 0, none⟩)) ∧ w.heap.size ≤ bk ∧ Below w.heap.size w w' ∧ ∀ S, (∀ m ∈ S, m < w.heap.size) → BldV w' bk (NcG (· ∈ L) (· ∈ B)) S := by
  obtain ⟨D, hD⟩ : ∃ D, w.heap.size = D := ⟨_, rfl⟩
  have K71 := from71 (w := w) hn
  have H := Lib.hid (And.intro hl (And.intro hb (And.intro K71 hD)))
  obtain ⟨al, cl, evl, _, _⟩ := pms_at hl
  obtain ⟨ab, cb, evb, _, _⟩ := pms_at hb
  obtain ⟨NL, hNL⟩ : ∃ N, L.length = N := ⟨_, rfl⟩
  obtain ⟨NB, hNB⟩ : ∃ N, B.length = N := ⟨_, rfl⟩
  rw [hNL] at evl
  rw [hNB] at evb
  subst evl
  subst evb
  have HN := Lib.hid (And.intro hNL (And.intro hNB hL))
  clear hl hb K71 hNL hNB hL
  refine (callsIn_wide (n := 9)).1 ?_
  have w71 : Fence.wide.fn 71 := trivial
  have w72 : Fence.wide.fn 72 := trivial
  have w76 : Fence.wide.fn 76 := trivial
  have w77 : Fence.wide.fn 77 := trivial
  have w123 : Fence.wide.fn 123 := trivial
  have wd : Fence.wide.depth = none := rfl
  refine callsIn_of_wp_marks Tryz.func80 rfl trivial ?_ rfl
  simp only [Tryz.ntmps80, List.size_toArray, List.length_cons, List.length_nil, Nat.reduceAdd, Nat.reduceSub, Array.replicate_succ, Array.replicate_zero, List.push_toArray, List.append_toArray, List.nil_append, List.cons_append]
  gi_wp2_with (first
    | (gi_at_call 76; (with_reducible refine (callsIn_wide.2 (conj76' _ _ _ _)).mono ?_); rintro e6 w6 ⟨U, V, rfl, k1, k2, k3, k4, k5⟩; have H6 := Lib.hid (And.intro k1 (And.intro k2 (And.intro k3 (And.intro k4 k5)))); clear k1 k2 k3 k4 k5)
    | (gi_at_call 123
       obtain ⟨X, hX⟩ : ∃ X, w2.heap.size = X := ⟨_, rfl⟩
       obtain ⟨W3, hW3⟩ : ∃ W3, w2.alloc (.cells #[.pointer (some ⟨bk, 0, none⟩)] 82) = W3 := ⟨_, rfl⟩
       have hx3 : W3.heap[X]? = some (.cells #[.pointer (some ⟨bk, 0, none⟩)] 82 (0, 0)) := by rw [← hW3, ← hX]; exact World.alloc_heap_new _ _
       have hb3 : Below w2.heap.size w2 W3 := by rw [← hW3]; exact alloc_b (Below.refl _ _) _
       have hwD : Below w.heap.size w W3 := (H1.out.2.2.trans (H2.out.2.below1 H1.out.2.2.size H1.out.1)).trans (hb3.mono (by have := H1.out.2.2.size; have := H2.out.2.size; omega))
       have hs3 : W3.heap.size = X + 1 := by rw [← hW3, ← hX]; simp
       rw [hW3]
       have H3 := Lib.hid (And.intro hx3 (And.intro hb3 (And.intro hwD (And.intro hs3 hX))))
       clear hx3 hb3 hwD hs3 hX hW3
       (with_reducible refine (callsIn_wide.2 (clone123 H.out.1 H3.out.2.2.1 ?_)).mono ?_)
       · have := HN.out.2.2; omega
       rintro e4 w4 ⟨v4, us4, rfl, k1, k2, k3⟩
       have hlu : us4.length = NL := k2.1.trans HN.out.1
       obtain ⟨a4, c4, ev4, _⟩ := k1.row (by rw [hlu]; have := HN.out.1; have := HN.out.2.2; unfold maxLen; omega)
       rw [hlu] at ev4
       subst ev4
       clear hlu
       have H4 := Lib.hid (And.intro k1 (And.intro k2 k3))
       clear k1 k2 k3)
    | (gi_at_call 72; (with_reducible refine (callsIn_wide.2 (bld_with (L := L) hn Grp.isG H1.out.2.1 ?_ ?_ ?_)).mono ?_)
       · exact HN.out.2.2
       · exact PmsN.of H.out.1 H1.out.2.2 (fun m hm => by rw [List.mem_singleton.1 hm]; exact H1.out.1)
       · exact fun m hm => Nat.lt_of_lt_of_le (List.mem_range.1 hm) (by rw [← H.out.2.2.2]; exact H1.out.2.2.size)
       rintro e2 w2 ⟨rfl, k1, k2⟩
       have H2 := Lib.hid (And.intro k1 k2)
       clear k1 k2)
    | (gi_at_call 71; (with_reducible refine (callsIn_wide.2 H.out.2.2.1).mono ?_); rintro e1 w1 ⟨bk, rfl, k1, k2, k3⟩; have H1 := Lib.hid (And.intro k1 (And.intro (k3 (List.range D) (fun m hm => by rw [H.out.2.2.2]; exact List.mem_range.1 hm)) k2)); clear k1 k2 k3))
  rw [H3.out.2.2.2.2]
  obtain ⟨Y, hY⟩ : ∃ Y, w4.heap.size = Y := ⟨_, rfl⟩
  rw [hY] at H6 ⊢
  obtain ⟨W5, hW5⟩ : ∃ W5, w4.alloc (.cells #[.slice a4 NL c4] 44) = W5 := ⟨_, rfl⟩
  rw [hW5] at H6
  have hb5 : Below w4.heap.size w4 W5 := hW5 ▸ alloc_b (Below.refl _ _) _
  have hs5 : W5.heap.size = Y + 1 := by rw [← hW5]; simp [hY]
  have y5 : W5.heap[Y]? = some (.cells #[.slice a4 NL c4] 44 (0, 0)) := by rw [← hW5, ← hY]; exact World.alloc_heap_new _ _
  have b56 : Below W5.heap.size W5 w6 := H6.out.2.2.2.2
  have b46 : Below w4.heap.size w4 w6 := below_trans hb5 b56
  have b36 : Below W3.heap.size W3 w6 := below_trans H4.out.2.2 b46
  have b26 : Below w2.heap.size w2 w6 := below_trans H3.out.2.1 b36
  have bw6 : Below w.heap.size w w6 := below_trans H3.out.2.2.1 b36
  have s34 : X + 1 ≤ Y := by have := H4.out.2.2.size; rw [H3.out.2.2.2.1, hY] at this; exact this
  have sDX : D ≤ X := by have h1 := H1.out.2.2.size; have h2 := H2.out.2.size; rw [H3.out.2.2.2.2] at h2; omega
  have s56 : Y + 1 ≤ w6.heap.size := by have := b56.size; rw [hs5] at this; exact this
  have hbkX : bk < X := by have := H2.out.1.lt; rw [H3.out.2.2.2.2] at this; exact this
  have hDbk : D ≤ bk := by have := H1.out.1; omega
  have x6 : w6.heap[X]? = some (.cells #[.pointer (some ⟨bk, 0, none⟩)] 82 (0, 0)) := (b36.block X (by rw [H3.out.2.2.2.1]; omega)).trans H3.out.1
  have y6 : w6.heap[Y]? = some (.cells #[.slice a4 NL c4] 44 (0, 0)) := (b56.block Y (by omega)).trans y5
  have o6 : Own w6 D (.slice a4 NL c4) 27 us4 := (H4.out.1.mono (by rw [H3.out.2.2.2.1]; omega)).below b46
  have vb : ∀ g, (Value.slice a4 NL c4).ownBlock = some g → X + 1 ≤ g ∧ g < Y := fun g e => by
    have := H4.out.1.block_lt e
    rw [H3.out.2.2.2.1, hY] at this
    omega
  obtain ⟨M0, hM0⟩ : ∃ M0, M0 = bk :: Y :: (Value.slice a4 NL c4).ownBlock.toList := ⟨_, rfl⟩
  have mM : ∀ m ∈ M0, m = bk ∨ m = Y ∨ (X + 1 ≤ m ∧ m < Y) := fun m hm => by
    rw [hM0] at hm
    rcases List.mem_cons.1 hm with h | hm
    · exact .inl h
    · rcases List.mem_cons.1 hm with h | hm
      · exact .inr (.inl h)
      · exact .inr (.inr (vb m (mem_ob.1 hm)))
  have hlt : ∀ m ∈ M0, m < w6.heap.size := fun m hm => by rcases mM m hm with h | h | h <;> omega
  have hge : ∀ m ∈ M0, w.heap.size ≤ m := fun m hm => by rcases mM m hm with h | h | h <;> omega
  have p6 : PmL w6 M0 us4 L := ⟨H4.out.2.1.1, fun i x hx => by obtain ⟨u, hu, hp⟩ := H4.out.2.1.2 i x hx; exact ⟨u, hu, hp.fresh bw6 hge⟩⟩
  have l6 : BldV w6 bk (Grp (· ∈ L)) (M0 ++ List.range D) := by
    refine ((H2.out.1.congr fun z => ?_).ext fun m hm => ?_).below b26
    · exact ⟨Grp.sub Grp.isG (fun s hs => by
        rcases hs with hs | hs
        · exact Grp.sub Grp.isG (fun q hq => by cases hq) hs
        · exact Grp.base hs), Grp.sub Grp.isG (fun s hs => Grp.base (.inr hs))⟩
    · rcases List.mem_append.1 hm with hm | hm
      · rw [H3.out.2.2.2.2]
        rcases mM m hm with h | h | h
        · exact .inr (.inl h)
        · exact .inr (.inr (by omega))
        · exact .inr (.inr (by omega))
      · exact .inl hm
  have hI0 : ClJ D bk X Y L B (L, 0) M0 w6 := ⟨_, us4, ⟨ClP.start (l6.ch hn Grp.isG), x6, y6, o6, p6, l6, by rw [hM0]; simp, by rw [hM0]; simp, fun g e => by rw [hM0]; exact List.mem_cons_of_mem _ (List.mem_cons_of_mem _ (mem_ob.2 e)), fun hm => by rcases mM X hm with h | h | h <;> omega, hlt⟩⟩
  have hUV : W5.heap.size ≤ U ∧ W5.heap.size ≤ V := ⟨H6.out.2.2.1, H6.out.2.2.2.1⟩
  have nU : U ∉ M0 := fun hm => by have := hUV.1; rcases mM U hm with h | h | h <;> omega
  have nV : V ∉ M0 := fun hm => by have := hUV.2; rcases mM V hm with h | h | h <;> omega
  have hPB : PmsN w6 M0 (.slice ab NB cb) B := PmsN.of H.out.2.1 bw6 hge
  have hNN : L.length + n * n ≤ 4096 + 64 * 64 := Nat.add_le_add HN.out.2.2 (Nat.mul_le_mul hn.2 hn.2)
  have HZ := Lib.hid (And.intro hI0 (And.intro hPB (And.intro nU (And.intro nV (And.intro hlt (And.intro hge bw6))))))
  clear hI0 hPB nU nV hlt bw6 l6 p6 mM vb o6 y6 x6 b26 b36 b46 b56 y5 hW5 hs5 hb5 hUV
  refine wpIn_rangeY (gf := 117) (lb := #[.pointer (some ⟨U, 0, none⟩), .pointer (some ⟨V, 0, none⟩)]) rfl (enters_of Tryz.func117 (by kernel_rfl) rfl)
    (Prod.fst : Value × Pm n → Value) rfl M0 HZ.out.2.2.2.2.1 (ClJ D bk X Y L B) (fun _ => False) (cjCore n Y 8192) (cjGood B) cjNx (cjFin B) (L, 0)
    (conj117 hn H6.out.1 H6.out.2.1 HZ.out.2.2.1 HZ.out.2.2.2.1 HZ.out.2.1 (by decide)) (ClJ.ownFrom _ _ _ _ _ _ _) (fun s W W' row h _ _ => h) ?good (ClJ.core (by omega) (by decide)) HZ.out.1
    (fun q => { tmps := #[.int .i64 (n : Int), .slice al NL cl, .slice ab NB cb, undef, undef, undef, .pointer none, .pointer (some ⟨X, 0, none⟩), .pointer (some ⟨Y, 0, none⟩), q.1, .int .i64 (n : Int), .pointer (some ⟨bk, 0, none⟩), .slice al NL cl, .pointer (some ⟨bk, 0, none⟩), .slice al NL cl, .slice a4 NL c4, .slice ab NB cb,
      .func (.func 117) #[] #[.pointer (some ⟨U, 0, none⟩), .pointer (some ⟨V, 0, none⟩)], q.1, undef, undef, undef, undef, undef, undef, undef, undef, undef, undef, undef, undef, undef], defers := [] }) ?assign ?body ?done ?stop
  case good =>
    intro s M q W W' row h hg hr
    exact ⟨h.1.up (Turn.up ⟨hg, fun r e => (hr r e).2⟩), h.2⟩
  case assign =>
    intro nn l x W K hK
    gi_wp2
    exact hK
  case body =>
    rintro nn lp ⟨l, c⟩ M ⟨va, x⟩ W ⟨v, us, hI⟩ ⟨hpm, p, y, hp, hy, hx⟩ hst
    dsimp only at hpm hp hy hx ⊢
    obtain ⟨xc, _⟩ := box1_cells hI.xb
    obtain ⟨i27, hi27, hz27, hs27, hb27⟩ := info_parts Tryz.info27
    have I27 := Lib.hid (And.intro hi27 (And.intro hz27 (And.intro hs27 hb27)))
    clear hi27 hz27 hs27 hb27
    have hll : l.length ≤ 8192 := by have := hI.p.len; dsimp only at this; omega
    obtain ⟨av, cv, ev, _⟩ := hI.own.row (by rw [hI.pml.1]; dsimp only; unfold maxLen; omega)
    subst ev
    have K77 := bld_has hn Grp.isG hI.bld hpm.weak
    have hXW : X < W.heap.size := (Array.getElem?_eq_some_iff.1 hI.xb).1
    have hpy : ∃ p y, l[c / B.length]? = some p ∧ B[c % B.length]? = some y ∧ x = cj p y := ⟨p, y, hp, hy, hx⟩
    obtain ⟨xb, xo, xcp, rfl, _⟩ := id hpm
    have HB := Lib.hid (And.intro hI (And.intro hpm (And.intro hpy (And.intro K77 (And.intro hXW hll)))))
    clear hI hpm hpy K77 hXW hll hp hy hx hst
    have w72 : Fence.wide.fn 72 := trivial
    have w77 : Fence.wide.fn 77 := trivial
    have wd : Fence.wide.depth = none := rfl
    by_cases hgx : Grp (· ∈ l) x
    · have HG := Lib.hid hgx
      clear hgx
      gi_wp2_with (gi_at_call 77; (with_reducible refine (callsR HB.out.2.2.2.1).mono ?_); rintro e7 w7 ⟨h1, k2⟩; have h2 := h1.true_ HG.out; subst h2; have H7 := Lib.hid k2; clear h1 k2)
      obtain ⟨v', us', h'⟩ := ownS_below (ClJ.ownFrom 0 D bk X Y L B) (s := (l, c)) ⟨_, us, HB.out.1⟩ H7.out
      obtain ⟨p, y, hp, hy, hx⟩ := HB.out.2.2.1
      exact ⟨(l, c + 1), M, ⟨rfl, List.prefix_refl _⟩, ⟨v', us', { h' with p := HB.out.1.p.keep hp hy (by rw [← hx]; exact HG.out) }⟩, Stp.below H7.out⟩
    · have HG := Lib.hid hgx
      clear hgx
      gi_wp2_with (first
        | (gi_at_builtin; refine app1In rfl (.tmp 27) (.tmp 29) 44 27 rfl i27 (.slice none 0 0) 24 Tryz.underlying44 I27.out.1 I27.out.2.1 I27.out.2.2.1 I27.out.2.2.2 rfl (by omega) D (.slice (some ⟨xb, xo, none⟩) n xcp) (.slice av us.length cv) us rfl H9.out.2.2.1 rfl rfl H9.out.2.2.2.1 H9.out.2.2.2.2 ?_
           intro v' w11 k1 k2 k3
           obtain ⟨G, cap, ev', -⟩ := k1.form (by simp)
           rw [List.length_append, List.length_singleton] at ev'
           subst ev'
           have y11 := (k2.block Y (Array.getElem?_eq_some_iff.1 Y9.out).1 (fun e => own_ne H9.out.2.2.1 Y9.out (by decide) e.symm)).trans Y9.out
           obtain ⟨y11c, y11f⟩ := box1_cells y11
           have H11 := Lib.hid (And.intro k1 (And.intro k2 k3))
           clear k1 k2 k3 y11)
        | (gi_at_call 72; (with_reducible refine (callsR (bld_with (L := [x]) hn Grp.isG H7.out.2.1 (by simp) H7.out.2.2.1 H7.out.2.2.2)).mono ?_)
           rintro e9 w9 ⟨rfl, k1, k2⟩
           have hYb : Y ≠ bk := fun e => by
             obtain ⟨a, b, c', d, h1, _⟩ := HB.out.1.bld
             have h2 := HB.out.1.yb
             rw [e, h1] at h2
             injection h2 with h2
             injection h2 with _ h3 _
             exact absurd h3 (by decide)
           have y8 : (w7.alloc (.cells #[.slice (some ⟨xb, xo, none⟩) n xcp] 27)).heap[Y]? = some (.cells #[.slice av us.length cv] 44 (0, 0)) := ((alloc_b H7.out.1 (.cells #[.slice (some ⟨xb, xo, none⟩) n xcp] 27)).block Y (Array.getElem?_eq_some_iff.1 HB.out.1.yb).1).trans HB.out.1.yb
           have y9 := (k2.block Y (Array.getElem?_eq_some_iff.1 y8).1 (fun e => hYb (List.mem_singleton.1 e))).trans y8
           have Y9 := Lib.hid y9
           obtain ⟨y9c, y9f⟩ := box1_cells y9
           have o9 : Own w9 D (.slice av us.length cv) 27 us := (HB.out.1.own.below (alloc_b H7.out.1 (.cells #[.slice (some ⟨xb, xo, none⟩) n xcp] 27))).keptL k2 (fun g e hm => by
             obtain ⟨a, b, c', d, h1, _⟩ := HB.out.1.bld
             exact own_ne HB.out.1.own h1 (by decide) (by rw [e, List.mem_singleton.1 hm]))
           have hus : us.length < 1099511627776 := by have h1 := HB.out.1.pml.1; have h2 := HB.out.2.2.2.2.2; dsimp only at h1; omega
           have hDw : D ≤ w9.heap.size := by
             have h1 := k2.size
             have h2 := H7.out.1.size
             have h3 := HB.out.2.2.2.2.1
             rw [World.size_alloc] at h1
             omega
           have H9 := Lib.hid (And.intro k1 (And.intro k2 (And.intro o9 (And.intro hus hDw))))
           clear k1 k2 o9 hus hDw y8 y9 hYb)
        | (gi_at_call 77; (with_reducible refine (callsR HB.out.2.2.2.1).mono ?_); rintro e7 w7 ⟨h1, k2⟩; have h2 := h1.false_ HG.out; subst h2
           have xc7 := (k2.cell (p := ⟨X, 0, none⟩) HB.out.2.2.2.2.1).trans xc
           have hlt8 : ∀ m ∈ M ++ List.range D, m < (w7.alloc (.cells #[.slice (some ⟨xb, xo, none⟩) n xcp] 27)).heap.size := fun m hm => by
             have h1 := k2.size
             have h3 := HB.out.2.2.2.2.1
             rw [World.size_alloc]
             rcases List.mem_append.1 hm with hm | hm
             · have := HB.out.1.lt m hm; omega
             · have := List.mem_range.1 hm; omega
           have pn : PmsN (w7.alloc (.cells #[.slice (some ⟨xb, xo, none⟩) n xcp] 27)) [bk] (.slice (some ⟨w7.heap.size, 0, none⟩) 1 1) [x] := pmsN_lit1 (HB.out.2.1.below k2) (fun m hm => by rw [List.mem_singleton.1 hm]; exact HB.out.1.bm) (fun m hm => by rw [List.mem_singleton.1 hm]; exact Nat.lt_of_lt_of_le (HB.out.1.lt bk HB.out.1.bm) k2.size)
           have H7 := Lib.hid (And.intro k2 (And.intro (HB.out.1.bld.below (alloc_b k2 (.cells #[.slice (some ⟨xb, xo, none⟩) n xcp] 27))) (And.intro pn hlt8)))
           clear h1 k2 pn hlt8))
      obtain ⟨M', hJ, hS⟩ := ClI.grow HB.out.1 HB.out.2.1 HB.out.2.2.1 HG.out H7.out.1 H9.out.2.1 H9.out.1 hn H11.out.1 H11.out.2.1 H11.out.2.2
      exact ⟨(l ++ [x], c + 1), M', ⟨rfl, List.prefix_append _ _⟩, hJ, hS⟩
  case done =>
    rintro D9 ⟨l, c⟩ M W hD9 hfin ⟨v, us, hI⟩ hst hdef
    obtain ⟨xc, _⟩ := box1_cells hI.xb
    have hc : c = l.length * B.length := hfin
    subst hc
    have HF := Lib.hid (And.intro hI (And.intro hst hD9))
    clear hI hst hfin hD9
    gi_wp2
    refine ⟨by simp, .inl ⟨_, _, rfl, run_takeDeferred hdef, ?_⟩⟩
    have hbW : Below w.heap.size w W := HZ.out.2.2.2.2.2.2.trans (HF.out.2.1.kept.below HZ.out.2.2.2.2.2.2.size HZ.out.2.2.2.2.2.1)
    refine ⟨_, results_tmp rfl _ _ _, ⟨bk, rfl, by omega, hbW.grown (grownBy_putObj' W D9 (.deferred none)) hbW.size (fun k e => by cases e; have := HF.out.2.2; omega), fun S hS => ?_⟩⟩
    refine ((HF.out.1.bld.congr (HF.out.1.p.fin)).ext fun m hm => .inl (List.mem_append_right _ (List.mem_range.2 ?_))).turn ⟨grownBy_putObj' W D9 (.deferred none), fun r e => by cases e; exact ⟨_, hdef, rfl⟩⟩
    have := hS m hm
    omega
  case stop => exact fun D W _ h => h.elim
end
end Go.Proofs.YtbejhkojdiadaaaGreat
namespace Go.Proofs.YtbejhkojdiadaaaGreat
open Go.RowKit PlainPm
section
variable {n : Nat}
theorem orb_from {G : Pm n → Prop} {T : Tw n} (hG : IsG G) (h : Of G T) {i : Nat} (hi : i < n) : (orbO T i).length ≤ n - i := by
  have hc := h.chG hG
  have := sub_len (l := orbO T i) (m := (List.range (n - i)).map (· + i)) (hc.nd i hi) (fun p hp => by
    have h1 := hc.lt i hi p hp
    obtain ⟨y, _, h2, h3⟩ := (hc.mem i hi p).1 hp
    have h4 : i ≤ p := by
      rcases Nat.lt_or_ge p i with hlt | hge
      · have e := h2 p hlt
        have := y.inj (i := i) (k := p) hi h1 (by rw [h3, e])
        omega
      · exact hge
    exact List.mem_map.2 ⟨p - i, List.mem_range.2 (by omega), by omega⟩)
  simpa using this
theorem agen_len2 {G : Pm n → Prop} {T : Tw n} (hG : IsG G) (h : Of G T) : 2 * (agen T).length ≤ n * (n + 1) := by
  have key : ∀ m, m ≤ n → 2 * ((List.range m).flatMap fun i => (orbO T i).map (PlainPm.repT T i)).length + (n - m) * (n - m + 1) ≤ n * (n + 1) := fun m => by
    induction m with
    | zero => intro _; simp
    | succ m ih =>
      intro hm
      have h1 := ih (by omega)
      have h2 := orb_from hG h (i := m) (by omega)
      rw [List.range_succ, List.flatMap_append, List.length_append]
      simp only [List.flatMap_cons, List.flatMap_nil, List.append_nil, List.length_map]
      obtain ⟨q, hq⟩ : ∃ q, n - m = q + 1 := ⟨n - m - 1, by omega⟩
      have hq2 : n - (m + 1) = q := by omega
      rw [hq] at h1 h2
      rw [hq2]
      have e : (q + 1) * (q + 1 + 1) = q * (q + 1) + 2 * (q + 1) := by
        rw [Nat.mul_comm, ← Nat.add_mul]
      omega
  have := key n (Nat.le_refl _)
  simp only [Nat.sub_self, Nat.zero_mul, Nat.add_zero] at this
  exact this
theorem pml_rv (hn : 0 < n) {w : World} {us : List Value} {A : List (Pm n)} (h : RV w us (A.map (·.l))) : PmL w [] us A := by
  refine ⟨by rw [h.1, List.length_map], fun i x hx => ?_⟩
  have hi : i < us.length := by rw [h.1, List.length_map]; exact (List.getElem?_eq_some_iff.1 hx).1
  obtain ⟨b, c, e, hints⟩ := h.2 i us[i] x.l (List.getElem?_eq_getElem hi) (by rw [List.getElem?_map, hx]; rfl)
  refine ⟨us[i], List.getElem?_eq_getElem hi, ?_⟩
  rw [e, x.ok.1]
  exact pm_of_ints hn hints
theorem PmL.weakM {w : World} {M : List Nat} {us : List Value} {l : List (Pm n)} (h : PmL w M us l) : PmL w [] us l := ⟨h.1, fun i x hx => by obtain ⟨u, hu, hp⟩ := h.2 i x hx; exact ⟨u, hu, hp.weak⟩⟩
theorem keep2c {V A B : World} {p q : Addr} {s t : Value} (h : A.cell? p = some s ∧ A.cell? q = some t ∧ Below V.heap.size V A) (k : Below A.heap.size A B) : B.cell? p = some s ∧ B.cell? q = some t ∧ Below V.heap.size V B :=
  ⟨(k.cell (block_lt_of_cell h.1)).trans h.1, (k.cell (block_lt_of_cell h.2.1)).trans h.2.1, below_trans h.2.2 k⟩
def GrowL (N : List Nat) (W : World) (D : Nat) (v : Value) (us : List Value) (l : List (Pm n)) : Prop := Own W D v 27 us ∧ PmL W (v.ownBlock.toList ++ N) us l ∧ ∀ m ∈ N, m < W.heap.size
theorem GrowL.nil {N : List Nat} {W : World} (D : Nat) (h : ∀ m ∈ N, m < W.heap.size) : GrowL (n := n) N W D (.slice none 0 0) [] [] := ⟨Own.nil _ _ _, ⟨rfl, fun i x hx => by simp at hx⟩, h⟩
section
variable {N : List Nat} {W W' W0 : World} {D : Nat} {v v' u : Value} {us : List Value} {l : List (Pm n)} {z : Pm n}
theorem GrowL.below (h : GrowL N W D v us l) (k : Below W.heap.size W W') : GrowL N W' D v us l := ⟨h.1.below k, h.2.1.stp (Stp.below k), fun m hm => Nat.lt_of_lt_of_le (h.2.2 m hm) k.size⟩
theorem GrowL.app (h : GrowL N W D v us l) (hz : PmV W (v.ownBlock.toList ++ N) u z) (o : Own W' D v' 27 (us ++ [u])) (g : W.grownBy W' v.ownBlock) (loc : v'.ownBlock = v.ownBlock ∨ ∃ g, v'.ownBlock = some g ∧ W.heap.size ≤ g) :
    GrowL N W' D v' (us ++ [u]) (l ++ [z]) :=
  ⟨o, (h.2.1.snoc hz).stp ⟨Kept.ofGrown g (fun k e => List.mem_append_left _ (mem_ob.2 e)), fun m hm => by
    rcases List.mem_append.1 hm with hm | hm
    · have hm := mem_ob.1 hm
      rcases loc with e | ⟨q, e, hq⟩
      · exact .inl (List.mem_append_left _ (mem_ob.2 (by rw [← e]; exact hm)))
      · rw [hm] at e; cases e; exact .inr hq
    · exact .inl (List.mem_append_right _ hm)⟩, fun m hm => Nat.lt_of_lt_of_le (h.2.2 m hm) g.size⟩
theorem NewPm.growV (h : GrowL N W0 D v us l) (hz : NewPm W0 W u z) : PmV W (v.ownBlock.toList ++ N) u z :=
  hz.pm fun m hm => by
    rcases List.mem_append.1 hm with hm | hm
    · exact (h.1.block_lt (mem_ob.1 hm)).1
    · exact h.2.2 m hm
theorem GrowL.len (h : GrowL N W D v us l) : us.length = l.length := h.2.1.1
end
end
end Go.Proofs.YtbejhkojdiadaaaGreat
namespace Go.Proofs.YtbejhkojdiadaaaGreat.PlainPm
variable {n : Nat}
def inT (T : Tw n) (x : Pm n) : Bool := decide ((sft T n 0 x).1 = n)
theorem inT_grp {G : Pm n → Prop} {T : Tw n} (h : Of G T) {x : Pm n} (hx : inT T x = true) : G x :=
  ((h.mem 0 (Nat.zero_le _) x).1 (sft_end h.wf (Nat.zero_add n) (fun j hj => by omega) (show sft T n 0 x = (n, (sft T n 0 x).2) from Prod.ext (of_decide_eq_true hx) rfl))).1
theorem s_sft {T : Tw n} (hT : Wf T) : ∀ {f i : Nat} {x : Pm n}, i + f = n → S T f i x → (sft T f i x).1 = n
  | 0, i, x, hf, _ => by simp only [sft]; omega
  | f + 1, i, x, hf, h => by
    obtain ⟨_, y, hy, hs⟩ := h
    rw [sft, hy]
    show (sft T f (i + 1) (if x.at i = i then x else x.mul y.inv)).1 = n
    rw [sft_next hT (by omega) hy]
    exact s_sft hT (by omega) hs
theorem inT_iff {G : Pm n → Prop} {T : Tw n} (h : Of G T) (x : Pm n) : inT T x = true ↔ G x :=
  ⟨inT_grp h, fun hx => decide_eq_true (s_sft h.wf (Nat.zero_add n) ((h.mem 0 (Nat.zero_le _) x).2 ⟨hx, fun j hj => by omega⟩))⟩
def ncW (L B : List (Pm n)) (w : List (Nat × List Nat)) : Pm n := w.foldl (fun x e => x.mul (cj (L[e.1]?.getD (PlainPm.one n)) (evW B e.2))) (PlainPm.one n)
theorem ncW_nc (L B : List (Pm n)) (w : List (Nat × List Nat)) : NcG (· ∈ L) (· ∈ B) (ncW L B w) := by
  have key : ∀ (w : List (Nat × List Nat)) (x : Pm n), NcG (· ∈ L) (· ∈ B) x → NcG (· ∈ L) (· ∈ B) (w.foldl (fun x e => x.mul (cj (L[e.1]?.getD (PlainPm.one n)) (evW B e.2))) x) := by
    intro w
    induction w with
    | nil => exact fun x h => h
    | cons e w ih =>
      refine fun x h => ih _ (NcG.isG.mul h (NcG.nrm.grp _ ?_ _ (evW_grp B e.2)))
      cases hl : L[e.1]? with
      | none => exact NcG.isG.one
      | some y => exact NcG.base (List.mem_of_getElem? hl)
  exact key w _ NcG.isG.one
theorem nc_eq {L B K : List (Pm n)} {es : List En} (ws : List (List (Nat × List Nat))) (hK : Of (Grp (· ∈ K)) (tabTw (tabOf n es)))
    (h : (L.all (inT (tabTw (tabOf n es))) && K.all (fun x => B.all fun y => inT (tabTw (tabOf n es)) (cj x y)) && decide (ws.map (ncW L B) = K)) = true) (x : Pm n) : NcG (· ∈ L) (· ∈ B) x ↔ Grp (· ∈ K) x := by
  simp only [Bool.and_eq_true, List.all_eq_true, decide_eq_true_iff] at h
  obtain ⟨⟨h1, h2⟩, h3⟩ := h
  refine (NcG.of Grp.isG (fun y hy => inT_grp hK (h1 y hy)) (nrm_of Grp.isG (fun _ => Iff.rfl) fun a ha y hy => inT_grp hK (h2 a ha y hy)) (fun y hy => Grp.sub NcG.isG (fun s hs => ?_) hy) x).symm
  rw [← h3] at hs
  obtain ⟨w, _, rfl⟩ := List.mem_map.1 hs
  exact ncW_nc L B w
def cmL (A B : List (Pm n)) : List (Pm n) := A.flatMap fun a => B.map (cm a)
theorem mem_cmL {A B : List (Pm n)} {z : Pm n} : z ∈ cmL A B ↔ ∃ a b, a ∈ A ∧ b ∈ B ∧ z = cm a b := by
  unfold cmL
  simp only [List.mem_flatMap, List.mem_map]
  exact ⟨fun ⟨a, ha, b, hb, e⟩ => ⟨a, b, ha, hb, e.symm⟩, fun ⟨a, b, ha, hb, e⟩ => ⟨a, ha, b, hb, e.symm⟩⟩
theorem cmL_nc {G1 G2 : Pm n → Prop} {A B : List (Pm n)} (hg1 : IsG G1) (hg2 : IsG G2) (h1 : ∀ x, Grp (· ∈ A) x ↔ G1 x) (h2 : ∀ x, Grp (· ∈ B) x ↔ G2 x) (x : Pm n) : NcG (· ∈ cmL A B) (· ∈ A ++ B) x ↔ CmG G1 G2 x := by
  rw [← cm_nc hg1 hg2 h1 h2 x]
  exact ⟨fun h H hH hl hb => h H hH (fun y hy => hl y (mem_cmL.1 hy)) (hb.sub fun y hy => List.mem_append.1 hy), fun h H hH hl hb => h H hH (fun y hy => hl y (mem_cmL.2 hy)) (hb.sub fun y hy => List.mem_append.2 hy)⟩
theorem cm_eq {A B K : List (Pm n)} {es : List En} (ws : List (List (Nat × List Nat))) (hK : Of (Grp (· ∈ K)) (tabTw (tabOf n es)))
    (h : ((cmL A B).all (inT (tabTw (tabOf n es))) && K.all (fun x => (A ++ B).all fun y => inT (tabTw (tabOf n es)) (cj x y)) && decide (ws.map (ncW (cmL A B) (A ++ B)) = K)) = true) (x : Pm n) : CmG (Grp (· ∈ A)) (Grp (· ∈ B)) x ↔ Grp (· ∈ K) x := by
  rw [← nc_eq ws hK h x]
  exact (cmL_nc Grp.isG Grp.isG (fun _ => Iff.rfl) (fun _ => Iff.rfl) x).symm
def CjG (G : Pm n → Prop) (p : Pm n) (z : Pm n) : Prop := G (cj z p.inv)
theorem CjG.isG {G : Pm n → Prop} (hG : IsG G) (p : Pm n) : IsG (CjG G p) := cj_isG hG p.inv
theorem grp_cj {G : Pm n → Prop} {l : List (Pm n)} (h : ∀ x, Grp (· ∈ l) x ↔ G x) (hG : IsG G) (p z : Pm n) : Grp (· ∈ l.map fun a => cj a p) z ↔ CjG G p z := by
  constructor
  · refine Grp.sub (CjG.isG hG p) fun s hs => ?_
    obtain ⟨a, ha, rfl⟩ := List.mem_map.1 hs
    show G (cj (cj a p) p.inv)
    rw [cj_back]
    exact (h a).1 (Grp.base ha)
  · intro hz
    have h1 : Grp (· ∈ l) (cj z p.inv) := (h _).2 hz
    have h2 : Grp (· ∈ l.map fun a => cj a p) (cj (cj z p.inv) p) := Grp.sub (cj_isG Grp.isG p) (fun s hs => Grp.base (List.mem_map.2 ⟨s, hs, rfl⟩)) h1
    rwa [cj_forth] at h2
def CtG (G : Pm n → Prop) (x : Pm n) : Prop := G x ∧ ∀ y, G y → x.mul y = y.mul x
theorem comm_isG (x : Pm n) : IsG fun y : Pm n => x.mul y = y.mul x :=
  ⟨by rw [Pm.mul_one, Pm.one_mul], fun {a b} ha hb => by rw [← Pm.mul_assoc, ha, Pm.mul_assoc, hb, Pm.mul_assoc], fun {a} ha => by
    have h1 := congrArg (fun z => (a.inv.mul z).mul a.inv) ha
    simp only [Pm.mul_assoc, Pm.inv_mul_mul, Pm.mul_inv, Pm.mul_one] at h1
    exact h1.symm⟩
theorem CtG.isG {G : Pm n → Prop} (hG : IsG G) : IsG (CtG G) :=
  ⟨⟨hG.one, fun y _ => by rw [Pm.mul_one, Pm.one_mul]⟩, fun {a b} ha hb => ⟨hG.mul ha.1 hb.1, fun y hy => by rw [Pm.mul_assoc, hb.2 y hy, ← Pm.mul_assoc, ha.2 y hy, Pm.mul_assoc]⟩,
   fun {a} ha => ⟨hG.inv ha.1, fun y hy => ((comm_isG y).inv (x := a) (ha.2 y hy).symm).symm⟩⟩
theorem ct_gens {G : Pm n → Prop} {l : List (Pm n)} (h : ∀ x, Grp (· ∈ l) x ↔ G x) (x : Pm n) : CtG G x ↔ G x ∧ ∀ y ∈ l, x.mul y = y.mul x :=
  ⟨fun hx => ⟨hx.1, fun y hy => hx.2 y ((h y).1 (Grp.base hy))⟩, fun hx => ⟨hx.1, fun y hy => Grp.sub (comm_isG x) hx.2 ((h y).2 hy)⟩⟩
theorem cj_comm (x y : Pm n) : cj x y = x ↔ x.mul y = y.mul x := by
  unfold cj
  constructor
  · intro h
    have := congrArg (fun z => y.mul z) h
    simp only [Pm.mul_assoc, Pm.mul_inv_mul] at this
    exact this
  · intro h
    rw [Pm.mul_assoc, h, Pm.inv_mul_mul]
def CoG (C D : Pm n → Prop) (x : Pm n) : Prop := ∀ y, D y → C (cj x y)
theorem CoG.isG {C D : Pm n → Prop} (hC : IsG C) : IsG (CoG C D) :=
  ⟨fun y _ => by rw [cj_one]; exact hC.one, fun ha hb y hy => by rw [cj_mul]; exact hC.mul (ha y hy) (hb y hy), fun ha y hy => by rw [cj_inv]; exact hC.inv (ha y hy)⟩
theorem CoG.sub {C D : Pm n → Prop} (hD : IsG D) {x : Pm n} (h : CoG C D x) : C x := by have := h _ hD.one; rwa [cj_by_one] at this
theorem CoG.nrm {C D : Pm n → Prop} (hD : IsG D) : Nrm (CoG C D) D := fun x hx y hy z hz => by rw [cj_cj]; exact hx _ (hD.mul hy hz)
theorem CoG.of_nrm {C D H : Pm n → Prop} {l : List (Pm n)} (hl : ∀ x, Grp (· ∈ l) x ↔ D x) (hs : ∀ x, H x → C x) (hn : Nrm H (· ∈ l)) {x : Pm n} (hx : H x) : CoG C D x := fun y hy => hs _ (hn.grp x hx y ((hl y).2 hy))
def ctChk (n : Nat) (E : List (Pm n)) (B K : List (Pm n)) (T TG : Tw n) : Bool :=
  E.all (fun x => !(B.all fun y => decide (x.mul y = y.mul x)) || inT T x) && K.all fun x => inT TG x && B.all fun y => decide (x.mul y = y.mul x)
theorem ct_eq {B K : List (Pm n)} {T TG : Tw n} (hK : Of (Grp (· ∈ K)) T) (hB : Of (Grp (· ∈ B)) TG) (h : ctChk n (elsF (orbO TG) (repT TG) n 0 (PlainPm.one n)) B K T TG = true) (x : Pm n) : CtG (Grp (· ∈ B)) x ↔ Grp (· ∈ K) x := by
  unfold ctChk at h
  simp only [Bool.and_eq_true, List.all_eq_true, Bool.or_eq_true, Bool.not_eq_true', decide_eq_true_iff] at h
  obtain ⟨h1, h2⟩ := h
  constructor
  · intro hx
    have hm := (mem_all (hB.chG Grp.isG)).2 hx.1
    rcases h1 x hm with h3 | h3
    · rw [List.all_eq_false] at h3
      obtain ⟨y, hy, hne⟩ := h3
      exact absurd (decide_eq_true (hx.2 y (Grp.base hy))) hne
    · exact inT_grp hK h3
  · exact Grp.sub (CtG.isG Grp.isG) fun s hs => (ct_gens (fun _ => Iff.rfl) s).2 ⟨inT_grp hB (h2 s hs).1, (h2 s hs).2⟩
def coChk (n : Nat) (E ED K : List (Pm n)) (T TC : Tw n) : Bool :=
  E.all (fun x => !(ED.all fun y => inT TC (cj x y)) || inT T x) && K.all fun x => ED.all fun y => inT TC (cj x y)
theorem co_eq {A B K : List (Pm n)} {T TC TD : Tw n} (hK : Of (Grp (· ∈ K)) T) (hA : Of (Grp (· ∈ A)) TC) (hB : Of (Grp (· ∈ B)) TD) (h : coChk n (elsF (orbO TC) (repT TC) n 0 (PlainPm.one n)) (elsF (orbO TD) (repT TD) n 0 (PlainPm.one n)) K T TC = true) (x : Pm n) :
    CoG (Grp (· ∈ A)) (Grp (· ∈ B)) x ↔ Grp (· ∈ K) x := by
  unfold coChk at h
  simp only [Bool.and_eq_true, List.all_eq_true, Bool.or_eq_true, Bool.not_eq_true'] at h
  obtain ⟨h1, h2⟩ := h
  have hm : ∀ y, y ∈ elsF (orbO TD) (repT TD) n 0 (PlainPm.one n) ↔ Grp (· ∈ B) y := fun y => mem_all (hB.chG Grp.isG)
  constructor
  · intro hx
    rcases h1 x ((mem_all (hA.chG Grp.isG)).2 (CoG.sub Grp.isG hx)) with h3 | h3
    · rw [List.all_eq_false] at h3
      obtain ⟨y, hy, hne⟩ := h3
      exact absurd ((inT_iff hA _).2 (hx y ((hm y).1 hy))) hne
    · exact inT_grp hK h3
  · exact Grp.sub (CoG.isG Grp.isG) fun s hs y hy => inT_grp hA (h2 s hs y ((hm y).2 hy))
def gA4 : List (Pm 4) := [litP 4 [1, 2, 0, 3], litP 4 [0, 2, 3, 1]]
def eA4 : List En := [(0, 1, [1, 2, 0, 3], [0]), (0, 2, [2, 0, 1, 3], [0, 0]), (0, 3, [3, 0, 2, 1], [0, 0, 1]), (1, 2, [0, 2, 3, 1], [1]), (1, 3, [0, 3, 1, 2], [1, 1])]
theorem tA4 : Of (Grp (· ∈ gA4)) (tabTw (tabOf 4 eA4)) := tower_of (by decide +kernel)
def gY2 : List (Pm 4) := [litP 4 [1, 0, 2, 3]]
def gYZ : List (Pm 4) := [litP 4 [1, 0, 2, 3], litP 4 [0, 1, 3, 2]]
def eYZ : List En := [(0, 1, [1, 0, 2, 3], [0]), (2, 3, [0, 1, 3, 2], [1])]
theorem tYZ : Of (Grp (· ∈ gYZ)) (tabTw (tabOf 4 eYZ)) := tower_of (by decide +kernel)
theorem nYZ : szF (orbO (tabTw (tabOf 4 eYZ))) 4 0 = 4 := by decide +kernel
def gD4 : List (Pm 4) := [litP 4 [1, 0, 3, 2], litP 4 [2, 3, 0, 1], litP 4 [0, 1, 3, 2]]
def eD4 : List En := [(0, 1, [1, 0, 3, 2], [0]), (0, 2, [2, 3, 0, 1], [1]), (0, 3, [3, 2, 0, 1], [1, 2]), (2, 3, [0, 1, 3, 2], [2])]
theorem tD4 : Of (Grp (· ∈ gD4)) (tabTw (tabOf 4 eD4)) := tower_of (by decide +kernel)
theorem nD4 : szF (orbO (tabTw (tabOf 4 eD4))) 4 0 = 8 := by decide +kernel
def gC2 : List (Pm 4) := [litP 4 [1, 0, 3, 2]]
def eC2 : List En := [(0, 1, [1, 0, 3, 2], [0])]
theorem tC2 : Of (Grp (· ∈ gC2)) (tabTw (tabOf 4 eC2)) := tower_of (by decide +kernel)
theorem nC2 : szF (orbO (tabTw (tabOf 4 eC2))) 4 0 = 2 := by decide +kernel
def gI1 : List (Pm 4) := []
def eI1 : List En := []
theorem tI1 : Of (Grp (· ∈ gI1)) (tabTw (tabOf 4 eI1)) := tower_of (by decide +kernel)
theorem nI1 : szF (orbO (tabTw (tabOf 4 eI1))) 4 0 = 1 := by decide +kernel
theorem ncV4 (x : Pm 4) : NcG (· ∈ [litP 4 [1, 0, 3, 2]]) (· ∈ gS4) x ↔ Grp (· ∈ gV4) x := nc_eq (es := eV4) [[(0, [])], [(0, [0, 1])]] tV4 (by decide +kernel) x
theorem ncS4 (x : Pm 4) : NcG (· ∈ [litP 4 [0, 1, 3, 2]]) (· ∈ gS4) x ↔ Grp (· ∈ gS4) x := nc_eq (es := eS4) [[(0, []), (0, [0, 0]), (0, [0, 1, 0])], [(0, [0, 0])]] tS4 (by decide +kernel) x
theorem cmA4 (x : Pm 4) : CmG (Grp (· ∈ gS4)) (Grp (· ∈ gS4)) x ↔ Grp (· ∈ gA4) x := cm_eq (es := eA4) [[(1, [])], [(1, [0])]] tA4 (by decide +kernel) x
theorem cmV4 (x : Pm 4) : CmG (Grp (· ∈ gA4)) (Grp (· ∈ gA4)) x ↔ Grp (· ∈ gV4) x := cm_eq (es := eV4) [[(1, [1])], [(1, [0])]] tV4 (by decide +kernel) x
theorem cmC2 (x : Pm 4) : CmG (Grp (· ∈ gV4)) (Grp (· ∈ gZ2)) x ↔ Grp (· ∈ gC2) x := cm_eq (es := eC2) [[(1, [])]] tC2 (by decide +kernel) x
theorem cmI1 (x : Pm 4) : CmG (Grp (· ∈ gY2)) (Grp (· ∈ gZ2)) x ↔ Grp (· ∈ gI1) x := cm_eq (es := eI1) [] tI1 (by decide +kernel) x
theorem nrmV4 : Nrm (Grp (· ∈ gV4)) (Grp (· ∈ gS4)) := Nrm.grp (nrm_of Grp.isG (fun _ => Iff.rfl) (by
  have h : (gV4.all fun x => gS4.all fun y => inT (tabTw (tabOf 4 eV4)) (cj x y)) = true := by decide +kernel
  simp only [List.all_eq_true] at h
  exact fun x hx y hy => inT_grp tV4 (h x hx y hy)))
theorem not_nrmZ2 : ¬ Nrm (Grp (· ∈ gZ2)) (Grp (· ∈ gS4)) := fun h => by
  have h1 := h (litP 4 [0, 1, 3, 2]) (Grp.base (by simp [gZ2])) (litP 4 [1, 2, 3, 0]) (Grp.base (by simp [gS4]))
  have h2 := (inT_iff tZ2 _).2 h1
  exact absurd h2 (by decide +kernel)
theorem cjY2 : gZ2.map (fun a => cj a (litP 4 [2, 3, 0, 1])) = gY2 := by decide +kernel
theorem ctI1 (x : Pm 4) : CtG (Grp (· ∈ gS4)) x ↔ Grp (· ∈ gI1) x := ct_eq tI1 tS4 (by decide +kernel) x
theorem ctC2 (x : Pm 4) : CtG (Grp (· ∈ gD4)) x ↔ Grp (· ∈ gC2) x := ct_eq tC2 tD4 (by decide +kernel) x
theorem coI1 (x : Pm 4) : CoG (Grp (· ∈ gZ2)) (Grp (· ∈ gS4)) x ↔ Grp (· ∈ gI1) x := co_eq tI1 tZ2 tS4 (by decide +kernel) x
theorem coV4 (x : Pm 4) : CoG (Grp (· ∈ gD4)) (Grp (· ∈ gS4)) x ↔ Grp (· ∈ gV4) x := co_eq tV4 tD4 tS4 (by decide +kernel) x
end Go.Proofs.YtbejhkojdiadaaaGreat.PlainPm
