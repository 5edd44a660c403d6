/- closed: the builder of the least group that contains permutations and is normalised by others. · closure: the reference's. -/
import Derived.Test.YtbejhkojdiadaaaGreatCl01
import Derived.Test.YtbejhkojdiadaaaGreatCl02
import Derived.Test.YtbejhkojdiadaaaGreatCl03
import Derived.Test.YtbejhkojdiadaaaGreatCl04
import Derived.Test.YtbejhkojdiadaaaGreatCl05
import Derived.Test.YtbejhkojdiadaaaGreatCl06
import Derived.Test.YtbejhkojdiadaaaGreatCl07
import Derived.Test.YtbejhkojdiadaaaGreatCl08
import Derived.Test.YtbejhkojdiadaaaGreatCl09
import Derived.Test.YtbejhkojdiadaaaGreatCl10
import Derived.Test.YtbejhkojdiadaaaGreatCl11
import Derived.Test.YtbejhkojdiadaaaGreatCl12
import Derived.Test.YtbejhkojdiadaaaGreatCl13
import Derived.Test.YtbejhkojdiadaaaGreatCl14
import Derived.Test.YtbejhkojdiadaaaGreatCl15
import Derived.Test.YtbejhkojdiadaaaGreatCl16
import Derived.Test.YtbejhkojdiadaaaGreatCl17
import Derived.Test.YtbejhkojdiadaaaGreatCl18
import Derived.Test.YtbejhkojdiadaaaGreatCl19
import Derived.Test.YtbejhkojdiadaaaGreatProg
import Derived.WalkKit
import Derived.WalkSpells
import Derived.BigQuiet
import Derived.Deep.QuietTactic
import Derived.Deep.LoopGhost
import Derived.Lib.Hide
import Derived.Maps.AppendAt
import Derived.Deep.AppendLies
import Derived.StillTailTactics
import Derived.Laws.CopyOwn
import Derived.Deep.OwnRows
import Derived.Deep.DeepCutAuto
import Derived.Laws.Cover3
import Derived.Deep.RegionHeld3
import Derived.RangeFuncRecord
import Derived.Lib.SlicesSearch
import Derived.RangeFuncBox
import Derived.RangeFuncLeaves
import Derived.RangeFuncWrites
import Derived.RangeFuncFrom
import Derived.Shelf.Abstract
import Derived.OwnWalkIn
import Derived.TacticsInMore
import Derived.LoopNIn
import Derived.LoopIn
import Derived.Shelf.GgSortFunc.Insertion
import Derived.Shelf.SlIter.Collect
import Derived.Shelf.Sort.Plain
import Derived.Deep.RegionLaw
import Derived.ControlIn
set_option linter.unusedSimpArgs false
set_option linter.unusedVariables false
namespace Go.Proofs.YtbejhkojdiadaaaGreat
open Go.RowKit PlainPm
attribute [local go_sem] Oper.semAt_some
section
variable {n : Nat}
structure ClP (L B l : List (Pm n)) (c : Nat) : Prop where
  pre : L <+: l
  nc : ∀ x ∈ l, NcG (· ∈ L) (· ∈ B) x
  done : ∀ c', c' < c → ∃ p y, l[c' / B.length]? = some p ∧ B[c' % B.length]? = some y ∧ Grp (· ∈ l) (cj p y)
  bd : ∃ O R, ChG (Grp (· ∈ l)) O R ∧ l.length ≤ L.length + sg n O
theorem ClP.start {L B : List (Pm n)} (h : ∃ O R, ChG (Grp (· ∈ L)) O R) : ClP L B L 0 := by
  obtain ⟨O, R, h⟩ := h
  exact ⟨List.prefix_refl _, fun x hx => NcG.base hx, fun c' hc => by omega, O, R, h, by omega⟩
theorem ClP.keep {L B l : List (Pm n)} {c : Nat} {p y : Pm n} (h : ClP L B l c) (hp : l[c / B.length]? = some p) (hy : B[c % B.length]? = some y) (hg : Grp (· ∈ l) (cj p y)) : ClP L B l (c + 1) :=
  ⟨h.pre, h.nc, fun c' hc => by
    rcases Nat.lt_or_ge c' c with h1 | h1
    · exact h.done c' h1
    · have : c' = c := by omega
      subst this; exact ⟨p, y, hp, hy, hg⟩, h.bd⟩
theorem ClP.add {L B l : List (Pm n)} {c : Nat} {p y : Pm n} (h : ClP L B l c) (hp : l[c / B.length]? = some p) (hy : B[c % B.length]? = some y) (hg : ¬ Grp (· ∈ l) (cj p y)) (hc : ∃ O R, ChG (Grp (· ∈ l ++ [cj p y])) O R) : ClP L B (l ++ [cj p y]) (c + 1) := by
  have up : ∀ {x : Pm n}, Grp (· ∈ l) x → Grp (· ∈ l ++ [cj p y]) x := fun hx => Grp.sub Grp.isG (fun s hs => Grp.base (List.mem_append_left _ hs)) hx
  have at_ : ∀ {i : Nat} {q : Pm n}, l[i]? = some q → (l ++ [cj p y])[i]? = some q := fun {i q} hi => by
    rw [List.getElem?_append_left (List.getElem?_eq_some_iff.1 hi).1]; exact hi
  have hm : cj p y ∈ l ++ [cj p y] := List.mem_append_right _ (List.mem_singleton.2 rfl)
  obtain ⟨O', R', h'⟩ := hc
  obtain ⟨O, R, h0, hb⟩ := h.bd
  refine ⟨h.pre.trans (List.prefix_append _ _), fun x hx => ?_, fun c' hc' => ?_, O', R', h', ?_⟩
  · rcases List.mem_append.1 hx with hx | hx
    · exact h.nc x hx
    · rw [List.mem_singleton.1 hx]
      exact NcG.nrm _ (h.nc p (List.mem_of_getElem? hp)) y (List.mem_of_getElem? hy)
  · rcases Nat.lt_or_ge c' c with h1 | h1
    · obtain ⟨q, z, e1, e2, e3⟩ := h.done c' h1
      exact ⟨q, z, at_ e1, e2, up e3⟩
    · have : c' = c := by omega
      subst this; exact ⟨p, y, at_ hp, hy, Grp.base hm⟩
  · have := sg_lt h0 h' (fun x hx => up hx) (Grp.base hm) hg
    rw [List.length_append, List.length_singleton]; omega
theorem ClP.fin {L B l : List (Pm n)} (h : ClP L B l (l.length * B.length)) (x : Pm n) : Grp (· ∈ l) x ↔ NcG (· ∈ L) (· ∈ B) x := by
  refine NcG.of Grp.isG (fun y hy => Grp.base (h.pre.subset hy)) (nrm_of Grp.isG (fun _ => Iff.rfl) fun a ha y hy => ?_) (fun y hy => Grp.sub NcG.isG h.nc hy) x
  obtain ⟨i, hi, rfl⟩ := List.mem_iff_getElem.1 ha
  obtain ⟨k, hk, rfl⟩ := List.mem_iff_getElem.1 hy
  obtain ⟨d1, d2⟩ := div_mod (k := i) (m := k) (b := B.length) hk
  have hlt : i * B.length + k < l.length * B.length := by
    have : (i + 1) * B.length ≤ l.length * B.length := Nat.mul_le_mul_right _ hi
    rw [Nat.succ_mul] at this
    omega
  obtain ⟨p, z, e1, e2, e3⟩ := h.done _ hlt
  rw [d1, List.getElem?_eq_getElem hi] at e1
  rw [d2, List.getElem?_eq_getElem hk] at e2
  cases e1; cases e2
  exact e3
theorem ClP.len {L B l : List (Pm n)} {c : Nat} (h : ClP L B l c) : l.length ≤ L.length + n * n := by
  obtain ⟨O, R, h0, hb⟩ := h.bd
  have := sg_le h0
  omega
theorem BldV.ch {w : World} {bk : Nat} {G : Pm n → Prop} {S : List Nat} (hn : 0 < n ∧ n ≤ 64) (hG : IsG G) (h : BldV w bk G S) : ∃ O R, ChG G O R := by
  obtain ⟨a, c, b, d, _, hgs⟩ := h
  obtain ⟨T, hT, _⟩ := hgs.now.lev hG ⟨hn.1, hn.2⟩
  exact ⟨_, _, hT.chG hG⟩
theorem bld_has (hn : 0 < n ∧ n ≤ 64) {w : World} {bk : Nat} {G : Pm n → Prop} {S : List Nat} (hG : IsG G) (hb : BldV w bk G S) {x : Pm n} {va : Value} (hx : PmV w [] va x) :
    Calls Tryz.prog 77 #[.pointer (some ⟨bk, 0, none⟩), va] w fun e w' => BoolIs e (G x) ∧ Below w.heap.size w w' := by
  obtain ⟨a, c, b, d, hcell, hgs⟩ := hb
  obtain ⟨T, hT, ab, ao, c', bb, bo, e', he', hlv⟩ := hgs.now.lev hG ⟨hn.1, hn.2⟩
  simp only [cv, Value.agg.injEq, Array.mk.injEq, List.cons.injEq, Value.slice.injEq, and_true, true_and] at he'
  obtain ⟨⟨rfl, rfl⟩, rfl, rfl⟩ := he'
  exact has77 hn hG hT hcell hlv hx
theorem bld_with (hn : 0 < n ∧ n ≤ 64) {w : World} {bk : Nat} {G : Pm n → Prop} {S : List Nat} (hG : IsG G) (hb : BldV w bk G S) {v : Value} {L : List (Pm n)} (hl : L.length ≤ 4096) (hv : PmsN w [bk] v L) (hS : ∀ m ∈ S, m < w.heap.size) :
    Calls Tryz.prog 72 #[.pointer (some ⟨bk, 0, none⟩), v] w fun e w' => e = .returned (.pointer (some ⟨bk, 0, none⟩)) ∧ BldV w' bk (Grp fun x => G x ∨ x ∈ L) S ∧ Kept w w' [bk] :=
  with72 (G := G) hn (hb.congr fun x => ⟨fun h => Grp.base (.inl h), Grp.sub hG (fun s hs => by
    rcases hs with h | h
    · exact h
    · cases h)⟩) hl hv hS
set_option maxHeartbeats 400000 in
theorem clone123 {L : List (Pm n)} {v : Value} {w0 w : World} (hv : PmsV w0 [] v L) (h0 : Below w0.heap.size w0 w) (hL : L.length ≤ 1000000) :
    Calls Tryz.prog 123 #[v] w fun e w' => ∃ v' us, e = .returned v' ∧ Own w' w.heap.size v' 27 us ∧ PmL w0 [] us L ∧ Below w.heap.size w w' := by
  obtain ⟨a, c, us, rfl, hr, hp⟩ := hv
  have hpl := hp.1
  have h1c : ∀ u ∈ us, u.oneCell' = true := fun u hu => by
    obtain ⟨i, hi, rfl⟩ := List.mem_iff_getElem.1 hu
    obtain ⟨v, e, b, o, c, rfl, _⟩ := hp.2 i _ (List.getElem?_eq_getElem (by rw [← hpl]; exact hi))
    rw [List.getElem?_eq_getElem hi] at e
    rw [Option.some.inj e]
    rfl
  obtain ⟨m, hm⟩ : ∃ m, L.length = m := ⟨_, rfl⟩
  rw [hm] at hL hpl ⊢
  obtain ⟨i27, hi27, hz27, hs27, hb27⟩ := info_parts Tryz.info27
  have I27 := Lib.hid (And.intro hi27 (And.intro hz27 (And.intro hs27 hb27)))
  have HR := Lib.hid (And.intro hr (And.intro hp (And.intro hpl h1c)))
  clear hi27 hz27 hs27 hb27 hr hp hpl h1c hm
  cases a with
  | none =>
    have h0 : us = [] := by
      cases hx : us with
      | nil => rfl
      | cons x r =>
        obtain ⟨_, _, e, _⟩ := HR.out.1.2 0 x (by rw [hx]; rfl)
        cases e
    have hm0 : m = 0 := by rw [← HR.out.2.2.1, h0]; rfl
    subst hm0
    have he := fun W : World => Lib.run_eql_slice_nil (P := Tryz.prog) W 44 27 none 0 c 0 0 Tryz.underlying44
    go_enter Tryz.func123, Tryz.ntmps123
    go_wp2
    go_ret
    exact ⟨_, us, rfl, by rw [h0]; exact Own.nil _ _ _, HR.out.2.1, Below.refl _ _⟩
  | some ad =>
    have he := fun W : World => Lib.run_eql_slice_nil (P := Tryz.prog) W 44 27 (some ad) m c 0 0 Tryz.underlying44
    have hem := Own.new (w := w) (B := w.heap.size) 27 [] (Nat.le_refl _) (Nat.zero_le _)
    have hb : Below w.heap.size w (w.alloc (.cells #[] 27)) := (Below.refl _ _).alloc (Nat.le_refl _) _
    have hsrc : ∀ j y, us[j]? = some y → (w.alloc (.cells #[] 27)).cell? (ad.add j) = some y := fun j y hy => by
      obtain ⟨b, o, e, hlt, hc⟩ := HR.out.1.2 j y hy
      cases e
      rw [add_zero_addr]
      exact ((below_trans h0 hb).cell hlt).trans hc
    have H := Lib.hid (And.intro hem (And.intro hb hsrc))
    clear hem hb hsrc
    go_enter Tryz.func123, Tryz.ntmps123
    go_wp2_with (at_builtin; refine appA rfl (.tmp 5) (.tmp 6) 44 27 rfl i27 (.slice none 0 0) 24 Tryz.underlying44 I27.out.1 I27.out.2.1 I27.out.2.2.1 I27.out.2.2.2 rfl (by omega) w.heap.size (.slice (some ⟨w.heap.size, 0, none⟩) 0 0) [] us rfl H.out.1 ad m c rfl HR.out.2.2.1 H.out.2.2 HR.out.2.2.2 (by simp; omega) H.out.2.1.size ?_; intro v' w' h2 h3; have H9 := Lib.hid (And.intro h2 h3); clear h2 h3)
    go_ret
    exact ⟨_, us, rfl, H9.out.1, HR.out.2.1, H.out.2.1.grown H9.out.2 H.out.2.1.size (fun k hk => by cases hk; exact Nat.le_refl _)⟩
structure ClI (D bk X Y : Nat) (L B : List (Pm n)) (s : List (Pm n) × Nat) (M : List Nat) (A : World) (v : Value) (us : List Value) : Prop where
  p : ClP L B s.1 s.2
  xb : A.heap[X]? = some (.cells #[.pointer (some ⟨bk, 0, none⟩)] 82 (0, 0))
  yb : A.heap[Y]? = some (.cells #[v] 44 (0, 0))
  own : Own A D v 27 us
  pml : PmL A M us s.1
  bld : BldV A bk (Grp (· ∈ s.1)) (M ++ List.range D)
  bm : bk ∈ M
  ym : Y ∈ M
  vm : ∀ g, v.ownBlock = some g → g ∈ M
  xm : X ∉ M
  lt : ∀ m ∈ M, m < A.heap.size
def ClJ (D bk X Y : Nat) (L B : List (Pm n)) (s : List (Pm n) × Nat) (M : List Nat) (A : World) : Prop := ∃ v us, ClI D bk X Y L B s M A v us
theorem app1In {F : Fence} {N : Nat} {P : Program} {w : World} {ops : Array Oper} {rest : List Oper} {o : Oper} {a : Act} {Q : Exit → Act → World → Prop} (hgd : o.guard = none) (s x : Operand) (T e : TypeId)
    (ho : o.op = .call { callee := .builtin .append, args := #[s, x], argTypes := #[T, T] })
    (i : TypeInfo) (z : Value) (bytes : Nat) (ht : P.underlying T = some (.slice e)) (hi : P.info? e = some i) (hz : i.zero = some z)
    (hsize : i.size = 1) (hby : i.bytes = bytes) (hzs : z.cells.size = 1) (hb64 : bytes ≤ 64)
    (B : Nat) (u : Value) (v : Value) (xs : List Value) (hs : a.eval s = v) (hown : Own w B v e xs) (hx : a.eval x = .slice (some ⟨w.heap.size, 0, none⟩) 1 1)
    (h1 : u.oneCell' = true) (hlen : xs.length < 1099511627776) (hB : B ≤ w.heap.size)
    (h : ∀ v' w', Own w' B v' e (xs ++ [u]) → w.grownBy w' v.ownBlock → (v'.ownBlock = v.ownBlock ∨ ∃ g, v'.ownBlock = some g ∧ w.heap.size ≤ g) → wpListIn F N P ops Q rest (a.put o.dst v') w') :
    wpListIn F N P ops Q (o :: rest) a (w.alloc (.cells #[u] e)) := by
  refine wpListIn_plain hgd fun K hK' => ?_
  obtain ⟨v', w', hr, h2, h3, _, h5⟩ := run_append_own_at (P := P) (w.alloc (.cells #[u] e)) B T o.type e i z 1 bytes ht hi hz hsize hby hzs (by omega) v xs.length xs (hown.alloc _) ⟨w.heap.size, 0, none⟩ 1 1 [u] rfl (cell_one_new _ _ _)
    (by intro y hy; rw [List.mem_singleton.1 hy]; exact h1) (by unfold maxLen; omega) (Nat.le_trans (Nat.mul_le_mul_left _ hb64) (by omega)) (by simp; omega)
  unfold Oper.wpIn
  refine ⟨?_, ?_⟩
  · simp [Oper.about, ho, resolve, Target.leads, Sem.run_pure]
  · rw [Oper.semAt_plain F _ _ (by rw [ho]; intro c hc'; cases hc')]
    simp [execOp, ho, resolve, invoke, builtin, hs, hx, hr, Result.andThen]
    refine hK' _ _ (h v' w' (by unfold Own; rw [List.length_append]; exact h2) ((grown_alloc w _ _).trans h3) ?_)
    rcases h5 with h5 | h5
    · exact .inl h5
    · exact .inr ⟨_, h5, by simp⟩
theorem BldV.keptB {w w' : World} {bk : Nat} {G : Pm n → Prop} {S S' : List Nat} (h : BldV w bk G S) (k : Kept w w' S') (hS : ∀ m ∈ S', m ∈ S) (hb : w'.heap[bk]? = w.heap[bk]?) : BldV w' bk G S := by
  obtain ⟨a, c, b, d, h1, h2⟩ := h
  exact ⟨a, c, b, d, hb.trans h1, h2.kept (k.mono fun m hm => List.mem_cons_of_mem _ (hS m hm))⟩
theorem BldV.ext {w : World} {bk : Nat} {G : Pm n → Prop} {S S' : List Nat} (h : BldV w bk G S) (hS : ∀ m ∈ S', m ∈ S ∨ m = bk ∨ w.heap.size ≤ m) : BldV w bk G S' := by
  obtain ⟨a, c, b, d, h1, h2⟩ := h
  refine ⟨a, c, b, d, h1, h2.ext fun m hm => ?_⟩
  rcases List.mem_cons.1 hm with rfl | hm
  · exact .inl (List.mem_cons_self ..)
  · rcases hS m hm with h | rfl | h
    · exact .inl (List.mem_cons_of_mem _ h)
    · exact .inl (List.mem_cons_self ..)
    · exact .inr h
theorem own_ne {W : World} {B : Nat} {v : Value} {e e' : TypeId} {xs : List Value} {k : Nat} {cur : Array Value} (h : Own W B v e xs) (hk : W.heap[k]? = some (.cells cur e' (0, 0))) (hne : e' ≠ e) : v.ownBlock ≠ some k := fun hv => by
  rcases h.blk with h1 | ⟨g, cur', h1, _, _, h2⟩
  · rw [h1] at hv; cases hv
  · rw [h1] at hv; cases hv
    rw [hk] at h2
    injection h2 with h2
    injection h2 with _ h3 _
    exact hne h3
theorem box1_set {W : World} {Y : Nat} {v v' : Value} {t : TypeId} (h : W.heap[Y]? = some (.cells #[v] t (0, 0))) : (W.setCell ⟨Y, 0, none⟩ v').heap[Y]? = some (.cells #[v'] t (0, 0)) := by
  have hl := (Array.getElem?_eq_some_iff.1 h).1
  have h2 : W.heap[Y] = .cells #[v] t (0, 0) := by rw [Array.getElem?_eq_getElem hl] at h; exact Option.some.inj h
  simp [World.setCell, Array.getElem_modify, hl, h2]
theorem mem_ob {v : Value} {g : Nat} : g ∈ v.ownBlock.toList ↔ v.ownBlock = some g := by cases v.ownBlock <;> simp [eq_comm]
theorem ClI.grow {D bk X Y : Nat} {L B l : List (Pm n)} {c : Nat} {M : List Nat} {W w7 w9 w11 : World} {v v' va : Value} {us : List Value} {x : Pm n} {o : Obj} (h : ClI D bk X Y L B (l, c) M W v us) (hpm : PmV W M va x)
    (hp : ∃ p y, l[c / B.length]? = some p ∧ B[c % B.length]? = some y ∧ x = cj p y) (hg : ¬ Grp (· ∈ l) x) (b7 : Below W.heap.size W w7) (k9 : Kept (w7.alloc o) w9 [bk])
    (b9 : BldV w9 bk (Grp fun z => Grp (· ∈ l) z ∨ z ∈ [x]) (M ++ List.range D)) (hn : 0 < n ∧ n ≤ 64) (o11 : Own w11 D v' 27 (us ++ [va])) (g11 : w9.grownBy w11 v.ownBlock) (loc : v'.ownBlock = v.ownBlock ∨ ∃ g, v'.ownBlock = some g ∧ w9.heap.size ≤ g) :
    ∃ M', ClJ D bk X Y L B (l ++ [x], c + 1) M' (w11.setCell ⟨Y, 0, none⟩ v') ∧ Stp W M (w11.setCell ⟨Y, 0, none⟩ v') M' := by
  have hbM := h.bm
  have K0 : Below W.heap.size W (w7.alloc o) := alloc_b b7 _
  have K1 : Kept W w9 M := (Kept.ofBelow K0).trans (k9.mono fun m hm => by rw [List.mem_singleton.1 hm]; exact hbM)
  have K2 : Kept w9 w11 M := Kept.ofGrown g11 h.vm
  have K3 : Kept w11 (w11.setCell ⟨Y, 0, none⟩ v') M := Kept.ofGrown (grown_put 0 v') (fun k e => by cases e; exact h.ym)
  have K3Y : Kept w11 (w11.setCell ⟨Y, 0, none⟩ v') [Y] := Kept.ofGrown (grown_put 0 v') (fun k e => by cases e; exact List.mem_cons_self ..)
  have hbk0 : ∃ cur, W.heap[bk]? = some (.cells cur 81 (0, 0)) := by obtain ⟨a, c, b, d, h1, _⟩ := h.bld; exact ⟨_, h1⟩
  obtain ⟨cur0, hbk0⟩ := hbk0
  have hYb : Y ≠ bk := fun e => by
    have h1 := h.yb
    rw [e, hbk0] at h1
    injection h1 with h1
    injection h1 with _ h2 _
    exact absurd h2 (by decide)
  have ltY := (Array.getElem?_eq_some_iff.1 h.yb).1
  have s0 := K0.size
  have y9 : w9.heap[Y]? = some (.cells #[v] 44 (0, 0)) := (k9.block Y (by omega) (fun e => hYb (List.mem_singleton.1 e))).trans ((K0.block Y ltY).trans h.yb)
  have hbk9 : ∃ cur, w9.heap[bk]? = some (.cells cur 81 (0, 0)) := by obtain ⟨a, c, b, d, h1, _⟩ := b9; exact ⟨_, h1⟩
  obtain ⟨cur9, hbk9⟩ := hbk9
  have o9 : Own w9 D v 27 us := (h.own.below K0).keptL k9 (fun g e hm => own_ne h.own hbk0 (by decide) (by rw [e, List.mem_singleton.1 hm]))
  have y11 : w11.heap[Y]? = some (.cells #[v] 44 (0, 0)) := (g11.block Y (Array.getElem?_eq_some_iff.1 y9).1 (fun e => own_ne o9 y9 (by decide) e.symm)).trans y9
  have bk11 : w11.heap[bk]? = w9.heap[bk]? := g11.block bk (Array.getElem?_eq_some_iff.1 hbk9).1 (fun e => own_ne o9 hbk9 (by decide) e.symm)
  have hS : Stp W M (w11.setCell ⟨Y, 0, none⟩ v') (v'.ownBlock.toList ++ M) := ⟨(K1.trans K2).trans K3, fun m hm => by
    rcases List.mem_append.1 hm with hm | hm
    · rcases loc with e | ⟨g, e, hge⟩
      · exact .inl (h.vm m (by rw [← e]; exact mem_ob.1 hm))
      · rw [mem_ob.1 hm] at e; cases e
        exact .inr (Nat.le_trans K1.size hge)
    · exact .inl hm⟩
  obtain ⟨p, y, e1, e2, e3⟩ := hp
  have b9x : BldV w9 bk (Grp fun z => Grp (· ∈ l) z ∨ z ∈ [x]) ((v'.ownBlock.toList ++ M) ++ List.range D) := b9.ext fun m hm => by
    rcases List.mem_append.1 hm with hm | hm
    · rcases List.mem_append.1 hm with hm | hm
      · rcases loc with e | ⟨g, e, hge⟩
        · exact .inl (List.mem_append_left _ (h.vm m (by rw [← e]; exact mem_ob.1 hm)))
        · rw [mem_ob.1 hm] at e; cases e
          exact .inr (.inr hge)
      · exact .inl (List.mem_append_left _ hm)
    · exact .inl (List.mem_append_right _ hm)
  have hbl : BldV (w11.setCell ⟨Y, 0, none⟩ v') bk (Grp (· ∈ l ++ [x])) ((v'.ownBlock.toList ++ M) ++ List.range D) := by
    have inM : ∀ m ∈ M, m ∈ (v'.ownBlock.toList ++ M) ++ List.range D := fun m hm => List.mem_append_left _ (List.mem_append_right _ hm)
    refine ((b9x.keptB K2 inM bk11).keptB K3 inM ((grown_put 0 v').block bk (Array.getElem?_eq_some_iff.1 (bk11.trans hbk9)).1 (fun e => by cases e; exact hYb rfl))).congr fun z => ?_
    exact ⟨Grp.sub Grp.isG (fun s hs => by
      rcases hs with hs | hs
      · exact Grp.sub Grp.isG (fun q hq => Grp.base (List.mem_append_left _ hq)) hs
      · exact Grp.base (List.mem_append_right _ hs)), Grp.sub Grp.isG (fun s hs => by
      rcases List.mem_append.1 hs with hs | hs
      · exact Grp.base (.inl (Grp.base hs))
      · exact Grp.base (.inr hs))⟩
  have sz3 : (w11.setCell ⟨Y, 0, none⟩ v').heap.size = w11.heap.size := by simp [World.setCell]
  have hsz : w9.heap.size ≤ w11.heap.size := g11.size
  refine ⟨v'.ownBlock.toList ++ M, ⟨v', us ++ [va], ?_, ?_, box1_set y11, o11.keptL K3Y (fun g e hm => own_ne o11 (show w11.heap[Y]? = _ from y11) (by decide) (by rw [e, List.mem_singleton.1 hm])), (h.pml.snoc hpm).stp hS, ?_, List.mem_append_right _ h.bm, List.mem_append_right _ h.ym, fun g e => List.mem_append_left _ (mem_ob.2 e), ?_, ?_⟩, hS⟩
  · subst e3
    exact h.p.add e1 e2 hg (hbl.ch hn Grp.isG)
  · exact (((K1.trans K2).trans K3).block X (Array.getElem?_eq_some_iff.1 h.xb).1 h.xm).trans h.xb
  · exact hbl
  · intro hm
    rcases List.mem_append.1 hm with hm | hm
    · rcases loc with e | ⟨g, e, hge⟩
      · exact h.xm (h.vm X (by rw [← e]; exact mem_ob.1 hm))
      · rw [mem_ob.1 hm] at e; cases e
        have := (Array.getElem?_eq_some_iff.1 h.xb).1
        have := K1.size
        omega
    · exact h.xm hm
  · intro m hm
    rw [sz3]
    rcases List.mem_append.1 hm with hm | hm
    · exact (o11.block_lt (mem_ob.1 hm)).1
    · exact Nat.lt_of_lt_of_le (Nat.lt_of_lt_of_le (h.lt m hm) K1.size) hsz
theorem ClJ.ownFrom (E D bk X Y : Nat) (L B : List (Pm n)) : OwnFromS E (ClJ (n := n) D bk X Y L B) := by
  rintro ⟨s, M⟩ A A' row ⟨v, us, h⟩ hg hr
  have k : Turn A A' row := ⟨hg, fun r e => (hr r e).2⟩
  exact ⟨v, us, h.p, k.cells h.xb, k.cells h.yb, h.own.turn k, h.pml.up k.up, h.bld.turn k, h.bm, h.ym, h.vm, h.xm, fun m hm => Nat.lt_of_lt_of_le (h.lt m hm) hg.size⟩
theorem pms_ownB {D : Nat} {W : World} {M : List Nat} {v : Value} {us : List Value} {l : List (Pm n)} (ho : Own W D v 27 us) (hp : PmL W M us l) (hl : l.length ≤ 1000000) : PmsV W [] v l := by
  obtain ⟨a, c, rfl, hr⟩ := ho.row (by rw [hp.1]; unfold maxLen; omega)
  exact ⟨a, c, us, by rw [hp.1], hr, hp.1, fun i x hx => by obtain ⟨u, hu, hpm⟩ := hp.2 i x hx; exact ⟨u, hu, hpm.weak⟩⟩
theorem ClJ.core {D bk X Y N : Nat} {L B : List (Pm n)} (hN : L.length + n * n ≤ N) (hN2 : N ≤ 1000000) (s : List (Pm n) × Nat) (M : List Nat) (A : World) (h : ClJ D bk X Y L B s M A) : cjCore n Y N s M A ∧ ∀ m ∈ M, m < A.heap.size := by
  obtain ⟨v, us, h⟩ := h
  have hl := h.p.len
  exact ⟨⟨⟨v, by simp [World.cell?, h.yb], pms_ownB h.own h.pml (by omega)⟩, by omega⟩, h.lt⟩
theorem pmsN_lit1 {w : World} {va : Value} {x : Pm n} {M M' : List Nat} (h : PmV w M va x) (hM : ∀ m ∈ M', m ∈ M) (hlt : ∀ m ∈ M', m < w.heap.size) : PmsN (w.alloc (.cells #[va] 27)) M' (.slice (some ⟨w.heap.size, 0, none⟩) 1 1) [x] := by
  obtain ⟨b, o, c, e, h1, h2, h3⟩ := h
  have hb : Below w.heap.size w (w.alloc (.cells #[va] 27)) := alloc_b (Below.refl _ _) _
  refine ⟨_, _, [va], rfl, fun W' k => ⟨by simp [maxLen], fun i u hu => ?_⟩, rfl, fun i y hy => ?_⟩
  · match i, hu with
    | 0, hu =>
      cases hu
      have hk := k.block w.heap.size (by simp) (fun hm => by have := hlt _ hm; omega)
      refine ⟨_, _, rfl, Nat.lt_of_lt_of_le (by simp) k.size, ?_⟩
      unfold World.cell?
      rw [hk, World.alloc_heap_new]
      rfl
  · match i, hy with
    | 0, hy =>
      cases hy
      exact ⟨va, rfl, b, o, c, e, fun hm => h1 (hM _ hm), Nat.lt_of_lt_of_le h2 hb.size, fun j hj => (hb.cell (p := ⟨b, o + j, none⟩) h2).trans (h3 j hj)⟩
theorem box1_cells {W : World} {Y : Nat} {v : Value} {t : TypeId} (h : W.heap[Y]? = some (.cells #[v] t (0, 0))) : W.cell? ⟨Y, 0, none⟩ = some v ∧ W.frozen? ⟨Y, 0, none⟩ = false := by
  constructor <;> simp [World.cell?, World.frozen?, h]
theorem conj76' {w : World} (p a : Option Addr) (l c : Nat) :
    Calls Tryz.prog 76 #[.pointer p, .slice a l c] w fun e w' => ∃ U V, e = .returned (.func (.func 117) #[] #[.pointer (some ⟨U, 0, none⟩), .pointer (some ⟨V, 0, none⟩)]) ∧ w'.cell? ⟨U, 0, none⟩ = some (.pointer p) ∧ w'.cell? ⟨V, 0, none⟩ = some (.slice a l c) ∧ w.heap.size ≤ U ∧ w.heap.size ≤ V ∧ Below w.heap.size w w' := by
  refine (conj76 p a l c).mono ?_
  rintro e w' ⟨rfl, rfl⟩
  refine ⟨_, _, rfl, ?_, ?_, Nat.le_refl _, Nat.le_succ _, alloc_b (alloc_b (Below.refl _ _) _) _⟩
  · rw [World.cell?_alloc_past _ _ _ (by simp), World.cell?_alloc_at _ _ _ _ rfl]; rfl
  · rw [World.cell?_alloc_at _ _ _ _ (by simp)]; rfl
set_option maxRecDepth 100000 in
set_option maxHeartbeats 4000000 in
theorem closed80 (hn : 0 < n ∧ n ≤ 64) {w : World} {vl vb : Value} {L B : List (Pm n)} (hL : L.length ≤ 4096) (hl : PmsV w [] vl L) (hb : PmsV w [] vb B) :
    Calls Tryz.prog 80 #[.int .i64 (n : Int), vl, vb] w fun e w' => ∃ bk, e = .returned (.pointer (some ⟨bk, 0, none⟩)) ∧ w.heap.size ≤ bk ∧ Below w.heap.size w w' ∧ ∀ S, (∀ m ∈ S, m < w.heap.size) → BldV w' bk (NcG (· ∈ L) (· ∈ B)) S := by
  obtain ⟨D, hD⟩ : ∃ D, w.heap.size = D := ⟨_, rfl⟩
  have K71 := from71 (w := w) hn
  have H := Lib.hid (And.intro hl (And.intro hb (And.intro K71 hD)))
  obtain ⟨al, cl, evl, _, _⟩ := pms_at hl
  obtain ⟨ab, cb, evb, _, _⟩ := pms_at hb
  obtain ⟨NL, hNL⟩ : ∃ N, L.length = N := ⟨_, rfl⟩
  obtain ⟨NB, hNB⟩ : ∃ N, B.length = N := ⟨_, rfl⟩
  rw [hNL] at evl
  rw [hNB] at evb
  subst evl
  subst evb
  have HN := Lib.hid (And.intro hNL (And.intro hNB hL))
  clear hl hb K71 hNL hNB hL
  refine (callsIn_wide (n := 9)).1 ?_
  have w71 : Fence.wide.fn 71 := trivial
  have w72 : Fence.wide.fn 72 := trivial
  have w76 : Fence.wide.fn 76 := trivial
  have w77 : Fence.wide.fn 77 := trivial
  have w123 : Fence.wide.fn 123 := trivial
  have wd : Fence.wide.depth = none := rfl
  refine callsIn_of_wp_marks Tryz.func80 rfl trivial ?_ rfl
  simp only [Tryz.ntmps80, List.size_toArray, List.length_cons, List.length_nil, Nat.reduceAdd, Nat.reduceSub, Array.replicate_succ, Array.replicate_zero, List.push_toArray, List.append_toArray, List.nil_append, List.cons_append]
  gi_wp2_with (first
    | (gi_at_call 76; (with_reducible refine (callsIn_wide.2 (conj76' _ _ _ _)).mono ?_); rintro e6 w6 ⟨U, V, rfl, k1, k2, k3, k4, k5⟩; have H6 := Lib.hid (And.intro k1 (And.intro k2 (And.intro k3 (And.intro k4 k5)))); clear k1 k2 k3 k4 k5)
    | (gi_at_call 123
       obtain ⟨X, hX⟩ : ∃ X, w2.heap.size = X := ⟨_, rfl⟩
       obtain ⟨W3, hW3⟩ : ∃ W3, w2.alloc (.cells #[.pointer (some ⟨bk, 0, none⟩)] 82) = W3 := ⟨_, rfl⟩
       have hx3 : W3.heap[X]? = some (.cells #[.pointer (some ⟨bk, 0, none⟩)] 82 (0, 0)) := by rw [← hW3, ← hX]; exact World.alloc_heap_new _ _
       have hb3 : Below w2.heap.size w2 W3 := by rw [← hW3]; exact alloc_b (Below.refl _ _) _
       have hwD : Below w.heap.size w W3 := (H1.out.2.2.trans (H2.out.2.below1 H1.out.2.2.size H1.out.1)).trans (hb3.mono (by have := H1.out.2.2.size; have := H2.out.2.size; omega))
       have hs3 : W3.heap.size = X + 1 := by rw [← hW3, ← hX]; simp
       rw [hW3]
       have H3 := Lib.hid (And.intro hx3 (And.intro hb3 (And.intro hwD (And.intro hs3 hX))))
       clear hx3 hb3 hwD hs3 hX hW3
       (with_reducible refine (callsIn_wide.2 (clone123 H.out.1 H3.out.2.2.1 ?_)).mono ?_)
       · have := HN.out.2.2; omega
       rintro e4 w4 ⟨v4, us4, rfl, k1, k2, k3⟩
       have hlu : us4.length = NL := k2.1.trans HN.out.1
       obtain ⟨a4, c4, ev4, _⟩ := k1.row (by rw [hlu]; have := HN.out.1; have := HN.out.2.2; unfold maxLen; omega)
       rw [hlu] at ev4
       subst ev4
       clear hlu
       have H4 := Lib.hid (And.intro k1 (And.intro k2 k3))
       clear k1 k2 k3)
    | (gi_at_call 72; (with_reducible refine (callsIn_wide.2 (bld_with (L := L) hn Grp.isG H1.out.2.1 ?_ ?_ ?_)).mono ?_)
       · exact HN.out.2.2
       · exact PmsN.of H.out.1 H1.out.2.2 (fun m hm => by rw [List.mem_singleton.1 hm]; exact H1.out.1)
       · exact fun m hm => Nat.lt_of_lt_of_le (List.mem_range.1 hm) (by rw [← H.out.2.2.2]; exact H1.out.2.2.size)
       rintro e2 w2 ⟨rfl, k1, k2⟩
       have H2 := Lib.hid (And.intro k1 k2)
       clear k1 k2)
    | (gi_at_call 71; (with_reducible refine (callsIn_wide.2 H.out.2.2.1).mono ?_); rintro e1 w1 ⟨bk, rfl, k1, k2, k3⟩; have H1 := Lib.hid (And.intro k1 (And.intro (k3 (List.range D) (fun m hm => by rw [H.out.2.2.2]; exact List.mem_range.1 hm)) k2)); clear k1 k2 k3))
  rw [H3.out.2.2.2.2]
  obtain ⟨Y, hY⟩ : ∃ Y, w4.heap.size = Y := ⟨_, rfl⟩
  rw [hY] at H6 ⊢
  obtain ⟨W5, hW5⟩ : ∃ W5, w4.alloc (.cells #[.slice a4 NL c4] 44) = W5 := ⟨_, rfl⟩
  rw [hW5] at H6
  have hb5 : Below w4.heap.size w4 W5 := hW5 ▸ alloc_b (Below.refl _ _) _
  have hs5 : W5.heap.size = Y + 1 := by rw [← hW5]; simp [hY]
  have y5 : W5.heap[Y]? = some (.cells #[.slice a4 NL c4] 44 (0, 0)) := by rw [← hW5, ← hY]; exact World.alloc_heap_new _ _
  have b56 : Below W5.heap.size W5 w6 := H6.out.2.2.2.2
  have b46 : Below w4.heap.size w4 w6 := below_trans hb5 b56
  have b36 : Below W3.heap.size W3 w6 := below_trans H4.out.2.2 b46
  have b26 : Below w2.heap.size w2 w6 := below_trans H3.out.2.1 b36
  have bw6 : Below w.heap.size w w6 := below_trans H3.out.2.2.1 b36
  have s34 : X + 1 ≤ Y := by have := H4.out.2.2.size; rw [H3.out.2.2.2.1, hY] at this; exact this
  have sDX : D ≤ X := by have h1 := H1.out.2.2.size; have h2 := H2.out.2.size; rw [H3.out.2.2.2.2] at h2; omega
  have s56 : Y + 1 ≤ w6.heap.size := by have := b56.size; rw [hs5] at this; exact this
  have hbkX : bk < X := by have := H2.out.1.lt; rw [H3.out.2.2.2.2] at this; exact this
  have hDbk : D ≤ bk := by have := H1.out.1; omega
  have x6 : w6.heap[X]? = some (.cells #[.pointer (some ⟨bk, 0, none⟩)] 82 (0, 0)) := (b36.block X (by rw [H3.out.2.2.2.1]; omega)).trans H3.out.1
  have y6 : w6.heap[Y]? = some (.cells #[.slice a4 NL c4] 44 (0, 0)) := (b56.block Y (by omega)).trans y5
  have o6 : Own w6 D (.slice a4 NL c4) 27 us4 := (H4.out.1.mono (by rw [H3.out.2.2.2.1]; omega)).below b46
  have vb : ∀ g, (Value.slice a4 NL c4).ownBlock = some g → X + 1 ≤ g ∧ g < Y := fun g e => by
    have := H4.out.1.block_lt e
    rw [H3.out.2.2.2.1, hY] at this
    omega
  obtain ⟨M0, hM0⟩ : ∃ M0, M0 = bk :: Y :: (Value.slice a4 NL c4).ownBlock.toList := ⟨_, rfl⟩
  have mM : ∀ m ∈ M0, m = bk ∨ m = Y ∨ (X + 1 ≤ m ∧ m < Y) := fun m hm => by
    rw [hM0] at hm
    rcases List.mem_cons.1 hm with h | hm
    · exact .inl h
    · rcases List.mem_cons.1 hm with h | hm
      · exact .inr (.inl h)
      · exact .inr (.inr (vb m (mem_ob.1 hm)))
  have hlt : ∀ m ∈ M0, m < w6.heap.size := fun m hm => by rcases mM m hm with h | h | h <;> omega
  have hge : ∀ m ∈ M0, w.heap.size ≤ m := fun m hm => by rcases mM m hm with h | h | h <;> omega
  have p6 : PmL w6 M0 us4 L := ⟨H4.out.2.1.1, fun i x hx => by obtain ⟨u, hu, hp⟩ := H4.out.2.1.2 i x hx; exact ⟨u, hu, hp.fresh bw6 hge⟩⟩
  have l6 : BldV w6 bk (Grp (· ∈ L)) (M0 ++ List.range D) := by
    refine ((H2.out.1.congr fun z => ?_).ext fun m hm => ?_).below b26
    · exact ⟨Grp.sub Grp.isG (fun s hs => by
        rcases hs with hs | hs
        · exact Grp.sub Grp.isG (fun q hq => by cases hq) hs
        · exact Grp.base hs), Grp.sub Grp.isG (fun s hs => Grp.base (.inr hs))⟩
    · rcases List.mem_append.1 hm with hm | hm
      · rw [H3.out.2.2.2.2]
        rcases mM m hm with h | h | h
        · exact .inr (.inl h)
        · exact .inr (.inr (by omega))
        · exact .inr (.inr (by omega))
      · exact .inl hm
  have hI0 : ClJ D bk X Y L B (L, 0) M0 w6 := ⟨_, us4, ⟨ClP.start (l6.ch hn Grp.isG), x6, y6, o6, p6, l6, by rw [hM0]; simp, by rw [hM0]; simp, fun g e => by rw [hM0]; exact List.mem_cons_of_mem _ (List.mem_cons_of_mem _ (mem_ob.2 e)), fun hm => by rcases mM X hm with h | h | h <;> omega, hlt⟩⟩
  have hUV : W5.heap.size ≤ U ∧ W5.heap.size ≤ V := ⟨H6.out.2.2.1, H6.out.2.2.2.1⟩
  have nU : U ∉ M0 := fun hm => by have := hUV.1; rcases mM U hm with h | h | h <;> omega
  have nV : V ∉ M0 := fun hm => by have := hUV.2; rcases mM V hm with h | h | h <;> omega
  have hPB : PmsN w6 M0 (.slice ab NB cb) B := PmsN.of H.out.2.1 bw6 hge
  have hNN : L.length + n * n ≤ 4096 + 64 * 64 := Nat.add_le_add HN.out.2.2 (Nat.mul_le_mul hn.2 hn.2)
  have HZ := Lib.hid (And.intro hI0 (And.intro hPB (And.intro nU (And.intro nV (And.intro hlt (And.intro hge bw6))))))
  clear hI0 hPB nU nV hlt bw6 l6 p6 mM vb o6 y6 x6 b26 b36 b46 b56 y5 hW5 hs5 hb5 hUV
  refine wpIn_rangeY (gf := 117) (lb := #[.pointer (some ⟨U, 0, none⟩), .pointer (some ⟨V, 0, none⟩)]) rfl (enters_of Tryz.func117 (by kernel_rfl) rfl)
    (Prod.fst : Value × Pm n → Value) rfl M0 HZ.out.2.2.2.2.1 (ClJ D bk X Y L B) (fun _ => False) (cjCore n Y 8192) (cjGood B) cjNx (cjFin B) (L, 0)
    (conj117 hn H6.out.1 H6.out.2.1 HZ.out.2.2.1 HZ.out.2.2.2.1 HZ.out.2.1 (by decide)) (ClJ.ownFrom _ _ _ _ _ _ _) (fun s W W' row h _ _ => h) ?good (ClJ.core (by omega) (by decide)) HZ.out.1
    (fun q => { tmps := #[.int .i64 (n : Int), .slice al NL cl, .slice ab NB cb, undef, undef, undef, .pointer none, .pointer (some ⟨X, 0, none⟩), .pointer (some ⟨Y, 0, none⟩), q.1, .int .i64 (n : Int), .pointer (some ⟨bk, 0, none⟩), .slice al NL cl, .pointer (some ⟨bk, 0, none⟩), .slice al NL cl, .slice a4 NL c4, .slice ab NB cb,
      .func (.func 117) #[] #[.pointer (some ⟨U, 0, none⟩), .pointer (some ⟨V, 0, none⟩)], q.1, undef, undef, undef, undef, undef, undef, undef, undef, undef, undef, undef, undef, undef], defers := [] }) ?assign ?body ?done ?stop
  case good =>
    intro s M q W W' row h hg hr
    exact ⟨h.1.up (Turn.up ⟨hg, fun r e => (hr r e).2⟩), h.2⟩
  case assign =>
    intro nn l x W K hK
    gi_wp2
    exact hK
  case body =>
    rintro nn lp ⟨l, c⟩ M ⟨va, x⟩ W ⟨v, us, hI⟩ ⟨hpm, p, y, hp, hy, hx⟩ hst
    dsimp only at hpm hp hy hx ⊢
    obtain ⟨xc, _⟩ := box1_cells hI.xb
    obtain ⟨i27, hi27, hz27, hs27, hb27⟩ := info_parts Tryz.info27
    have I27 := Lib.hid (And.intro hi27 (And.intro hz27 (And.intro hs27 hb27)))
    clear hi27 hz27 hs27 hb27
    have hll : l.length ≤ 8192 := by have := hI.p.len; dsimp only at this; omega
    obtain ⟨av, cv, ev, _⟩ := hI.own.row (by rw [hI.pml.1]; dsimp only; unfold maxLen; omega)
    subst ev
    have K77 := bld_has hn Grp.isG hI.bld hpm.weak
    have hXW : X < W.heap.size := (Array.getElem?_eq_some_iff.1 hI.xb).1
    have hpy : ∃ p y, l[c / B.length]? = some p ∧ B[c % B.length]? = some y ∧ x = cj p y := ⟨p, y, hp, hy, hx⟩
    obtain ⟨xb, xo, xcp, rfl, _⟩ := id hpm
    have HB := Lib.hid (And.intro hI (And.intro hpm (And.intro hpy (And.intro K77 (And.intro hXW hll)))))
    clear hI hpm hpy K77 hXW hll hp hy hx hst
    have w72 : Fence.wide.fn 72 := trivial
    have w77 : Fence.wide.fn 77 := trivial
    have wd : Fence.wide.depth = none := rfl
    by_cases hgx : Grp (· ∈ l) x
    · have HG := Lib.hid hgx
      clear hgx
      gi_wp2_with (gi_at_call 77; (with_reducible refine (callsR HB.out.2.2.2.1).mono ?_); rintro e7 w7 ⟨h1, k2⟩; have h2 := h1.true_ HG.out; subst h2; have H7 := Lib.hid k2; clear h1 k2)
      obtain ⟨v', us', h'⟩ := ownS_below (ClJ.ownFrom 0 D bk X Y L B) (s := (l, c)) ⟨_, us, HB.out.1⟩ H7.out
      obtain ⟨p, y, hp, hy, hx⟩ := HB.out.2.2.1
      exact ⟨(l, c + 1), M, ⟨rfl, List.prefix_refl _⟩, ⟨v', us', { h' with p := HB.out.1.p.keep hp hy (by rw [← hx]; exact HG.out) }⟩, Stp.below H7.out⟩
    · have HG := Lib.hid hgx
      clear hgx
      gi_wp2_with (first
        | (gi_at_builtin; refine app1In rfl (.tmp 27) (.tmp 29) 44 27 rfl i27 (.slice none 0 0) 24 Tryz.underlying44 I27.out.1 I27.out.2.1 I27.out.2.2.1 I27.out.2.2.2 rfl (by omega) D (.slice (some ⟨xb, xo, none⟩) n xcp) (.slice av us.length cv) us rfl H9.out.2.2.1 rfl rfl H9.out.2.2.2.1 H9.out.2.2.2.2 ?_
           intro v' w11 k1 k2 k3
           obtain ⟨G, cap, ev', -⟩ := k1.form (by simp)
           rw [List.length_append, List.length_singleton] at ev'
           subst ev'
           have y11 := (k2.block Y (Array.getElem?_eq_some_iff.1 Y9.out).1 (fun e => own_ne H9.out.2.2.1 Y9.out (by decide) e.symm)).trans Y9.out
           obtain ⟨y11c, y11f⟩ := box1_cells y11
           have H11 := Lib.hid (And.intro k1 (And.intro k2 k3))
           clear k1 k2 k3 y11)
        | (gi_at_call 72; (with_reducible refine (callsR (bld_with (L := [x]) hn Grp.isG H7.out.2.1 (by simp) H7.out.2.2.1 H7.out.2.2.2)).mono ?_)
           rintro e9 w9 ⟨rfl, k1, k2⟩
           have hYb : Y ≠ bk := fun e => by
             obtain ⟨a, b, c', d, h1, _⟩ := HB.out.1.bld
             have h2 := HB.out.1.yb
             rw [e, h1] at h2
             injection h2 with h2
             injection h2 with _ h3 _
             exact absurd h3 (by decide)
           have y8 : (w7.alloc (.cells #[.slice (some ⟨xb, xo, none⟩) n xcp] 27)).heap[Y]? = some (.cells #[.slice av us.length cv] 44 (0, 0)) := ((alloc_b H7.out.1 (.cells #[.slice (some ⟨xb, xo, none⟩) n xcp] 27)).block Y (Array.getElem?_eq_some_iff.1 HB.out.1.yb).1).trans HB.out.1.yb
           have y9 := (k2.block Y (Array.getElem?_eq_some_iff.1 y8).1 (fun e => hYb (List.mem_singleton.1 e))).trans y8
           have Y9 := Lib.hid y9
           obtain ⟨y9c, y9f⟩ := box1_cells y9
           have o9 : Own w9 D (.slice av us.length cv) 27 us := (HB.out.1.own.below (alloc_b H7.out.1 (.cells #[.slice (some ⟨xb, xo, none⟩) n xcp] 27))).keptL k2 (fun g e hm => by
             obtain ⟨a, b, c', d, h1, _⟩ := HB.out.1.bld
             exact own_ne HB.out.1.own h1 (by decide) (by rw [e, List.mem_singleton.1 hm]))
           have hus : us.length < 1099511627776 := by have h1 := HB.out.1.pml.1; have h2 := HB.out.2.2.2.2.2; dsimp only at h1; omega
           have hDw : D ≤ w9.heap.size := by
             have h1 := k2.size
             have h2 := H7.out.1.size
             have h3 := HB.out.2.2.2.2.1
             rw [World.size_alloc] at h1
             omega
           have H9 := Lib.hid (And.intro k1 (And.intro k2 (And.intro o9 (And.intro hus hDw))))
           clear k1 k2 o9 hus hDw y8 y9 hYb)
        | (gi_at_call 77; (with_reducible refine (callsR HB.out.2.2.2.1).mono ?_); rintro e7 w7 ⟨h1, k2⟩; have h2 := h1.false_ HG.out; subst h2
           have xc7 := (k2.cell (p := ⟨X, 0, none⟩) HB.out.2.2.2.2.1).trans xc
           have hlt8 : ∀ m ∈ M ++ List.range D, m < (w7.alloc (.cells #[.slice (some ⟨xb, xo, none⟩) n xcp] 27)).heap.size := fun m hm => by
             have h1 := k2.size
             have h3 := HB.out.2.2.2.2.1
             rw [World.size_alloc]
             rcases List.mem_append.1 hm with hm | hm
             · have := HB.out.1.lt m hm; omega
             · have := List.mem_range.1 hm; omega
           have pn : PmsN (w7.alloc (.cells #[.slice (some ⟨xb, xo, none⟩) n xcp] 27)) [bk] (.slice (some ⟨w7.heap.size, 0, none⟩) 1 1) [x] := pmsN_lit1 (HB.out.2.1.below k2) (fun m hm => by rw [List.mem_singleton.1 hm]; exact HB.out.1.bm) (fun m hm => by rw [List.mem_singleton.1 hm]; exact Nat.lt_of_lt_of_le (HB.out.1.lt bk HB.out.1.bm) k2.size)
           have H7 := Lib.hid (And.intro k2 (And.intro (HB.out.1.bld.below (alloc_b k2 (.cells #[.slice (some ⟨xb, xo, none⟩) n xcp] 27))) (And.intro pn hlt8)))
           clear h1 k2 pn hlt8))
      obtain ⟨M', hJ, hS⟩ := ClI.grow HB.out.1 HB.out.2.1 HB.out.2.2.1 HG.out H7.out.1 H9.out.2.1 H9.out.1 hn H11.out.1 H11.out.2.1 H11.out.2.2
      exact ⟨(l ++ [x], c + 1), M', ⟨rfl, List.prefix_append _ _⟩, hJ, hS⟩
  case done =>
    rintro D9 ⟨l, c⟩ M W hD9 hfin ⟨v, us, hI⟩ hst hdef
    obtain ⟨xc, _⟩ := box1_cells hI.xb
    have hc : c = l.length * B.length := hfin
    subst hc
    have HF := Lib.hid (And.intro hI (And.intro hst hD9))
    clear hI hst hfin hD9
    gi_wp2
    refine ⟨by simp, .inl ⟨_, _, rfl, run_takeDeferred hdef, ?_⟩⟩
    have hbW : Below w.heap.size w W := HZ.out.2.2.2.2.2.2.trans (HF.out.2.1.kept.below HZ.out.2.2.2.2.2.2.size HZ.out.2.2.2.2.2.1)
    refine ⟨_, results_tmp rfl _ _ _, ⟨bk, rfl, by omega, hbW.grown (grownBy_putObj' W D9 (.deferred none)) hbW.size (fun k e => by cases e; have := HF.out.2.2; omega), fun S hS => ?_⟩⟩
    refine ((HF.out.1.bld.congr (HF.out.1.p.fin)).ext fun m hm => .inl (List.mem_append_right _ (List.mem_range.2 ?_))).turn ⟨grownBy_putObj' W D9 (.deferred none), fun r e => by cases e; exact ⟨_, hdef, rfl⟩⟩
    have := hS m hm
    omega
  case stop => exact fun D W _ h => h.elim
end
end Go.Proofs.YtbejhkojdiadaaaGreat
namespace Go.Proofs.YtbejhkojdiadaaaGreat
open Go.RowKit PlainPm
section
variable {n : Nat}
theorem orb_from {G : Pm n → Prop} {T : Tw n} (hG : IsG G) (h : Of G T) {i : Nat} (hi : i < n) : (orbO T i).length ≤ n - i := by
  have hc := h.chG hG
  have := sub_len (l := orbO T i) (m := (List.range (n - i)).map (· + i)) (hc.nd i hi) (fun p hp => by
    have h1 := hc.lt i hi p hp
    obtain ⟨y, _, h2, h3⟩ := (hc.mem i hi p).1 hp
    have h4 : i ≤ p := by
      rcases Nat.lt_or_ge p i with hlt | hge
      · have e := h2 p hlt
        have := y.inj (i := i) (k := p) hi h1 (by rw [h3, e])
        omega
      · exact hge
    exact List.mem_map.2 ⟨p - i, List.mem_range.2 (by omega), by omega⟩)
  simpa using this
theorem agen_len2 {G : Pm n → Prop} {T : Tw n} (hG : IsG G) (h : Of G T) : 2 * (agen T).length ≤ n * (n + 1) := by
  have key : ∀ m, m ≤ n → 2 * ((List.range m).flatMap fun i => (orbO T i).map (PlainPm.repT T i)).length + (n - m) * (n - m + 1) ≤ n * (n + 1) := fun m => by
    induction m with
    | zero => intro _; simp
    | succ m ih =>
      intro hm
      have h1 := ih (by omega)
      have h2 := orb_from hG h (i := m) (by omega)
      rw [List.range_succ, List.flatMap_append, List.length_append]
      simp only [List.flatMap_cons, List.flatMap_nil, List.append_nil, List.length_map]
      obtain ⟨q, hq⟩ : ∃ q, n - m = q + 1 := ⟨n - m - 1, by omega⟩
      have hq2 : n - (m + 1) = q := by omega
      rw [hq] at h1 h2
      rw [hq2]
      have e : (q + 1) * (q + 1 + 1) = q * (q + 1) + 2 * (q + 1) := by
        rw [Nat.mul_comm, ← Nat.add_mul]
      omega
  have := key n (Nat.le_refl _)
  simp only [Nat.sub_self, Nat.zero_mul, Nat.add_zero] at this
  exact this
theorem pml_rv (hn : 0 < n) {w : World} {us : List Value} {A : List (Pm n)} (h : RV w us (A.map (·.l))) : PmL w [] us A := by
  refine ⟨by rw [h.1, List.length_map], fun i x hx => ?_⟩
  have hi : i < us.length := by rw [h.1, List.length_map]; exact (List.getElem?_eq_some_iff.1 hx).1
  obtain ⟨b, c, e, hints⟩ := h.2 i us[i] x.l (List.getElem?_eq_getElem hi) (by rw [List.getElem?_map, hx]; rfl)
  refine ⟨us[i], List.getElem?_eq_getElem hi, ?_⟩
  rw [e, x.ok.1]
  exact pm_of_ints hn hints
theorem PmL.weakM {w : World} {M : List Nat} {us : List Value} {l : List (Pm n)} (h : PmL w M us l) : PmL w [] us l := ⟨h.1, fun i x hx => by obtain ⟨u, hu, hp⟩ := h.2 i x hx; exact ⟨u, hu, hp.weak⟩⟩
def rdLen (n : Nat) (W : World) (Y : Nat) : Nat :=
  match W.cell? ⟨Y, 1, none⟩ with
  | some (.slice (some ad) _ _) => ((List.range n).map fun i => if i < n then (match W.cell? (ad.add i) with | some (.slice _ l _) => l | _ => 0) else 0).sum
  | _ => 0
theorem rdLen_eq {W : World} {Y ab ao c bb bo e : Nat} {O : Nat → List Nat} {R : Nat → Nat → Pm n} (hY : W.heap[Y]? = some (.cells #[.int .i64 (n : Int), .slice (some ⟨ab, ao, none⟩) n c, .slice (some ⟨bb, bo, none⟩) n e] 25 (0, 0))) (h : LvW n W O R ab ao bb bo) : rdLen n W Y = sg n O := by
  obtain ⟨_, y1, _⟩ := box_cells hY
  unfold rdLen sg
  rw [y1]
  dsimp only
  congr 1
  refine List.map_congr_left fun i hi => ?_
  have hin := List.mem_range.1 hi
  rw [if_pos hin, if_pos hin]
  obtain ⟨v, hv, g, o, c', rfl, _⟩ := h.orb i hin
  rw [add_zero_addr, hv]
structure MsP (G NC : Pm n → Prop) (A B : List (Pm n)) (k m : Nat) (Ms : List (Pm n)) : Prop where
  none : Ms = [] → NrmTo G A B k m
  out : ∀ z ∈ Ms, ¬ G z ∧ NC z
  len : Ms.length ≤ k * B.length + m
theorem MsP.start (G NC : Pm n → Prop) (A B : List (Pm n)) : MsP G NC A B 0 0 [] := ⟨fun _ => NrmTo.start _ _ _, fun z hz => (by cases hz), by simp⟩
theorem MsP.keep {G NC : Pm n → Prop} {A B : List (Pm n)} {k m : Nat} {Ms : List (Pm n)} {a b : Pm n} (h : MsP G NC A B k m Ms) (ha : A[k]? = some a) (hb : B[m]? = some b) (hg : G (cj a b)) : MsP G NC A B k (m + 1) Ms :=
  ⟨fun e => (h.none e).next ha hb hg, h.out, Nat.le_succ_of_le h.len⟩
theorem MsP.add {G NC : Pm n → Prop} {A B : List (Pm n)} {k m : Nat} {Ms : List (Pm n)} {z : Pm n} (h : MsP G NC A B k m Ms) (hg : ¬ G z) (hz : NC z) : MsP G NC A B k (m + 1) (Ms ++ [z]) :=
  ⟨fun e => by simp at e, fun y hy => by
    rcases List.mem_append.1 hy with hy | hy
    · exact h.out y hy
    · rw [List.mem_singleton.1 hy]; exact ⟨hg, hz⟩, by rw [List.length_append, List.length_singleton]; have := h.len; omega⟩
theorem MsP.row {G NC : Pm n → Prop} {A B : List (Pm n)} {k : Nat} {Ms : List (Pm n)} (h : MsP G NC A B k B.length Ms) : MsP G NC A B (k + 1) 0 Ms :=
  ⟨fun e => (h.none e).row, h.out, by rw [Nat.succ_mul]; have := h.len; omega⟩
structure Cw (WA wr : World) (X Y : Nat) (L B : List (Pm n)) (G : Pm n → Prop) (a b : Option Addr) (c d : Nat) : Prop where
  box : wr.heap[Y]? = some (.cells #[.int .i64 (n : Int), .slice a n c, .slice b n d] 25 (0, 0))
  grs : ∀ S, (∀ m ∈ S, m < X) → GrS wr (.agg #[.int .i64 (n : Int), .slice a n c, .slice b n d]) G (X :: Y :: S)
  isG : IsG G
  sub : ∀ x, G x → NcG (· ∈ L) (· ∈ B) x
  has : ∀ x ∈ L, G x
  kep : Kept WA wr [Y]
theorem keep2c {V A B : World} {p q : Addr} {s t : Value} (h : A.cell? p = some s ∧ A.cell? q = some t ∧ Below V.heap.size V A) (k : Below A.heap.size A B) : B.cell? p = some s ∧ B.cell? q = some t ∧ Below V.heap.size V B :=
  ⟨(k.cell (block_lt_of_cell h.1)).trans h.1, (k.cell (block_lt_of_cell h.2.1)).trans h.2.1, below_trans h.2.2 k⟩
def GrowL (N : List Nat) (W : World) (D : Nat) (v : Value) (us : List Value) (l : List (Pm n)) : Prop := Own W D v 27 us ∧ PmL W (v.ownBlock.toList ++ N) us l ∧ ∀ m ∈ N, m < W.heap.size
theorem GrowL.nil {N : List Nat} {W : World} (D : Nat) (h : ∀ m ∈ N, m < W.heap.size) : GrowL (n := n) N W D (.slice none 0 0) [] [] := ⟨Own.nil _ _ _, ⟨rfl, fun i x hx => by simp at hx⟩, h⟩
section
variable {N : List Nat} {W W' W0 : World} {D : Nat} {v v' u : Value} {us : List Value} {l : List (Pm n)} {z : Pm n}
theorem GrowL.below (h : GrowL N W D v us l) (k : Below W.heap.size W W') : GrowL N W' D v us l := ⟨h.1.below k, h.2.1.stp (Stp.below k), fun m hm => Nat.lt_of_lt_of_le (h.2.2 m hm) k.size⟩
theorem GrowL.app (h : GrowL N W D v us l) (hz : PmV W (v.ownBlock.toList ++ N) u z) (o : Own W' D v' 27 (us ++ [u])) (g : W.grownBy W' v.ownBlock) (loc : v'.ownBlock = v.ownBlock ∨ ∃ g, v'.ownBlock = some g ∧ W.heap.size ≤ g) :
    GrowL N W' D v' (us ++ [u]) (l ++ [z]) :=
  ⟨o, (h.2.1.snoc hz).stp ⟨Kept.ofGrown g (fun k e => List.mem_append_left _ (mem_ob.2 e)), fun m hm => by
    rcases List.mem_append.1 hm with hm | hm
    · have hm := mem_ob.1 hm
      rcases loc with e | ⟨q, e, hq⟩
      · exact .inl (List.mem_append_left _ (mem_ob.2 (by rw [← e]; exact hm)))
      · rw [hm] at e; cases e; exact .inr hq
    · exact .inl (List.mem_append_right _ hm)⟩, fun m hm => Nat.lt_of_lt_of_le (h.2.2 m hm) g.size⟩
theorem NewPm.growV (h : GrowL N W0 D v us l) (hz : NewPm W0 W u z) : PmV W (v.ownBlock.toList ++ N) u z :=
  hz.pm fun m hm => by
    rcases List.mem_append.1 hm with hm | hm
    · exact (h.1.block_lt (mem_ob.1 hm)).1
    · exact h.2.2 m hm
theorem GrowL.len (h : GrowL N W D v us l) : us.length = l.length := h.2.1.1
end
set_option maxRecDepth 100000 in
set_option maxHeartbeats 4000000 in
theorem clos82 (hn : 0 < n ∧ n ≤ 64) {w : World} {vl vb : Value} {L B : List (Pm n)} (hL : L.length ≤ 4096) (hcap : ∀ m, 2 * m ≤ n * (n + 1) → m + m * B.length ≤ 4096) (hl : PmsV w [] vl L) (hb : PmsV w [] vb B) :
    Calls Tryz.prog 82 #[.int .i64 (n : Int), vl, vb] w fun e w' => ∃ a c b d, e = .returned (.agg #[.int .i64 (n : Int), .slice a n c, .slice b n d]) ∧ Below w.heap.size w w' ∧
      ∀ S, (∀ m ∈ S, m < w.heap.size) → GrS w' (.agg #[.int .i64 (n : Int), .slice a n c, .slice b n d]) (NcG (· ∈ L) (· ∈ B)) S := by
  obtain ⟨i27, hi27, hz27, hs27, hb27⟩ := info_parts Tryz.info27
  have I27 := Lib.hid (And.intro hi27 (And.intro hz27 (And.intro hs27 hb27)))
  clear hi27 hz27 hs27 hb27
  obtain ⟨al, cl, evl, _, _⟩ := pms_at hl
  obtain ⟨ab0, cb0, evb, hB63, _⟩ := pms_at hb
  obtain ⟨NL, hNL⟩ : ∃ N, L.length = N := ⟨_, rfl⟩
  obtain ⟨NB, hNB⟩ : ∃ N, B.length = N := ⟨_, rfl⟩
  rw [hNL] at evl
  rw [hNB] at evb hB63
  subst evl
  subst evb
  obtain ⟨X, hX⟩ : ∃ X, w.heap.size = X := ⟨_, rfl⟩
  obtain ⟨W0, hW0⟩ : ∃ W0, w.alloc (.cells #[.int .i64 0, .slice none 0 0, .slice none 0 0] 25) = W0 := ⟨_, rfl⟩
  have hs0 : W0.heap.size = X + 1 := by rw [← hW0]; simp [hX]
  have hb0 : Below w.heap.size w W0 := hW0 ▸ alloc_b (Below.refl _ _) _
  have hx0 : W0.heap[X]? = some (.cells #[.int .i64 0, .slice none 0 0, .slice none 0 0] 25) := hW0 ▸ box_al25 hX _ _ _
  have h75 := chain75 (w := W0) hn (Nat.le_trans hL (by decide)) (hl.below hb0)
  have H := Lib.hid (And.intro hl (And.intro hb (And.intro hb0 (And.intro hs0 (And.intro hx0 (And.intro h75 hX))))))
  have HN := Lib.hid (And.intro hNL (And.intro hNB (And.intro hL hcap)))
  clear hl hb hNL hNB hL hcap h75 hb0 hs0 hx0
  go_enter Tryz.func82, Tryz.ntmps82
  try simp only [hX]
  go_wp2_with (go_at_call 75; (with_reducible refine H.out.2.2.2.2.2.1.mono ?_); rintro e1 w1 ⟨a, c, b, d, rfl, k1, k2⟩; have H1 := Lib.hid (And.intro k1 k2); clear k1 k2)
  obtain ⟨Y, hY⟩ : ∃ Y, w1.heap.size = Y := ⟨_, rfl⟩
  obtain ⟨WA, hWA⟩ : ∃ WA, w1.alloc (.cells #[.int .i64 (n : Int), .slice a n c, .slice b n d] 25) = WA := ⟨_, rfl⟩
  have hXY : X < Y := by have h := H1.out.1.size; rw [hY, H.out.2.2.2.1] at h; omega
  have hsA : WA.heap.size = Y + 1 := by rw [← hWA]; simp [hY]
  have hyA : WA.heap[Y]? = some (.cells #[.int .i64 (n : Int), .slice a n c, .slice b n d] 25) := hWA ▸ box_al25 hY _ _ _
  have hbA : Below W0.heap.size W0 WA := hWA ▸ alloc_b H1.out.1 _
  have hwA : Below w.heap.size w WA := below_trans H.out.2.2.1 hbA
  have hgA : ∀ S, (∀ m ∈ S, m < X) → GrS WA (.agg #[.int .i64 (n : Int), .slice a n c, .slice b n d]) (Grp (n := n) (· ∈ L)) (X :: Y :: S) := fun S hS => by
    refine (((H1.out.2 (X :: S) (fun q hq => ?_)).ext (S' := X :: Y :: S) (fun q hq => ?_)).below (hWA ▸ alloc_b (Below.refl _ _) _))
    · rw [H.out.2.2.2.1]
      rcases List.mem_cons.1 hq with rfl | hq
      · omega
      · have := hS q hq; omega
    · rcases List.mem_cons.1 hq with rfl | hq
      · exact .inl (by simp)
      · rcases List.mem_cons.1 hq with rfl | hq
        · exact .inr (by rw [hY]; exact Nat.le_refl _)
        · exact .inl (List.mem_cons_of_mem _ hq)
  have hxA : WA.heap[X]? = some (.cells #[.int .i64 0, .slice none 0 0, .slice none 0 0] 25) := (hbA.block X (by rw [H.out.2.2.2.1]; omega)).trans H.out.2.2.2.2.1
  have h0 : Cw WA WA X Y L B (Grp (n := n) (· ∈ L)) a b c d := ⟨hyA, hgA, Grp.isG, fun x hx => Grp.sub NcG.isG (fun s hs => NcG.base hs) hx, fun x hx => Grp.base hx, Kept.refl _ _⟩
  rw [hWA, hY]
  have HA := Lib.hid (And.intro hXY (And.intro hsA (And.intro hwA (And.intro hxA h0))))
  clear hXY hsA hyA hbA hwA hgA hxA h0 hWA hY hW0
  go_loopw [9] (fun _ wr => ∃ (G : Pm n → Prop) (a b : Option Addr) (c d : Nat), Cw WA wr X Y L B G a b c d) (fun _ wr => n * n + 1 - rdLen n wr Y)
  case atStart => exact ⟨_, _, _, _, _, HA.out.2.2.2.2⟩
  case round =>
    obtain ⟨G, a', b', c', d', hg⟩ := hrel
    have hYX := HA.out.1
    have hlY : Y < wr.heap.size := by have h1 := hg.kep.size; have h2 := HA.out.2.1; omega
    have hwr : Below w.heap.size w wr := HA.out.2.2.1.trans (hg.kep.below HA.out.2.2.1.size (fun q hq => by rw [List.mem_singleton.1 hq, H.out.2.2.2.2.2.2]; omega))
    have hgg := (hg.grs [] (by simp)).now
    obtain ⟨T, hT, ab, ao, c2, bb, bo, e', he', hlv⟩ := hgg.lev hg.isG ⟨hn.1, hn.2⟩
    simp only [cv, Value.agg.injEq, Array.mk.injEq, List.cons.injEq, Value.slice.injEq, and_true, true_and] at he'
    obtain ⟨⟨rfl, rfl⟩, rfl, rfl⟩ := he'
    obtain ⟨T1, t1, ch1, _⟩ := hgg.ch
    have h46 := strong46g hn hg.isG t1 ch1 (Below.refl wr.heap.size wr)
    have hms := rdLen_eq hg.box hlv
    have hal := agen_len2 hg.isG t1
    have hag := agen_grp hg.isG t1
    obtain ⟨A, hA⟩ : ∃ A, PlainPm.agen T1 = A := ⟨_, rfl⟩
    rw [hA] at h46 hal hag
    obtain ⟨x0, x1, x2, x3, x4, x5⟩ := box_cells hg.box
    have HG := Lib.hid (And.intro hg (And.intro hT (And.intro hlv (And.intro hms (And.intro hal (And.intro hag (And.intro hwr h46)))))))
    clear hg hT hlv hms hal hag hwr h46 hA t1 ch1 hgg
    obtain ⟨wo, rfl⟩ : ∃ wo, wo = wr := ⟨_, rfl⟩
    go_wp2_with (go_at_call 46; (with_reducible refine HG.out.2.2.2.2.2.2.2.mono ?_); rintro e4 w4 ⟨v4, us4, rfl, k1, k2, k3, k4⟩; have H4 := Lib.hid (And.intro k1 (And.intro k2 k4)); clear k1 k2 k3 k4)
    have hA2 : A.length ≤ 64 * 65 := by
      have h1 := HG.out.2.2.2.2.1
      have h2 : n * (n + 1) ≤ 64 * 65 := Nat.mul_le_mul hn.2 (by omega)
      omega
    have pmA := pml_rv hn.1 (H4.out.2.1)
    have PA := pms_ownB H4.out.1 (pmA.below H4.out.2.2) (by omega)
    have PB := H.out.2.1.below (below_trans HG.out.2.2.2.2.2.2.1 H4.out.2.2)
    obtain ⟨a4, c4, rfl, hA63, hatA⟩ := pms_at PA
    obtain ⟨a5, c5, ev5, _, hatB⟩ := pms_at PB
    simp only [Value.slice.injEq] at ev5
    obtain ⟨rfl, -, rfl⟩ := ev5
    obtain ⟨NA, hNA⟩ : ∃ N, A.length = N := ⟨_, rfl⟩
    rw [hNA] at hA63 H4 hA2 ⊢
    have q0 := (H4.out.2.2.cell (block_lt_of_cell x0)).trans x0
    have q1 := (H4.out.2.2.cell (block_lt_of_cell x1)).trans x1
    have q2 := (H4.out.2.2.cell (block_lt_of_cell x2)).trans x2
    have hY4 : Y < w4.heap.size := Nat.lt_of_lt_of_le hlY H4.out.2.2.size
    have HP := Lib.hid (And.intro hatA (And.intro hatB (And.intro hNA (And.intro pmA (And.intro hA2 hY4)))))
    clear hatA hatB hNA PA PB pmA x0 x1 x2 x3 x4 x5 hA2 hY4
    go_wp2_with fail
    go_loopw [9, 10] (fun v i wi => ∃ (k : Nat) (us : List Value) (Ms : List (Pm n)), k ≤ NA ∧ i = .int .i64 (k : Int) ∧ GrowL (Value.slice a4 NA c4).ownBlock.toList wi w4.heap.size v us Ms ∧ MsP G (NcG (· ∈ L) (· ∈ B)) A B k 0 Ms ∧ Below w4.heap.size w4 wi) (fun _ i _ => NA - (intOf i).toNat)
    case atStart => exact ⟨0, _, _, Nat.zero_le _, rfl, GrowL.nil _ (fun m hm => (H4.out.1.block_lt (mem_ob.1 hm)).1), MsP.start _ _ _ _, Below.refl _ _⟩
    case round =>
      obtain ⟨k, us, Ms, hk, rfl, hgl, hmp, hbi⟩ := hrel
      obtain ⟨wi, rfl⟩ : ∃ wi, wi = wr := ⟨_, rfl⟩
      by_cases hka : k < NA
      · have hk1 : (k : Int) < NA := by omega
        have HK := Lib.hid (And.intro hgl (And.intro hmp hbi))
        clear hgl hmp hbi
        go_wp2_with fail
        go_loopw [9, 11] (fun v i wi => ∃ (m : Nat) (us : List Value) (Ms : List (Pm n)), m ≤ NB ∧ i = .int .i64 (m : Int) ∧ GrowL (Value.slice a4 NA c4).ownBlock.toList wi w4.heap.size v us Ms ∧ MsP G (NcG (· ∈ L) (· ∈ B)) A B k m Ms ∧ Below w4.heap.size w4 wi) (fun _ i _ => NB - (intOf i).toNat)
        case atStart => exact ⟨0, _, _, Nat.zero_le _, rfl, HK.out.1, HK.out.2.1, HK.out.2.2⟩
        case round =>
          obtain ⟨m, us, Ms, hm, rfl, hgl, hmp, hbj⟩ := hrel
          obtain ⟨wj, rfl⟩ : ∃ wj, wj = wr := ⟨_, rfl⟩
          by_cases hmb : m < NB
          · obtain ⟨a, ha⟩ : ∃ a, A[k]? = some a := ⟨_, List.getElem?_eq_getElem (by rw [HP.out.2.2.1]; exact hka)⟩
            obtain ⟨b, hb⟩ : ∃ b, B[m]? = some b := ⟨_, List.getElem?_eq_getElem (by rw [HN.out.2.1]; exact hmb)⟩
            obtain ⟨g6, o6, u6, rfl, hc6, hp6⟩ := HP.out.1 k a ha
            obtain ⟨g7, o7, u7, rfl, hc7, hp7⟩ := HP.out.2.1 m b hb
            have h88 := fun (V : World) (hV : Below wj.heap.size wj V) => px88 hn (hp6.below (below_trans hbj hV)) (hp7.below (below_trans hbj hV))
            have hz0 := And.intro ((hbj.cell (block_lt_of_cell hc6)).trans hc6) (And.intro ((hbj.cell (block_lt_of_cell hc7)).trans hc7) (Below.refl wj.heap.size wj))
            have q0j := (hbj.cell (block_lt_of_cell q0)).trans q0
            have q1j := (hbj.cell (block_lt_of_cell q1)).trans q1
            have q2j := (hbj.cell (block_lt_of_cell q2)).trans q2
            obtain ⟨b6b, b6o, b6c, rfl, _⟩ := id hp6
            obtain ⟨b7b, b7o, b7c, rfl, _⟩ := id hp7
            have hm1 : (m : Int) < NB := by omega
            have hbo : Below wo.heap.size wo wj := below_trans H4.out.2.2 hbj
            have hus : us.length < 1099511627776 := by
              have h1 := hmp.len
              have h2 := hgl.len
              have h3 : k * B.length ≤ 4160 * 9223372036854775807 := Nat.mul_le_mul (by have := HP.out.2.2.2.2.1; omega) (by rw [HN.out.2.1]; exact hB63)
              have h4 := HN.out.2.2.2 A.length HG.out.2.2.2.2.1
              have h5 : k * B.length ≤ A.length * B.length := Nat.mul_le_mul_right _ (by rw [HP.out.2.2.1]; omega)
              have h6 := HN.out.2.1
              have h7 : B.length ≤ A.length * B.length := Nat.le_mul_of_pos_left _ (by rw [HP.out.2.2.1]; omega)
              omega
            have HY := Lib.hid (And.intro h88 (And.intro hgl (And.intro hmp (And.intro hbj (And.intro ha (And.intro hb (And.intro hbo hus)))))))
            clear h88 hgl hmp hbj ha hb hc6 hc7 hp6 hp7 hbo hus
            by_cases hgx : G (cj a b)
            · have HX := Lib.hid hgx
              clear hgx
              go_wp2_with fail
              go_region_held3 (fun V => V.cell? ⟨g6, o6 + k, none⟩ = some (.slice (some ⟨b6b, b6o, none⟩) n b6c) ∧ V.cell? ⟨g7, o7 + m, none⟩ = some (.slice (some ⟨b7b, b7o, none⟩) n b7c) ∧ Below wj.heap.size wj V)
                (first
                  | with_reducible assumption
                  | with_reducible exact hz0
                  | exact keep2c hz0 (below_drw (Below.refl _ _))
                  | exact keep2c hz0 (below_self_drewN _ _)
                  | exact keep2c hz0 b6
                  | fail)
                (first
                  | (go_at_call 88; (with_reducible refine (HY.out.1 _ (by first | exact Below.refl _ _ | exact below_drw (Below.refl _ _) | exact below_self_drewN _ _)).mono ?_); rintro e6 w6 ⟨v6, rfl, k1, k2⟩; have b6 : Below wj.heap.size wj w6 := below_trans (by first | exact Below.refl _ _ | exact below_drw (Below.refl _ _) | exact below_self_drewN _ _) k2; have n6 : NewPm wj w6 v6 (cj a b) := NewPm.from k1 (by first | exact Nat.le_refl _ | simp [World.drew]); clear k1 k2))
              have r0 := (b6.cell (block_lt_of_cell q0j)).trans q0j
              have r1 := (b6.cell (block_lt_of_cell q1j)).trans q1j
              have r2 := (b6.cell (block_lt_of_cell q2j)).trans q2j
              have h116 := in116 (c := c') (e := d') hn.1 hn.2 (HG.out.2.1.chG HG.out.1.isG) (HG.out.2.2.1.below (below_trans HY.out.2.2.2.2.2.2.1 b6)) (n6.pm (M := []) (by simp))
              have H6 := Lib.hid (And.intro h116 b6)
              clear h116
              go_wp2_with (go_at_call 116; (with_reducible refine H6.out.1.mono ?_); rintro e7 w7 ⟨h1, k2⟩; have h2 := h1.true_ HX.out; subst h2; have H7 := Lib.hid (below_trans H6.out.2 k2); clear h1 k2)
              exact ⟨⟨m + 1, us, Ms, by omega, by go_num, HY.out.2.1.below H7.out, HY.out.2.2.1.keep HY.out.2.2.2.2.1 HY.out.2.2.2.2.2.1 HX.out, below_trans HY.out.2.2.2.1 H7.out⟩, by simp [intOf]; omega⟩
            · have HX := Lib.hid hgx
              clear hgx
              go_wp2_with fail
              go_region_held3 (fun V => V.cell? ⟨g6, o6 + k, none⟩ = some (.slice (some ⟨b6b, b6o, none⟩) n b6c) ∧ V.cell? ⟨g7, o7 + m, none⟩ = some (.slice (some ⟨b7b, b7o, none⟩) n b7c) ∧ Below wj.heap.size wj V)
                (first
                  | with_reducible assumption
                  | with_reducible exact hz0
                  | exact keep2c hz0 (below_drw (Below.refl _ _))
                  | exact keep2c hz0 (below_self_drewN _ _)
                  | exact keep2c hz0 b6
                  | fail)
                (first
                  | (go_at_call 88; (with_reducible refine (HY.out.1 _ (by first | exact Below.refl _ _ | exact below_drw (Below.refl _ _) | exact below_self_drewN _ _)).mono ?_); rintro e6 w6 ⟨v6, rfl, k1, k2⟩; have b6 : Below wj.heap.size wj w6 := below_trans (by first | exact Below.refl _ _ | exact below_drw (Below.refl _ _) | exact below_self_drewN _ _) k2; have n6 : NewPm wj w6 v6 (cj a b) := NewPm.from k1 (by first | exact Nat.le_refl _ | simp [World.drew]); clear k1 k2))
              have r0 := (b6.cell (block_lt_of_cell q0j)).trans q0j
              have r1 := (b6.cell (block_lt_of_cell q1j)).trans q1j
              have r2 := (b6.cell (block_lt_of_cell q2j)).trans q2j
              have h116 := in116 (c := c') (e := d') hn.1 hn.2 (HG.out.2.1.chG HG.out.1.isG) (HG.out.2.2.1.below (below_trans HY.out.2.2.2.2.2.2.1 b6)) (n6.pm (M := []) (by simp))
              have hz6 := n6.growV HY.out.2.1
              obtain ⟨xb, xc, rfl, _⟩ := id n6
              have H6 := Lib.hid (And.intro h116 (And.intro b6 hz6))
              clear h116 n6 hz6
              go_wp2_with (first
                | (at_builtin; refine app1 rfl (.tmp 43) (.tmp 45) 44 27 rfl i27 (.slice none 0 0) 24 Tryz.underlying44 I27.out.1 I27.out.2.1 I27.out.2.2.1 I27.out.2.2.2 rfl (by omega) w4.heap.size (.slice (some ⟨xb, 0, none⟩) n xc) _ us rfl H7.out.2.1.1 rfl rfl H7.out.2.2.1 H7.out.2.2.2 ?_; intro v8 w8 k1 k2 k3; have H8 := Lib.hid (And.intro k1 (And.intro k2 k3)); clear k1 k2 k3)
                | (go_at_call 116; (with_reducible refine H6.out.1.mono ?_); rintro e7 w7 ⟨h1, k2⟩; have h2 := h1.false_ HX.out; subst h2
                   have g7 := HY.out.2.1.below (below_trans H6.out.2.1 k2)
                   have s7 : w4.heap.size ≤ w7.heap.size := Nat.le_trans HY.out.2.2.2.1.size (below_trans H6.out.2.1 k2).size
                   have H7 := Lib.hid (And.intro (below_trans H6.out.2.1 k2) (And.intro g7 (And.intro HY.out.2.2.2.2.2.2.2 s7)))
                   have K7 := Lib.hid k2
                   clear h1 k2 g7 s7))
              have hnc : NcG (· ∈ L) (· ∈ B) (cj a b) := NcG.nrm _ (HG.out.1.sub a ((HG.out.2.2.2.2.2.1 a).1 (Grp.base (List.mem_of_getElem? HY.out.2.2.2.2.1)))) b (List.mem_of_getElem? HY.out.2.2.2.2.2.1)
              refine ⟨⟨m + 1, _, Ms ++ [cj a b], by omega, by go_num, H7.out.2.1.app (H6.out.2.2.below K7.out) H8.out.1 H8.out.2.1 H8.out.2.2, HY.out.2.2.1.add HX.out hnc, ?_⟩, by simp [intOf]; omega⟩
              exact (HY.out.2.2.2.1.trans (H7.out.1.mono HY.out.2.2.2.1.size)).grown H8.out.2.1 H7.out.2.2.2 (fun g e => (H7.out.2.1.1.block_lt e).2)
          · have hm' : m = NB := by omega
            have hm1 : ¬ (m : Int) < NB := by omega
            have HY := Lib.hid (And.intro hgl (And.intro hmp (And.intro hbj hm')))
            clear hgl hmp hbj hm'
            go_wp2_with fail
            refine ⟨⟨k + 1, us, Ms, by omega, by go_num, HY.out.1, ?_, HY.out.2.2.1⟩, by simp [intOf]; omega⟩
            have := HY.out.2.1
            rw [HY.out.2.2.2, ← HN.out.2.1] at this
            exact this.row
      · have hkN : k = NA := by omega
        have hk1 : ¬ (k : Int) < NA := by omega
        have hlu := hgl.len
        have hbo : Below wo.heap.size wo wi := below_trans H4.out.2.2 hbi
        have hml : A.length + Ms.length ≤ 4096 := by
          have h1 := HN.out.2.2.2 A.length HG.out.2.2.2.2.1
          have h2 := hmp.len
          have h3 := HP.out.2.2.1
          rw [hkN, ← h3] at h2
          omega
        obtain ⟨av, cq, ev, _⟩ := hgl.1.row (by rw [hlu]; unfold maxLen; omega)
        subst ev
        have HK := Lib.hid (And.intro hgl (And.intro hmp (And.intro hbi (And.intro hkN (And.intro hbo hml)))))
        have hr0 := (hbo.block X (by omega)).trans ((HG.out.1.kep.block X (by have := HA.out.2.1; omega) (by simp; omega)).trans HA.out.2.2.2.1)
        have hY0 := (hbo.block Y hlY).trans HG.out.1.box
        by_cases hM0 : Ms = []
        · have hl0 : us.length = 0 := by rw [hlu, hM0]; rfl
          have hi0 : ((0 : Nat) : Int) = 0 := rfl
          rw [hl0]
          obtain ⟨y0, y1, y2, _⟩ := box_cells hY0
          obtain ⟨r0, r1, r2, r3, r4, r5⟩ := box_cells hr0
          have hfin : (set3 wi X (.int .i64 (n : Int)) (.slice (some ⟨ab, ao, none⟩) n c') (.slice (some ⟨bb, bo, none⟩) n d')).heap[X]? = some (.cells #[.int .i64 (n : Int), .slice (some ⟨ab, ao, none⟩) n c', .slice (some ⟨bb, bo, none⟩) n d'] 25) := set3_box hr0
          have HM := Lib.hid hM0
          clear hgl hmp hbi hkN hbo hml hM0 hr0 hY0 hlu hl0
          go_wp2_with fail
          obtain ⟨V, hV⟩ : ∃ V, set3 wi X (.int .i64 (n : Int)) (.slice (some ⟨ab, ao, none⟩) n c') (.slice (some ⟨bb, bo, none⟩) n d') = V := ⟨_, rfl⟩
          have hKp : Kept wi V [X] := hV ▸ set3_kept (by simp)
          rw [hV] at hfin
          unfold set3 at hV
          rw [hV]
          obtain ⟨f0, f1, f2, _⟩ := box_cells hfin
          refine bodyPost_ret (v := .agg #[.int .i64 (n : Int), .slice (some ⟨ab, ao, none⟩) n c', .slice (some ⟨bb, bo, none⟩) n d']) (by simp [results, Tryz.results82, go_sem, f0, f1, f2]) rfl ?_
          refine ⟨some ⟨ab, ao, none⟩, c', some ⟨bb, bo, none⟩, d', rfl, ?_, fun S hS => ?_⟩
          · have h1 := below_trans HG.out.2.2.2.2.2.2.1 HK.out.2.2.2.2.1
            rw [H.out.2.2.2.2.2.2] at h1
            exact h1.trans (hKp.below (by have := h1.size; omega) (fun q hq => by rw [List.mem_singleton.1 hq]; exact Nat.le_refl _))
          · have hgr := ((HG.out.1.grs S hS).below HK.out.2.2.2.2.1).kept (hKp.mono (by simp))
            refine (hgr.congr (NcG.of HG.out.1.isG HG.out.1.has (nrm_of (L := (· ∈ A)) HG.out.1.isG (fun x => (HG.out.2.2.2.2.2.1 x).symm) ?_) HG.out.1.sub)).ext (fun q hq => .inl (List.mem_cons_of_mem _ (List.mem_cons_of_mem _ hq)))
            have h1 := HK.out.2.1.none HM.out
            rw [HK.out.2.2.2.1, ← HP.out.2.2.1] at h1
            exact h1.fin
        · have hpos : 0 < us.length := by
            rw [hlu]
            exact List.length_pos_iff.2 hM0
          obtain ⟨g9, c9, ev9, _, _, _, _⟩ := hgl.1.form hpos
          simp only [Value.slice.injEq, true_and] at ev9
          obtain ⟨rfl, rfl⟩ := ev9
          have hne : ¬ (us.length : Int) = 0 := by omega
          have o4 : Own wi wo.heap.size (.slice a4 NA c4) 27 us4 := H4.out.1.below hbi
          have hsz : wo.heap.size ≤ wi.heap.size := hbo.size
          have hlen4 : us4.length + us.length < 1099511627776 := by
            have h1 := H4.out.2.1.1
            rw [List.length_map] at h1
            omega
          have hsrc : ∀ j y, us[j]? = some y → wi.cell? ⟨g9, 0 + j, none⟩ = some y := fun j y hy => by
            rw [Nat.zero_add, hgl.1.cell j (List.getElem?_eq_some_iff.1 hy).1]; exact hy
          have HM := Lib.hid (And.intro o4 (And.intro hsz (And.intro hlen4 (And.intro hsrc (And.intro hM0 hY0)))))
          clear hgl hmp hbi hkN hbo hml hM0 hlu hpos o4 hsz hlen4 hsrc hr0 hY0
          go_wp2_with (first
            | (at_builtin; refine appN rfl (.tmp 52) (.tmp 53) 44 27 rfl i27 (.slice none 0 0) 24 Tryz.underlying44 I27.out.1 I27.out.2.1 I27.out.2.2.1 I27.out.2.2.2 rfl (by omega) wo.heap.size (.slice a4 NA c4) us4 us rfl HM.out.1 g9 0 us.length cq rfl rfl HM.out.2.2.2.1 HK.out.1.2.1.one_ HM.out.2.2.1 HM.out.2.1 ?_
               intro v8 w8 k1 k2 k3
               have b8 : Below wo.heap.size wo w8 := HK.out.2.2.2.2.1.grown k2 HM.out.2.1 (fun g e => (HM.out.1.block_lt e).2)
               have p8 : PmL w8 [] (us4 ++ us) (A ++ Ms) := PmL.app (HP.out.2.2.2.1.below b8) (HK.out.1.2.1.stp (M' := (Value.slice (some ⟨g9, 0, none⟩) us.length cq).ownBlock.toList ++ (Value.slice a4 NA c4).ownBlock.toList) ⟨Kept.ofGrown k2 (fun g e => List.mem_append_right _ (mem_ob.2 e)), fun m hm => .inl hm⟩).weakM
               have ps8 : PmsV w8 [] v8 (A ++ Ms) := pms_ownB k1 p8 (by rw [List.length_append]; have := HK.out.2.2.2.2.2; omega)
               have H8 := Lib.hid (And.intro b8 ps8)
               clear k1 k2 k3 b8 p8 ps8)
            | (go_at_call 75; (with_reducible refine (chain75 (L := A ++ Ms) hn ?_ H8.out.2).mono ?_)
               · rw [List.length_append]; exact Nat.le_trans HK.out.2.2.2.2.2 (by decide)
               rintro e9 w9 ⟨a9, cc9, bb9, d9, rfl, k1, k2⟩
               have y9 := (k1.block Y (Nat.lt_of_lt_of_le hlY H8.out.1.size)).trans ((H8.out.1.block Y hlY).trans HG.out.1.box)
               obtain ⟨z0, z1, z2, z3, z4, z5⟩ := box_cells y9
               have H9 := Lib.hid (And.intro k1 (And.intro k2 y9))
               clear k1 k2 y9))
          have hK9 : Kept w9 (set3 w9 Y (.int .i64 (n : Int)) (.slice a9 n cc9) (.slice bb9 n d9)) [Y] := set3_kept (by simp)
          have hcw : Cw WA (set3 w9 Y (.int .i64 (n : Int)) (.slice a9 n cc9) (.slice bb9 n d9)) X Y L B (Grp (n := n) (· ∈ A ++ Ms)) a9 bb9 cc9 d9 := by
            refine ⟨set3_box H9.out.2.2, fun S hS => (H9.out.2.1 (X :: Y :: S) (fun q hq => ?_)).kept (hK9.mono (by simp)), Grp.isG, fun x hx => Grp.sub NcG.isG (fun s hs => ?_) hx, fun x hx => ?_, (keptB HG.out.1.kep (below_trans H8.out.1 H9.out.1) (HG.out.1.kep.size)).trans hK9⟩
            · have h1 := H8.out.1.size
              rcases List.mem_cons.1 hq with rfl | hq
              · omega
              · rcases List.mem_cons.1 hq with rfl | hq
                · omega
                · have := hS q hq; omega
            · rcases List.mem_append.1 hs with hs | hs
              · exact HG.out.1.sub s ((HG.out.2.2.2.2.2.1 s).1 (Grp.base hs))
              · exact (HK.out.2.1.out s hs).2
            · exact Grp.sub Grp.isG (fun s hs => Grp.base (List.mem_append_left _ hs)) ((HG.out.2.2.2.2.2.1 x).2 (HG.out.1.has x hx))
          refine ⟨⟨_, _, _, _, _, hcw⟩, ?_⟩
          obtain ⟨T9, hT9, ab9, ao9, c99, bb99, bo99, e99, he9, hlv9⟩ := (hcw.grs [] (by simp)).now.lev Grp.isG ⟨hn.1, hn.2⟩
          simp only [cv, Value.agg.injEq, Array.mk.injEq, List.cons.injEq, Value.slice.injEq, and_true, true_and] at he9
          obtain ⟨⟨rfl, rfl⟩, rfl, rfl⟩ := he9
          have hm9 := rdLen_eq hcw.box hlv9
          have hm0 := HG.out.2.2.2.1
          have hsg : sg n (orbO T) < sg n (orbO T9) := by
            obtain ⟨z, hz⟩ := List.exists_mem_of_ne_nil _ HM.out.2.2.2.2.1
            exact sg_lt (HG.out.2.1.chG HG.out.1.isG) (hT9.chG Grp.isG) (fun x hx => Grp.sub Grp.isG (fun s hs => Grp.base (List.mem_append_left _ hs)) ((HG.out.2.2.2.2.2.1 x).2 hx)) (Grp.base (List.mem_append_right _ hz)) (HK.out.2.1.out z hz).1
          have hle : sg n (orbO T9) ≤ n * n := sg_le (hT9.chG Grp.isG)
          unfold set3 at hm9
          rw [hm9, hm0]
          omega
end
end Go.Proofs.YtbejhkojdiadaaaGreat
