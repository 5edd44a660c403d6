/- Labelling: the best one of the leaves' labellings. -/
import Derived.Test.YtjjjohmppehejaaGreatAllW
import Derived.Test.YtjjjohmppehejaaGreatRangeX
import Derived.Test.YtjjjohmppehejaaGreatGroupP
import Derived.Test.YtjjjohmppehejaaGreatMoveB
import Derived.Laws.Cover3
set_option linter.unusedSimpArgs false
set_option linter.unusedVariables false
namespace Go.Proofs.YtjjjohmppehejaaGreat
open Go.RowKit Plain PlainG PlainT
attribute [local go_sem] Oper.semAt_some
set_option maxHeartbeats 400000 in
theorem compareP_calls (a b : Option Addr) (c d : Nat) (xs ys : List Int) (w : World) (ha : Ints w a xs) (hb : Ints w b ys) (hl : xs.length = ys.length) :
    Calls Tryz.prog 45 #[.slice a xs.length c, .slice b ys.length d] w fun e w' => e = .returned (.int .i64 (cmpL xs ys)) ∧ w' = w := by
  have hA := Lib.hid ha
  have hB := Lib.hid hb
  have hmx := ha.len
  clear ha hb
  obtain ⟨n, hn⟩ : ∃ n, n = xs.length := ⟨_, rfl⟩
  rw [← hl, ← hn]
  rw [← hn] at hmx hl
  have Hn := Lib.hid hn
  have Hm := Lib.hid hl
  clear hn hl
  go_enter Tryz.func45, Tryz.ntmps45
  go_wp2
  go_loop [11] (fun i => ∃ k : Nat, k ≤ n ∧ i = .int .i64 k ∧ cmpL xs ys = cmpL (xs.drop k) (ys.drop k)) (fun i => n - (intOf i).toNat)
  case atStart => exact ⟨0, Nat.zero_le _, rfl, rfl⟩
  case round =>
    obtain ⟨k, hk, rfl, he⟩ := hrel
    have He := Lib.hid he
    clear he
    by_cases hlt : k < n
    · obtain ⟨a', oa, rfl, _, hca⟩ := hA.out.at_ (k := k) (by rw [← Hn.out]; exact hlt)
      obtain ⟨b', ob, rfl, _, hcb⟩ := hB.out.at_ (k := k) (by rw [← Hm.out]; exact hlt)
      have hd : xs.drop k = xs[k]?.getD 0 :: xs.drop (k + 1) := drop_cons (by rw [← Hn.out]; exact hlt)
      have hd2 : ys.drop k = ys[k]?.getD 0 :: ys.drop (k + 1) := drop_cons (by rw [← Hm.out]; exact hlt)
      obtain ⟨x, hx⟩ : ∃ x, xs[k]?.getD 0 = x := ⟨_, rfl⟩
      obtain ⟨y, hy⟩ : ∃ y, ys[k]?.getD 0 = y := ⟨_, rfl⟩
      rw [hx] at hca hd
      rw [hy] at hcb hd2
      have Hd := Lib.hid (And.intro hd hd2)
      have hcc := cmpInt_calls x y w
      obtain ⟨r, hr⟩ : ∃ r, cmpL [x] [y] = r := ⟨_, rfl⟩
      rw [hr] at hcc
      have Hc := Lib.hid hcc
      have Hr := Lib.hid hr
      clear hd hd2 hx hy hcc hr
      by_cases h0 : r = 0
      · subst h0
        go_wp2_with (go_at_call 66; refine Hc.out.mono ?_; rintro e w' ⟨rfl, rfl⟩)
        exact ⟨⟨k + 1, by omega, by go_num, by rw [He.out, Hd.out.1, Hd.out.2, cmpL_step, Hr.out]; simp⟩, by simp [intOf]; omega⟩
      · have h1 : (r != 0) = true := by simpa using h0
        have h2 : (r == 0) = false := by simpa using h0
        go_wp2_with (go_at_call 66; refine Hc.out.mono ?_; rintro e w' ⟨rfl, rfl⟩)
        go_ret
        exact ⟨ret_int (by rw [He.out, Hd.out.1, Hd.out.2, cmpL_step, Hr.out, if_pos h0]), rfl⟩
    · go_wp2
      go_ret
      exact ⟨ret_int (by rw [He.out, cmpL_end (.inl (drop_all (by rw [← Hn.out]; omega)))]; simp [← Hn.out, ← Hm.out]), rfl⟩
/-- Compared with nothing. -/
theorem compareN_calls (a b : Option Addr) (c d : Nat) (xs : List Int) (w : World) (ha : Ints w a xs) :
    Calls Tryz.prog 44 #[.slice a xs.length c, .slice b 0 d] w fun e w' => ∃ r : Int, e = .returned (.int .i64 r) ∧ w' = w := by
  by_cases h0 : xs.length = 0
  · have := compareS_calls a b c d xs [] w ha Row.empty (by simpa using h0)
    exact this.mono fun e w' ⟨h1, h2⟩ => ⟨_, h1, h2⟩
  · obtain ⟨g, o, rfl, _, hc⟩ := ha.at_ (k := 0) (by omega)
    have hmx := ha.len
    rw [Nat.add_zero] at hc
    obtain ⟨n, hn⟩ : ∃ n, xs.length = n := ⟨_, rfl⟩
    rw [hn] at hmx h0 ⊢
    clear ha hn
    go_enter Tryz.func44, Tryz.ntmps44
    go_wp2
    go_loop [11] (fun i => i = .int .i64 0) (fun i => 0)
    case atStart => rfl
    case round =>
      subst hrel
      have h1 : decide ((0 : Int) < (n : Int)) = true := by simp; omega
      go_wp2
      go_ret
      exact ⟨⟨1, rfl⟩, rfl⟩
theorem wordA_eq {n : Nat} {g : Gr} (h : Vg n g) {x : List Int} (hx : IsP n x) : wordA g x = (wordT n g x, 0) := by
  obtain ⟨s, t, hp, rfl⟩ := hx
  have hb : permB g.n (permL n s) = true := by rw [h.num]; exact permB_permL hp
  have hm : moveA g (permL n s) = (movedG n (permL n s) g.es g.cs, 0) := by
    unfold moveA
    rw [if_neg (by simp [h.chk]), if_pos hb, h.num]; simp
  unfold wordA
  rw [hm]; rfl
theorem rowsW_len2 (es fs : List E2) (n : Nat) : (rowsW es n).length = (rowsW fs n).length := by simp [rowsW, List.length_flatMap]
theorem wordT_len {n : Nat} {g : Gr} (h : Vg n g) {x y : List Int} (hx : IsP n x) (hy : IsP n y) : (wordT n g x).length = (wordT n g y).length := by
  obtain ⟨s, t, hp, rfl⟩ := hx
  obtain ⟨u, v, hq, rfl⟩ := hy
  have h1 := h.mv hp
  have h2 := h.mv hq
  unfold wordT wordG
  rw [List.length_append, List.length_append, h1.cl, h2.cl, h1.num, h2.num, rowsW_len2]
theorem bestL_snoc (W : List Int → List Int) (pre : List (List Int)) (x : List Int) : bestL W (pre ++ [x]) = stepB W (bestL W pre) x := by simp [bestL]
theorem box1_set {W : World} {C : Nat} {a0 u : Value} {T : TypeId} (h : W.heap[C]? = some (.cells #[a0] T)) : (W.setCell ⟨C, 0, none⟩ u).heap[C]? = some (.cells #[u] T) := by
  have hl := (Array.getElem?_eq_some_iff.1 h).1
  have h2 : W.heap[C] = .cells #[a0] T := by rw [Array.getElem?_eq_getElem hl] at h; exact Option.some.inj h
  simp [World.setCell, Array.getElem_modify, hl, h2]
theorem box1_cell {W : World} {C : Nat} {a0 : Value} {T : TypeId} (h : W.heap[C]? = some (.cells #[a0] T)) : W.cell? ⟨C, 0, none⟩ = some a0 ∧ W.frozen? ⟨C, 0, none⟩ = false := by
  constructor <;> simp [World.cell?, World.frozen?, h]
/-- Ints do not lie in a box that holds a slice. -/
theorem Ints.setBox {W : World} {C : Nat} {T : TypeId} {a b : Option Addr} {l c : Nat} {xs : List Int} {u : Value} (h : Ints W a xs) (hb : W.heap[C]? = some (.cells #[.slice b l c] T)) : Ints (W.setCell ⟨C, 0, none⟩ u) a xs := by
  refine ⟨h.1, fun i v hv => ?_⟩
  obtain ⟨g, o, e, hg, hc⟩ := h.2 i v hv
  have hne : g ≠ C := by
    rintro rfl
    simp only [World.cell?, hb] at hc
    rw [List.getElem?_map] at hv
    cases hx : xs[i]? with
    | none => rw [hx] at hv; cases hv
    | some x =>
      rw [hx] at hv
      cases hv
      cases ho : o + i with
      | zero => rw [ho] at hc; simp at hc
      | succ k => rw [ho] at hc; simp at hc
  refine ⟨g, o, e, by simpa [World.setCell] using hg, ?_⟩
  rw [World.cell?_of_block (Below.heap_setCell _ _ _ _ hne)]; exact hc
theorem Ints.keptRow {W W' : World} {row : Option Nat} {a : Option Addr} {xs : List Int} (h : Ints W a xs) (hg : W.grownBy W' row) (hr : ∀ r, row = some r → ∃ o : Obj, W.heap[r]? = some o ∧ o.isCells = false) : Ints W' a xs :=
  ⟨h.1, fun i v hv => by
    obtain ⟨b, o, e, hb, hc⟩ := h.2 i v hv
    exact ⟨b, o, e, Nat.lt_of_lt_of_le hb hg.size, cell_kept hc hg hr⟩⟩
theorem IntsB.keptRow {B : Nat} {W W' : World} {row : Option Nat} {a : Option Addr} {xs : List Int} (h : IntsB B W a xs) (hg : W.grownBy W' row) (hr : ∀ r, row = some r → ∃ o : Obj, W.heap[r]? = some o ∧ o.isCells = false) : IntsB B W' a xs := ⟨h.1.keptRow hg hr, h.2⟩
/-- What the boxes of the best labelling and of its word hold. -/
def BestV (W : World) (n : Nat) (Wd : List Int → List Int) (o : Option (List Int)) (pv wv : Value) : Prop :=
  match o with
  | none => pv = .slice none 0 0 ∧ wv = .slice none 0 0
  | some b => IsP n b ∧ ∃ a c a2 c2, pv = .slice a n c ∧ Ints W a b ∧ wv = .slice a2 (Wd b).length c2 ∧ Ints W a2 (Wd b)
structure LabI (W0 : World) (D n : Nat) (Wd : List Int → List Int) (pre : List (List Int)) (W : World) : Prop where
  st : ∃ pv wv, W.heap[D]? = some (.cells #[pv] 40) ∧ W.heap[D + 1]? = some (.cells #[wv] 23) ∧ BestV W n Wd (bestL Wd pre) pv wv
  bel : Below D W0 W
theorem BestV.kept {W W' : World} {n : Nat} {Wd : List Int → List Int} {o : Option (List Int)} {pv wv : Value} (h : BestV W n Wd o pv wv) (hk : ∀ a xs, Ints W a xs → Ints W' a xs) : BestV W' n Wd o pv wv := by
  cases o with
  | none => exact h
  | some b =>
    obtain ⟨h1, a, c, a2, c2, e1, i1, e2, i2⟩ := h
    exact ⟨h1, a, c, a2, c2, e1, hk _ _ i1, e2, hk _ _ i2⟩
theorem LabI.ownFrom (W0 : World) (D n B : Nat) (Wd : List Int → List Int) (hD : D ≤ W0.heap.size) (hB : D ≤ B) : OwnFrom B (LabI W0 D n Wd) := by
  intro pre W W' row h hg hr
  have hr2 : ∀ r, row = some r → ∃ o : Obj, W.heap[r]? = some o ∧ o.isCells = false := fun r e => (hr r e).2
  obtain ⟨⟨pv, wv, h1, h2, h3⟩, h4⟩ := h
  refine ⟨⟨pv, wv, (grownBy_keeps_cells hg hr2 h1 rfl).trans h1, (grownBy_keeps_cells hg hr2 h2 rfl).trans h2, h3.kept fun a xs h => h.keptRow hg hr2⟩, ?_⟩
  exact h4.grown hg (Nat.le_trans hD h4.size) (fun k e => Nat.le_trans hB (hr k e).1)
theorem run_nil40 (W : World) (a : Option Addr) (l c : Nat) : (binOp .eql 40 (.slice a l c) (.slice none 0 0)).run Tryz.prog W = .ok (.bool a.isNone) W := by
  simp [binOp, run_equal_slice_nil W 40 3 a l c Tryz.underlying40]
theorem callsR {P : Program} {f : FuncId} {args : Array Value} {w : World} {R : Ending → World → Prop} {l n : Nat} (h : Calls P f args w R) : CallsIn (Fence.wide.inRound l) n P f args w R := callsIn_wide.2 h
theorem fnR (l f : Nat) : (Fence.wide.inRound l).fn f := trivial
/-- The state, with what the body reads of it. -/
theorem LabI.store {W0 W W2 : World} {D n : Nat} {Wd : List Int → List Int} {pre : List (List Int)} {x : List Int} {av a2 : Option Addr} {cv c2 : Nat} (h : LabI W0 D n Wd pre W) (hD : D ≤ W0.heap.size) (hb : Below W.heap.size W W2)
    (hx : IsP n x) (hi : Ints W2 av x) (hw : Ints W2 a2 (Wd x)) (hs : stepB Wd (bestL Wd pre) x = some x) (hlt : D + 2 ≤ W.heap.size) :
    LabI W0 D n Wd (pre ++ [x]) ((W2.setCell ⟨D, 0, none⟩ (.slice av n cv)).setCell ⟨D + 1, 0, none⟩ (.slice a2 (Wd x).length c2)) ∧ Kept W ((W2.setCell ⟨D, 0, none⟩ (.slice av n cv)).setCell ⟨D + 1, 0, none⟩ (.slice a2 (Wd x).length c2)) [D, D + 1] := by
  obtain ⟨⟨pv, wv, h1, h2, h3⟩, h4⟩ := h
  have k1 := (hb.block D (by omega)).trans h1
  have k2 := (hb.block (D + 1) (by omega)).trans h2
  have sl : ∃ b l c b2 l2 c2, pv = .slice b l c ∧ wv = .slice b2 l2 c2 := by
    cases ho : bestL Wd pre with
    | none => rw [ho] at h3; obtain ⟨rfl, rfl⟩ := h3; exact ⟨_, _, _, _, _, _, rfl, rfl⟩
    | some b => rw [ho] at h3; obtain ⟨_, a, c, a2, c2, rfl, _, rfl, _⟩ := h3; exact ⟨_, _, _, _, _, _, rfl, rfl⟩
  obtain ⟨b1, l1, c1, b2, l2, c3, rfl, rfl⟩ := sl
  have m1 := box1_set (u := .slice av n cv) k1
  have m2 : (W2.setCell ⟨D, 0, none⟩ (.slice av n cv)).heap[D + 1]? = some (.cells #[.slice b2 l2 c3] 23) := (Below.heap_setCell _ _ _ _ (by simp)).trans k2
  have e1 := hi.setBox (u := .slice av n cv) k1
  have e2 := hw.setBox (u := .slice av n cv) k1
  have f1 := e1.setBox (u := .slice a2 (Wd x).length c2) m2
  have f2 := e2.setBox (u := .slice a2 (Wd x).length c2) m2
  have gk : Kept W ((W2.setCell ⟨D, 0, none⟩ (.slice av n cv)).setCell ⟨D + 1, 0, none⟩ (.slice a2 (Wd x).length c2)) [D, D + 1] :=
    ((Kept.ofBelow hb).trans (Kept.ofGrown (grown_put 0 _) (fun k e => by cases e; simp))).trans (Kept.ofGrown (grown_put 0 _) (fun k e => by cases e; simp))
  refine ⟨⟨⟨_, _, (Below.heap_setCell _ _ _ _ (by simp)).trans m1, box1_set m2, ?_⟩, h4.trans (gk.below (by omega) (by simp))⟩, gk⟩
  rw [bestL_snoc, hs]
  exact ⟨hx, av, cv, a2, c2, rfl, f1, rfl, f2⟩
theorem LabI.same {W0 W W2 : World} {D n : Nat} {Wd : List Int → List Int} {pre : List (List Int)} {x : List Int} (h : LabI W0 D n Wd pre W) (hD : D ≤ W0.heap.size) (hb : Below W.heap.size W W2) (hs : stepB Wd (bestL Wd pre) x = bestL Wd pre) (hlt : D + 2 ≤ W.heap.size) :
    LabI W0 D n Wd (pre ++ [x]) W2 ∧ Kept W W2 [D, D + 1] := by
  obtain ⟨⟨pv, wv, h1, h2, h3⟩, h4⟩ := h
  refine ⟨⟨⟨pv, wv, (hb.block D (by omega)).trans h1, (hb.block (D + 1) (by omega)).trans h2, ?_⟩, h4.trans (hb.mono (by omega))⟩, Kept.ofBelow hb⟩
  rw [bestL_snoc, hs]
  exact h3.kept fun a xs h => h.below hb
def labG (g : Gr) : List Int × Int := if ckA [g] ≠ 0 then ([], ckA [g]) else (bestT g.n.toNat g, 0)
set_option maxRecDepth 100000 in
set_option maxHeartbeats 4000000 in
theorem lab_calls {w : World} {g : Gr} {ea ca : Option Addr} {ec cc : Nat} (he : Edg w ea g.es) (hc : Ints w ca g.cs) :
    Calls Tryz.prog 30 #[.agg #[.int .i64 g.n, .slice ea g.es.length ec, .slice ca g.cs.length cc]] w fun e w' =>
      ∃ a c, e = .returned (.tuple #[.slice a (labG g).1.length c, .int .i64 (labG g).2]) ∧ Ints w' a (labG g).1 ∧ Below w.heap.size w w' := by
  obtain ⟨X, hX⟩ : ∃ X, w.heap.size = X := ⟨_, rfl⟩
  obtain ⟨n, hn⟩ : ∃ n, g.n = n := ⟨_, rfl⟩
  obtain ⟨L, hL⟩ : ∃ L, g.es.length = L := ⟨_, rfl⟩
  obtain ⟨M, hM⟩ : ∃ M, g.cs.length = M := ⟨_, rfl⟩
  obtain ⟨W1, hW1⟩ : ∃ W1, w.alloc (.cells #[.int .i64 n, .slice ea L ec, .slice ca M cc] 25) = W1 := ⟨_, rfl⟩
  have hs1 : W1.heap.size = X + 1 := by rw [← hW1, ← hX]; simp
  have hb1 : Below w.heap.size w W1 := by rw [← hW1]; exact alloc_b (Below.refl _ _) _
  have x0 : W1.cell? ⟨X, 0, none⟩ = some (.int .i64 n) := by rw [← hW1, ← hX]; simp
  have x1 : W1.cell? ⟨X, 1, none⟩ = some (.slice ea L ec) := by rw [← hW1, ← hX]; simp
  have x2 : W1.cell? ⟨X, 2, none⟩ = some (.slice ca M cc) := by rw [← hW1, ← hX]; simp
  obtain ⟨W2, hW2⟩ : ∃ W2, W1.alloc (.cells #[.int .i64 n, .slice ea L ec, .slice ca M cc] 25) = W2 := ⟨_, rfl⟩
  have hb2 : Below W1.heap.size W1 W2 := by rw [← hW2]; exact alloc_b (Below.refl _ _) _
  have K31 := ccheck_calls (some ⟨W1.heap.size, 0, none⟩) 1 [g] W2 (by
    have := gsl_one (ec := ec) (cc := cc) 25 (he.below hb1) (hc.below hb1)
    rw [hn, hL, hM, hW2] at this
    exact this)
  obtain ⟨E, hE⟩ : ∃ E, ckA [g] = E := ⟨_, rfl⟩
  rw [hE, hs1] at K31
  simp only [List.length_cons, List.length_nil, Nat.zero_add] at K31
  rw [hn, hL, hM]
  by_cases h0 : E = 0
  · subst h0
    obtain ⟨h1, h2⟩ := ck_one hE
    have g1 := chkGr_ok.1 h1
    obtain ⟨N, hN⟩ : ∃ N, g.n.toNat = N := ⟨_, rfl⟩
    have hnN : n = (N : Int) := by omega
    have hMN : M = N := by omega
    subst hnN
    subst hMN
    have hvg : Vg M g := ⟨h1, hn⟩
    have hres : labG g = (bestT M g, 0) := by
      unfold labG
      rw [if_neg (by simp [hE]), hN]
    rw [hres]
    have HG := Lib.hid (And.intro hvg (And.intro (fun (W : World) (k : Below W1.heap.size W1 W) => (he.below hb1).below k) (And.intro (fun (W : World) (k : Below W1.heap.size W1 W) => (hc.below hb1).below k) (And.intro hL hb1))))
    have H := Lib.hid (And.intro K31 (And.intro hb2 hs1))
    clear K31 hE h1 h2 g1 hres hn hL hM hN he hc hb1 hb2 hvg
    refine (callsIn_wide (n := 9)).1 ?_
    have w31 : Fence.wide.fn 31 := trivial
    have w42 : Fence.wide.fn 42 := trivial
    refine callsIn_of_wp_marks Tryz.func30 rfl trivial ?_ rfl
    simp only [Tryz.ntmps30, List.size_toArray, List.length_cons, List.length_nil, Nat.reduceAdd, Nat.reduceSub, Array.replicate_succ, Array.replicate_zero, List.push_toArray, List.append_toArray, List.nil_append, List.cons_append]
    gi_wp2_with (gi_at_call 31; refine (callsIn_wide.2 H.out.1).mono ?_; rintro e w3 ⟨rfl, hw3⟩; have hb3 := below_two H.out.2.1 hw3; obtain ⟨D, hD⟩ : ∃ D, w3.heap.size = D := ⟨_, rfl⟩; obtain ⟨W4, hW4⟩ : ∃ W4, (w3.alloc (.cells #[.slice none 0 0] 40)).alloc (.cells #[.slice none 0 0] 23) = W4 := ⟨_, rfl⟩; have hb4 : Below w3.heap.size w3 W4 := (by rw [← hW4]; exact alloc_b (alloc_b (Below.refl _ _) _) _); have hb14 := below_two hb3 hb4; have hX3 : X + 1 ≤ D := (by have h1 := hb3.size; have h2 := H.out.2.2; omega); have hs4 : W4.heap.size = D + 2 := (by rw [← hW4, ← hD]; simp); have q5 : W4.heap[D]? = some (.cells #[.slice none 0 0] 40) := (by rw [← hW4, ← hD]; exact (Below.heap_alloc _ _ _ (by simp)).trans (World.alloc_heap_new w3 _)); have q6 : W4.heap[D + 1]? = some (.cells #[.slice none 0 0] 23) := (by rw [← hW4, ← hD]; have := World.alloc_heap_new (w3.alloc (.cells #[.slice none 0 0] 40)) (.cells #[.slice none 0 0] 23); rwa [World.size_alloc] at this); have y0 := (hb14.cell (block_lt_of_cell x0)).trans x0; have y1 := (hb14.cell (block_lt_of_cell x1)).trans x1; have y2 := (hb14.cell (block_lt_of_cell x2)).trans x2; have b3 := hb3; have H3 := Lib.hid (And.intro hb3 (And.intro hb4 (And.intro q5 (And.intro q6 (And.intro hs4 hD))))); clear hw3 hb3 hb4 hb14 q5 q6 hs4 hW1 hW2 b3)
    have K42 := all_calls (ec := ec) (cc := cc) HG.out.1 (HG.out.2.1 W4 (below_two H3.out.1 H3.out.2.1)) (HG.out.2.2.1 W4 (below_two H3.out.1 H3.out.2.1))
    rw [HG.out.2.2.2.1] at K42
    gi_wp2_with (gi_at_call 42; refine (callsIn_wide.2 K42).mono ?_; rintro e w5 ⟨A, B, C, G, mc, an, cn, rfl, hlv, hA, hB, hC, hw5⟩; clear hW4)
    have hDs : D + 2 ≤ w5.heap.size := by have h1 := hw5.size; have h2 := H3.out.2.2.2.2.1; omega
    have hM10 : M ≤ 64 := by have := HG.out.1.le; omega
    have hS : ∀ s ∈ [D, D + 1], s < W4.heap.size := fun s hs => by
      have h2 := H3.out.2.2.2.2.1
      simp at hs; omega
    have b13 : Below W1.heap.size W1 w3 := H3.out.1
    have hI0 : LabI w3 D M (wordT M g) [] w5 :=
      ⟨⟨_, _, (hw5.block D (by have h2 := H3.out.2.2.2.2.1; omega)).trans H3.out.2.2.1, (hw5.block (D + 1) (by have h2 := H3.out.2.2.2.2.1; omega)).trans H3.out.2.2.2.1, rfl, rfl⟩, (H3.out.2.1.mono (by have := H3.out.2.2.2.2.2; omega)).trans (hw5.mono (by have h2 := H3.out.2.2.2.2.1; omega))⟩
    have HL := Lib.hid (And.intro hlv (And.intro hw5 b13))
    clear hlv hw5 K42
    refine wpIn_rangeX (gf := 78) (lb := #[.pointer (some ⟨A, 0, none⟩), .pointer (some ⟨B, 0, none⟩), .pointer (some ⟨C, 0, none⟩)]) rfl (enters_of Tryz.func78 (by kernel_rfl) rfl)
      (fun x : Option Addr × Nat × List Int => Value.slice x.1 M x.2.1) (fun x W => IntsB W4.heap.size W x.1 x.2.2 ∧ IsP M x.2.2) rfl [D, D + 1] (fun s hs => Nat.lt_of_lt_of_le (hS s hs) HL.out.2.1.size)
      (LabI w3 D M (wordT M g)) (allT M g) (fun x => x.2.2) (LabI.ownFrom w3 D M _ _ (by have := H3.out.2.2.2.2.2; omega) (by omega))
      (fun x W W' row h hg hr => ⟨h.1.keptRow hg (fun r e => (hr r e).2), h.2⟩) hI0
      (fun x => { tmps := #[.agg #[.int .i64 (M : Int), .slice ea L ec, .slice ca M cc], .pointer (some ⟨X, 0, none⟩), .slice none 0 0, .int .i64 0, .int .i64 0, .pointer (some ⟨D, 0, none⟩), .pointer (some ⟨D + 1, 0, none⟩), .slice x.1 M x.2.1, undef, undef, undef, .agg #[.int .i64 (M : Int), .slice ea L ec, .slice ca M cc], .slice (some ⟨X + 1, 0, none⟩) 1 1, .int .i64 0, .int .i64 0, .bool false, undef, .agg #[.int .i64 (M : Int), .slice ea L ec, .slice ca M cc], lvFn A B C, .slice x.1 M x.2.1, undef, undef, undef, undef, undef, undef, undef, undef, undef, undef, undef, undef, undef, undef, undef, undef, undef, undef, undef, undef, undef, undef, undef, undef, undef, undef, undef, undef], defers := [] })
      ?seq ?assign ?body ?done
    case seq =>
      intro l J W hbW hJ hY hj0
      exact leaves1_calls hM10 (matF_isMat M _) (root_goodA HG.out.1) hS J hJ (fun nn pre v c x W hj hi hp => hY nn pre (v, c, x) W hj ⟨hi, hp⟩) W (HL.out.1.below hbW) (Nat.le_trans HL.out.2.1.size hbW.size) hj0
    case assign =>
      intro nn l x W K hK
      gi_wp2
      exact hK
    case body =>
      rintro nn l pre ⟨av, cv, x⟩ W hI hGd hsz
      dsimp only at hGd ⊢
      have hDW : D + 2 ≤ W.heap.size := by omega
      have hD3 : D ≤ w3.heap.size := by have := H3.out.2.2.2.2.2; omega
      have b1W : Below W1.heap.size W1 W := HL.out.2.2.trans (hI.bel.mono (by omega))
      have z0 := (b1W.cell (block_lt_of_cell x0)).trans x0
      have z1 := (b1W.cell (block_lt_of_cell x1)).trans x1
      have z2 := (b1W.cell (block_lt_of_cell x2)).trans x2
      have hxl : x.length = M := by obtain ⟨u, v, _, rfl⟩ := hGd.2; exact permL_len _ _
      have Kw := gword_calls (g := g) (c := ec) (d := cc) (e := cv) (HG.out.2.1 W b1W) (HG.out.2.2.1 W b1W) hGd.1.1 (by have := HG.out.1.le; omega)
      rw [wordA_eq HG.out.1 hGd.2, HG.out.1.num, HG.out.2.2.2.1, HG.out.1.cl, hxl] at Kw
      unfold WordRes at Kw
      obtain ⟨KK, hKK⟩ : ∃ k, (wordT M g x).length = k := ⟨_, rfl⟩
      simp only [hKK] at Kw
      obtain ⟨pv, wv, p1, p2, p3⟩ := hI.st
      obtain ⟨cd5, cf5⟩ := box1_cell p1
      obtain ⟨cd6, cf6⟩ := box1_cell p2
      have wd : Fence.wide.depth = none := rfl
      have hnil := run_nil40
      have w43 : Fence.wide.fn 43 := trivial
      have w44 : Fence.wide.fn 44 := trivial
      have w45 : Fence.wide.fn 45 := trivial
      cases ho : bestL (wordT M g) pre with
      | none =>
        rw [ho] at p3
        obtain ⟨rfl, rfl⟩ := p3
        have hst : stepB (wordT M g) (bestL (wordT M g) pre) x = some x := by rw [ho]; rfl
        have HB := Lib.hid (And.intro hI (And.intro hGd (And.intro Kw (And.intro hst (And.intro hKK b1W)))))
        clear hI hGd Kw hst hKK b1W p1 p2 x0 x1 x2 ho hxl
        gi_wp2_with (first
          | (gi_at_call 43; refine (callsR HB.out.2.2.1).mono ?_; rintro e w6 ⟨a6, c6, rfl, hi6, hw6⟩; have d5 := (hw6.cell (block_lt_of_cell cd5)).trans cd5; have d6 := (hw6.cell (block_lt_of_cell cd6)).trans cd6; have g5 := (hw6.frozen (p := ⟨D, 0, none⟩) (show D < W.heap.size by omega)).trans cf5; have g6 := (hw6.frozen (p := ⟨D + 1, 0, none⟩) (show D + 1 < W.heap.size by omega)).trans cf6; have H6 := Lib.hid (And.intro hi6 hw6); have K44 := compareN_calls a6 none c6 0 (wordT M g x) w6 hi6; rw [HB.out.2.2.2.2.1] at K44; have HK := Lib.hid K44; clear hi6 hw6 K44 z0 z1 z2 cd5 cd6 cf5 cf6)
          | (gi_at_call 44; refine (callsR HK.out).mono ?_; rintro e w7 ⟨r, rfl, hw7⟩; replace hw7 := hw7.symm; subst hw7))
        all_goals (try (rename_i h1 h2; cases h1; done))
        all_goals
          have := LabI.store (cv := cv) (c2 := c6) HB.out.1 hD3 H6.out.2 HB.out.2.1.2 (HB.out.2.1.1.1.below H6.out.2) H6.out.1 HB.out.2.2.2.1 hDW
          rw [HB.out.2.2.2.2.1] at this
          exact this
      | some b =>
        rw [ho] at p3
        obtain ⟨hpb, ab, cb, aw, cw, rfl, ib, rfl, iw⟩ := p3
        have hbl : b.length = M := by obtain ⟨u, v, _, rfl⟩ := hpb; exact permL_len _ _
        have hwl := wordT_len HG.out.1 hGd.2 hpb
        have K44 := fun (a6 : Option Addr) (c6 : Nat) (w6 : World) (h : Ints w6 a6 (wordT M g x)) (k : Below W.heap.size W w6) => compareS_calls a6 aw c6 cw (wordT M g x) (wordT M g b) w6 h (iw.below k) hwl
        have K45 := fun (w6 : World) (k : Below W.heap.size W w6) => compareP_calls av ab cv cb x b w6 (hGd.1.1.below k) (ib.below k) (by omega)
        rw [← hwl, hKK] at cd6
        rw [hKK, ← hwl, hKK] at K44
        rw [hxl, hbl] at K45
        obtain ⟨r, hr⟩ : ∃ r, cmpL (wordT M g x) (wordT M g b) = r := ⟨_, rfl⟩
        obtain ⟨q, hq⟩ : ∃ q, cmpL x b = q := ⟨_, rfl⟩
        rw [hr] at K44
        rw [hq] at K45
        have hsame : x.length = 0 → stepB (wordT M g) (some b) x = some x ∧ (some b : Option (List Int)) = some x := fun h0 => by
          have e1 : x = [] := List.eq_nil_of_length_eq_zero h0
          have e2 : b = [] := List.eq_nil_of_length_eq_zero (by omega)
          subst e1; subst e2
          exact ⟨by simp [stepB, betB], rfl⟩
        have hgt : ab = none → x.length = 0 := fun e => by
          subst e
          rcases Nat.eq_zero_or_pos b.length with h | h
          · omega
          · obtain ⟨_, _, e, _⟩ := ib.at_ h; cases e
        have HB := Lib.hid (And.intro hI (And.intro hGd (And.intro Kw (And.intro hKK (And.intro K44 (And.intro K45 b1W))))))
        have HO := Lib.hid (And.intro ho (And.intro hsame (And.intro hr (And.intro hq (And.intro hbl hxl)))))
        clear hI hGd Kw hKK K44 K45 b1W p1 p2 x0 x1 x2 ho hr hq hsame hbl hxl hwl ib iw hpb
        cases ab with
        | none =>
          have HS := Lib.hid (show stepB (wordT M g) (bestL (wordT M g) pre) x = some x by rw [HO.out.1]; exact (HO.out.2.1 (hgt rfl)).1)
          clear hgt
          gi_wp2_with (first
            | (gi_at_call 43; refine (callsR HB.out.2.2.1).mono ?_; rintro e w6 ⟨a6, c6, rfl, hi6, hw6⟩; have d5 := (hw6.cell (block_lt_of_cell cd5)).trans cd5; have d6 := (hw6.cell (block_lt_of_cell cd6)).trans cd6; have g5 := (hw6.frozen (p := ⟨D, 0, none⟩) (show D < W.heap.size by omega)).trans cf5; have g6 := (hw6.frozen (p := ⟨D + 1, 0, none⟩) (show D + 1 < W.heap.size by omega)).trans cf6; have H6 := Lib.hid (And.intro hi6 hw6); have K44 := HB.out.2.2.2.2.1 a6 c6 w6 hi6 hw6; have HK := Lib.hid K44; clear hi6 hw6 K44 z0 z1 z2 cd5 cd6 cf5 cf6)
            | (gi_at_call 44; refine (callsR HK.out).mono ?_; rintro e w7 ⟨rfl, hw7⟩; replace hw7 := hw7.symm; subst hw7))
          all_goals (try (rename_i h1 h2; cases h1; done))
          all_goals
            have := LabI.store (cv := cv) (c2 := c6) HB.out.1 hD3 H6.out.2 HB.out.2.1.2 (HB.out.2.1.1.1.below H6.out.2) H6.out.1 HS.out hDW
            rw [HB.out.2.2.2.1] at this
            exact this
        | some ad =>
          clear hgt
          by_cases hr0 : r < 0
          · have hdr : decide (r < 0) = true := decide_eq_true hr0
            have HS := Lib.hid (show stepB (wordT M g) (bestL (wordT M g) pre) x = some x by rw [HO.out.1]; simp [stepB, betB, HO.out.2.2.1, hr0])
            gi_wp2_with (first
              | (gi_at_call 43; refine (callsR HB.out.2.2.1).mono ?_; rintro e w6 ⟨a6, c6, rfl, hi6, hw6⟩; have d5 := (hw6.cell (block_lt_of_cell cd5)).trans cd5; have d6 := (hw6.cell (block_lt_of_cell cd6)).trans cd6; have g5 := (hw6.frozen (p := ⟨D, 0, none⟩) (show D < W.heap.size by omega)).trans cf5; have g6 := (hw6.frozen (p := ⟨D + 1, 0, none⟩) (show D + 1 < W.heap.size by omega)).trans cf6; have H6 := Lib.hid (And.intro hi6 hw6); have K44 := HB.out.2.2.2.2.1 a6 c6 w6 hi6 hw6; have HK := Lib.hid K44; clear hi6 hw6 K44 z0 z1 z2 cd5 cd6 cf5 cf6)
              | (gi_at_call 44; refine (callsR HK.out).mono ?_; rintro e w7 ⟨rfl, hw7⟩; replace hw7 := hw7.symm; subst hw7))
            all_goals (try (rename_i h1 h2; cases h1; done))
            all_goals
              have := LabI.store (cv := cv) (c2 := c6) HB.out.1 hD3 H6.out.2 HB.out.2.1.2 (HB.out.2.1.1.1.below H6.out.2) H6.out.1 HS.out hDW
              rw [HB.out.2.2.2.1] at this
              exact this
          · have hdr : decide (r < 0) = false := decide_eq_false hr0
            by_cases hrz : r = 0
            · subst hrz
              by_cases hq0 : q < 0
              · have hdq : decide (q < 0) = true := decide_eq_true hq0
                have HS := Lib.hid (show stepB (wordT M g) (bestL (wordT M g) pre) x = some x by rw [HO.out.1]; simp [stepB, betB, HO.out.2.2.1, HO.out.2.2.2.1, hq0])
                gi_wp2_with (first
                  | (gi_at_call 43; refine (callsR HB.out.2.2.1).mono ?_; rintro e w6 ⟨a6, c6, rfl, hi6, hw6⟩; have d5 := (hw6.cell (block_lt_of_cell cd5)).trans cd5; have d6 := (hw6.cell (block_lt_of_cell cd6)).trans cd6; have g5 := (hw6.frozen (p := ⟨D, 0, none⟩) (show D < W.heap.size by omega)).trans cf5; have g6 := (hw6.frozen (p := ⟨D + 1, 0, none⟩) (show D + 1 < W.heap.size by omega)).trans cf6; have H6 := Lib.hid (And.intro hi6 hw6); have K44 := HB.out.2.2.2.2.1 a6 c6 w6 hi6 hw6; have HK := Lib.hid K44; clear hi6 hw6 K44 z0 z1 z2 cd5 cd6 cf5 cf6)
                  | (gi_at_call 44; refine (callsR HK.out).mono ?_; rintro e w7 ⟨rfl, hw7⟩; replace hw7 := hw7.symm; subst hw7)
                  | (gi_at_call 45; refine (callsR (HB.out.2.2.2.2.2.1 _ H6.out.2)).mono ?_; rintro e w8 ⟨rfl, hw8⟩; replace hw8 := hw8.symm; subst hw8))
                all_goals (try (rename_i h1 h2; cases h1; done))
                all_goals
                  have := LabI.store (cv := cv) (c2 := c6) HB.out.1 hD3 H6.out.2 HB.out.2.1.2 (HB.out.2.1.1.1.below H6.out.2) H6.out.1 HS.out hDW
                  rw [HB.out.2.2.2.1] at this
                  exact this
              · have hdq : decide (q < 0) = false := decide_eq_false hq0
                have HS := Lib.hid (show stepB (wordT M g) (bestL (wordT M g) pre) x = bestL (wordT M g) pre by
                  rw [HO.out.1]
                  by_cases hx0 : x.length = 0
                  · rw [(HO.out.2.1 hx0).1, (HO.out.2.1 hx0).2]
                  · have hb0 : ¬ b.length = 0 := by have h1 := HO.out.2.2.2.2; omega
                    have hbB : betB (wordT M g) b x = false := by simp [betB, HO.out.2.2.1, HO.out.2.2.2.1, hq0, hb0]
                    simp [stepB, hbB])
                gi_wp2_with (first
                  | (gi_at_call 43; refine (callsR HB.out.2.2.1).mono ?_; rintro e w6 ⟨a6, c6, rfl, hi6, hw6⟩; have d5 := (hw6.cell (block_lt_of_cell cd5)).trans cd5; have d6 := (hw6.cell (block_lt_of_cell cd6)).trans cd6; have g5 := (hw6.frozen (p := ⟨D, 0, none⟩) (show D < W.heap.size by omega)).trans cf5; have g6 := (hw6.frozen (p := ⟨D + 1, 0, none⟩) (show D + 1 < W.heap.size by omega)).trans cf6; have H6 := Lib.hid (And.intro hi6 hw6); have K44 := HB.out.2.2.2.2.1 a6 c6 w6 hi6 hw6; have HK := Lib.hid K44; clear hi6 hw6 K44 z0 z1 z2 cd5 cd6 cf5 cf6)
                  | (gi_at_call 44; refine (callsR HK.out).mono ?_; rintro e w7 ⟨rfl, hw7⟩; replace hw7 := hw7.symm; subst hw7)
                  | (gi_at_call 45; refine (callsR (HB.out.2.2.2.2.2.1 _ H6.out.2)).mono ?_; rintro e w8 ⟨rfl, hw8⟩; replace hw8 := hw8.symm; subst hw8))
                all_goals (try (rename_i h1 h2; cases h1; done))
                all_goals exact LabI.same HB.out.1 hD3 H6.out.2 HS.out hDW
            · have hdz : (r == 0) = false := by simp [hrz]
              have HS := Lib.hid (show stepB (wordT M g) (bestL (wordT M g) pre) x = bestL (wordT M g) pre by
                rw [HO.out.1]
                by_cases hx0 : x.length = 0
                · rw [(HO.out.2.1 hx0).1, (HO.out.2.1 hx0).2]
                · have hb0 : ¬ b.length = 0 := by have h1 := HO.out.2.2.2.2; omega
                  have hbB : betB (wordT M g) b x = false := by simp [betB, HO.out.2.2.1, hr0, hrz, hb0]
                  simp [stepB, hbB])
              gi_wp2_with (first
                | (gi_at_call 43; refine (callsR HB.out.2.2.1).mono ?_; rintro e w6 ⟨a6, c6, rfl, hi6, hw6⟩; have d5 := (hw6.cell (block_lt_of_cell cd5)).trans cd5; have d6 := (hw6.cell (block_lt_of_cell cd6)).trans cd6; have g5 := (hw6.frozen (p := ⟨D, 0, none⟩) (show D < W.heap.size by omega)).trans cf5; have g6 := (hw6.frozen (p := ⟨D + 1, 0, none⟩) (show D + 1 < W.heap.size by omega)).trans cf6; have H6 := Lib.hid (And.intro hi6 hw6); have K44 := HB.out.2.2.2.2.1 a6 c6 w6 hi6 hw6; have HK := Lib.hid K44; clear hi6 hw6 K44 z0 z1 z2 cd5 cd6 cf5 cf6)
                | (gi_at_call 44; refine (callsR HK.out).mono ?_; rintro e w7 ⟨rfl, hw7⟩; replace hw7 := hw7.symm; subst hw7))
              all_goals (try (rename_i h1 h2; cases h1; done))
              all_goals exact LabI.same HB.out.1 hD3 H6.out.2 HS.out hDW
    case done =>
      intro D9 W hD9 hI hk hdef
      obtain ⟨hb1, hb2, -⟩ := best_all HG.out.1
      obtain ⟨⟨pv, wv, p1, p2, p3⟩, p4⟩ := hI
      rw [hb2] at p3
      obtain ⟨hp, a, c, a2, c2, rfl, i1, rfl, i2⟩ := p3
      obtain ⟨cd, -⟩ := box1_cell p1
      have hbl : (bestT M g).length = M := all_len HG.out.1 _ hb1
      have HZ := Lib.hid (And.intro i1 (And.intro p4 hbl))
      clear hp i1 i2 p4 hk hb1 hb2 p1 p2 hbl
      gi_wp2
      refine ⟨by simp, .inl ⟨_, _, rfl, run_takeDeferred hdef, ?_⟩⟩
      refine ⟨_, results_tmp2 rfl _ _ _, ⟨a, c, by rw [HZ.out.2.2]; rfl, HZ.out.1.keptRow (grownBy_putObj' W D9 (.deferred none)) (fun r e => by cases e; exact ⟨_, hdef, rfl⟩), ?_⟩⟩
      have k1 : Below X w W := by
        have h1 := HG.out.2.2.2.2
        rw [hX] at h1
        have h9 := HL.out.2.2
        exact (h1.trans (h9.mono (by omega))).trans (HZ.out.2.1.mono (by omega))
      rw [hX]
      exact k1.grown (grownBy_putObj' W D9 (.deferred none)) (by have := HZ.out.2.1.size; have := H3.out.2.2.2.2.2; omega) (fun k e => by cases e; omega)
  · have h0b : (E != 0) = true := by simpa using h0
    have hres : labG g = ([], E) := by
      unfold labG
      rw [if_pos (by rw [hE]; exact h0), hE]
    rw [hres]
    have H := Lib.hid (And.intro K31 (below_two hb1 hb2))
    clear K31 hE hres hn hL hM h0 he hc hb1 hb2
    go_enter Tryz.func30, Tryz.ntmps30
    go_wp2_with (go_at_call 31; refine H.out.1.mono ?_; rintro e w3 ⟨rfl, hw3⟩; have H3 := Lib.hid (below_two H.out.2 hw3); clear hw3 x0 x1 x2 hW1 hW2)
    go_ret2
    exact ⟨none, 0, rfl, Row.nil, H3.out⟩
end Go.Proofs.YtjjjohmppehejaaGreat
