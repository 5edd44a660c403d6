/- Leaves: the number of the tree's leaves. -/
import Derived.Test.YtjjjohmppehejaaGreatLabW
set_option linter.unusedSimpArgs false
set_option linter.unusedVariables false
namespace Go.Proofs.YtjjjohmppehejaaGreat
open Go.RowKit Plain PlainG PlainT
attribute [local go_sem] Oper.semAt_some
theorem nodup_le (n : Nat) (l : List Nat) (h : ∀ x ∈ l, x < n) (hd : l.Nodup) : l.length ≤ n := by
  induction n generalizing l with
  | zero =>
    cases l with
    | nil => simp
    | cons a r => have := h a (by simp); omega
  | succ n ih =>
    by_cases hm : n ∈ l
    · have h1 := ih (l.erase n) (fun x hx => by
        have h2 := h x (List.mem_of_mem_erase hx)
        have h3 : x ≠ n := fun e => by subst e; exact hd.not_mem_erase hx
        omega) (hd.erase n)
      rw [List.length_erase_of_mem hm] at h1
      omega
    · have := ih l (fun x hx => by
        have h2 := h x hx
        have h3 : x ≠ n := fun e => by subst e; exact hm hx
        omega) hd
      omega
def leavG (g : Gr) : Int × Int := if ckA [g] ≠ 0 then (0, ckA [g]) else (((allT g.n.toNat g).length : Int), 0)
structure LeavI (W0 : World) (D : Nat) (pre : List (List Int)) (W : World) : Prop where
  st : W.heap[D]? = some (.cells #[.int .i64 (IntKind.i64.wrap (pre.length : Int))] 3)
  bel : Below D W0 W
theorem LeavI.ownFrom (W0 : World) (D B : Nat) (hD : D ≤ W0.heap.size) (hB : D ≤ B) : OwnFrom B (LeavI W0 D) := by
  intro pre W W' row h hg hr
  have hr2 : ∀ r, row = some r → ∃ o : Obj, W.heap[r]? = some o ∧ o.isCells = false := fun r e => (hr r e).2
  exact ⟨(grownBy_keeps_cells hg hr2 h.st rfl).trans h.st, h.bel.grown hg (Nat.le_trans hD h.bel.size) (fun k e => Nat.le_trans hB (hr k e).1)⟩
theorem wrap_succ (a : Int) : IntKind.i64.wrap (IntKind.i64.wrap a + 1) = IntKind.i64.wrap (a + 1) := by
  simp only [IntKind.wrap_i64]; omega
theorem leaves_count {n : Nat} {m : List (List Int)} : ∀ (f : Nat) {l : List (List Int)}, GoodA n l → (leavesT n m f l).length ≤ (n + 1) ^ f
  | 0, l, _ => by simp [leavesT]
  | f + 1, l, h => by
    have hp : 1 ≤ (n + 1) ^ (f + 1) := Nat.one_le_pow _ _ (by omega)
    rw [leavesT]
    cases ht : tgtTo l l.length with
    | none => simpa using hp
    | some b =>
      simp only
      have hlt := tgtTo_lt ht
      have hc : (l[b]?.getD []).length ≤ n := by
        rw [List.getElem?_eq_getElem hlt]
        have h1 := cell_nodup h (List.getElem?_eq_getElem hlt)
        have h2 := h.good.inr _ (List.getElem_mem hlt)
        have := nodup_le n ((l[b]).map Int.toNat) (fun x hx => by
          obtain ⟨y, hy, rfl⟩ := List.mem_map.1 hx
          have := h2 y hy; omega) (by
          refine List.pairwise_map.2 (List.Pairwise.imp_of_mem ?_ h1)
          intro a b ha hb hne e
          have := h2 a ha; have := h2 b hb; omega)
        simpa using this
      have key : ∀ L : List Int, (∀ v ∈ L, (leavesT n m f (stepN n m l v)).length ≤ (n + 1) ^ f) → (L.flatMap fun v => leavesT n m f (stepN n m l v)).length ≤ L.length * (n + 1) ^ f := by
        intro L
        induction L with
        | nil => intro _; simp
        | cons a r ih =>
          intro hL
          rw [List.flatMap_cons, List.length_append, List.length_cons, Nat.add_mul, Nat.one_mul]
          have h1 := hL a (by simp)
          have h2 := ih (fun v hv => hL v (by simp [hv]))
          omega
      have h3 := key (l[b]?.getD []) (fun v _ => leaves_count f (step_goodA h))
      have h4 : (l[b]?.getD []).length * (n + 1) ^ f ≤ (n + 1) * (n + 1) ^ f := Nat.mul_le_mul_right _ (by omega)
      rw [Nat.pow_succ, Nat.mul_comm ((n + 1) ^ f)]
      omega
set_option maxRecDepth 100000 in
set_option maxHeartbeats 4000000 in
theorem leav_calls {w : World} {g : Gr} {ea ca : Option Addr} {ec cc : Nat} (he : Edg w ea g.es) (hc : Ints w ca g.cs) :
    Calls Tryz.prog 29 #[.agg #[.int .i64 g.n, .slice ea g.es.length ec, .slice ca g.cs.length cc]] w fun e w' =>
      e = .returned (.tuple #[.int .i64 (leavG g).1, .int .i64 (leavG g).2]) ∧ Below w.heap.size w w' := by
  obtain ⟨X, hX⟩ : ∃ X, w.heap.size = X := ⟨_, rfl⟩
  obtain ⟨n, hn⟩ : ∃ n, g.n = n := ⟨_, rfl⟩
  obtain ⟨L, hL⟩ : ∃ L, g.es.length = L := ⟨_, rfl⟩
  obtain ⟨M, hM⟩ : ∃ M, g.cs.length = M := ⟨_, rfl⟩
  obtain ⟨W1, hW1⟩ : ∃ W1, w.alloc (.cells #[.int .i64 n, .slice ea L ec, .slice ca M cc] 25) = W1 := ⟨_, rfl⟩
  have hs1 : W1.heap.size = X + 1 := by rw [← hW1, ← hX]; simp
  have hb1 : Below w.heap.size w W1 := by rw [← hW1]; exact alloc_b (Below.refl _ _) _
  have x0 : W1.cell? ⟨X, 0, none⟩ = some (.int .i64 n) := by rw [← hW1, ← hX]; simp
  have x1 : W1.cell? ⟨X, 1, none⟩ = some (.slice ea L ec) := by rw [← hW1, ← hX]; simp
  have x2 : W1.cell? ⟨X, 2, none⟩ = some (.slice ca M cc) := by rw [← hW1, ← hX]; simp
  obtain ⟨W2, hW2⟩ : ∃ W2, W1.alloc (.cells #[.int .i64 n, .slice ea L ec, .slice ca M cc] 25) = W2 := ⟨_, rfl⟩
  have hb2 : Below W1.heap.size W1 W2 := by rw [← hW2]; exact alloc_b (Below.refl _ _) _
  have K31 := ccheck_calls (some ⟨W1.heap.size, 0, none⟩) 1 [g] W2 (by
    have := gsl_one (ec := ec) (cc := cc) 25 (he.below hb1) (hc.below hb1)
    rw [hn, hL, hM, hW2] at this
    exact this)
  obtain ⟨E, hE⟩ : ∃ E, ckA [g] = E := ⟨_, rfl⟩
  rw [hE, hs1] at K31
  simp only [List.length_cons, List.length_nil, Nat.zero_add] at K31
  rw [hn, hL, hM]
  by_cases h0 : E = 0
  · subst h0
    obtain ⟨h1, h2⟩ := ck_one hE
    have g1 := chkGr_ok.1 h1
    obtain ⟨N, hN⟩ : ∃ N, g.n.toNat = N := ⟨_, rfl⟩
    have hnN : n = (N : Int) := by omega
    have hMN : M = N := by omega
    subst hnN
    subst hMN
    have hvg : Vg M g := ⟨h1, hn⟩
    have hres : leavG g = (((allT M g).length : Int), 0) := by
      unfold leavG
      rw [if_neg (by simp [hE]), hN]
    rw [hres]
    have HG := Lib.hid (And.intro hvg (And.intro (fun (W : World) (k : Below W1.heap.size W1 W) => (he.below hb1).below k) (And.intro (fun (W : World) (k : Below W1.heap.size W1 W) => (hc.below hb1).below k) (And.intro hL hb1))))
    have H := Lib.hid (And.intro K31 (And.intro hb2 hs1))
    have HM := Lib.hid (show M ≤ 10 by omega)
    clear K31 hE h1 h2 g1 hres hn hL hM hN he hc hb1 hb2 hvg
    refine (callsIn_wide (n := 9)).1 ?_
    have w31 : Fence.wide.fn 31 := trivial
    have w42 : Fence.wide.fn 42 := trivial
    refine callsIn_of_wp_marks Tryz.func29 rfl trivial ?_ rfl
    simp only [Tryz.ntmps29, List.size_toArray, List.length_cons, List.length_nil, Nat.reduceAdd, Nat.reduceSub, Array.replicate_succ, Array.replicate_zero, List.push_toArray, List.append_toArray, List.nil_append, List.cons_append]
    gi_wp2_with (gi_at_call 31; refine (callsIn_wide.2 H.out.1).mono ?_; rintro e w3 ⟨rfl, hw3⟩; have hb3 := below_two H.out.2.1 hw3; obtain ⟨D, hD⟩ : ∃ D, w3.heap.size = D := ⟨_, rfl⟩; obtain ⟨W4, hW4⟩ : ∃ W4, (w3.alloc (.cells #[.int .i64 0] 3)) = W4 := ⟨_, rfl⟩; have hb4 : Below w3.heap.size w3 W4 := (by rw [← hW4]; exact alloc_b (Below.refl _ _) _); have hX3 : X + 1 ≤ D := (by have h1 := hb3.size; have h2 := H.out.2.2; omega); have hs4 : W4.heap.size = D + 1 := (by rw [← hW4, ← hD]; simp); have q5 : W4.heap[D]? = some (.cells #[.int .i64 0] 3) := (by rw [← hW4, ← hD]; exact World.alloc_heap_new w3 _); have cq := box1_cell q5; obtain ⟨cq1, cq2⟩ := cq; obtain ⟨W5, hW5⟩ : ∃ W5, W4.setCell ⟨D, 0, none⟩ (.int .i64 0) = W5 := ⟨_, rfl⟩; have q5' : W5.heap[D]? = some (.cells #[.int .i64 0] 3) := (by rw [← hW5]; exact box1_set q5); have hb5 : Below w3.heap.size w3 W5 := (by rw [← hW5]; exact hb4.setCell (p := ⟨D, 0, none⟩) (by rw [hD]; exact Nat.le_refl _) _); have hs5 : W5.heap.size = D + 1 := (by rw [← hW5, ← hs4]; simp [World.setCell]); have hb14 := below_two hb3 hb5; have y0 := (hb14.cell (block_lt_of_cell x0)).trans x0; have y1 := (hb14.cell (block_lt_of_cell x1)).trans x1; have y2 := (hb14.cell (block_lt_of_cell x2)).trans x2; have H3 := Lib.hid (And.intro hb3 (And.intro hb5 (And.intro q5' (And.intro hs5 hD)))); clear hw3 hb3 hb4 hb14 q5 q5' hs4 hs5 hb5 hW1 hW2)
    have K42 := all_calls (ec := ec) (cc := cc) HG.out.1 (HG.out.2.1 W5 (below_two H3.out.1 H3.out.2.1)) (HG.out.2.2.1 W5 (below_two H3.out.1 H3.out.2.1))
    rw [HG.out.2.2.2.1] at K42
    gi_wp2_with (gi_at_call 42; refine (callsIn_wide.2 K42).mono ?_; rintro e w5 ⟨A, B, C, G, mc, an, cn, rfl, hlv, hA, hB, hC, hw5⟩; clear hW4 hW5)
    have hDs : D + 1 ≤ w5.heap.size := by have h1 := hw5.size; have h2 := H3.out.2.2.2.1; omega
    have hM10 : M ≤ 10 := HM.out
    have hS : ∀ s ∈ [D], s < W5.heap.size := fun s hs => by
      have h2 := H3.out.2.2.2.1
      simp at hs; omega
    have b13 : Below W1.heap.size W1 w3 := H3.out.1
    have hI0 : LeavI w3 D [] w5 :=
      ⟨(hw5.block D (by have h2 := H3.out.2.2.2.1; omega)).trans H3.out.2.2.1, (H3.out.2.1.mono (by have := H3.out.2.2.2.2; omega)).trans (hw5.mono (by have h2 := H3.out.2.2.2.1; omega))⟩
    have HL := Lib.hid (And.intro hlv (And.intro hw5 b13))
    clear hlv hw5 K42 cq1 cq2
    refine wpIn_rangeX (gf := 78) (lb := #[.pointer (some ⟨A, 0, none⟩), .pointer (some ⟨B, 0, none⟩), .pointer (some ⟨C, 0, none⟩)]) rfl (enters_of Tryz.func78 (by kernel_rfl) rfl)
      (fun x : Option Addr × Nat × List Int => Value.slice x.1 M x.2.1) (fun x W => IntsB W5.heap.size W x.1 x.2.2 ∧ IsP M x.2.2) rfl [D] (fun s hs => Nat.lt_of_lt_of_le (hS s hs) HL.out.2.1.size)
      (LeavI w3 D) (allT M g) (fun x => x.2.2) (LeavI.ownFrom w3 D _ (by have := H3.out.2.2.2.2; omega) (by omega))
      (fun x W W' row h hg hr => ⟨h.1.keptRow hg (fun r e => (hr r e).2), h.2⟩) hI0
      (fun x => { tmps := #[.agg #[.int .i64 (M : Int), .slice ea L ec, .slice ca M cc], .pointer (some ⟨X, 0, none⟩), .int .i64 0, .int .i64 0, .int .i64 0, .pointer (some ⟨D, 0, none⟩), .agg #[.int .i64 (M : Int), .slice ea L ec, .slice ca M cc], .slice (some ⟨X + 1, 0, none⟩) 1 1, .int .i64 0, .int .i64 0, .bool false, undef, .agg #[.int .i64 (M : Int), .slice ea L ec, .slice ca M cc], lvFn A B C, .slice x.1 M x.2.1, undef, undef, undef], defers := [] })
      ?seq ?assign ?body ?done
    case seq =>
      intro l J W hbW hJ hY hj0
      exact leaves1_calls (by omega) (matF_isMat M _) (root_goodA HG.out.1) hS J hJ (fun nn pre v c x W hj hi hp => hY nn pre (v, c, x) W hj ⟨hi, hp⟩) W (HL.out.1.below hbW) (Nat.le_trans HL.out.2.1.size hbW.size) hj0
    case assign =>
      intro nn l x W K hK
      gi_wp2
      simpa using hK
    case body =>
      rintro nn l pre ⟨av, cv, x⟩ W hI hGd hsz
      dsimp only at hGd ⊢
      obtain ⟨cd5, cf5⟩ := box1_cell hI.st
      have HI := Lib.hid hI
      clear hI
      gi_wp2
      have hf := HI.out.st
      have hk : Kept W (W.setCell ⟨D, 0, none⟩ (.int .i64 (IntKind.i64.wrap ((pre ++ [x]).length : Int)))) [D] := Kept.ofGrown (grown_put 0 _) (fun k e => by cases e; simp)
      have he : IntKind.i64.wrap (IntKind.i64.wrap (pre.length : Int) + 1) = IntKind.i64.wrap ((pre ++ [x]).length : Int) := by rw [wrap_succ]; simp
      have hfin : LeavI w3 D (pre ++ [x]) (W.setCell ⟨D, 0, none⟩ (.int .i64 (IntKind.i64.wrap ((pre ++ [x]).length : Int)))) ∧ Kept W (W.setCell ⟨D, 0, none⟩ (.int .i64 (IntKind.i64.wrap ((pre ++ [x]).length : Int)))) [D] :=
        ⟨⟨box1_set hf, HI.out.bel.trans (hk.below (by omega) (by simp))⟩, hk⟩
      rw [← he] at hfin
      simp only [Go.IntWalk.i64_left] at hfin
      exact hfin
    case done =>
      intro D9 W hD9 hI hk hdef
      obtain ⟨p1, p4⟩ := hI
      have hcnt := leaves_count (m := matT M g.es) M (root_goodA HG.out.1)
      have hpow : (M + 1) ^ M ≤ 11 ^ 10 := Nat.le_trans (Nat.pow_le_pow_left (by omega) M) (Nat.pow_le_pow_right (by omega) hM10)
      have hw : IntKind.i64.wrap ((allT M g).length : Int) = ((allT M g).length : Int) := by
        rw [IntKind.wrap_i64]
        have h9 : (allT M g).length ≤ 11 ^ 10 := Nat.le_trans hcnt hpow
        simp only [Nat.reducePow] at h9
        omega
      rw [hw] at p1
      obtain ⟨cd, -⟩ := box1_cell p1
      have HZ := Lib.hid p4
      clear p4 hk p1 hcnt hpow hw
      gi_wp2
      refine ⟨by simp, .inl ⟨_, _, rfl, run_takeDeferred hdef, ?_⟩⟩
      refine ⟨_, results_tmp2 rfl _ _ _, ⟨rfl, ?_⟩⟩
      have k1 : Below X w W := by
        have h1 := HG.out.2.2.2.2
        rw [hX] at h1
        have h9 := HL.out.2.2
        exact (h1.trans (h9.mono (by omega))).trans (HZ.out.mono (by omega))
      rw [hX]
      exact k1.grown (grownBy_putObj' W D9 (.deferred none)) (by have := HZ.out.size; have := H3.out.2.2.2.2; omega) (fun k e => by cases e; omega)
  · have h0b : (E != 0) = true := by simpa using h0
    have hres : leavG g = (0, E) := by
      unfold leavG
      rw [if_pos (by rw [hE]; exact h0), hE]
    rw [hres]
    have H := Lib.hid (And.intro K31 (below_two hb1 hb2))
    clear K31 hE hres hn hL hM h0 he hc hb1 hb2
    go_enter Tryz.func29, Tryz.ntmps29
    go_wp2_with (go_at_call 31; refine H.out.1.mono ?_; rintro e w3 ⟨rfl, hw3⟩; have H3 := Lib.hid (below_two H.out.2 hw3); clear hw3 x0 x1 x2 hW1 hW2)
    go_ret2
    exact ⟨rfl, H3.out⟩
end Go.Proofs.YtjjjohmppehejaaGreat
