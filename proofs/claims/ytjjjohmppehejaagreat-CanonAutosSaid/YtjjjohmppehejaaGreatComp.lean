/- slices.Compact of edges. -/
import Derived.Lib.SliceRun
import Derived.Test.YtjjjohmppehejaaGreatSortE
import Derived.Test.YtjjjohmppehejaaGreatSameG
set_option linter.unusedSimpArgs false
set_option linter.unusedVariables false
namespace Go.Proofs.YtjjjohmppehejaaGreat
open Go.RowKit Plain PlainG
theorem compact_one (x : E2) : compact [x] = [x] := rfl
theorem compact_ne {l : List E2} (h : l ≠ []) : ∃ b t, compact l = b :: t := by
  cases l with
  | nil => exact absurd rfl h
  | cons x r =>
    rw [compact]
    cases compact r with
    | nil => exact ⟨_, _, rfl⟩
    | cons y t => simp only; split <;> exact ⟨_, _, rfl⟩
theorem compact_snoc : ∀ (l : List E2) (y x : E2), compact (l ++ [y] ++ [x]) = if y = x then compact (l ++ [y]) else compact (l ++ [y]) ++ [x]
  | [], y, x => by
    show compact [y, x] = if y = x then compact [y] else compact [y] ++ [x]
    rw [compact, compact_one, compact_one]
    simp only
    split
    · rename_i h; rw [h]
    · rfl
  | a :: l, y, x => by
    have ih := compact_snoc l y x
    obtain ⟨b, t, hb⟩ := compact_ne (l := l ++ [y]) (by simp)
    show compact (a :: (l ++ [y] ++ [x])) = if y = x then compact (a :: (l ++ [y])) else compact (a :: (l ++ [y])) ++ [x]
    rw [compact, compact, ih, hb]
    by_cases h : y = x
    · rw [if_pos h, if_pos h]
    · rw [if_neg h, if_neg h]
      simp only [List.cons_append]
      by_cases h2 : a = b <;> simp [h2]
/-- The next element behind a prefix. -/
theorem compact_take {ts : List E2} {j : Nat} {y x : E2} (hy : ts[j]? = some y) (hx : ts[j + 1]? = some x) : compact (ts.take (j + 2)) = if y = x then compact (ts.take (j + 1)) else compact (ts.take (j + 1)) ++ [x] := by
  have e1 : ts.take (j + 1) = ts.take j ++ [y] := by rw [List.take_add_one, hy]; rfl
  have e2 : ts.take (j + 2) = ts.take j ++ [y] ++ [x] := by rw [List.take_add_one, hx, e1]; rfl
  rw [e2, e1, compact_snoc]
theorem flat2_set : ∀ (xs : List E2) (k : Nat) (y : E2), ((flat2 xs).set (k * 2) y.1).set (k * 2 + 1) y.2 = flat2 (xs.set k y)
  | [], k, y => by simp [flat2]
  | x :: r, 0, y => by
    have h1 : flat2 (x :: r) = x.1 :: x.2 :: flat2 r := by simp [flat2, tl2]
    have h2 : flat2 ((x :: r).set 0 y) = y.1 :: y.2 :: flat2 r := by simp [flat2, tl2]
    rw [h1, h2]; rfl
  | x :: r, k + 1, y => by
    have ih := flat2_set r k y
    have h1 : flat2 (x :: r) = x.1 :: x.2 :: flat2 r := by simp [flat2, tl2]
    have h2 : flat2 ((x :: r).set (k + 1) y) = x.1 :: x.2 :: flat2 (r.set k y) := by simp [flat2, tl2]
    rw [h1, h2, ← ih, show (k + 1) * 2 = k * 2 + 1 + 1 by omega]
    rfl
section
variable {w : World} {B g n c : Nat} {T : TypeId} {xs : List (Int × Int)}
theorem OwnE.frozen (h : OwnE w B T (.slice (some ⟨g, 0, none⟩) n c) xs) (j : Nat) : w.frozen? ⟨g, j, none⟩ = false := by
  obtain rfl := h.len_eq
  exact World.ownsRow.frozenAt h j
theorem OwnE.put2 (h : OwnE w B T (.slice (some ⟨g, 0, none⟩) n c) xs) (k : Nat) (y : Int × Int) :
    OwnE ((w.setCell ⟨g, k * 2, none⟩ (.int .i64 y.1)).setCell ⟨g, k * 2 + 1, none⟩ (.int .i64 y.2)) B T (.slice (some ⟨g, 0, none⟩) n c) (xs.set k y) := by
  obtain rfl := h.len_eq
  have h1 := (World.ownsRow.stored h (k * 2) (.int .i64 y.1)).1
  have h2 := (World.ownsRow.stored h1 (k * 2 + 1) (.int .i64 y.2)).1
  rw [ints_set, ints_set, flat2_set] at h2
  unfold OwnE
  rw [List.length_set]
  exact h2
end
theorem drop_succ {xs ts : List E2} {d : Nat} (h : xs.drop d = ts.drop d) : xs.drop (d + 1) = ts.drop (d + 1) := by
  have := congrArg (List.drop 1) h
  simpa only [List.drop_drop] using this
theorem take_set_succ {xs : List E2} {K : Nat} {x : E2} (h : K < xs.length) : (xs.set K x).take (K + 1) = xs.take K ++ [x] := by
  apply List.ext_getElem?
  intro i
  rw [List.getElem?_take]
  by_cases hi : i < K
  · rw [if_pos (by omega), List.getElem?_set_ne (by omega), List.getElem?_append_left (by simp; omega), List.getElem?_take, if_pos hi]
  · by_cases he : i = K
    · subst he
      rw [if_pos (by omega), List.getElem?_set_self h, List.getElem?_append_right (by simp; omega)]
      simp [Nat.min_eq_left (Nat.le_of_lt h)]
    · rw [if_neg (by omega), List.getElem?_append_right (by simp; omega)]
      simp
      omega
theorem run_clear_pairs {t e ty : TypeId} (w : World) (ht : Tryz.prog.underlying t = some (.slice e)) (hv : ∀ w, (zeroValue e).run Tryz.prog w = .ok (.agg #[.int .i64 0, .int .i64 0]) w) (b o n c : Nat) (hn : 0 < n)
    (hc : ∀ j, j < n * 2 → (w.cell? ⟨b, o + j, none⟩).isSome = true) (hf : ∀ j, j < n * 2 → w.frozen? ⟨b, o + j, none⟩ = false) :
    (Builtin.clear_ #[t] ty #[.slice (some ⟨b, o, none⟩) n c]).run Tryz.prog w = .ok (.tuple #[]) (w.setCells b o (List.replicate (n * 2) (.int .i64 0))) := by
  have hzc : (Builtin.zeroCells (Value.agg #[.int .i64 0, .int .i64 0]).cells n).toList = List.replicate (n * 2) (.int .i64 0) := by
    simp [Builtin.zeroCells, Value.cells]
    apply List.ext_getElem
    · simp
    · intro i h1 h2
      have hm : i % 2 = 0 ∨ i % 2 = 1 := by omega
      rcases hm with hm | hm <;> simp [hm]
  have hst := run_storeCells_cells (P := Tryz.prog) b o (List.replicate (n * 2) (.int .i64 0)) 0 w (by simpa using hc) (by simpa using hf) (by intro v hv'; rw [List.eq_of_mem_replicate hv']; rfl)
  simp only [Nat.add_zero] at hst
  obtain ⟨m, rfl⟩ : ∃ m, n = m + 1 := ⟨n - 1, by omega⟩
  simp [Builtin.clear_, run_underlying ht, hv, hzc, hst]
theorem grown_setCells (b : Nat) : ∀ (vs : List Value) (o : Nat) (w : World), w.grownBy (w.setCells b o vs) (some b)
  | [], _, w => World.grownBy.refl w _
  | v :: r, o, w => (grown_put o v).trans (grown_setCells b r (o + 1) _)
set_option maxRecDepth 100000 in
set_option maxHeartbeats 4000000 in
theorem compact_calls {w : World} {D : Nat} {a : Option Addr} {c : Nat} {ts : List E2} (h : OwnE w D 95 (.slice a ts.length c) ts) (hl : ts.length ≤ 1000000) :
    Calls Tryz.prog 87 #[.slice a ts.length c] w fun e w' => ∃ c', e = .returned (.slice a (compact ts).length c') ∧ Edg w' a (compact ts) ∧ w.grownBy w' (Value.slice a ts.length c).ownBlock := by
  by_cases h2 : ts.length < 2
  · have hc : compact ts = ts := by
      match ts, h2 with
      | [], _ => rfl
      | [x], _ => rfl
    rw [hc]
    have hE := h.edg (by omega)
    have H := Lib.hid hE
    clear h hE hc
    obtain ⟨n, hn⟩ : ∃ n, ts.length = n := ⟨_, rfl⟩
    rw [hn] at h2 hl ⊢
    have h2' : (n : Int) < 2 := by omega
    go_enter Tryz.func87, Tryz.ntmps87
    go_wp2
    go_ret
    exact ⟨c, rfl, H.out, World.grownBy.refl w _⟩
  · obtain ⟨g, cap, e, hD, hg, hnc, hcm⟩ := h.form (by omega)
    cases e
    obtain ⟨n, hn⟩ : ∃ n, ts.length = n := ⟨_, rfl⟩
    rw [hn] at h2 hl hnc h ⊢
    have hcm' : c ≤ 9223372036854775807 := by unfold maxLen at hcm; exact hcm
    have h2' : ¬ (n : Int) < 2 := by omega
    have h1 : compact (ts.take 1) = ts.take 1 := by
      cases ts with
      | nil => rfl
      | cons x r => rfl
    have H := Lib.hid (And.intro h (And.intro hn h1))
    clear h hcm h1
    go_enter Tryz.func87, Tryz.ntmps87
    go_wp2
    go_loopw [3] (fun kk wr => ∃ (j q : Nat), j + 1 ≤ n ∧ kk = .int .i64 ((j + 1 : Nat) : Int) ∧ wr = w.drewN q ∧ compact (ts.take (j + 1)) = ts.take (j + 1)) (fun kk _ => n - (intOf kk).toNat)
    case atStart => exact ⟨0, 0, by omega, rfl, rfl, H.out.2.2⟩
    case round =>
      obtain ⟨j, q, hj, rfl, rfl, hcp⟩ := hrel
      have hjc : ((j + 1 : Nat) : Int) = (j : Int) + 1 := by omega
      rw [hjc]
      have hE : OwnE (w.drewN q) D 95 (.slice (some ⟨g, 0, none⟩) n c) ts := H.out.1.drewN q
      by_cases hlt : j + 1 < n
      · have hl1 : j + 1 < ts.length := by rw [H.out.2.1]; exact hlt
        obtain ⟨x, hx⟩ : ∃ x, ts[j + 1]? = some x := ⟨_, List.getElem?_eq_getElem hl1⟩
        obtain ⟨y, hy⟩ : ∃ y, ts[j]? = some y := ⟨_, List.getElem?_eq_getElem (by omega)⟩
        obtain ⟨_, e1, _, _, x1, x2⟩ := H.out.1.at_cells hx
        cases e1
        obtain ⟨_, e2, _, _, y1, y2⟩ := H.out.1.at_cells hy
        cases e2
        have hct := compact_take hy hx
        have hltI : (j : Int) + 1 < n := by omega
        have hj0 : (0 : Int) ≤ j := by omega
        have hj1 : (0 : Int) ≤ (j : Int) + 1 := by omega
        have hjt : ((j : Int) + 1).toNat = j + 1 := by omega
        have hjn : (j : Int) < n := by omega
        have hjs : IntKind.i64.wrap (j : Int) = (j : Int) := IntWalk.i64_in _ (by omega)
        have heql := fun w => run_eql_pair Tryz.underlying95 x.1 x.2 y.1 y.2 w
        obtain ⟨p1, p2⟩ := x
        obtain ⟨q1, q2⟩ := y
        simp only at x1 x2 y1 y2 heql
        cases hb : (p1 == q1 && p2 == q2)
        · rw [hb] at heql
          have hne : ¬ ((q1, q2) = (p1, p2)) := by
            intro e; injection e with e1 e2; rw [e1, e2] at hb; simp at hb
          rw [if_neg hne] at hct
          have hnext : compact (ts.take (j + 1 + 1)) = ts.take (j + 1 + 1) := by
            show compact (ts.take (j + 2)) = ts.take (j + 2)
            rw [hct, hcp]
            show _ = ts.take (j + 1 + 1)
            rw [List.take_add_one (i := j + 1), hx]; rfl
          have HX := Lib.hid hnext
          clear hct hnext hne hb hcp hx hy hE
          go_wp2
          go_quiet (fail)
          go_wp2
          exact ⟨⟨j + 1, _, by omega, by go_num, rfl, HX.out⟩, by simp [intOf]; omega⟩
        · rw [hb] at heql
          have heq : ((q1, q2) : Int × Int) = (p1, p2) := by simp at hb; rw [hb.1, hb.2]
          rw [if_pos heq, hcp] at hct
          have HX := Lib.hid (And.intro hct (And.intro (hE.drewN 0) (Nat.le_of_lt hlt)))
          have hjn1 : j + 1 ≤ n := by omega
          have hjc1 : j + 1 ≤ c := by omega
          clear hct hb hcp hx hy hE heq
          go_wp2
          go_quiet (fail)
          go_wp2
          go_loopw [3, 5] (fun kk k2 wr => ∃ (K m : Nat) (xs : List E2), m + 1 + (j + 1) ≤ n ∧ j + 1 ≤ K ∧ K ≤ j + 1 + m ∧ kk = .int .i64 (K : Int) ∧ k2 = .int .i64 ((m : Int) + 1) ∧ OwnE wr D 95 (.slice (some ⟨g, 0, none⟩) n c) xs ∧ xs.take K = compact (ts.take (j + 1 + m + 1)) ∧ xs.drop (j + 1 + m) = ts.drop (j + 1 + m) ∧ w.grownBy wr (some g)) (fun _ k2 _ => n - (intOf k2).toNat)
          case atStart => exact ⟨j + 1, 0, ts, by omega, by omega, by omega, by go_num, rfl, H.out.1.drewN _, HX.out.1.symm, rfl, grown_drewN _ _ _⟩
          case round =>
            obtain ⟨K, m, xs, hm, hK1, hK2, rfl, rfl, hO, hT, hDr, hG⟩ := hrel
            have hxl : xs.length = n := hO.len_eq.symm
            have hsame : ∀ i, j + 1 + m ≤ i → xs[i]? = ts[i]? := fun i hi => by
              have := congrArg (fun l => l[i - (j + 1 + m)]?) hDr
              simp only [List.getElem?_drop] at this
              rwa [show j + 1 + m + (i - (j + 1 + m)) = i by omega] at this
            have htl := H.out.2.1
            by_cases hlt2 : m + 1 < n - (j + 1)
            · obtain ⟨x, hx⟩ : ∃ x, ts[j + 1 + m + 1]? = some x := ⟨_, List.getElem?_eq_getElem (by omega)⟩
              obtain ⟨y, hy⟩ : ∃ y, ts[j + 1 + m]? = some y := ⟨_, List.getElem?_eq_getElem (by omega)⟩
              obtain ⟨_, e1, _, _, x1, x2⟩ := hO.at_cells (i := j + 1 + m + 1) (x := x) ((hsame _ (by omega)).trans hx)
              cases e1
              obtain ⟨_, e2, _, _, y1, y2⟩ := hO.at_cells (i := j + 1 + m) (x := y) ((hsame _ (by omega)).trans hy)
              cases e2
              obtain ⟨z, hz⟩ : ∃ z, xs[K]? = some z := ⟨_, List.getElem?_eq_getElem (by omega)⟩
              obtain ⟨_, e3, _, _, z1, z2⟩ := hO.at_cells hz
              cases e3
              rw [show (j + 1 + m + 1) * 2 = (j + 1) * 2 + (m + 1) * 2 by omega] at x1 x2
              rw [show (j + 1 + m) * 2 = (j + 1) * 2 + m * 2 by omega] at y1 y2
              have fz := hO.frozen
              have fz1 := fz (K * 2)
              have fz2 := fz (K * 2 + 1)
              have hct := compact_take hy hx
              have hltI : (m : Int) + 1 < ((n - (j + 1) : Nat) : Int) := by omega
              have hm0 : (0 : Int) ≤ (m : Int) + 1 := by omega
              have hmt : ((m : Int) + 1).toNat = m + 1 := by omega
              have hm00 : (0 : Int) ≤ (m : Int) := by omega
              have hmn : (m : Int) < ((n - (j + 1) : Nat) : Int) := by omega
              have hms : IntKind.i64.wrap (m : Int) = (m : Int) := IntWalk.i64_in _ (by omega)
              have hKn : (K : Int) < n := by omega
              have hneq := fun w => run_neq_pair Tryz.underlying95 x.1 x.2 y.1 y.2 w
              obtain ⟨p3, p4⟩ := x
              obtain ⟨q3, q4⟩ := y
              simp only at x1 x2 y1 y2 hneq
              have HR := Lib.hid (And.intro hO (And.intro hT (And.intro hDr (And.intro hG (And.intro hct hxl)))))
              clear hO hT hDr hG hct hx hy hz hxl hsame fz htl
              cases hb : (p3 == q3 && p4 == q4)
              · rw [hb, Bool.not_false] at hneq
                have HB := Lib.hid hb
                clear hb
                go_wp2
                go_quiet (fail)
                go_wp2
                have hne : ¬ ((q3, q4) = (p3, p4)) := by
                  intro e; injection e with e1 e2; have := HB.out; rw [e1, e2] at this; simp at this
                have hct := HR.out.2.2.2.2.1
                rw [if_neg hne] at hct
                refine ⟨⟨K + 1, m + 1, xs.set K (p3, p4), by omega, by omega, by omega, by go_num, by go_num, (HR.out.1.drewN _).put2 K (p3, p4), ?_, ?_, (HR.out.2.2.2.1.trans (grown_drewN _ _ _)).trans ((grown_put _ _).trans (grown_put _ _))⟩, by simp [intOf]; omega⟩
                · rw [take_set_succ (by rw [HR.out.2.2.2.2.2]; omega), HR.out.2.1]
                  exact hct.symm
                · rw [List.drop_set_of_lt (by omega)]
                  exact drop_succ HR.out.2.2.1
              · rw [hb, Bool.not_true] at hneq
                have HB := Lib.hid hb
                clear hb
                go_wp2
                go_quiet (fail)
                go_wp2
                have heq : ((q3, q4) : Int × Int) = (p3, p4) := by have := HB.out; simp at this; rw [this.1, this.2]
                have hct := HR.out.2.2.2.2.1
                rw [if_pos heq] at hct
                refine ⟨⟨K, m + 1, xs, by omega, hK1, by omega, rfl, by go_num, HR.out.1.drewN _, ?_, ?_, HR.out.2.2.2.1.trans (grown_drewN _ _ _)⟩, by simp [intOf]; omega⟩
                · rw [HR.out.2.1]; exact hct.symm
                · exact drop_succ HR.out.2.2.1
            · have hme : j + 1 + m + 1 = n := by omega
              rw [hme] at hT
              have htn : ts.take n = ts := List.take_of_length_le (by omega)
              rw [htn] at hT
              have hKn : K < n := by omega
              have hclr := fun ty => run_clear_pairs (t := 103) (e := 95) (ty := ty) wr Tryz.underlying103 Tryz.zeroValue95 g (K * 2) (n - K) (c - K) (by omega) (fun i hi => by
                have hcell := World.ownsRow.cells hO (g := g) rfl (K * 2 + i) ((ints (flat2 xs))[K * 2 + i]'(by rw [ints_len, flat2_len]; omega)) (List.getElem?_eq_getElem _)
                rw [add_zero_addr, Nat.zero_add] at hcell
                rw [hcell]; rfl) (fun i hi => hO.frozen _)
              have hcl : (compact ts).length = K := by rw [← hT, List.length_take]; omega
              have HR := Lib.hid (And.intro hO (And.intro hT (And.intro hG (And.intro hcl hxl))))
              have hKI : (K : Int) ≤ n := by omega
              clear hO hT hDr hG hcl hxl hsame htl hme
              go_wp2
              go_ret
              refine ⟨c, by rw [HR.out.2.2.2.1]; rfl, ⟨by rw [HR.out.2.2.2.1]; omega, fun i e hi => ?_⟩, HR.out.2.2.1.trans (grown_setCells g _ _ _)⟩
              have hiK : i < K := by have := (List.getElem?_eq_some_iff.1 hi).1; rw [HR.out.2.2.2.1] at this; exact this
              have hxi : xs[i]? = some e := by
                rw [← HR.out.2.1, List.getElem?_take, if_pos hiK] at hi; exact hi
              obtain ⟨_, ge, _, hgl, e1, e2⟩ := HR.out.1.at_cells hxi
              cases ge
              refine ⟨g, 0, rfl, Nat.lt_of_lt_of_le hgl (grown_setCells g _ _ _).size, ?_, ?_⟩
              · rw [Nat.zero_add, World.cell?_setCells_out g _ _ _ _ (fun _ _ => .inl (by simp only; omega))]; exact e1
              · rw [Nat.zero_add, World.cell?_setCells_out g _ _ _ _ (fun _ _ => .inl (by simp only; omega))]; exact e2
      · obtain rfl : n = j + 1 := by omega
        have htk : ts.take (j + 1) = ts := List.take_of_length_le (by rw [H.out.2.1]; omega)
        rw [htk] at hcp
        have HX := Lib.hid (And.intro hcp (hE.edg (by rw [H.out.2.1]; omega)))
        clear hcp hE
        go_wp2
        go_ret
        exact ⟨c, by rw [HX.out.1, H.out.2.1]; simp, by rw [HX.out.1]; exact HX.out.2, grown_drewN _ _ _⟩
end Go.Proofs.YtjjjohmppehejaaGreat
