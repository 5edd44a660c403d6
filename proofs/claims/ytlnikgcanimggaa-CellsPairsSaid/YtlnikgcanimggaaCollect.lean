/- The reference's collect gives the partition of equal rows. -/
import Derived.Test.YtlnikgcanimggaaCompare
import Derived.Test.YtlnikgcanimggaaPlainCollect
set_option linter.unusedSimpArgs false
set_option linter.unusedVariables false
namespace Go.Proofs.Ytlnikgcanimggaa
open Go.RowKit Plain

theorem Try.info3 : (Try.prog.info? 3).map (fun i => (i.zero, i.size, i.bytes)) = some (some (.int .i64 0), 1, 8) := by kernel_rfl
theorem Try.info4 : (Try.prog.info? 4).map (fun i => (i.zero, i.size, i.bytes)) = some (some (.bool false), 1, 1) := by kernel_rfl
theorem Try.info29 : (Try.prog.info? 29).map (fun i => (i.zero, i.size, i.bytes)) = some (some (.slice none 0 0), 1, 24) := by kernel_rfl

def encLeast : Option Nat → Value
  | none => .int .i64 (-1)
  | some l => .int .i64 l
def nums (xs : List Nat) : List Value := xs.map fun (k : Nat) => Value.int .i64 (k : Int)
def marks (td : Nat → Bool) (n : Nat) : List Value := (List.range n).map fun k => .bool (!td k)
theorem marks_get {td : Nat → Bool} {n k : Nat} (h : k < n) : (marks td n)[k]? = some (.bool (!td k)) := by
  simp [marks, List.getElem?_map, List.getElem?_range, h]
theorem marks_len (td : Nat → Bool) (n : Nat) : (marks td n).length = n := by simp [marks]
theorem marks_congr {td td' : Nat → Bool} {n : Nat} (h : ∀ k, k < n → td k = td' k) : marks td n = marks td' n := by
  unfold marks
  apply List.map_congr_left
  intro k hk
  rw [h k (List.mem_range.1 hk)]
theorem marks_set {R : Nat → List Int} {td : Nat → Bool} {l n i : Nat} (h : td i = true ∧ cmpL (R i) (R l) = 0) (hi : i < n) : (marks (strike R td l i) n).set i (.bool true) = marks (strike R td l (i + 1)) n := by
  apply List.ext_getElem?
  intro k
  rw [List.getElem?_set, marks_len]
  by_cases hk : k < n
  · rw [marks_get hk, marks_get hk]
    by_cases e : i = k
    · subst e; simp [hi, strike, h.1, h.2]
    · rw [if_neg e]
      have : decide (k < i + 1) = decide (k < i) := by rw [decide_eq_decide]; omega
      simp [strike, this]
  · rw [List.getElem?_eq_none (by rw [marks_len]; omega), List.getElem?_eq_none (by rw [marks_len]; omega)]
    by_cases e : i = k
    · omega
    · simp [e]
theorem strike_skip {R : Nat → List Int} {td : Nat → Bool} {l n i : Nat} (h : ¬ (td i = true ∧ cmpL (R i) (R l) = 0)) : marks (strike R td l i) n = marks (strike R td l (i + 1)) n := by
  apply marks_congr
  intro k hk
  simp only [strike]
  by_cases e : k = i
  · subst e
    by_cases h1 : td k = true
    · have h2 : cmpL (R k) (R l) ≠ 0 := fun h2 => h ⟨h1, h2⟩
      simp [h1, h2]
    · simp [h1]
  · have : decide (k < i + 1) = decide (k < i) := by rw [decide_eq_decide]; omega
    rw [this]

/-- The cells that have been collected: each a row of the call's own. -/
def Cellsof (w : World) (B : Nat) (cs : List Value) (out : List (List Nat)) : Prop :=
  cs.length = out.length ∧ ∀ (i : Nat) u xs, cs[i]? = some u → out[i]? = some xs → Own w B u 3 (nums xs)
theorem Cellsof.kept {w w' : World} {B : Nat} {cs : List Value} {out : List (List Nat)} (h : Cellsof w B cs out) {row : Option Nat} (hg : w.grownBy w' row)
    (hne : ∀ (u : Value) (xs : List Value), Own w B u 3 xs → u.ownBlock = none ∨ u.ownBlock ≠ row) : Cellsof w' B cs out :=
  ⟨h.1, fun i u xs hu hx => (h.2 i u xs hu hx).kept hg (hne u _ (h.2 i u xs hu hx))⟩
theorem Cellsof.snoc {w : World} {B : Nat} {cs : List Value} {out : List (List Nat)} (h : Cellsof w B cs out) {u : Value} {xs : List Nat} (hu : Own w B u 3 (nums xs)) : Cellsof w B (cs ++ [u]) (out ++ [xs]) := by
  refine ⟨by simp [h.1], fun i v ys hv hy => ?_⟩
  by_cases hi : i < cs.length
  · rw [List.getElem?_append_left hi] at hv
    rw [List.getElem?_append_left (by rw [← h.1]; exact hi)] at hy
    exact h.2 i v ys hv hy
  · rw [List.getElem?_append_right (by omega)] at hv
    rw [List.getElem?_append_right (by rw [← h.1]; omega)] at hy
    rw [← h.1] at hy
    by_cases e : i - cs.length = 0
    · rw [e] at hv hy
      simp at hv hy
      subst hv; subst hy; exact hu
    · obtain ⟨j, hj⟩ : ∃ j, i - cs.length = j + 1 := ⟨i - cs.length - 1, by omega⟩
      rw [hj] at hv; simp at hv
theorem Cellsof.rows {w : World} {B : Nat} {v : Value} {cs : List Value} {out : List (List Nat)} (h : Cellsof w B cs out) (hv : Own w B v 29 cs) (hl : cs.length ≤ maxLen) (hs : ∀ xs ∈ out, xs.length ≤ maxLen) :
    ∃ a c, v = .slice a out.length c ∧ Rows w a (out.map (·.map Int.ofNat)) := by
  obtain ⟨a, c, rfl, hr⟩ := hv.row hl
  refine ⟨a, c, by rw [h.1], cs, hr, by simp [h.1], fun i u xs hu hx => ?_⟩
  rw [List.getElem?_map, Option.map_eq_some_iff] at hx
  obtain ⟨ys, hy, rfl⟩ := hx
  have ho := h.2 i u ys hu hy
  have hm : ys ∈ out := List.mem_of_getElem? hy
  obtain ⟨a', c', e, hr'⟩ := ho.row (by simp [nums]; exact hs ys hm)
  refine ⟨a', c', by rw [e]; simp [nums], ?_⟩
  unfold Ints
  rw [List.map_map]
  exact hr'

set_option maxRecDepth 100000 in
set_option maxHeartbeats 1000000 in
theorem collect_calls (a : Option Addr) (c : Nat) (xs : List (List Int)) (w : World) (ha : Rows w a xs) (hsz : xs.length ≤ 1000000) :
    Calls Try.prog 64 #[.slice a xs.length c] w fun e w' => ∃ a' c', e = .returned (.slice a' (collect xs).length c') ∧ Rows w' a' (collect xs) ∧ Below w.heap.size w w' := by
  have hA := Lib.hid ha
  clear ha
  obtain ⟨i3, hi3, hz3, hs3, hb3⟩ := info_parts Try.info3
  obtain ⟨i4, hi4, hz4, hs4, hb4⟩ := info_parts Try.info4
  obtain ⟨i29, hi29, hz29, hs29, hb29⟩ := info_parts Try.info29
  have I3 := Lib.hid (And.intro hi3 (And.intro hz3 (And.intro hs3 hb3)))
  have I4 := Lib.hid (And.intro hi4 (And.intro hz4 (And.intro hs4 hb4)))
  have I29 := Lib.hid (And.intro hi29 (And.intro hz29 (And.intro hs29 hb29)))
  clear hi3 hz3 hs3 hb3 hi4 hz4 hs4 hb4 hi29 hz29 hs29 hb29
  obtain ⟨n, hn⟩ : ∃ n, n = xs.length := ⟨_, rfl⟩
  obtain ⟨R, hR⟩ : ∃ R : Nat → List Int, R = fun k => xs[k]?.getD [] := ⟨_, rfl⟩
  have hcol : collect xs = (collectF R n n (fun _ => true) []).map (·.map Int.ofNat) := by rw [collect, ← hn, hR]
  rw [← hn] at hsz ⊢
  rw [hcol]
  have Hn := Lib.hid hn
  have HR := Lib.hid hR
  clear hn hR hcol
  go_enter Try.func64, Try.ntmps64
  go_wp2_with (at_make; refine mk1 rfl _ _ 99 4 rfl i4 (.bool false) 1 Try.underlying99 I4.out.1 I4.out.2.1 I4.out.2.2.1 I4.out.2.2.2 rfl (by omega) w.heap.size n rfl rfl (by omega) (Nat.le_refl _) ?_; intro w1 hd hg hz1; have H1 := Lib.hid (And.intro hd hg); clear hd hg hz1)
  have hbl : Below w.heap.size w w1 := (Below.refl _ _).grown H1.out.2 (Nat.le_refl _) (fun k hk => by cases hk)
  have hd' : Own w1 w.heap.size (.slice (some ⟨w.heap.size, 0, none⟩) n n) 4 (marks (fun _ => true) n) := by
    have : marks (fun _ => true) n = List.replicate n (.bool false) := by
      apply List.ext_getElem?; intro k
      by_cases hk : k < n
      · rw [marks_get hk, List.getElem?_replicate, if_pos hk]; rfl
      · rw [List.getElem?_eq_none (by rw [marks_len]; omega), List.getElem?_replicate, if_neg hk]
    rw [this]; exact H1.out.1
  have H2 := Lib.hid (And.intro hd' hbl)
  clear hd' hbl H1
  obtain ⟨D, hD⟩ : ∃ D, D = w.heap.size := ⟨_, rfl⟩
  rw [← hD] at H2 ⊢
  have HD := Lib.hid hD
  clear hD
  go_loopw [4, 5] (fun v m wr => ∃ (td : Nat → Bool) (out : List (List Nat)) (f many : Nat) (cs : List Value), m = .int .i64 many ∧ many + count td n = n ∧ count td n ≤ f ∧ out.length + count td n ≤ n ∧ (∀ x ∈ out, x.length ≤ n) ∧
      Own wr D v 29 cs ∧ Cellsof wr D cs out ∧ Own wr D (.slice (some ⟨D, 0, none⟩) n n) 4 (marks td n) ∧ Below D w wr ∧ collectF R n n (fun _ => true) [] = collectF R n f td out) (fun _ m _ => n - (intOf m).toNat)
  case atStart => exact ⟨fun _ => true, [], n, 0, [], rfl, by rw [count_true]; omega, by rw [count_true]; omega, by rw [count_true]; simp, by simp, Own.nil _ _ _, ⟨rfl, by simp⟩, H2.out.1, H2.out.2, rfl⟩
  case round =>
    clear H2
    obtain ⟨td, out, f, many, cs, rfl, hm, hcf, hol, hxl, hv, hcs, hdn, hbl, he⟩ := hrel
    obtain ⟨wo, rfl⟩ : ∃ wo : World, wo = wr := ⟨_, rfl⟩
    have Hm := Lib.hid hm
    have Hv := Lib.hid (And.intro hv (And.intro hcs (And.intro hdn (And.intro hbl (And.intro he hxl)))))
    clear hm hv hcs hdn hbl he hxl
    have hmn : many ≤ n := by have := Hm.out; omega
    by_cases hlt : many < n
    · go_wp2
      go_loopw [6, 7] (fun l i wr => ∃ i' q : Nat, i' ≤ n ∧ i = .int .i64 i' ∧ l = encLeast (pickTo R td i') ∧ wr = wo.drewN q) (fun _ i _ => n - (intOf i).toNat)
      case atStart => exact ⟨0, 0, by omega, rfl, rfl, rfl⟩
      case round =>
        obtain ⟨i, q, hi, rfl, rfl, rfl⟩ := hrel
        by_cases hlt2 : i < n
        · have hdi : wo.cell? ⟨D, i, none⟩ = some (.bool (!td i)) := by rw [Hv.out.2.2.1.cell i (by rw [marks_len]; exact hlt2), marks_get hlt2]
          cases htd : td i with
          | false =>
            rw [htd] at hdi
            simp only [Bool.not_false] at hdi
            have hp : pickTo R td (i + 1) = pickTo R td i := by rw [pickTo, htd]; simp
            have Hp := Lib.hid hp
            have Ht := Lib.hid htd
            clear hp htd
            go_wp2
            go_quiet (fail)
            go_wp2
            exact ⟨⟨i + 1, _, by omega, by go_num, by rw [Hp.out], rfl⟩, by simp [intOf]; omega⟩
          | true =>
            rw [htd] at hdi
            simp only [Bool.not_true] at hdi
            cases hpk : pickTo R td i with
            | none =>
              have hp : pickTo R td (i + 1) = some i := by rw [pickTo, htd, hpk]; rfl
              have Hp := Lib.hid hp
              have Ht := Lib.hid (And.intro htd hpk)
              clear hp htd hpk
              simp only [encLeast]
              go_wp2
              go_quiet (fail)
              go_wp2
              exact ⟨⟨i + 1, _, by omega, by go_num, by rw [Hp.out], rfl⟩, by simp [intOf]; omega⟩
            | some l =>
              have hl := pickTo_some hpk
              have hln : l < n := by omega
              have hAo : Rows wo a xs := hA.out.below (by rw [← HD.out]; exact Hv.out.2.2.2.1)
              obtain ⟨g, o, b1, c1, rfl, hg1, hc1, hi1⟩ := hAo.at_ (k := i) (by rw [← Hn.out]; exact hlt2)
              obtain ⟨g2, o2, b2, c2, e2, hg2, hc2, hi2⟩ := hAo.at_ (k := l) (by rw [← Hn.out]; exact hln)
              cases e2
              have hRi : R i = xs[i]?.getD [] := by rw [HR.out]
              have hRl : R l = xs[l]?.getD [] := by rw [HR.out]
              rw [← hRi] at hc1 hi1
              rw [← hRl] at hc2 hi2
              have Hc := Lib.hid (fun k => compare_calls b1 b2 c1 c2 (R i) (R l) (wo.drewN k) hi1 hi2)
              have hp : pickTo R td (i + 1) = if cmpL (R i) (R l) < 0 then some i else some l := by rw [pickTo, htd, hpk]; rfl
              have Hp := Lib.hid hp
              have Ht := Lib.hid (And.intro htd hpk)
              have hdl : decide ((l : Int) < 0) = false := by simp
              obtain ⟨r, hr⟩ : ∃ r, cmpL (R i) (R l) = r := ⟨_, rfl⟩
              rw [hr] at Hc Hp
              obtain ⟨L1, hL1⟩ : ∃ L, (R i).length = L := ⟨_, rfl⟩
              obtain ⟨L2, hL2⟩ : ∃ L, (R l).length = L := ⟨_, rfl⟩
              rw [hL1] at Hc hc1
              rw [hL2] at Hc hc2
              clear hp htd hpk hl hRi hRl hi1 hi2 hAo hr hL1 hL2
              simp only [encLeast]
              by_cases hr0 : r < 0
              · go_wp2
                go_quiet ((go_at_call 87; exact quiet_add (Hc.out _)))
                go_wp2
                exact ⟨⟨i + 1, _, by omega, by go_num, by rw [Hp.out, if_pos hr0], rfl⟩, by simp [intOf]; omega⟩
              · have hr1 : decide (r < 0) = false := by simpa using hr0
                go_wp2
                go_quiet ((go_at_call 87; exact quiet_add (Hc.out _)))
                go_wp2
                exact ⟨⟨i + 1, _, by omega, by go_num, by rw [Hp.out, if_neg (by omega)], rfl⟩, by simp [intOf]; omega⟩
        · obtain rfl : i = n := by omega
          have hpk : ∃ l, pickTo R td i = some l := by
            cases hp : pickTo R td i with
            | none => have := pickTo_none hp; have := Hm.out; omega
            | some l => exact ⟨l, rfl⟩
          obtain ⟨l, hpk⟩ := hpk
          have hl := pickTo_some hpk
          have Hpk := Lib.hid hpk
          rw [hpk]
          simp only [encLeast]
          clear hpk
          go_wp2
          obtain ⟨wk, hwk⟩ : ∃ wk, wk = wo.drewN q := ⟨_, rfl⟩
          rw [← hwk]
          have hAk : Rows wk a xs := by rw [hwk]; exact (hA.out.below (by rw [← HD.out]; exact Hv.out.2.2.2.1)).drewN q
          have hvk : Own wk D u4 29 cs ∧ Cellsof wk D cs out ∧ Own wk D (.slice (some ⟨D, 0, none⟩) i i) 4 (marks td i) ∧ Below D w wk := by
            rw [hwk]; exact ⟨Hv.out.1, Hv.out.2.1, Hv.out.2.2.1, below_drewN Hv.out.2.2.2.1 q⟩
          have HK := Lib.hid (And.intro hAk hvk)
          clear hAk hvk hwk
          have hno : (cellTo R td l 0) = [] := rfl
          go_loopw [5, 8, 9] (fun m v8 ii wr => ∃ (j : Nat), j ≤ i ∧ ii = .int .i64 j ∧ m = .int .i64 ((many + (cellTo R td l j).length : Nat) : Int) ∧
              Own wr wk.heap.size v8 3 (nums (cellTo R td l j)) ∧ Own wr D (.slice (some ⟨D, 0, none⟩) i i) 4 (marks (strike R td l j) i) ∧ wk.grownBy wr (some D)) (fun _ _ ii _ => i - (intOf ii).toNat)
          case atStart =>
            refine ⟨0, by omega, rfl, by simp [cellTo], Own.nil _ _ _, ?_, World.grownBy.refl _ _⟩
            have : strike R td l 0 = td := by funext k; simp [strike]
            rw [this]; exact HK.out.2.2.2.1
          case round =>
            obtain ⟨j, hj, rfl, rfl, ho8, hod, hgw⟩ := hrel
            have hlen := cellTo_len (R := R) td l j
            obtain ⟨C, hC⟩ : ∃ C, (cellTo R td l j).length = C := ⟨_, rfl⟩
            rw [hC] at hlen ⊢
            have Ho := Lib.hid (And.intro ho8 (And.intro hod (And.intro hgw hC)))
            by_cases hlt3 : j < i
            · have hdi : wr.cell? ⟨D, j, none⟩ = some (.bool (!td j)) := by
                rw [hod.cell j (by rw [marks_len]; exact hlt3), marks_get hlt3]; simp [strike]
              have hfz : wr.frozen? ⟨D, j, none⟩ = false := hod.frozen j
              clear ho8 hod hgw hC
              cases htd : td j with
              | false =>
                rw [htd] at hdi
                simp only [Bool.not_false] at hdi
                have hnot : ¬ (td j = true ∧ cmpL (R j) (R l) = 0) := by rw [htd]; simp
                have Hnot := Lib.hid hnot
                clear hnot htd
                go_wp2
                go_quiet (fail)
                go_wp2
                refine ⟨⟨j + 1, by omega, by go_num, ?_, ?_, ?_, Ho.out.2.2.1.trans (grown_drewN _ _ _)⟩, by simp [intOf]; omega⟩
                · rw [cellTo, if_neg Hnot.out, Ho.out.2.2.2]
                · rw [cellTo, if_neg Hnot.out]; exact Ho.out.1
                · rw [← strike_skip Hnot.out]; exact Ho.out.2.1
              | true =>
                rw [htd] at hdi
                simp only [Bool.not_true] at hdi
                have hDk : D ≤ wk.heap.size := by have := HK.out.2.2.2.2.size; have := HD.out; omega
                have hbr : Below D w wr := HK.out.2.2.2.2.grown Ho.out.2.2.1 hDk (fun k hk => by cases hk; exact Nat.le_refl _)
                have hAr : Rows wr a xs := hA.out.below (by rw [← HD.out]; exact hbr)
                obtain ⟨g, o, b1, c1, rfl, hg1, hc1, hi1⟩ := hAr.at_ (k := j) (by rw [← Hn.out]; exact hlt3)
                obtain ⟨g2, o2, b2, c2, e2, hg2, hc2, hi2⟩ := hAr.at_ (k := l) (by rw [← Hn.out]; exact hl.1)
                cases e2
                have hRi : R j = xs[j]?.getD [] := by rw [HR.out]
                have hRl : R l = xs[l]?.getD [] := by rw [HR.out]
                rw [← hRi] at hc1 hi1
                rw [← hRl] at hc2 hi2
                have Hc := Lib.hid (fun k => compare_calls b1 b2 c1 c2 (R j) (R l) (wr.drewN k) hi1 hi2)
                have Hbr := Lib.hid (And.intro hbr hDk)
                have Ht := Lib.hid htd
                obtain ⟨r, hr⟩ : ∃ r, cmpL (R j) (R l) = r := ⟨_, rfl⟩
                rw [hr] at Hc
                have Hr := Lib.hid hr
                obtain ⟨L1, hL1⟩ : ∃ L, (R j).length = L := ⟨_, rfl⟩
                obtain ⟨L2, hL2⟩ : ∃ L, (R l).length = L := ⟨_, rfl⟩
                rw [hL1] at Hc hc1
                rw [hL2] at Hc hc2
                clear htd hRi hRl hi1 hi2 hAr hr hL1 hL2 hbr hDk
                by_cases hr0 : r = 0
                · subst hr0
                  have hyes : td j = true ∧ cmpL (R j) (R l) = 0 := ⟨Ht.out, Hr.out⟩
                  have Hyes := Lib.hid hyes
                  clear hyes
                  go_wp2
                  go_quiet ((go_at_call 87; exact Calls.quiet_of (Hc.out _)))
                  have hsz2 : (nums (cellTo R td l j)).length < 1099511627776 := by rw [nums, List.length_map, Ho.out.2.2.2]; omega
                  have hkb : wk.heap.size ≤ (wr.drewN nq).heap.size := Ho.out.2.2.1.size
                  have Hs := Lib.hid (And.intro hsz2 hkb)
                  clear hsz2 hkb
                  go_wp2_with (at_builtin; refine app1 rfl (.tmp 68) (.tmp 70) 29 3 rfl i3 (.int .i64 0) 8 Try.underlying29 I3.out.1 I3.out.2.1 I3.out.2.2.1 I3.out.2.2.2 rfl (by omega) wk.heap.size (.int .i64 j) u8 (nums (cellTo R td l j)) rfl (Ho.out.1.drewN nq) rfl rfl Hs.out.1 Hs.out.2 ?_; intro v' w' h2 h3 h4; have hod' := (Ho.out.2.1.drewN nq).kept h3 ((Ho.out.2.1.drewN nq).ne_type (Ho.out.1.drewN nq) (by decide)); have hc9 := hod'.cell j (by rw [marks_len]; exact hlt3); rw [marks_get hlt3] at hc9; simp only [strike, Ht.out] at hc9; have hc8 : w'.cell? ⟨D, j, none⟩ = some (.bool false) := by { rw [hc9]; simp }; have hf9 := hod'.frozen j; have H9 := Lib.hid (And.intro h2 (And.intro h3 (And.intro h4 hod'))); clear h2 h3 h4 hod' hc9)
                  obtain ⟨h2, h3, h4, h5⟩ := H9.out
                  refine ⟨⟨j + 1, by omega, by go_num, ?_, ?_, ?_, ?_⟩, by simp [intOf]; omega⟩
                  · rw [cellTo, if_pos Hyes.out, List.length_append, Ho.out.2.2.2]; simp; omega
                  · rw [cellTo, if_pos Hyes.out]
                    have h6 := h2.kept (grown_put (w := w') (g := D) j (.bool true)) (h2.ne_type h5 (by decide))
                    simpa [nums] using h6
                  · have h6 := h5.put j (.bool true)
                    rwa [marks_set Hyes.out hlt3] at h6
                  · refine grown_new (grown_new (Ho.out.2.2.1.trans (grown_drewN _ nq _)) h3 ?_) (grown_put j (.bool true)) (fun g hg => .inr (by cases hg; rfl))
                    intro g hg
                    rcases Ho.out.1.blk with e | ⟨g', _, e, hB, _⟩
                    · rw [e] at hg; cases hg
                    · rw [e] at hg; cases hg; exact .inl hB
                · have hr1 : (r == 0) = false := by simpa using hr0
                  have hnot : ¬ (td j = true ∧ cmpL (R j) (R l) = 0) := by rw [Hr.out]; exact fun h => hr0 h.2
                  have Hnot := Lib.hid hnot
                  clear hnot
                  go_wp2
                  go_quiet ((go_at_call 87; exact Calls.quiet_of (Hc.out _)))
                  go_wp2
                  refine ⟨⟨j + 1, by omega, by go_num, ?_, ?_, ?_, Ho.out.2.2.1.trans (grown_drewN _ _ _)⟩, by simp [intOf]; omega⟩
                  · rw [cellTo, if_neg Hnot.out, Ho.out.2.2.2]
                  · rw [cellTo, if_neg Hnot.out]; exact Ho.out.1
                  · rw [← strike_skip Hnot.out]; exact Ho.out.2.1
            · obtain rfl : j = i := by omega
              obtain ⟨a8, c8, rfl, _⟩ := ho8.row (by rw [nums, List.length_map, hC]; unfold maxLen; omega)
              have hvr : Own wr D u4 29 cs := HK.out.2.1.kept hgw (HK.out.2.1.ne_type HK.out.2.2.2.1 (by decide))
              have hcr : Cellsof wr D cs out := HK.out.2.2.1.kept hgw (fun u xs h => h.ne_type HK.out.2.2.2.1 (by decide))
              have hDk : D ≤ wk.heap.size := by have := HK.out.2.2.2.2.size; have := HD.out; omega
              have hbr : Below D w wr := HK.out.2.2.2.2.grown hgw hDk (fun k hk => by cases hk; exact Nat.le_refl _)
              have hsz2 : cs.length < 1099511627776 := by have := HK.out.2.2.1.1; omega
              have hDr : D ≤ wr.heap.size := by have := hgw.size; omega
              have Hs := Lib.hid (And.intro hsz2 (And.intro hDr (And.intro hvr (And.intro hcr hbr))))
              clear ho8 hod hgw hC hvr hcr hDk hbr hsz2 hDr
              obtain ⟨N8, hN8⟩ : ∃ N, (nums (cellTo R td l j)).length = N := ⟨_, rfl⟩
              rw [hN8] at Ho ⊢
              have HN8 := Lib.hid hN8
              clear hN8
              go_wp2_with (at_builtin; refine app1 rfl (.tmp 77) (.tmp 79) 22 29 rfl i29 (.slice none 0 0) 24 Try.underlying22 I29.out.1 I29.out.2.1 I29.out.2.2.1 I29.out.2.2.2 rfl (by omega) D (.slice a8 N8 c8) u4 cs rfl Hs.out.2.2.1 rfl rfl Hs.out.1 Hs.out.2.1 ?_; intro v' w' h2 h3 h4; have H9 := Lib.hid (And.intro h2 h3); clear h2 h3 h4)
              obtain ⟨h2, h3⟩ := H9.out
              have hcp := cell_pos Hpk.out
              have hcnt := count_strike (R := R) td l j j (Nat.le_refl _)
              have hmm := Hm.out
              obtain ⟨f, rfl⟩ : ∃ f', f = f' + 1 := ⟨f - 1, by omega⟩
              have hD4 : Own wr D (.slice (some ⟨D, 0, none⟩) j j) 4 (marks (strike R td l j) j) := Ho.out.2.1
              refine ⟨⟨strike R td l j, out ++ [cellTo R td l j], f, many + (cellTo R td l j).length, cs ++ [.slice a8 N8 c8], by rw [Ho.out.2.2.2]; simp, by omega, by omega, by simp; omega, ?_, h2, ?_, ?_, ?_, ?_⟩, ?_⟩
              · intro x hx
                rcases List.mem_append.1 hx with hx | hx
                · exact Hv.out.2.2.2.2.2 x hx
                · rw [List.mem_singleton.1 hx]; exact cellTo_len _ _ _
              · refine Cellsof.snoc (Hs.out.2.2.2.1.kept h3 (fun u xs h => h.ne_type Hs.out.2.2.1 (by decide))) ?_
                exact (Ho.out.1.mono (by have := HK.out.2.2.2.2.size; have := HD.out; omega)).kept h3 (Ho.out.1.ne_type Hs.out.2.2.1 (by decide))
              · exact hD4.kept h3 (hD4.ne_type Hs.out.2.2.1 (by decide))
              · refine Hs.out.2.2.2.2.grown h3 Hs.out.2.1 (fun k hk => ?_)
                rcases Hs.out.2.2.1.blk with e | ⟨g', _, e, hB, _⟩
                · rw [e] at hk; cases hk
                · rw [e] at hk; cases hk; exact hB
              · rw [Hv.out.2.2.2.2.1, collectF_step Hpk.out]
              · have := Ho.out.2.2.2
                simp [intOf]; omega
    · have hc0 : count td n = 0 := by have := Hm.out; omega
      have hfin : collectF R n n (fun _ => true) [] = out := by rw [Hv.out.2.2.2.2.1, collectF_end hc0]
      obtain ⟨a', c', rfl, hrows⟩ := Hv.out.2.1.rows Hv.out.1 (by have := Hv.out.2.1.1; unfold maxLen; omega) (fun x hx => by have := Hv.out.2.2.2.2.2 x hx; unfold maxLen; omega)
      have Hf := Lib.hid (And.intro hfin hrows)
      clear hfin hrows hc0
      go_wp2
      go_ret
      refine ⟨a', c', ?_, by rw [Hf.out.1]; exact Hf.out.2, by rw [← HD.out]; exact Hv.out.2.2.2.1⟩
      rw [Hf.out.1, List.length_map]
      rfl
end Go.Proofs.Ytlnikgcanimggaa
