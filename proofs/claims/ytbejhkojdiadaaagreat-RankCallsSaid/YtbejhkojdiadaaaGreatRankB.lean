/- Places in lists: slices.IndexFunc, slices.BinarySearch and rank's lowest, with the closures of rank. -/
import Derived.Test.YtbejhkojdiadaaaGreatRankA
import Derived.Lib.SlicesSearch
set_option linter.unusedSimpArgs false
set_option linter.unusedVariables false
namespace Go.Proofs.YtbejhkojdiadaaaGreat
open Go.RowKit PlainPm
/-- step's closure: whether the image of a point is the one looked for. -/
theorem pred109 {n : Nat} {y : Pm n} {va : Value} {p1 p2 im q : Nat} (hq : q < n) {W : World} (h1 : W.cell? ⟨p1, 0, none⟩ = some va) (hy : PmV W [] va y) (h2 : W.cell? ⟨p2, 0, none⟩ = some (.int .i64 (im : Int))) :
    Calls Tryz.prog 109 #[.int .i64 (q : Int), .pointer (some ⟨p1, 0, none⟩), .pointer (some ⟨p2, 0, none⟩)] W fun e w' => e = .returned (.bool ((y.at q : Int) == (im : Int))) ∧ ∃ m, w' = W.drewN m := by
  obtain ⟨b, o, c, rfl, _, hb, hc⟩ := hy
  have hcq := hc q hq
  obtain ⟨z, hz⟩ : ∃ z, y.at q = z := ⟨_, rfl⟩
  rw [hz] at hcq ⊢
  clear hc hz
  go_enter Tryz.func109, Tryz.ntmps109
  go_wp2_with fail
  go_quiet (fail)
  go_wp2_with fail
  go_ret
  exact ⟨rfl, _, rfl⟩
/-- least's closure. -/
theorem img114 {n : Nat} {y : Pm n} {va : Value} {p1 q : Nat} (hq : q < n) {W : World} (h1 : W.cell? ⟨p1, 0, none⟩ = some va) (hy : PmV W [] va y) :
    Calls Tryz.prog 114 #[.int .i64 (q : Int), .pointer (some ⟨p1, 0, none⟩)] W fun e w' => e = .returned (.int .i64 (y.at q : Int)) ∧ w' = W := by
  obtain ⟨b, o, c, rfl, _, hb, hc⟩ := hy
  have hcq := hc q hq
  clear hc
  go_enter Tryz.func114, Tryz.ntmps114
  go_wp2_with fail
  go_ret
  exact ⟨rfl, rfl⟩
set_option maxRecDepth 100000 in
set_option maxHeartbeats 1000000 in
theorem idx108 {n : Nat} {y : Pm n} {va v : Value} {p1 p2 q : Nat} {l : List Nat} (hl : ∀ p ∈ l, p < n) (hq : q ∈ l) {w : World} (hv : PtsW w v l) (h1 : w.cell? ⟨p1, 0, none⟩ = some va) (hy : PmV w [] va y) (h2 : w.cell? ⟨p2, 0, none⟩ = some (.int .i64 (y.at q : Int))) :
    Calls Tryz.prog 108 #[v, .func (.func 109) #[] #[.pointer (some ⟨p1, 0, none⟩), .pointer (some ⟨p2, 0, none⟩)]] w fun e w' => ∃ k : Nat, e = .returned (.int .i64 (k : Int)) ∧ l[k]? = some q ∧ ∃ m, w' = w.drewN m := by
  obtain ⟨g, o, c, rfl, hg, h64, hcap, hc⟩ := hv
  obtain ⟨L, hL⟩ : ∃ L, l.length = L := ⟨_, rfl⟩
  have H := Lib.hid (And.intro hl (And.intro hq (And.intro h1 (And.intro hy (And.intro h2 (And.intro hc hL))))))
  rw [hL] at h64 ⊢
  clear hl hq h1 hy h2 hc hL
  go_enter Tryz.func108, Tryz.ntmps108
  go_wp2_with fail
  go_loopw [5, 8] (fun _ i wr => ∃ (k m : Nat), k ≤ L ∧ i = .int .i64 (k : Int) ∧ wr = w.drewN m ∧ ∀ j p, j < k → l[j]? = some p → p ≠ q) (fun _ i _ => L - (intOf i).toNat)
  case atStart => exact ⟨0, 0, by omega, rfl, rfl, fun j p hj => by omega⟩
  case round =>
    obtain ⟨k, m, hk, rfl, rfl, hno⟩ := hrel
    by_cases hkl : k < L
    · obtain ⟨p, hp⟩ : ∃ p, l[k]? = some p := ⟨_, List.getElem?_eq_getElem (by rw [H.out.2.2.2.2.2.2]; exact hkl)⟩
      have hpn := H.out.1 p (List.mem_of_getElem? hp)
      have hqn := H.out.1 q H.out.2.1
      have hcp : (w.drewN m).cell? ⟨g, o + k, none⟩ = some (.int .i64 (p : Int)) := H.out.2.2.2.2.2.1 k p hp
      have hcall := fun r => pred109 (y := y) (va := va) (p1 := p1) (p2 := p2) (im := y.at q) (q := p) hpn (W := w.drewN r) H.out.2.2.1 H.out.2.2.2.1 H.out.2.2.2.2.1
      have hinj : y.at p = y.at q → p = q := y.inj hpn hqn
      have HC := Lib.hid (And.intro hcall (And.intro hno (And.intro hp hinj)))
      have hk1 : (k : Int) < L := by omega
      clear hcall hno hp hinj
      by_cases e : p = q
      · subst e
        have hd : ((y.at p : Int) == (y.at p : Int)) = true := by simp
        go_wp2_with (go_at_call 109; with_reducible refine (HC.out.1 m).mono ?_; rintro e1 w1 ⟨rfl, r, rfl⟩)
        refine bodyPost_ret (v := .int .i64 (k : Int)) (by simp [results, Tryz.results108, go_sem]) rfl ?_
        exact ⟨k, rfl, HC.out.2.2.1, _, rfl⟩
      · have hd : ((y.at p : Int) == (y.at q : Int)) = false := by
          refine beq_eq_false_iff_ne.2 fun h => e (HC.out.2.2.2 (by omega))
        have He := Lib.hid e
        clear e
        go_wp2_with (go_at_call 109; with_reducible refine (HC.out.1 m).mono ?_; rintro e1 w1 ⟨rfl, r, rfl⟩)
        refine ⟨⟨k + 1, m + r, by omega, by go_num, rfl, fun j p' hj hp' => ?_⟩, by simp [intOf]; omega⟩
        by_cases ej : j = k
        · subst ej; rw [HC.out.2.2.1] at hp'; cases hp'; exact He.out
        · exact HC.out.2.1 j p' (by omega) hp'
    · obtain rfl : k = L := by omega
      obtain ⟨j, hj⟩ := List.mem_iff_getElem?.1 H.out.2.1
      have := (List.getElem?_eq_some_iff.1 hj).1
      exact absurd rfl (hno j q (by rw [← H.out.2.2.2.2.2.2]; exact this) hj)
set_option maxRecDepth 100000 in
set_option maxHeartbeats 1000000 in
theorem low113 {n : Nat} {y : Pm n} {va v : Value} {p1 : Nat} {l : List Nat} (hl : ∀ p ∈ l, p < n) (h0 : 0 < l.length) {w : World} (hv : PtsW w v l) (h1 : w.cell? ⟨p1, 0, none⟩ = some va) (hy : PmV w [] va y) :
    Calls Tryz.prog 113 #[v, .func (.func 114) #[] #[.pointer (some ⟨p1, 0, none⟩)]] w fun e w' => e = .returned (.int .i64 (best y l (l.headD 0) : Int)) ∧ w' = w := by
  obtain ⟨g, o, c, rfl, hg, h64, hcap, hc⟩ := hv
  obtain ⟨a, r, rfl⟩ : ∃ a r, l = a :: r := by
    cases l with
    | nil => simp at h0
    | cons a r => exact ⟨a, r, rfl⟩
  have hb : best y (a :: r) ((a :: r).headD 0) = best y r a := by rw [best_cons]; simp
  rw [hb]
  obtain ⟨L, hL⟩ : ∃ L, r.length = L := ⟨_, rfl⟩
  have hL1 : (a :: r).length = L + 1 := by simp [hL]
  rw [hL1] at h64 hcap ⊢
  have c0 : w.cell? ⟨g, o, none⟩ = some (.int .i64 (a : Int)) := by simpa using hc 0 a (by simp)
  have hl' : ∀ p ∈ r, p < n := fun p hp => hl p (by simp [hp])
  have hc' : ∀ (k q : Nat), r[k]? = some q → w.cell? ⟨g, o + 1 + k, none⟩ = some (.int .i64 (q : Int)) := fun k q hk => by
    have := hc (k + 1) q (by simpa using hk)
    rwa [show o + (k + 1) = o + 1 + k by omega] at this
  have ha := hl a (by simp)
  have H := Lib.hid (And.intro hl' (And.intro h1 (And.intro hy (And.intro hc' hL))))
  clear hl h1 hy hc hL hL1 hl' hc' h0 hb
  by_cases hL0 : L = 0
  · subst hL0
    have hr : r = [] := List.eq_nil_of_length_eq_zero H.out.2.2.2.2
    go_enter Tryz.func113, Tryz.ntmps113
    by_cases hc1 : c = 1
    · subst hc1
      go_wp2_with fail
      go_loopw [5, 7, 14] (fun b _ i wr => i = .int .i64 0 ∧ wr = w ∧ b = .int .i64 (a : Int)) (fun _ _ _ _ => 0)
      case atStart => exact ⟨rfl, rfl, rfl⟩
      case round =>
        obtain ⟨rfl, rfl, rfl⟩ := hrel
        go_wp2_with fail
        go_ret
        rw [hr]
        exact ⟨rfl, rfl⟩
    · go_wp2_with fail
      go_loopw [5, 7, 14] (fun b _ i wr => i = .int .i64 0 ∧ wr = w ∧ b = .int .i64 (a : Int)) (fun _ _ _ _ => 0)
      case atStart => exact ⟨rfl, rfl, rfl⟩
      case round =>
        obtain ⟨rfl, rfl, rfl⟩ := hrel
        go_wp2_with fail
        go_ret
        rw [hr]
        exact ⟨rfl, rfl⟩
  have hc1 : ¬ c = 1 := by omega
  go_enter Tryz.func113, Tryz.ntmps113
  go_wp2_with fail
  go_loopw [5, 7, 14] (fun b _ i wr => ∃ (k : Nat), k ≤ L ∧ i = .int .i64 (k : Int) ∧ wr = w ∧ b = .int .i64 (best y (r.take k) a : Int)) (fun _ _ i _ => L - (intOf i).toNat)
  case atStart => exact ⟨0, by omega, rfl, rfl, by simp [best]⟩
  case round =>
    obtain ⟨k, hk, rfl, rfl, rfl⟩ := hrel
    by_cases hkl : k < L
    · obtain ⟨p, hp⟩ : ∃ p, r[k]? = some p := ⟨_, List.getElem?_eq_getElem (by rw [H.out.2.2.2.2]; exact hkl)⟩
      have hpn := H.out.1 p (List.mem_of_getElem? hp)
      have hcp := H.out.2.2.2.1 k p hp
      obtain ⟨B, hB⟩ : ∃ B, best y (r.take k) a = B := ⟨_, rfl⟩
      have hBn : B < n := by
        rcases (best_spec y (r.take k) a).1 with e | e
        · rw [← hB, e]; exact ha
        · rw [← hB]; exact H.out.1 _ (List.mem_of_mem_take e)
      have hcall := fun (q : Nat) (hq : q < n) => img114 (y := y) (va := va) (p1 := p1) hq (W := wr) H.out.2.1 H.out.2.2.1
      have hnx : best y (r.take (k + 1)) a = if y.at p < y.at B then p else B := by rw [List.take_add_one, hp, Option.toList_some, best_snoc, hB]
      have HC := Lib.hid (And.intro (hcall p hpn) (And.intro (hcall B hBn) hnx))
      rw [hB]
      have hk1 : (k : Int) < L := by omega
      clear hcall hp hB hnx
      by_cases e : y.at p < y.at B
      · have hd : ((y.at p : Nat) : Int) < ((y.at B : Nat) : Int) := by omega
        go_wp2_with (first
          | (go_at_call 114; with_reducible refine HC.out.1.mono ?_; rintro e1 w1 ⟨rfl, rfl⟩)
          | (go_at_call 114; with_reducible refine HC.out.2.1.mono ?_; rintro e1 w1 ⟨rfl, rfl⟩))
        exact ⟨⟨k + 1, by omega, by go_num, trivial, by rw [HC.out.2.2, if_pos e]⟩, by simp [intOf]; omega⟩
      · have hd : ¬ ((y.at p : Nat) : Int) < ((y.at B : Nat) : Int) := by omega
        go_wp2_with (first
          | (go_at_call 114; with_reducible refine HC.out.1.mono ?_; rintro e1 w1 ⟨rfl, rfl⟩)
          | (go_at_call 114; with_reducible refine HC.out.2.1.mono ?_; rintro e1 w1 ⟨rfl, rfl⟩))
        exact ⟨⟨k + 1, by omega, by go_num, trivial, by rw [HC.out.2.2, if_neg e]⟩, by simp [intOf]; omega⟩
    · obtain rfl : k = L := by omega
      have hk1 : ¬ (k : Int) < k := by omega
      go_wp2_with fail
      go_ret
      have hh : r.take k = r := List.take_of_length_le (by rw [H.out.2.2.2.2]; exact Nat.le_refl _)
      rw [hh]
      exact ⟨rfl, rfl⟩
/-- The library's comparison. -/
theorem nan106 (x : Int) (w : World) : Calls Tryz.prog 106 #[.int .i64 x] w fun e w' => e = .returned (.bool false) ∧ w' = w := by
  go_enter Tryz.func106, Tryz.ntmps106
  go_wp2
  go_ret
  exact ⟨by simp, rfl⟩
theorem nan148 (x : Int) (w : World) : Calls Tryz.prog 148 #[.int .i64 x] w fun e w' => e = .returned (.bool false) ∧ w' = w := by
  go_enter Tryz.func148, Tryz.ntmps148
  go_wp2
  go_ret
  exact ⟨by simp, rfl⟩
theorem less105 (x y : Int) (w : World) : Calls Tryz.prog 105 #[.int .i64 x, .int .i64 y] w fun e w' => e = .returned (.bool (decide (x < y))) ∧ w' = w := by
  go_enter Tryz.func105, Tryz.ntmps105
  go_wp2_with (go_at_call 148; with_reducible refine (nan148 _ _).mono ?_; rintro e w' ⟨rfl, rfl⟩)
  go_ret
  exact ⟨rfl, rfl⟩
set_option maxRecDepth 100000 in
set_option maxHeartbeats 4000000 in
/-- slices.BinarySearch in a sorted list. -/
theorem bs60 {g c : Nat} {zs : List Int} {x : Int} {w : World} (hn : zs.length ≤ 64) (hc : ∀ j, j < zs.length → w.cell? ⟨g, j, none⟩ = some (.int .i64 (zs.getD j 0))) (hs : zs.Pairwise (· ≤ ·)) :
    Calls Tryz.prog 60 #[.slice (some ⟨g, 0, none⟩) zs.length c, .int .i64 x] w fun e w' => e = .returned (.tuple #[.int .i64 (zs.countP (· < x) : Nat), .bool (zs.contains x)]) ∧ ∃ q, w' = w.drewN q := by
  have S0 := Lib.sorted_at zs zs.length (Nat.le_refl _) (by rw [List.take_length]; exact hs)
  have E0 := fun hi h1 h2 h3 => Lib.search_end zs zs.length hi x (Nat.le_refl _) h1 h2 h3 S0
  simp only [List.take_length] at E0
  obtain ⟨n, hn'⟩ : ∃ n, zs.length = n := ⟨_, rfl⟩
  rw [hn'] at hn hc S0 E0 ⊢
  have S := Lib.hid (And.intro S0 (And.intro E0 hn'))
  clear hs S0 E0 hn'
  go_enter Tryz.func60, Tryz.ntmps60
  go_wp2_with fail
  go_loopw [7, 8, 9] (fun s7 s8 _ wr => ∃ lo hi q : Nat, s7 = .int .i64 lo ∧ s8 = .int .i64 hi ∧ lo ≤ hi ∧ hi ≤ n ∧ wr = w.drewN q ∧ (∀ t, t < lo → zs.getD t 0 < x) ∧ (∀ t, hi ≤ t → t < n → x ≤ zs.getD t 0)) (fun s7 s8 _ _ => (intOf s8 - intOf s7).toNat)
  case atStart => exact ⟨0, n, 0, rfl, rfl, Nat.zero_le _, Nat.le_refl _, rfl, fun t ht => absurd ht (Nat.not_lt_zero _), fun t h1 h2 => by omega⟩
  case round =>
    obtain ⟨lo, hi, q, rfl, rfl, hlh, hin, rfl, h1, h2⟩ := hrel
    have I := Lib.hid (And.intro h1 h2)
    clear h1 h2
    by_cases hlt : lo < hi
    · have cm : w.cell? ⟨g, (lo + hi) / 2, none⟩ = some (.int .i64 (zs.getD ((lo + hi) / 2) 0)) := hc _ (by omega)
      obtain ⟨y, hy⟩ : ∃ y, zs.getD ((lo + hi) / 2) 0 = y := ⟨_, rfl⟩
      rw [hy] at cm
      have Y := Lib.hid (And.intro hc hy)
      clear hc hy
      by_cases hyx : y < x
      · go_wp2_with (first | (go_at_call 105; with_reducible refine (less105 _ _ _).mono ?_; rintro e w' ⟨rfl, rfl⟩) | (go_at_call 106; with_reducible refine (nan106 _ _).mono ?_; rintro e w' ⟨rfl, rfl⟩))
        refine ⟨⟨(lo + hi) / 2 + 1, hi, _, by rw [show ((lo : Int) + (hi : Int)) / 2 + 1 = (((lo + hi) / 2 + 1 : Nat) : Int) by omega], rfl, by omega, hin, rfl, fun t ht => ?_, I.out.2⟩, by simp [intOf]; omega⟩
        have := S.out.1 t ((lo + hi) / 2) (by omega) (by omega)
        rw [Y.out.2] at this
        omega
      · go_wp2_with (first | (go_at_call 105; with_reducible refine (less105 _ _ _).mono ?_; rintro e w' ⟨rfl, rfl⟩) | (go_at_call 106; with_reducible refine (nan106 _ _).mono ?_; rintro e w' ⟨rfl, rfl⟩))
        refine ⟨⟨lo, (lo + hi) / 2, _, rfl, by rw [show ((lo : Int) + (hi : Int)) / 2 = (((lo + hi) / 2 : Nat) : Int) by omega], by omega, by omega, rfl, I.out.1, fun t ht htn => ?_⟩, by simp [intOf]; omega⟩
        have := S.out.1 ((lo + hi) / 2) t ht htn
        rw [Y.out.2] at this
        omega
    · obtain rfl : hi = lo := by omega
      obtain ⟨e1, e2⟩ := S.out.2.1 hi hin I.out.1 I.out.2
      have hnn := S.out.2.2
      have E := Lib.hid (And.intro e1 (And.intro e2 hnn))
      clear e1 e2 hnn
      by_cases hn : hi < n
      · have cl : w.cell? ⟨g, hi, none⟩ = some (.int .i64 (zs.getD hi 0)) := hc _ (by omega)
        obtain ⟨y, hy⟩ : ∃ y, zs.getD hi 0 = y := ⟨_, rfl⟩
        rw [hy] at cl
        have Y := Lib.hid (And.intro hc hy)
        clear hc hy
        by_cases hyx : y = x
        · go_wp2_with (first | (go_at_call 105; with_reducible refine (less105 _ _ _).mono ?_; rintro e w' ⟨rfl, rfl⟩) | (go_at_call 106; with_reducible refine (nan106 _ _).mono ?_; rintro e w' ⟨rfl, rfl⟩))
          refine bodyPost_ret (v := .tuple #[.int .i64 (hi : Int), .bool true]) (by simp [results, Tryz.results60, go_sem]) rfl ?_
          refine ⟨?_, _, rfl⟩
          rw [E.out.1, E.out.2.1, Y.out.2, decide_eq_true (show hi < n ∧ y = x from ⟨hn, hyx⟩)]
        · go_wp2_with (first | (go_at_call 105; with_reducible refine (less105 _ _ _).mono ?_; rintro e w' ⟨rfl, rfl⟩) | (go_at_call 106; with_reducible refine (nan106 _ _).mono ?_; rintro e w' ⟨rfl, rfl⟩))
          refine bodyPost_ret (v := .tuple #[.int .i64 (hi : Int), .bool false]) (by simp [results, Tryz.results60, go_sem, hyx]) rfl ?_
          refine ⟨?_, _, rfl⟩
          rw [E.out.1, E.out.2.1, Y.out.2, decide_eq_false (show ¬ (hi < n ∧ y = x) from fun h => hyx h.2)]
      · clear hc
        go_wp2_with (first | (go_at_call 105; with_reducible refine (less105 _ _ _).mono ?_; rintro e w' ⟨rfl, rfl⟩) | (go_at_call 106; with_reducible refine (nan106 _ _).mono ?_; rintro e w' ⟨rfl, rfl⟩))
        refine bodyPost_ret (v := .tuple #[.int .i64 (hi : Int), .bool false]) (by simp [results, Tryz.results60, go_sem]) rfl ?_
        refine ⟨?_, _, rfl⟩
        rw [E.out.1, E.out.2.1, decide_eq_false (show ¬ (hi < n ∧ zs.getD hi 0 = x) from fun h => hn h.1)]
end Go.Proofs.YtbejhkojdiadaaaGreat
