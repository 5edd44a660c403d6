/- Meet: two points are together if they are in both. -/
import Derived.Test.YtlnikgcanimggaaGreatRefine
import Derived.Test.YtlnikgcanimggaaGreatOf
set_option linter.unusedSimpArgs false
set_option linter.unusedVariables false
namespace Go.Proofs.YtlnikgcanimggaaGreat
open Go.RowKit Go.Sort Go.Shelf Plain

set_option maxHeartbeats 400000 in
theorem orE_calls (a : Option Addr) (c : Nat) (xs : List Int) (w : World) (ha : Ints w a xs) :
    Calls Tryz.prog 44 #[.slice a xs.length c] w fun e w' => e = .returned (.int .i64 (orL xs)) ∧ w' = w := by
  have hA := Lib.hid ha
  have hmx := ha.len
  clear ha
  obtain ⟨n, hn⟩ : ∃ n, n = xs.length := ⟨_, rfl⟩
  rw [← hn]
  rw [← hn] at hmx
  have Hn := Lib.hid hn
  clear hn
  go_enter Tryz.func44, Tryz.ntmps44
  go_wp2
  go_loop [8] (fun i => ∃ k : Nat, k ≤ n ∧ i = .int .i64 k ∧ orL xs = orL (xs.drop k)) (fun i => n - (intOf i).toNat)
  case atStart => exact ⟨0, Nat.zero_le _, rfl, rfl⟩
  case round =>
    obtain ⟨k, hk, rfl, he⟩ := hrel
    have He := Lib.hid he
    clear he
    by_cases hlt : k < n
    · obtain ⟨b, o, rfl, _, hc⟩ := hA.out.at_ (k := k) (by rw [← Hn.out]; exact hlt)
      obtain ⟨x, hx⟩ : ∃ x, xs[k]?.getD 0 = x := ⟨_, rfl⟩
      rw [hx] at hc
      have Hx := Lib.hid hx
      clear hx
      by_cases h0 : x = 0
      · subst h0
        go_wp2
        exact ⟨⟨k + 1, by omega, by go_num, by rw [He.out, orL_next (by rw [← Hn.out]; exact hlt) Hx.out]⟩, by simp [intOf]; omega⟩
      · have h1 : (x != 0) = true := by simpa using h0
        have h2 : (x == 0) = false := by simpa using h0
        go_wp2
        go_ret
        exact ⟨ret_int (by rw [He.out, orL_hit (by rw [← Hn.out]; exact hlt) (by rw [Hx.out]; exact h0), Hx.out]), rfl⟩
    · go_wp2
      go_ret
      exact ⟨ret_int (by rw [He.out, drop_all (by rw [← Hn.out]; omega)]; rfl), rfl⟩

set_option maxHeartbeats 400000 in
theorem both_calls (n : Int) (a b : Option Addr) (c d : Nat) (xs ys : List (List Int)) (w : World) (ha : Rows w a xs) (hb : Rows w b ys) :
    Calls Tryz.prog 19 #[.int .i64 n, .slice a xs.length c, .slice b ys.length d] w fun e w' => e = .returned (.int .i64 (orL [chk n xs, chk n ys])) ∧ Below w.heap.size w w' := by
  have h1 := Lib.hid (check_calls n a c xs w ha)
  have h2 := Lib.hid (fun (w1 : World) (h : Below w.heap.size w w1) => check_calls n b d ys w1 (hb.below h))
  obtain ⟨L, hL⟩ : ∃ L, L = xs.length := ⟨_, rfl⟩
  obtain ⟨M, hM⟩ : ∃ M, M = ys.length := ⟨_, rfl⟩
  rw [← hL] at h1 ⊢
  rw [← hM] at h2 ⊢
  clear hL hM ha hb
  obtain ⟨p, hp⟩ : ∃ p, chk n xs = p := ⟨_, rfl⟩
  obtain ⟨q, hq⟩ : ∃ p, chk n ys = p := ⟨_, rfl⟩
  rw [hp] at h1 ⊢
  rw [hq] at h2 ⊢
  clear hp hq
  go_enter Tryz.func19, Tryz.ntmps19
  go_wp2_with fail
  refine h1.out.mono ?_
  rintro e w1 ⟨rfl, hb1⟩
  have H1 := Lib.hid hb1
  clear hb1
  go_wp2_with fail
  refine (h2.out w1 H1.out).mono ?_
  rintro e w2 ⟨rfl, hb2⟩
  have H2 := Lib.hid (H1.out.trans (hb2.mono H1.out.size))
  clear hb2
  have hown := Own.new (w := w2) (B := 0) 22 (ints [p, q]) (Nat.zero_le _) (by unfold maxLen; simp [ints])
  have Ho := Lib.hid (orE_calls (some ⟨w2.heap.size, 0, none⟩) 2 [p, q] _ (hown.toInts (by unfold maxLen; simp)))
  clear hown
  go_wp2_with (go_at_call 44; refine Ho.out.mono ?_; rintro e w' ⟨rfl, rfl⟩)
  go_ret
  exact ⟨rfl, H2.out.alloc H2.out.size _⟩

def labs (n : Nat) (l : List (List Int)) (x : Nat) : Int := (labelsL n l)[x]?.getD 0
set_option maxRecDepth 100000 in
set_option maxHeartbeats 1000000 in
theorem meet1_calls (w : World) (B1 B2 n : Nat) (la lb : List Int) (a b : Option Addr) (c d : Nat) (h1 : w.cell? ⟨B1, 0, none⟩ = some (.slice a n c)) (h2 : w.cell? ⟨B2, 0, none⟩ = some (.slice b n d)) (ha : Ints w a la) (hb : Ints w b lb)
    (hna : la.length = n) (hnb : lb.length = n) (hba : ∀ x ∈ la, 0 ≤ x ∧ x ≤ 1000000) (hbb : ∀ x ∈ lb, 0 ≤ x ∧ x ≤ 1000000) (x y : Nat) (hx : x < n) (hy : y < n) :
    Calls Tryz.prog 59 #[.int .i64 x, .int .i64 y, .pointer (some ⟨B1, 0, none⟩), .pointer (some ⟨B2, 0, none⟩)] w fun e w' => e = .returned (.int .i64 (orL [la[x]?.getD 0 - la[y]?.getD 0, lb[x]?.getD 0 - lb[y]?.getD 0])) ∧ Grew w w' := by
  have bd : ∀ (l : List Int), (∀ x ∈ l, 0 ≤ x ∧ x ≤ 1000000) → l.length = n → ∀ i, i < n → 0 ≤ l[i]?.getD 0 ∧ l[i]?.getD 0 ≤ 1000000 := fun l h hl i hi => by
    rw [List.getElem?_eq_getElem (by omega)]; exact h _ (List.getElem_mem _)
  have b1 := bd la hba hna x hx
  have b2 := bd la hba hna y hy
  have b3 := bd lb hbb hnb x hx
  have b4 := bd lb hbb hnb y hy
  obtain ⟨g, o, rfl, hg, hax⟩ := ha.at_ (k := x) (by rw [hna]; exact hx)
  obtain ⟨g', o', e3, _, hay⟩ := ha.at_ (k := y) (by rw [hna]; exact hy)
  cases e3
  obtain ⟨k, u, rfl, hk, hbx⟩ := hb.at_ (k := x) (by rw [hnb]; exact hx)
  obtain ⟨k', u', e3, _, hby⟩ := hb.at_ (k := y) (by rw [hnb]; exact hy)
  cases e3
  obtain ⟨p1, hp1⟩ : ∃ p, la[x]?.getD 0 = p := ⟨_, rfl⟩
  obtain ⟨p2, hp2⟩ : ∃ p, la[y]?.getD 0 = p := ⟨_, rfl⟩
  obtain ⟨p3, hp3⟩ : ∃ p, lb[x]?.getD 0 = p := ⟨_, rfl⟩
  obtain ⟨p4, hp4⟩ : ∃ p, lb[y]?.getD 0 = p := ⟨_, rfl⟩
  rw [hp1] at hax b1 ⊢
  rw [hp2] at hay b2 ⊢
  rw [hp3] at hbx b3 ⊢
  rw [hp4] at hby b4 ⊢
  have hw1 : IntKind.i64.wrap (p1 - p2) = p1 - p2 := IntWalk.i64_in _ (by omega)
  have hw2 : IntKind.i64.wrap (p3 - p4) = p3 - p4 := IntWalk.i64_in _ (by omega)
  have hxn : (x : Int) < n := by omega
  have hyn : (y : Int) < n := by omega
  have hown := Own.new (w := w.drewN 1) (B := 0) 3 (ints [p1 - p2, p3 - p4]) (Nat.zero_le _) (by unfold maxLen; simp [ints])
  have Ho := Lib.hid (or_calls (some ⟨w.heap.size, 0, none⟩) 2 [p1 - p2, p3 - p4] _ (hown.toInts (by unfold maxLen; simp)))
  clear hown hp1 hp2 hp3 hp4 b1 b2 b3 b4 bd ha hb hna hnb hba hbb hg hk
  go_enter Tryz.func59, Tryz.ntmps59
  go_wp2
  go_still_tail 18, (by kernel_rfl)
  change wpList _ _ _ _ _ (w.drewN 1)
  go_wp2_with (go_at_call 38; refine Ho.out.mono ?_; rintro e w' ⟨rfl, rfl⟩)
  go_ret
  exact ⟨rfl, ((Grew.refl w).drewN 1).alloc _⟩
end Go.Proofs.YtlnikgcanimggaaGreat
namespace Go.Proofs.YtlnikgcanimggaaGreat
open Go.RowKit Go.Sort Go.Shelf Plain
theorem labelsL_bound {n : Nat} {l : List (List Int)} (hg : Plain.Good n l) (hn : n ≤ 64) : ∀ x ∈ labelsL n l, 0 ≤ x ∧ x ≤ 1000000 := by
  intro x hx
  obtain ⟨q, hq⟩ := List.mem_iff_getElem?.1 hx
  have hqM : q < n := by have := (List.getElem?_eq_some_iff.1 hq).1; rw [labelsL_len] at this; exact this
  obtain ⟨k, c9, hk, _, _, hl9⟩ := hg.cell hqM
  rw [hl9] at hq
  cases hq
  have := hg.len_le
  omega
theorem orL_two {a b c d : Int} : (orL [a - c, b - d] < 0 ↔ cmpL [a, b] [c, d] < 0) ∧ (orL [a - c, b - d] = 0 ↔ [a, b] = [c, d]) := by
  unfold orL orL orL
  by_cases h1 : a < c
  · rw [cmpL_lt h1, if_pos (by omega)]
    simp only [List.cons.injEq]
    exact ⟨by omega, by omega⟩
  · by_cases h2 : c < a
    · rw [cmpL_gt h2, if_pos (by omega)]
      simp only [List.cons.injEq]
      exact ⟨by omega, by omega⟩
    · have e : a = c := by omega
      subst e
      rw [cmpL_eq rfl, if_neg (by omega)]
      by_cases h3 : b < d
      · rw [cmpL_lt h3, if_pos (by omega)]; simp; omega
      · by_cases h4 : d < b
        · rw [cmpL_gt h4, if_pos (by omega)]; simp; omega
        · have e : b = d := by omega
          subst e
          rw [if_neg (by omega)]; simp [cmpL]

set_option maxRecDepth 100000 in
set_option maxHeartbeats 1000000 in
theorem meet_calls (n : Nat) (a b : Option Addr) (c d : Nat) (xs ys : List (List Int)) (w : World) (ha : Rows w a xs) (hb : Rows w b ys) (h1 : chk n xs = 0) (h2 : chk n ys = 0) :
    Calls Tryz.prog 42 #[.int .i64 n, .slice a xs.length c, .slice b ys.length d] w fun e w' => ∃ a c P, e = .returned (.tuple #[.slice a (P.map (·.map Int.ofNat)).length c, .int .i64 0]) ∧ Rows w' a (P.map (·.map Int.ofNat)) ∧ IsPart (fun x => [(labelsL n xs)[x]?.getD 0, (labelsL n ys)[x]?.getD 0]) (· < n) P ∧ Below w.heap.size w w' := by
  obtain ⟨hn0, hn64, _⟩ := chk_zero h1
  have hn64 : n ≤ 64 := by omega
  have hgx := chk_good h1
  have hgy := chk_good h2
  have hbo := both_calls n a b c d xs ys w ha hb
  have h0 : orL [(0 : Int), 0] = 0 := by simp [orL]
  rw [h1, h2, h0] at hbo
  have Hb := Lib.hid hbo
  have Hx := Lib.hid (fun (w1 : World) (h : Below w.heap.size w w1) => labels_calls n a c xs w1 (ha.below h) (by omega) hgx.inr)
  have Hy := Lib.hid (fun (w1 : World) (h : Below w.heap.size w w1) => labels_calls n b d ys w1 (hb.below h) (by omega) hgy.inr)
  have H := Lib.hid (And.intro (labelsL_len n xs) (And.intro (labelsL_len n ys) (And.intro (labelsL_bound hgx hn64) (labelsL_bound hgy hn64))))
  obtain ⟨la, hla⟩ : ∃ x, labelsL n xs = x := ⟨_, rfl⟩
  obtain ⟨lb, hlb⟩ : ∃ x, labelsL n ys = x := ⟨_, rfl⟩
  rw [hla] at Hx H ⊢
  rw [hlb] at Hy H ⊢
  obtain ⟨L, hL⟩ : ∃ L, L = xs.length := ⟨_, rfl⟩
  obtain ⟨M, hM⟩ : ∃ M, M = ys.length := ⟨_, rfl⟩
  rw [← hL] at Hb Hx ⊢
  rw [← hM] at Hb Hy ⊢
  clear hL hM ha hb h1 h2 hgx hgy hbo h0 hla hlb hn0
  go_enter Tryz.func42, Tryz.ntmps42
  go_wp2_with fail
  refine Hb.out.mono ?_
  rintro e w1 ⟨rfl, hb1⟩
  have H1 := Lib.hid hb1
  clear hb1
  go_wp2_with fail
  refine (Hx.out w1 H1.out).mono ?_
  rintro e w2 ⟨u, rfl, hu, hb2⟩
  obtain ⟨ua, uc, rfl, -⟩ := hu.row (by rw [ints_len, H.out.1]; unfold maxLen; omega)
  rw [ints_len, H.out.1] at hu ⊢
  have H2 := Lib.hid (And.intro hu (H1.out.trans (hb2.mono H1.out.size)))
  clear hu hb2
  go_wp2_with fail
  refine (Hy.out w2 H2.out.2).mono ?_
  rintro e w3 ⟨v, rfl, hv, hb3⟩
  obtain ⟨va, vc, rfl, -⟩ := hv.row (by rw [ints_len, H.out.2.1]; unfold maxLen; omega)
  rw [ints_len, H.out.2.1] at hv ⊢
  have hu3 : Own w3 w1.heap.size (.slice ua n uc) 3 (ints la) := H2.out.1.kept (grown_below hb3 (some w2.heap.size)) (by
    rcases H2.out.1.blk with e | ⟨g9, _, e, _, hl9, _⟩
    · exact .inl e
    · right; rw [e]; intro h; cases h; omega)
  have hb9 : Below w.heap.size w w3 := H2.out.2.trans (hb3.mono H2.out.2.size)
  have hbb : Below w.heap.size w ((w3.alloc (.cells #[.slice ua n uc] 24)).alloc (.cells #[.slice va n vc] 24)) := (hb9.alloc hb9.size _).alloc (by have := hb9.size; simp; omega) _
  have hc1 : ((w3.alloc (.cells #[.slice ua n uc] 24)).alloc (.cells #[.slice va n vc] 24)).cell? ⟨w3.heap.size, 0, none⟩ = some (.slice ua n uc) := by simp [go_sem]
  have hc2 : ((w3.alloc (.cells #[.slice ua n uc] 24)).alloc (.cells #[.slice va n vc] 24)).cell? ⟨w3.heap.size + 1, 0, none⟩ = some (.slice va n vc) := by simp [go_sem]
  have hi1 : Ints ((w3.alloc (.cells #[.slice ua n uc] 24)).alloc (.cells #[.slice va n vc] 24)) ua la := ((hu3.alloc _).alloc _).toInts (by rw [H.out.1]; unfold maxLen; omega)
  have hi2 : Ints ((w3.alloc (.cells #[.slice ua n uc] 24)).alloc (.cells #[.slice va n vc] 24)) va lb := ((hv.alloc _).alloc _).toInts (by rw [H.out.2.1]; unfold maxLen; omega)
  have hok : CmpOk ((w3.alloc (.cells #[.slice ua n uc] 24)).alloc (.cells #[.slice va n vc] 24)) 59 #[.pointer (some ⟨w3.heap.size, 0, none⟩), .pointer (some ⟨w3.heap.size + 1, 0, none⟩)] n (fun x y => orL [la[x]?.getD 0 - la[y]?.getD 0, lb[x]?.getD 0 - lb[y]?.getD 0]) :=
    ⟨enters_of Tryz.func59 (by kernel_rfl) rfl, fun W hW x y hx hy => meet1_calls W w3.heap.size (w3.heap.size + 1) n la lb ua va uc vc (by rw [hW.cell (by simp; omega)]; exact hc1) (by rw [hW.cell (by simp)]; exact hc2) (hi1.below hW) (hi2.below hW) H.out.1 H.out.2.1 H.out.2.2.1 H.out.2.2.2 x y hx hy⟩
  have hg := grouped_calls n (by omega) (fun x => [la[x]?.getD 0, lb[x]?.getD 0]) 59 _ _ _ hok (fun x y _ _ => orL_two)
  have H3 := Lib.hid (And.intro hg hbb)
  clear hg hbb hok hi1 hi2 hc1 hc2 hb9 hu3 hv hb3
  go_wp2_with (go_at_call 36; refine H3.out.1.mono ?_; rintro e w5 ⟨a1, c1, P, rfl, hr, hp, hb1⟩; have H5 := Lib.hid (And.intro hr (And.intro hp hb1)); clear hr hp hb1)
  go_ret2
  exact ⟨a1, c1, P, by rw [List.length_map]; rfl, H5.out.1, H5.out.2.1, H3.out.2.trans (H5.out.2.2.mono H3.out.2.size)⟩
end Go.Proofs.YtlnikgcanimggaaGreat
