/- Join: at most 64 points. -/
import Derived.Test.YtlnikgcanimggaaGreatForest
import Derived.Test.YtlnikgcanimggaaGreatConcat
import Derived.Test.YtlnikgcanimggaaGreatFiner
set_option linter.unusedSimpArgs false
set_option linter.unusedVariables false
namespace Go.Proofs.YtlnikgcanimggaaGreat
open Go.RowKit Go.Sort Go.Shelf Plain

/-- The roots when the first j points of a cell have been united with its first one. -/
def uniC (r : Nat → Nat) (c : List Int) : Nat → (Nat → Nat)
  | 0 => r
  | j + 1 => uniteR (uniC r c j) (c[0]?.getD 0).toNat (c[j]?.getD 0).toNat
def uniL (l : List (List Int)) : Nat → (Nat → Nat)
  | 0 => id
  | k + 1 => uniC (uniL l k) (l[k]?.getD []) (l[k]?.getD []).length

set_option maxRecDepth 100000 in
set_option maxHeartbeats 2000000 in
theorem join_calls (n : Nat) (hn : n ≤ 64) (a b : Option Addr) (c d : Nat) (xs ys : List (List Int)) (w : World) (ha : Rows w a xs) (hb : Rows w b ys) (h1 : chk n xs = 0) (h2 : chk n ys = 0) :
    Calls Tryz.prog 6 #[.int .i64 n, .slice a xs.length c, .slice b ys.length d] w fun e w' => ∃ a c P, e = .returned (.tuple #[.slice a (P.map (·.map Int.ofNat)).length c, .int .i64 0]) ∧ Rows w' a (P.map (·.map Int.ofNat)) ∧ IsPart (fun x => [(uniL (xs ++ ys) (xs ++ ys).length x : Int)]) (· < n) P ∧ Below w.heap.size w w' := by
  have hgx := chk_good h1
  have hgy := chk_good h2
  have hbo := both_calls n a b c d xs ys w ha hb
  rw [h1, h2, show orL [(0 : Int), 0] = 0 by simp [orL]] at hbo
  have Hb := Lib.hid hbo
  obtain ⟨us, hus, hul, huo, hui⟩ := ha.vals
  obtain ⟨vs, hvs, hvl, hvo, hvi⟩ := hb.vals
  have hxl := hgx.len_le
  have hyl := hgy.len_le
  obtain ⟨l, hl⟩ : ∃ l, l = xs ++ ys := ⟨_, rfl⟩
  have hvals : ∀ (i : Nat) u x, (us ++ vs)[i]? = some u → l[i]? = some x → IsInts w u x := fun i u x hu hx => by
    rw [hl] at hx
    by_cases h : i < us.length
    · rw [List.getElem?_append_left h] at hu
      rw [List.getElem?_append_left (by omega)] at hx
      exact hui i u x hu hx
    · rw [List.getElem?_append_right (by omega)] at hu
      rw [List.getElem?_append_right (by omega), ← hul] at hx
      exact hvi _ u x hu hx
  have hin : InRange n l := by
    rw [hl]
    intro c hc p hp
    rcases List.mem_append.1 hc with h | h
    · exact hgx.inr c h p hp
    · exact hgy.inr c h p hp
  have hll : (us ++ vs).length = l.length := by rw [hl, List.length_append, List.length_append, hul, hvl]
  rw [← hl]
  obtain ⟨L, hL⟩ : ∃ L, L = xs.length := ⟨_, rfl⟩
  obtain ⟨M, hM⟩ : ∃ M, M = ys.length := ⟨_, rfl⟩
  rw [← hL] at Hb hul hxl ⊢
  rw [← hM] at Hb hvl hyl ⊢
  have H0 := Lib.hid (And.intro hus (And.intro hvs (And.intro huo (And.intro hvo (And.intro hul (And.intro hvl (And.intro hvals (And.intro hin hll))))))))
  obtain ⟨D, hD⟩ : ∃ D, D = w.heap.size := ⟨_, rfl⟩
  rw [← hD] at Hb ⊢
  have HD := Lib.hid hD
  clear hl hL hM hus hvs huo hvo hul hvl hui hvi hvals hin hll hbo hgx hgy h1 h2 ha hb
  go_enter Tryz.func6, Tryz.ntmps6
  go_wp2_with fail
  refine Hb.out.mono ?_
  rintro e w1 ⟨rfl, hb1⟩
  have H1 := Lib.hid hb1
  clear hb1 hD
  go_wp2_with fail
  refine (forest_calls w1).mono ?_
  rintro e w2 ⟨F, rfl, hF, hi2, hb2⟩
  have hDF : D ≤ F := by have := H1.out.size; have := HD.out; omega
  have hFl : F < w2.heap.size := by obtain ⟨fs, hf, _⟩ := hi2; exact hf.lt
  have hB2 : Below D w w2 := H1.out.trans (hb2.mono (by omega))
  obtain ⟨w2a, hw2a⟩ : ∃ x, x = w2.alloc (.cells #[.slice a L c, .slice b M d] 25) := ⟨_, rfl⟩
  have hga : w2.grownBy w2a none := by rw [hw2a]; exact grown_alloc w2 _ none
  have hB2a : Below D w w2a := hB2.grown hga (by omega) (fun k hk => by cases hk)
  have hK0 : w2a.cell? ⟨w2.heap.size, 0, none⟩ = some (.slice a L c) := by rw [hw2a]; simp [go_sem]
  have hK1 : w2a.cell? ⟨w2.heap.size, 1, none⟩ = some (.slice b M d) := by rw [hw2a]; simp [go_sem]
  have hKl : w2.heap.size < w2a.heap.size := by rw [hw2a]; simp
  have hi2a : FInv F id w2a := FInv.stable F id _ _ none hga (by simp) hi2
  have hcc := concat_calls w2.heap.size 2 L M a b c d us vs w2a (H0.out.1.below (by rw [← HD.out]; exact hB2a)) (H0.out.2.1.below (by rw [← HD.out]; exact hB2a)) H0.out.2.2.1 H0.out.2.2.2.1 H0.out.2.2.2.2.1 H0.out.2.2.2.2.2.1 hK0 hK1 hKl (by omega) (by omega)
  have Hc := Lib.hid hcc
  have H2 := Lib.hid (And.intro hi2a hB2a)
  have hFa : F < w2a.heap.size := by omega
  clear hcc hi2 hb2 hB2 hga hB2a hK0 hK1 hi2a hF
  go_wp2_with fail
  rw [← hw2a]
  clear hw2a
  refine Hc.out.mono ?_
  rintro e w3 ⟨v, rfl, ho3, hb3⟩
  have hi3 : FInv F id w3 := FInv.stable F id _ _ none (grown_below hb3 none) (by simp) H2.out.1
  have hB3 : Below D w w3 := H2.out.2.trans (hb3.mono (by have := H2.out.2.size; have := HD.out; omega))
  obtain ⟨av, cv, rfl, -⟩ := ho3.row (by rw [H0.out.2.2.2.2.2.2.2.2, ← H0.out.2.2.2.2.2.2.2.2, List.length_append, H0.out.2.2.2.2.1, H0.out.2.2.2.2.2.1]; unfold maxLen; omega)
  obtain ⟨D3, hD3⟩ : ∃ D3, D3 = w2a.heap.size := ⟨_, rfl⟩
  rw [← hD3] at ho3 hFa
  have hlen : (us ++ vs).length ≤ 128 := by rw [List.length_append, H0.out.2.2.2.2.1, H0.out.2.2.2.2.2.1]; omega
  rw [H0.out.2.2.2.2.2.2.2.2] at ho3 hlen ⊢
  obtain ⟨T, hT⟩ : ∃ T, T = l.length := ⟨_, rfl⟩
  rw [← hT] at ho3 hlen ⊢
  have HT := Lib.hid hT
  have H3 := Lib.hid (And.intro ho3 (And.intro hi3 hB3))
  clear ho3 hb3 hi3 hB3 hD3 hT H2 Hc
  go_wp2
  go_loopw [27] (fun i wr => ∃ k : Nat, k ≤ T ∧ i = .int .i64 k ∧ FInv F (uniL l k) wr ∧ w3.grownBy wr (some F)) (fun i _ => T - (intOf i).toNat)
  case atStart => exact ⟨0, by omega, rfl, H3.out.2.1, World.grownBy.refl _ _⟩
  case round =>
    obtain ⟨k, hk, rfl, hi, hg⟩ := hrel
    have Hi := Lib.hid (And.intro hi hg)
    clear hi hg
    by_cases hlt : k < T
    · have hltI : decide ((k : Int) < (T : Int)) = true := decide_eq_true (by omega)
      have hltN : decide (k < T) = true := decide_eq_true hlt
      have hkl : k < l.length := by rw [← HT.out]; exact hlt
      obtain ⟨x, hx⟩ : ∃ x, l[k]?.getD [] = x := ⟨_, rfl⟩
      have hlx : l[k]? = some x := by rw [← hx, List.getElem?_eq_getElem hkl]; rfl
      obtain ⟨u, hu⟩ : ∃ u, (us ++ vs)[k]? = some u := ⟨_, List.getElem?_eq_getElem (by rw [H0.out.2.2.2.2.2.2.2.2]; exact hkl)⟩
      obtain ⟨bu, cu, rfl, hiu⟩ := H0.out.2.2.2.2.2.2.1 k u x hu hlx
      have hxm := hiu.len
      have hread : ∀ wr, w3.grownBy wr (some F) → Ints wr bu x := fun wr hg => hiu.below (by rw [← HD.out]; exact H3.out.2.2.grown hg (by have := H3.out.2.2.size; have := HD.out; omega) (fun g hg => by cases hg; exact hDF))
      have hrange : ∀ j, j < x.length → ∃ q : Nat, x[j]?.getD 0 = (q : Int) ∧ q < n := fun j hj => by
        obtain ⟨q, hq, hqn⟩ := H0.out.2.2.2.2.2.2.2.1.at_ (k := k) (j := j) hkl (by rw [hx]; exact hj)
        rw [hx] at hq; exact ⟨q, hq, hqn⟩
      have hot := H3.out.1.kept Hi.out.2 (by
        rcases H3.out.1.blk with e | ⟨g9, _, e, hB9, _⟩
        · exact .inl e
        · right; rw [e]; intro h; cases h; omega)
      obtain ⟨gv, rfl, -, -, -⟩ := hot.at_form (by omega)
      have hct := hot.cell k (by rw [H0.out.2.2.2.2.2.2.2.2]; exact hkl)
      rw [hu] at hct
      obtain ⟨N, hN⟩ : ∃ N, N = x.length := ⟨_, rfl⟩
      rw [← hN] at hct hxm hrange
      have HN := Lib.hid hN
      have Hr := Lib.hid (And.intro hread (And.intro hrange hx))
      clear hread hrange hx hlx hu hiu hot hN
      go_wp2
      go_loopw [33] (fun j wr => ∃ j' : Nat, j' ≤ N ∧ j = .int .i64 j' ∧ FInv F (uniC (uniL l k) x j') wr ∧ w3.grownBy wr (some F)) (fun j _ => N - (intOf j).toNat)
      case atStart => exact ⟨0, by omega, rfl, Hi.out.1, Hi.out.2⟩
      case round =>
        clear Hi hct
        obtain ⟨j, hj, rfl, hi, hg⟩ := hrel
        by_cases hjl : j < N
        · obtain ⟨gb, ob, rfl, _, hc0⟩ := (Hr.out.1 wr hg).at_ (k := 0) (by rw [← HN.out]; omega)
          obtain ⟨gb', ob', e, _, hcj⟩ := (Hr.out.1 wr hg).at_ (k := j) (by rw [← HN.out]; exact hjl)
          cases e
          obtain ⟨p0, hp0, hp0n⟩ := Hr.out.2.1 0 (by omega)
          obtain ⟨pj, hpj, hpjn⟩ := Hr.out.2.1 j hjl
          rw [hp0] at hc0
          rw [hpj] at hcj
          simp only [Nat.add_zero] at hc0
          have hN0 : (0 : Int) < (N : Int) := by omega
          have hun := unite_calls F p0 pj (by omega) (by omega) (uniC (uniL l k) x j) wr hi
          have hnext : uniteR (uniC (uniL l k) x j) p0 pj = uniC (uniL l k) x (j + 1) := by rw [uniC, hp0, hpj]; rfl
          rw [hnext] at hun
          have Hu := Lib.hid (And.intro hun hg)
          clear hun hnext hp0 hpj hi hg
          go_wp2_with fail
          refine Hu.out.1.mono ?_
          rintro e w5 ⟨rfl, hg5, hi5⟩
          have H5 := Lib.hid (And.intro hi5 (grown_new Hu.out.2 hg5 (fun g hg => .inr (by cases hg; rfl))))
          clear hg5 hi5
          go_wp2
          exact ⟨⟨j + 1, by omega, by go_num, H5.out⟩, by simp [intOf]; omega⟩
        · obtain rfl : j = N := by omega
          have H5 := Lib.hid (And.intro hi hg)
          clear hi hg
          go_wp2
          refine ⟨⟨k + 1, by omega, by go_num, ?_, H5.out.2⟩, by simp [intOf]; omega⟩
          rw [uniL, Hr.out.2.2, ← HN.out]
          exact H5.out.1
    · obtain rfl : k = T := by omega
      have hpa := partitionF_calls F n hn (uniL l k) wr Hi.out.1
      have Hp := Lib.hid hpa
      clear hpa
      go_wp2_with fail
      refine Hp.out.mono ?_
      rintro e w6 ⟨a6, c6, P, rfl, hr6, hp6, hg6⟩
      have H6 := Lib.hid (And.intro hr6 (And.intro hp6 (H3.out.2.2.grown (grown_new Hi.out.2 hg6 (fun g hg => .inr (by cases hg; rfl))) (by have := H3.out.2.2.size; have := HD.out; omega) (fun g hg => by cases hg; exact hDF))))
      clear hr6 hp6 hg6
      go_wp2
      go_ret2
      exact ⟨a6, c6, P, by rw [List.length_map]; rfl, by have := H6.out; rwa [HT.out] at this⟩
end Go.Proofs.YtlnikgcanimggaaGreat
