/- The reference's Finer, Meet, Join. · The reference's Meet and Join. · The reference's Join. · CellsPairs answers true, and leaves what stood. · CellsPairs: the row, over its walk. -/
import Derived.Test.YtlnikgcanimggaaFiner
import Derived.Test.YtlnikgcanimggaaOfs
import Derived.Test.YtlnikgcanimggaaLabels
import Derived.Test.YtlnikgcanimggaaOrbitsR
import Derived.Test.YtlnikgcanimggaaClosed
import Derived.Test.YtlnikgcanimggaaAwake
import Derived.Test.YtlnikgcanimggaaRows
import Derived.Test.YtlnikgcanimggaaOpen
import Derived.Deep.RegionHeld3
import Derived.Deep.AppendLies
import Derived.Carry
import Derived.RowKit
import Derived.RowKit2
import Derived.RowKit3
import Derived.ProofKit
import Derived.JoinedFifth
import Derived.OpenShut
set_option linter.unusedSimpArgs false
set_option linter.unusedVariables false
namespace Go.Proofs.Ytlnikgcanimggaa
open Go.RowKit Go.Sort Go.Shelf Plain

set_option maxRecDepth 100000 in
set_option maxHeartbeats 1000000 in
theorem bothR_calls (n : Int) (a b : Option Addr) (c d : Nat) (xs ys : List (List Int)) (w : World) (ha : Rows w a xs) (hb : Rows w b ys) :
    Calls Try.prog 69 #[.int .i64 n, .slice a xs.length c, .slice b ys.length d] w fun e w' => e = .returned (.int .i64 (orL [chk n xs, chk n ys])) ∧ Below w.heap.size w w' := by
  have h1 := Lib.hid (checkR_calls n a c xs w ha)
  have h2 := Lib.hid (fun (w1 : World) (h : Below w.heap.size w w1) => checkR_calls n b d ys w1 (hb.below h))
  obtain ⟨L, hL⟩ : ∃ L, L = xs.length := ⟨_, rfl⟩
  obtain ⟨M, hM⟩ : ∃ M, M = ys.length := ⟨_, rfl⟩
  rw [← hL] at h1 ⊢
  rw [← hM] at h2 ⊢
  clear hL hM ha hb
  obtain ⟨p, hp⟩ : ∃ p, chk n xs = p := ⟨_, rfl⟩
  obtain ⟨q, hq⟩ : ∃ p, chk n ys = p := ⟨_, rfl⟩
  rw [hp] at h1 ⊢
  rw [hq] at h2 ⊢
  rw [orL_pair]
  clear hp hq
  obtain ⟨r, hr⟩ : ∃ r, (if p ≠ 0 then p else q) = r := ⟨_, rfl⟩
  rw [hr]
  have Hr := Lib.hid hr
  clear hr
  by_cases h0 : p = 0
  · subst h0
    go_enter Try.func69, Try.ntmps69
    go_wp2_with fail
    refine h1.out.mono ?_
    rintro e w1 ⟨rfl, hb1⟩
    have H1 := Lib.hid hb1
    clear hb1
    go_wp2_with fail
    refine (h2.out w1 H1.out).mono ?_
    rintro e w2 ⟨rfl, hb2⟩
    have H2 := Lib.hid (H1.out.trans (hb2.mono H1.out.size))
    clear hb2
    go_wp2
    go_ret
    exact ⟨ret_int (by rw [← Hr.out]; simp), H2.out⟩
  · have h0I : (p != 0) = true := by simpa using h0
    have Hp := Lib.hid h0
    clear h0
    go_enter Try.func69, Try.ntmps69
    go_wp2_with fail
    refine h1.out.mono ?_
    rintro e w1 ⟨rfl, hb1⟩
    have H1 := Lib.hid hb1
    clear hb1
    go_wp2
    go_ret
    exact ⟨ret_int (by rw [← Hr.out, if_pos Hp.out]), H1.out⟩

set_option maxRecDepth 100000 in
set_option maxHeartbeats 1000000 in
theorem finer0_calls (N : Nat) (hN64 : N ≤ 64) (a b : Option Addr) (c d : Nat) (xs ys : List (List Int)) (w : World) (ha : Rows w a xs) (hb : Rows w b ys) (hgx : InRange N xs) (hgy : InRange N ys) :
    Calls Try.prog 70 #[.int .i64 N, .slice a xs.length c, .slice b ys.length d] w fun e w' => ∃ r : Bool, e = .returned (.bool r) ∧ (r = true ↔ OneLabel (labelsL N ys) xs) ∧ Below w.heap.size w w' := by
  have Hy := Lib.hid (labelsR_calls N b d ys w hb (by omega) hgy)
  have hml := ha.len
  have H0 := Lib.hid (And.intro ha (And.intro hgx (labelsL_len N ys)))
  obtain ⟨lb, hlb⟩ : ∃ x, labelsL N ys = x := ⟨_, rfl⟩
  rw [hlb] at Hy H0 ⊢
  have hOne : OneLabel lb xs ↔ ∀ i, i < xs.length → ∀ k, k < (xs[i]?.getD []).length → lb[((xs[i]?.getD [])[k]?.getD 0).toNat]?.getD 0 = lb[((xs[i]?.getD [])[0]?.getD 0).toNat]?.getD 0 := Iff.rfl
  obtain ⟨L, hL⟩ : ∃ L, L = xs.length := ⟨_, rfl⟩
  obtain ⟨M, hM⟩ : ∃ M, M = ys.length := ⟨_, rfl⟩
  rw [← hL] at hml hOne ⊢
  rw [← hM] at Hy ⊢
  have HL := Lib.hid hL
  have HO := Lib.hid hOne
  clear hL hM ha hb hgx hgy hlb hOne
  go_enter Try.func70, Try.ntmps70
  go_wp2_with fail
  refine Hy.out.mono ?_
  rintro e w2 ⟨u, rfl, hu, hb2⟩
  obtain ⟨ua, uc, rfl, -⟩ := hu.row (by rw [ints_len, H0.out.2.2]; unfold maxLen; omega)
  rw [ints_len, H0.out.2.2] at hu ⊢
  have H2 := Lib.hid (And.intro (hu.toInts (by rw [H0.out.2.2]; unfold maxLen; omega)) (And.intro hb2 (H0.out.1.below hb2)))
  clear hu hb2
  go_wp2
  go_loopw [8] (fun i wr => ∃ i' q : Nat, i' ≤ L ∧ i = .int .i64 i' ∧ wr = w2.drewN q ∧ (∀ i, i < i' → ∀ k, k < (xs[i]?.getD []).length → lb[((xs[i]?.getD [])[k]?.getD 0).toNat]?.getD 0 = lb[((xs[i]?.getD [])[0]?.getD 0).toNat]?.getD 0)) (fun i _ => L - (intOf i).toNat)
  case atStart => exact ⟨0, 0, by omega, rfl, rfl, fun i hi => by omega⟩
  case round =>
    obtain ⟨i, q, hi, rfl, rfl, hP⟩ := hrel
    have HP := Lib.hid hP
    clear hP
    by_cases hiL : i < L
    · have hiT : decide (i < L) = true := decide_eq_true hiL
      obtain ⟨g, o, b', cc, rfl, _, hcell, hints⟩ := H2.out.2.2.at_ (k := i) (by rw [← HL.out]; exact hiL)
      obtain ⟨C, hC⟩ : ∃ x, xs[i]?.getD [] = x := ⟨_, rfl⟩
      rw [hC] at hcell hints
      have hCl := hints.len
      have hCr : ∀ k, k < C.length → ∃ q : Nat, C[k]?.getD 0 = (q : Int) ∧ q < N := fun k hk => by
        obtain ⟨q, hq, hqn⟩ := H0.out.2.1.at_ (k := i) (j := k) (by rw [← HL.out]; exact hiL) (by rw [hC]; exact hk)
        rw [hC] at hq; exact ⟨q, hq, hqn⟩
      obtain ⟨K, hK⟩ : ∃ x, x = C.length := ⟨_, rfl⟩
      rw [← hK] at hcell hCl hCr
      have H3 := Lib.hid (And.intro hints (And.intro hC (And.intro hK hCr)))
      have hi0 : (i : Int) < (L : Int) := by omega
      clear hints hC hK hCr
      go_wp2
      go_loopw [9] (fun k wr => ∃ k' q : Nat, k' ≤ K ∧ k = .int .i64 k' ∧ wr = w2.drewN q ∧ (∀ k, k < k' → lb[(C[k]?.getD 0).toNat]?.getD 0 = lb[(C[0]?.getD 0).toNat]?.getD 0)) (fun k _ => K - (intOf k).toNat)
      case atStart => exact ⟨0, q, by omega, rfl, rfl, fun k h1 => by omega⟩
      case round =>
        obtain ⟨k, q, hkK, rfl, rfl, hQ⟩ := hrel
        have HQ := Lib.hid hQ
        clear hQ
        by_cases hkl : k < K
        · have hkT : decide (k < K) = true := decide_eq_true hkl
          obtain ⟨gb, ob, rfl, _, hc0⟩ := H3.out.1.at_ (k := 0) (by rw [← H3.out.2.2.1]; omega)
          obtain ⟨gb', ob', e, _, hck⟩ := H3.out.1.at_ (k := k) (by rw [← H3.out.2.2.1]; exact hkl)
          cases e
          obtain ⟨p0, hp0, hp0n⟩ := H3.out.2.2.2 0 (by omega)
          obtain ⟨pk, hpk, hpkn⟩ := H3.out.2.2.2 k hkl
          rw [hp0] at hc0
          rw [hpk] at hck
          simp only [Nat.add_zero] at hc0
          have hK0 : (0 : Int) < (K : Int) := by omega
          have hk0 : (k : Int) < (K : Int) := by omega
          have hp0I : (p0 : Int) < (N : Int) := by omega
          have hpkI : (pk : Int) < (N : Int) := by omega
          obtain ⟨gl, ol, rfl, _, hl0⟩ := H2.out.1.at_ (k := p0) (by rw [H0.out.2.2]; exact hp0n)
          obtain ⟨gl', ol', e, _, hlk⟩ := H2.out.1.at_ (k := pk) (by rw [H0.out.2.2]; exact hpkn)
          cases e
          obtain ⟨y0, hy0⟩ : ∃ y, lb[p0]?.getD 0 = y := ⟨_, rfl⟩
          obtain ⟨yk, hyk⟩ : ∃ y, lb[pk]?.getD 0 = y := ⟨_, rfl⟩
          rw [hy0] at hl0
          rw [hyk] at hlk
          have heq : lb[(C[k]?.getD 0).toNat]?.getD 0 = lb[(C[0]?.getD 0).toNat]?.getD 0 ↔ yk = y0 := by
            rw [hpk, hp0, Int.toNat_natCast, Int.toNat_natCast, hyk, hy0]
          have Heq := Lib.hid heq
          clear hp0 hpk hy0 hyk heq
          by_cases hyy : yk = y0
          · subst hyy
            go_wp2
            go_quiet (fail)
            go_wp2
            refine ⟨⟨k + 1, _, by omega, by go_num, rfl, fun k' hk' => ?_⟩, by simp [intOf]; omega⟩
            by_cases e : k' = k
            · rw [e]; exact Heq.out.2 (by first | rfl | trivial)
            · exact HQ.out k' (by omega)
          · have hne : (yk != y0) = true := by simpa using hyy
            go_wp2
            go_quiet (fail)
            go_wp2
            go_ret
            refine ⟨false, rfl, ⟨fun h => (by cases h), fun h => absurd (Heq.out.1 ?_) hyy⟩, below_drewN (below_drewN H2.out.2.1 _) _⟩
            have := HO.out.1 h i hiL k (by rw [H3.out.2.1, ← H3.out.2.2.1]; exact hkl)
            rwa [H3.out.2.1] at this
        · have hkT : decide (k < K) = false := decide_eq_false hkl
          obtain rfl : k = K := by omega
          go_wp2
          refine ⟨⟨i + 1, q, by omega, by go_num, rfl, fun i' hi' => ?_⟩, by simp [intOf]; omega⟩
          by_cases e : i' = i
          · rw [e, H3.out.2.1, ← H3.out.2.2.1]; exact HQ.out
          · exact HP.out i' (by omega)
    · have hiT : decide (i < L) = false := decide_eq_false hiL
      obtain rfl : i = L := by omega
      go_wp2
      go_ret
      exact ⟨true, rfl, ⟨fun _ => HO.out.2 HP.out, fun _ => rfl⟩, below_drewN H2.out.2.1 _⟩

set_option maxRecDepth 100000 in
set_option maxHeartbeats 1000000 in
theorem finerR_calls (n : Int) (a b : Option Addr) (c d : Nat) (xs ys : List (List Int)) (w : World) (ha : Rows w a xs) (hb : Rows w b ys) :
    Calls Try.prog 38 #[.int .i64 n, .slice a xs.length c, .slice b ys.length d] w fun e w' => ∃ r : Bool, e = .returned (.tuple #[.bool r, .int .i64 (orL [chk n xs, chk n ys])]) ∧ (orL [chk n xs, chk n ys] ≠ 0 → r = false) ∧ (orL [chk n xs, chk n ys] = 0 → (r = true ↔ OneLabel (labelsL n.toNat ys) xs)) ∧ Below w.heap.size w w' := by
  have hbo := Lib.hid (bothR_calls n a b c d xs ys w ha hb)
  by_cases h0 : orL [chk n xs, chk n ys] = 0
  · obtain ⟨h1, h2⟩ := orL_pair0 h0
    obtain ⟨hn0, hn64, _⟩ := chk_zero h1
    obtain ⟨N, rfl⟩ := Int.eq_ofNat_of_zero_le hn0
    have hgx := chk_in h1
    have hgy := chk_in h2
    have Hf := Lib.hid (fun (w1 : World) (h : Below w.heap.size w w1) => finer0_calls N (by omega) a b c d xs ys w1 (ha.below h) (hb.below h) hgx hgy)
    simp only [h0] at hbo ⊢
    rw [show ((N : Int)).toNat = N by omega]
    obtain ⟨L, hL⟩ : ∃ L, L = xs.length := ⟨_, rfl⟩
    obtain ⟨M, hM⟩ : ∃ M, M = ys.length := ⟨_, rfl⟩
    rw [← hL] at hbo Hf ⊢
    rw [← hM] at hbo Hf ⊢
    clear hL hM ha hb h0 h1 h2 hgx hgy hn0 hn64
    go_enter Try.func38, Try.ntmps38
    go_wp2_with fail
    refine hbo.out.mono ?_
    rintro e w1 ⟨rfl, hb1⟩
    have H1 := Lib.hid hb1
    clear hb1
    go_wp2_with fail
    refine (Hf.out w1 H1.out).mono ?_
    rintro e w2 ⟨r, rfl, hr, hb2⟩
    have H2 := Lib.hid (And.intro hr (H1.out.trans (hb2.mono H1.out.size)))
    clear hr hb2
    go_wp2
    go_ret2
    exact ⟨r, rfl, fun h => absurd rfl h, fun _ => H2.out.1, H2.out.2⟩
  · obtain ⟨E, hE⟩ : ∃ E, orL [chk n xs, chk n ys] = E := ⟨_, rfl⟩
    simp only [hE] at hbo h0 ⊢
    have hE1 : (E != 0) = true := by simpa using h0
    have HE := Lib.hid h0
    obtain ⟨L, hL⟩ : ∃ L, L = xs.length := ⟨_, rfl⟩
    obtain ⟨M, hM⟩ : ∃ M, M = ys.length := ⟨_, rfl⟩
    rw [← hL] at hbo ⊢
    rw [← hM] at hbo ⊢
    clear hE hL hM ha hb h0
    go_enter Try.func38, Try.ntmps38
    go_wp2_with fail
    refine hbo.out.mono ?_
    rintro e w1 ⟨rfl, hb1⟩
    have H1 := Lib.hid hb1
    clear hb1
    go_wp2
    go_ret2
    exact ⟨false, rfl, fun _ => rfl, fun h => absurd h HE.out, H1.out⟩
end Go.Proofs.Ytlnikgcanimggaa

namespace Go.Proofs.Ytlnikgcanimggaa
open Go.RowKit Go.Sort Go.Shelf Plain

def two (lx ly : List Int) (i : Nat) : List Int := [lx[i]?.getD 0, ly[i]?.getD 0]
set_option maxRecDepth 100000 in
set_option maxHeartbeats 2000000 in
theorem meetR_calls (N : Nat) (hN64 : N ≤ 64) (a b : Option Addr) (c d : Nat) (xs ys : List (List Int)) (w : World) (ha : Rows w a xs) (hb : Rows w b ys) (h1 : chk N xs = 0) (h2 : chk N ys = 0) :
    Calls Try.prog 39 #[.int .i64 N, .slice a xs.length c, .slice b ys.length d] w fun e w' => ∃ a c, e = .returned (.tuple #[.slice a (collect ((List.range N).map (two (labelsL N xs) (labelsL N ys)))).length c, .int .i64 0]) ∧ Rows w' a (collect ((List.range N).map (two (labelsL N xs) (labelsL N ys)))) ∧ Below w.heap.size w w' := by
  obtain ⟨i29, hi29, hz29, hs29, hb29⟩ := info_parts Try.info29
  have I29 := Lib.hid (And.intro hi29 (And.intro hz29 (And.intro hs29 hb29)))
  clear hi29 hz29 hs29 hb29
  have hbo := bothR_calls N a b c d xs ys w ha hb
  rw [h1, h2, show orL [(0 : Int), 0] = 0 by simp [orL]] at hbo
  have Hb := Lib.hid hbo
  have hgx := chk_in h1
  have hgy := chk_in h2
  have hmx := ha.len
  have hmy := hb.len
  have Hx := Lib.hid (fun (w1 : World) (h : Below w.heap.size w w1) => labelsR_calls N a c xs w1 (ha.below h) (by omega) hgx)
  have Hy := Lib.hid (fun (w1 : World) (h : Below w.heap.size w w1) => labelsR_calls N b d ys w1 (hb.below h) (by omega) hgy)
  obtain ⟨lx, hlx⟩ : ∃ x, labelsL N xs = x := ⟨_, rfl⟩
  obtain ⟨ly, hly⟩ : ∃ x, labelsL N ys = x := ⟨_, rfl⟩
  have hxl : lx.length = N := by rw [← hlx]; exact labelsL_len N xs
  have hyl : ly.length = N := by rw [← hly]; exact labelsL_len N ys
  simp only [hlx, hly] at Hx Hy ⊢
  obtain ⟨L, hL⟩ : ∃ L, L = xs.length := ⟨_, rfl⟩
  obtain ⟨M, hM⟩ : ∃ M, M = ys.length := ⟨_, rfl⟩
  rw [← hL] at Hb Hx hmx ⊢
  rw [← hM] at Hb Hy hmy ⊢
  have Hl := Lib.hid (And.intro hxl hyl)
  obtain ⟨D, hD⟩ : ∃ D, D = w.heap.size := ⟨_, rfl⟩
  rw [← hD]
  rw [← hD] at Hb Hx Hy
  have HD := Lib.hid hD
  have hDw : D ≤ w.heap.size := by omega
  clear hbo hgx hgy hlx hly hxl hyl hL hM ha hb h1 h2 hD
  go_enter Try.func39, Try.ntmps39
  go_wp2_with fail
  refine Hb.out.mono ?_
  rintro e w1 ⟨rfl, hb1⟩
  have H1 := Lib.hid hb1
  clear hb1
  go_wp2_with fail
  refine (Hx.out w1 H1.out).mono ?_
  rintro e w2 ⟨v, rfl, ho2, hb2⟩
  have hB2 := H1.out.trans (hb2.mono (by have := H1.out.size; omega))
  have H2 := Lib.hid (And.intro ho2 hB2)
  clear ho2 hb2 hB2
  go_wp2_with fail
  refine (Hy.out w2 H2.out.2).mono ?_
  rintro e w3 ⟨u, rfl, ho3, hb3⟩
  have ho23 := H2.out.1.kept (grown_below hb3 none) (by rcases H2.out.1.blk with e | ⟨g, _, e, _⟩ <;> rw [e] <;> simp)
  obtain ⟨xa, xc, rfl, -⟩ := ho23.row (by rw [ints_len, Hl.out.1]; unfold maxLen; omega)
  obtain ⟨ya, yc, rfl, -⟩ := ho3.row (by rw [ints_len, Hl.out.2]; unfold maxLen; omega)
  have hil : (ints lx).length = N := by rw [ints_len, Hl.out.1]
  have hil2 : (ints ly).length = N := by rw [ints_len, Hl.out.2]
  rw [hil] at ho23 ⊢
  rw [hil2] at ho3 ⊢
  clear hil hil2
  have hB3 := H2.out.2.trans (hb3.mono (by have := H2.out.2.size; omega))
  have hD3 : D ≤ w3.heap.size := by have := hB3.size; omega
  obtain ⟨E, hE⟩ : ∃ E, E = w3.heap.size := ⟨_, rfl⟩
  have hDE : D ≤ E := by omega
  have hix := ho23.toInts (by rw [Hl.out.1]; unfold maxLen; omega)
  have hiy := ho3.toInts (by rw [Hl.out.2]; unfold maxLen; omega)
  have H0 := Lib.hid (fun (wr : World) (hb : Below E w3 wr) => And.intro (hix.below (by rw [← hE]; exact hb)) (hiy.below (by rw [← hE]; exact hb)))
  have H3 := Lib.hid hB3
  have HE := Lib.hid hE
  clear ho23 ho3 hb3 hB3 hix hiy hE H2
  go_wp2
  go_loopw [11, 12] (fun v kk wr => ∃ (j : Nat) (cs : List Value), j ≤ N ∧ kk = .int .i64 j ∧ Own wr E v 29 cs ∧ OwnRows wr E 3 cs ((List.range j).map (two lx ly)) ∧ Below E w3 wr) (fun _ kk _ => N - (intOf kk).toNat)
  case atStart => exact ⟨0, [], by omega, rfl, Own.nil _ _ _, OwnRows.nil _ _ _, Below.refl _ _⟩
  case round =>
    obtain ⟨j, cs, hj, rfl, hv, hcs, hbl⟩ := hrel
    have hDr : E ≤ wr.heap.size := by have := hbl.size; have := HE.out; omega
    have hcl : cs.length = j := by rw [hcs.1]; simp
    have Hv := Lib.hid (And.intro hv (And.intro hcs (And.intro hbl hcl)))
    clear hv hcs
    by_cases hlt : j < N
    · have hltT : decide (j < N) = true := decide_eq_true hlt
      obtain ⟨gx, ox, rfl, hgx, _⟩ := (H0.out w3 (Below.refl _ _)).1.at_ (k := j) (by rw [Hl.out.1]; exact hlt)
      obtain ⟨gy, oy, rfl, hgy, _⟩ := (H0.out w3 (Below.refl _ _)).2.at_ (k := j) (by rw [Hl.out.2]; exact hlt)
      obtain ⟨gx', ox', ex, _, hcx⟩ := (H0.out wr hbl).1.at_ (k := j) (by rw [Hl.out.1]; exact hlt)
      obtain ⟨gy', oy', ey, _, hcy⟩ := (H0.out wr hbl).2.at_ (k := j) (by rw [Hl.out.2]; exact hlt)
      cases ex
      cases ey
      rw [← HE.out] at hgx hgy
      have hgxr : gx < wr.heap.size := by omega
      have hgyr : gy < wr.heap.size := by omega
      have agx : u11.ownBlock ≠ some gx := by
        rcases Hv.out.1.blk with e | ⟨g', _, e, hB, _⟩ <;> rw [e]
        · simp
        · intro e2; have := Option.some.inj e2; omega
      have agy : u11.ownBlock ≠ some gy := by
        rcases Hv.out.1.blk with e | ⟨g', _, e, hB, _⟩ <;> rw [e]
        · simp
        · intro e2; have := Option.some.inj e2; omega
      have htk : (List.range (j + 1)).map (two lx ly) = (List.range j).map (two lx ly) ++ [two lx ly j] := by simp [List.range_succ]
      obtain ⟨x, hx⟩ : ∃ x, lx[j]?.getD 0 = x := ⟨_, rfl⟩
      obtain ⟨y, hy⟩ : ∃ x, ly[j]?.getD 0 = x := ⟨_, rfl⟩
      have htw : two lx ly j = [x, y] := by unfold two; rw [hx, hy]
      rw [htw] at htk
      rw [hx] at hcx
      rw [hy] at hcy
      have hsz : cs.length < 1099511627776 := by omega
      have hj0 : (j : Int) < (N : Int) := by omega
      have hown0 : wr.ownsRow E 29 1 u11 cs.length cs := Hv.out.1
      have Ho := Lib.hid hown0
      have hbox := heap_alloc_new (wr.alloc (.cells #[.int .i64 x, .int .i64 y] 3)) (.cells #[.slice (some ⟨wr.heap.size, 0, none⟩) 2 2] 29)
      rw [show (wr.alloc (.cells #[.int .i64 x, .int .i64 y] 3)).heap.size = wr.heap.size + 1 by simp] at hbox
      have Hbox := Lib.hid hbox
      clear hbox
      have Htk := Lib.hid htk
      have Hbl := Lib.hid hbl
      clear hx hy htk htw hown0 hbl
      go_wp2
      go_region_held3 (fun w' => w'.cell? ⟨gx, ox + j, none⟩ = some (.int .i64 x) ∧ w'.cell? ⟨gy, oy + j, none⟩ = some (.int .i64 y))
        (first
          | go_keep
          | (go_split_ands
             refine ⟨?_, ?_⟩
             · (rw [hgrow.cell_far _ (by simp; omega) (Ne.symm agx)]; assumption)
             · (rw [hgrow.cell_far _ (by simp; omega) (Ne.symm agy)]; assumption)))
        ((refine step_append_lies _ (by rfl) _ _ _ (by rfl) E 29 i29 _ 1 24 Try.underlying22 I29.out.1 I29.out.2.1 I29.out.2.2.1 I29.out.2.2.2 rfl (by omega) u11 cs.length cs (by rfl) (((World.ownsRow.alloc (World.ownsRow.alloc Ho.out _) _)).drew) ⟨wr.heap.size + 1, 0, none⟩ 1 1 [.slice (some ⟨wr.heap.size, 0, none⟩) 2 2] (by rfl) (by rfl) (World.news_of_block (cs := #[.slice (some ⟨wr.heap.size, 0, none⟩) 2 2]) (t := 29) (fr := (0, 0)) Hbox.out) (by simp [Value.oneCell']) (by omega) (by unfold maxLen; omega) (by omega) (by simp; omega) (wr.heap.size + 2) (by simp) ?_; intro gg cap w1 hown1 hgrow hat hlt))
      all_goals
        have h2 : Own w1 E (.slice (some ⟨gg, 0, none⟩) (cs.length + 1) cap) 29 (cs ++ [.slice (some ⟨wr.heap.size, 0, none⟩) 2 2]) := by unfold Own; rw [List.length_append]; exact hown1
        have hnew := (((Own.new (w := wr) (B := E) 3 (ints [x, y]) hDr (by unfold maxLen; simp [ints])).alloc (.cells #[.slice (some ⟨wr.heap.size, 0, none⟩) 2 2] 29)).drew).kept hgrow
        have ha1 : wr.grownBy ((wr.alloc (.cells #[.int .i64 x, .int .i64 y] 3)).alloc (.cells #[.slice (some ⟨wr.heap.size, 0, none⟩) 2 2] 29)).drew none := ((grown_alloc wr _ none).trans (grown_alloc _ _ none)).trans (grown_drewN _ 1 none)
        have hv1 : Own ((wr.alloc (.cells #[.int .i64 x, .int .i64 y] 3)).alloc (.cells #[.slice (some ⟨wr.heap.size, 0, none⟩) 2 2] 29)).drew E u11 29 cs := Own.kept Ho.out ha1 (by rcases Hv.out.1.blk with e | ⟨g, _, e, _⟩ <;> rw [e] <;> simp)
        have hcs1 := (Hv.out.2.1.kept ha1 (fun u xs h => by rcases h.blk with e | ⟨g, _, e, _⟩ <;> rw [e] <;> simp)).kept hgrow (fun u xs h => h.ne_type hv1 (by decide))
        have hnew2 := hnew ((((Own.new (w := wr) (B := E) 3 (ints [x, y]) hDr (by unfold maxLen; simp [ints])).alloc (.cells #[.slice (some ⟨wr.heap.size, 0, none⟩) 2 2] 29)).drew).ne_type hv1 (by decide))
        have hb1 : Below E w3 ((wr.alloc (.cells #[.int .i64 x, .int .i64 y] 3)).alloc (.cells #[.slice (some ⟨wr.heap.size, 0, none⟩) 2 2] 29)).drew := below_drewN ((Hbl.out.alloc hDr _).alloc (by simp; omega) _) 1
        have hb2 := hb1.grown hgrow (by simp; omega) (fun k hk => by
          rcases Hv.out.1.blk with e | ⟨g', _, e, hB, _⟩
          · rw [e] at hk; cases hk
          · rw [e] at hk; cases hk; exact hB)
        have H9 := Lib.hid (And.intro h2 (And.intro (hcs1.app (OwnRows.one hnew2)) hb2))
        clear h2 hnew ha1 hv1 hcs1 hnew2 hb1 hb2 hgrow hown1 hat hlt
        go_wp2
        exact ⟨⟨j + 1, cs ++ [.slice (some ⟨wr.heap.size, 0, none⟩) 2 2], by omega, by go_num, by have h := H9.out.1; rw [hcl] at h; exact h, by rw [Htk.out]; exact H9.out.2.1, H9.out.2.2⟩, by simp [intOf]; omega⟩
    · have hltT : decide (j < N) = false := decide_eq_false hlt
      obtain rfl : j = N := by omega
      have hcs := Hv.out.2.1
      obtain ⟨a', c', rfl, hrows⟩ := hcs.rows Hv.out.1 (by rw [Hv.out.2.2.2]; unfold maxLen; omega) (fun y hy => by
        obtain ⟨z, _, rfl⟩ := List.mem_map.1 hy
        unfold maxLen two; simp)
      have hco := collect_calls a' c' ((List.range j).map (two lx ly)) wr hrows (by simp; omega)
      have Hc := Lib.hid hco
      have hlen : ((List.range j).map (two lx ly)).length = j := by simp
      rw [hlen] at Hc ⊢
      clear hrows hcs hco hbl hlen
      go_wp2_with fail
      refine Hc.out.mono ?_
      rintro e w8 ⟨a2, c2, rfl, hr2, hb2⟩
      have hBw := H3.out.trans ((Hv.out.2.2.1.trans (hb2.mono hDr)).mono hDE)
      have H8 := Lib.hid (And.intro hr2 hBw)
      clear hr2 hb2 hBw
      go_wp2
      go_ret2
      exact ⟨a2, c2, rfl, H8.out.1, H8.out.2⟩
end Go.Proofs.Ytlnikgcanimggaa

namespace Go.Proofs.Ytlnikgcanimggaa
open Go.RowKit Go.Sort Go.Shelf Plain
theorem linksL_len {l : List (List Int)} {B : Nat} (h : ∀ g ∈ l, g.length ≤ B) : ∀ k, k ≤ l.length → (linksL l k).length ≤ k * B
  | 0, _ => by simp [linksL]
  | k + 1, hk => by
    have ih := linksL_len h k (by omega)
    have h1 : (l[k]?.getD []).length ≤ B := by
      rw [List.getElem?_eq_getElem (by omega)]
      exact h _ (List.getElem_mem _)
    rw [linksL, List.length_append]
    have h2 : (linksC (l[k]?.getD []) (l[k]?.getD []).length).length = (l[k]?.getD []).length := by simp [linksC]
    rw [h2, Nat.succ_mul]; omega
theorem linksL_in {n : Nat} {l : List (List Int)} (hin : InRange n l) : ∀ k, k ≤ l.length → ∀ u v, (u, v) ∈ linksL l k → u < n ∧ v < n
  | 0, _, u, v, h => by simp [linksL] at h
  | k + 1, hk, u, v, h => by
    rw [linksL] at h
    rcases List.mem_append.1 h with h1 | h1
    · exact linksL_in hin k (by omega) u v h1
    · obtain ⟨i, hi, e⟩ := List.mem_map.1 h1
      have hi2 := List.mem_range.1 hi
      obtain ⟨q0, e0, h0⟩ := hin.at_ (k := k) (j := 0) (by omega) (by omega)
      obtain ⟨qi, ei, h2⟩ := hin.at_ (k := k) (j := i) (by omega) hi2
      rw [e0, ei] at e
      cases e
      exact ⟨by simpa using h0, by simpa using h2⟩
set_option maxRecDepth 100000 in
set_option maxHeartbeats 4000000 in
theorem joinR_calls (n : Nat) (hn : n ≤ 64) (a b : Option Addr) (c d : Nat) (xs ys : List (List Int)) (w : World) (ha : Rows w a xs) (hb : Rows w b ys) (h1 : chk n xs = 0) (h2 : chk n ys = 0) :
    Calls Try.prog 41 #[.int .i64 n, .slice a xs.length c, .slice b ys.length d] w fun e w' => ∃ a c, e = .returned (.tuple #[.slice a (collect ((List.range n).map fun i => [(uniL (xs ++ ys) (xs ++ ys).length i : Int)])).length c, .int .i64 0]) ∧ Rows w' a (collect ((List.range n).map fun i => [(uniL (xs ++ ys) (xs ++ ys).length i : Int)])) ∧ Below w.heap.size w w' := by
  obtain ⟨i83, hi83, hz83, hs83, hb83⟩ := info_parts Try.info83
  have I83 := Lib.hid (And.intro hi83 (And.intro hz83 (And.intro hs83 hb83)))
  clear hi83 hz83 hs83 hb83
  have hbo := bothR_calls n a b c d xs ys w ha hb
  rw [h1, h2, show orL [(0 : Int), 0] = 0 by simp [orL]] at hbo
  have Hb := Lib.hid hbo
  have hmx := ha.len
  have hmy := hb.len
  have hxl := (chk_good h1).len_le
  have hyl := (chk_good h2).len_le
  obtain ⟨l, hl⟩ : ∃ l, l = xs ++ ys := ⟨_, rfl⟩
  have hin : InRange n l := by
    rw [hl]
    intro c hc p hp
    rcases List.mem_append.1 hc with h | h
    · exact chk_in h1 c h p hp
    · exact chk_in h2 c h p hp
  have hcl : ∀ g ∈ l, g.length ≤ 1000 := by
    rw [hl]
    intro g hg
    rcases List.mem_append.1 hg with h | h
    · exact (chk_bound h1).2 g h
    · exact (chk_bound h2).2 g h
  rw [← hl]
  obtain ⟨X, hX⟩ : ∃ X, X = xs.length := ⟨_, rfl⟩
  obtain ⟨Y, hY⟩ : ∃ Y, Y = ys.length := ⟨_, rfl⟩
  have hll : l.length = X + Y := by rw [hl, List.length_append, hX, hY]
  have hgx : ∀ k, k < X → xs[k]?.getD [] = l[k]?.getD [] := fun k hk => by rw [hl, List.getElem?_append_left (by omega)]
  have hgy : ∀ k, ys[k]?.getD [] = l[X + k]?.getD [] := fun k => by rw [hl, List.getElem?_append_right (by omega), show X + k - xs.length = k by omega]
  rw [← hX] at Hb hmx hxl ⊢
  rw [← hY] at Hb hmy hyl ⊢
  obtain ⟨D, hD⟩ : ∃ D, D = w.heap.size := ⟨_, rfl⟩
  rw [← hD] at Hb ⊢
  have H0 := Lib.hid (And.intro ha (And.intro hb (And.intro hll (And.intro hcl (And.intro hin (And.intro hgx hgy))))))
  have HL := Lib.hid (And.intro hX hY)
  have HD := Lib.hid hD
  have hDw : D ≤ w.heap.size := by omega
  clear hbo ha hb h1 h2 hl hin hcl hX hY hll hgx hgy hD
  go_enter Try.func41, Try.ntmps41
  go_wp2_with fail
  refine Hb.out.mono ?_
  rintro e w1 ⟨rfl, hb1⟩
  have H1 := Lib.hid hb1
  clear hb1
  go_wp2
  go_loopw [9, 10] (fun v i wr => ∃ k : Nat, k ≤ X ∧ i = .int .i64 k ∧ Own2 wr D v (linksL l k) ∧ Below D w wr) (fun _ i _ => X - (intOf i).toNat)
  case atStart => exact ⟨0, by omega, rfl, Own2.nil _ _, H1.out⟩
  case round =>
    obtain ⟨k, hk, rfl, ho, hbl⟩ := hrel
    have hDr : D ≤ wr.heap.size := by have := hbl.size; omega
    by_cases hlt : k < X
    · have hltT : decide (k < X) = true := decide_eq_true hlt
      obtain ⟨g, o, b', cc, rfl, hgl, hcw, hintsw⟩ := H0.out.1.at_ (k := k) (by first | (rw [← HL.out.1]; exact hlt) | (rw [← HL.out.2]; exact hlt))
      obtain ⟨x, hx⟩ : ∃ x, l[k]?.getD [] = x := ⟨_, rfl⟩
      rw [H0.out.2.2.2.2.2.1 k hlt, hx] at hcw hintsw
      have hcr : ∀ j, j < x.length → ∃ q : Nat, x[j]?.getD 0 = (q : Int) ∧ q < n := fun j hj => by
        have h := H0.out.2.2.2.2.1.at_ (k := k) (j := j) (by rw [H0.out.2.2.1]; omega) (by rw [hx]; exact hj)
        rw [hx] at h; exact h
      obtain ⟨N, hN⟩ : ∃ N, N = x.length := ⟨_, rfl⟩
      rw [← hN] at hcw hcr
      have hNm := hintsw.len
      rw [← hN] at hNm
      have hx1000 : N ≤ 1000 := by
        rw [hN, ← hx, List.getElem?_eq_getElem (by rw [H0.out.2.2.1]; omega)]
        exact H0.out.2.2.2.1 _ (List.getElem_mem _)
      have HC := Lib.hid (And.intro hcw (And.intro hgl (And.intro hintsw (And.intro hcr (And.intro hx hN)))))
      have HT := Lib.hid (And.intro ho hbl)
      have hk0 : (k : Int) < (X : Int) := by omega
      clear hcw hgl hintsw hcr hx hN ho hbl
      go_wp2
      go_loopw [9, 11] (fun v i wr => ∃ j : Nat, j ≤ N ∧ i = .int .i64 j ∧ Own2 wr D v (linksL l k ++ linksC x j) ∧ Below D w wr) (fun _ i _ => N - (intOf i).toNat)
      case atStart => exact ⟨0, by omega, rfl, by rw [show linksC x 0 = [] from rfl, List.append_nil]; exact HT.out.1, HT.out.2⟩
      case round =>
        clear HT
        obtain ⟨j, hj, rfl, ho, hbl⟩ := hrel
        have hDr2 : D ≤ wr.heap.size := by have := hbl.size; omega
        have hcell := hbl.cell (p := ⟨g, o + k, none⟩) (by rw [HD.out]; exact HC.out.2.1)
        rw [HC.out.1] at hcell
        by_cases hjl : j < N
        · have hjT : decide (j < N) = true := decide_eq_true hjl
          obtain ⟨gx, ox, rfl, hgx, hc0w⟩ := HC.out.2.2.1.at_ (k := 0) (by rw [← HC.out.2.2.2.2.2]; omega)
          obtain ⟨gx', ox', e, _, hcjw⟩ := HC.out.2.2.1.at_ (k := j) (by rw [← HC.out.2.2.2.2.2]; exact hjl)
          cases e
          have hc0 := hbl.cell (p := ⟨gx, ox + 0, none⟩) (by rw [HD.out]; exact hgx)
          have hcj := hbl.cell (p := ⟨gx, ox + j, none⟩) (by rw [HD.out]; exact hgx)
          rw [hc0w] at hc0
          rw [hcjw] at hcj
          clear hc0w hcjw
          have hgD : g < D := by rw [HD.out]; exact HC.out.2.1
          have hgxD : gx < D := by rw [HD.out]; exact hgx
          obtain ⟨p0, hp0, hp0n⟩ := HC.out.2.2.2.1 0 (by omega)
          obtain ⟨pj, hpj, hpjn⟩ := HC.out.2.2.2.1 j hjl
          rw [hp0] at hc0
          rw [hpj] at hcj
          simp only [Nat.add_zero] at hc0
          have hN0 : (0 : Int) < (N : Int) := by omega
          have hN0n : 0 < N := by omega
          have hN0d : decide (0 < N) = true := decide_eq_true hN0n
          have hj0 : (j : Int) < (N : Int) := by omega
          have hlk : (linksL l k ++ linksC x j).length < 1000000 := by
            rw [List.length_append]
            have h1 := linksL_len (l := l) (B := 1000) H0.out.2.2.2.1 (k) (by rw [H0.out.2.2.1]; omega)
            have h3 : (linksC x j).length = j := by simp [linksC]
            omega
          have hsu : linksL l k ++ linksC x (j + 1) = (linksL l k ++ linksC x j) ++ [(p0, pj)] := by
            rw [linksC_succ, List.append_assoc, hp0, hpj]; rfl
          have agx : u9.ownBlock ≠ some gx := by
            rcases ho.blk with e | ⟨g', _, e, hB, _⟩ <;> rw [e]
            · simp
            · intro e2; have := Option.some.inj e2; omega
          have agg : u9.ownBlock ≠ some g := by
            rcases ho.blk with e | ⟨g', _, e, hB, _⟩ <;> rw [e]
            · simp
            · intro e2; have := Option.some.inj e2; omega
          have hgr : g < wr.heap.size := by omega
          have hgxr : gx < wr.heap.size := by omega
          obtain ⟨L0, hL0⟩ : ∃ L0, L0 = linksL l k ++ linksC x j := ⟨_, rfl⟩
          rw [← hL0] at ho hlk hsu
          have hown0 : wr.ownsRow D 83 2 u9 L0.length (pairs L0) := ho
          have Ho := Lib.hid hown0
          have hbox := heap_alloc_new wr (.cells #[.int .i64 (p0 : Int), .int .i64 (pj : Int)] 83)
          have Hbox := Lib.hid hbox
          have H3 := Lib.hid (And.intro ho (And.intro hbl hsu))
          clear ho hbl hsu hp0 hpj hbox hown0 hL0 hgx
          go_wp2
          go_region_held3 (fun w' => w'.cell? ⟨g, o + k, none⟩ = some (.slice (some ⟨gx, ox, none⟩) N cc) ∧ w'.cell? ⟨gx, ox, none⟩ = some (.int .i64 (p0 : Int)) ∧ w'.cell? ⟨gx, ox + j, none⟩ = some (.int .i64 (pj : Int)))
            (first
              | go_keep
              | (go_split_ands
                 refine ⟨?_, ?_, ?_⟩
                 · (rw [hgrow.cell_far _ (by simp; omega) (Ne.symm agg)]; assumption)
                 · (rw [hgrow.cell_far _ (by simp; omega) (Ne.symm agx)]; assumption)
                 · (rw [hgrow.cell_far _ (by simp; omega) (Ne.symm agx)]; assumption)))
            ((refine step_append_lies _ (by rfl) _ _ _ (by rfl) D 83 i83 _ 2 16 Try.underlying82 I83.out.1 I83.out.2.1 I83.out.2.2.1 I83.out.2.2.2 rfl (by omega) u9 L0.length (pairs L0) (by rfl) ((World.ownsRow.alloc Ho.out _).drew) ⟨wr.heap.size, 0, none⟩ 1 1 [.int .i64 (p0 : Int), .int .i64 (pj : Int)] (by rfl) (by rfl) (World.news_of_block (cs := #[.int .i64 (p0 : Int), .int .i64 (pj : Int)]) (t := 83) (fr := (0, 0)) Hbox.out) (by simp [Value.oneCell']) (by omega) (by unfold maxLen; omega) (by omega) (by simp; omega) (wr.heap.size + 1) (by simp) ?_; intro gg cap w1 hown1 hgrow hat hlt))
          all_goals
            have h2 : Own2 w1 D (.slice (some ⟨gg, 0, none⟩) (L0.length + 1) cap) (L0 ++ [(p0, pj)]) := by unfold Own2; rw [List.length_append, pairs_app]; exact hown1
            have hb2 := (below_drewN (H3.out.2.1.alloc hDr2 (.cells #[.int .i64 (p0 : Int), .int .i64 (pj : Int)] 83)) 1).grown hgrow (by simp; omega) (fun k hk => by
              rcases H3.out.1.blk with e | ⟨g', _, e, hB, _⟩
              · rw [e] at hk; cases hk
              · rw [e] at hk; cases hk; exact hB)
            have H9 := Lib.hid (And.intro h2 hb2)
            clear h2 hb2 hgrow hown1 hat hlt
            go_wp2
            exact ⟨⟨j + 1, by omega, by go_num, by rw [H3.out.2.2]; exact H9.out.1, H9.out.2⟩, by simp [intOf]; omega⟩
        · have hjT : decide (j < N) = false := decide_eq_false hjl
          obtain rfl : j = N := by omega
          have hlg : linksL l (k + 1) = linksL l k ++ linksC x j := by
            rw [linksL, HC.out.2.2.2.2.1, ← HC.out.2.2.2.2.2]
          have H3 := Lib.hid (And.intro ho (And.intro hbl hlg))
          clear ho hbl hlg
          go_wp2
          exact ⟨⟨k + 1, by omega, by go_num, by rw [H3.out.2.2]; exact H3.out.1, H3.out.2.1⟩, by simp [intOf]; omega⟩
    · have hltT : decide (k < X) = false := decide_eq_false hlt
      obtain rfl : X = k := by omega
      have HS := Lib.hid (And.intro ho hbl)
      clear ho hbl
      go_wp2
      go_loopw [9, 12] (fun v i wr => ∃ k : Nat, k ≤ Y ∧ i = .int .i64 k ∧ Own2 wr D v (linksL l (X + k)) ∧ Below D w wr) (fun _ i _ => Y - (intOf i).toNat)
      case atStart => exact ⟨0, by omega, rfl, HS.out.1, HS.out.2⟩
      case round =>
        obtain ⟨k, hk, rfl, ho, hbl⟩ := hrel
        have hDr : D ≤ wr.heap.size := by have := hbl.size; omega
        by_cases hlt : k < Y
        · have hltT : decide (k < Y) = true := decide_eq_true hlt
          obtain ⟨g, o, b', cc, rfl, hgl, hcw, hintsw⟩ := H0.out.2.1.at_ (k := k) (by first | (rw [← HL.out.1]; exact hlt) | (rw [← HL.out.2]; exact hlt))
          obtain ⟨x, hx⟩ : ∃ x, l[X + k]?.getD [] = x := ⟨_, rfl⟩
          rw [H0.out.2.2.2.2.2.2 k, hx] at hcw hintsw
          have hcr : ∀ j, j < x.length → ∃ q : Nat, x[j]?.getD 0 = (q : Int) ∧ q < n := fun j hj => by
            have h := H0.out.2.2.2.2.1.at_ (k := X + k) (j := j) (by rw [H0.out.2.2.1]; omega) (by rw [hx]; exact hj)
            rw [hx] at h; exact h
          obtain ⟨N, hN⟩ : ∃ N, N = x.length := ⟨_, rfl⟩
          rw [← hN] at hcw hcr
          have hNm := hintsw.len
          rw [← hN] at hNm
          have hx1000 : N ≤ 1000 := by
            rw [hN, ← hx, List.getElem?_eq_getElem (by rw [H0.out.2.2.1]; omega)]
            exact H0.out.2.2.2.1 _ (List.getElem_mem _)
          have HC := Lib.hid (And.intro hcw (And.intro hgl (And.intro hintsw (And.intro hcr (And.intro hx hN)))))
          have HT := Lib.hid (And.intro ho hbl)
          have hk0 : (k : Int) < (Y : Int) := by omega
          clear hcw hgl hintsw hcr hx hN ho hbl
          go_wp2
          go_loopw [9, 13] (fun v i wr => ∃ j : Nat, j ≤ N ∧ i = .int .i64 j ∧ Own2 wr D v (linksL l (X + k) ++ linksC x j) ∧ Below D w wr) (fun _ i _ => N - (intOf i).toNat)
          case atStart => exact ⟨0, by omega, rfl, by rw [show linksC x 0 = [] from rfl, List.append_nil]; exact HT.out.1, HT.out.2⟩
          case round =>
            clear HT
            obtain ⟨j, hj, rfl, ho, hbl⟩ := hrel
            have hDr2 : D ≤ wr.heap.size := by have := hbl.size; omega
            have hcell := hbl.cell (p := ⟨g, o + k, none⟩) (by rw [HD.out]; exact HC.out.2.1)
            rw [HC.out.1] at hcell
            by_cases hjl : j < N
            · have hjT : decide (j < N) = true := decide_eq_true hjl
              obtain ⟨gx, ox, rfl, hgx, hc0w⟩ := HC.out.2.2.1.at_ (k := 0) (by rw [← HC.out.2.2.2.2.2]; omega)
              obtain ⟨gx', ox', e, _, hcjw⟩ := HC.out.2.2.1.at_ (k := j) (by rw [← HC.out.2.2.2.2.2]; exact hjl)
              cases e
              have hc0 := hbl.cell (p := ⟨gx, ox + 0, none⟩) (by rw [HD.out]; exact hgx)
              have hcj := hbl.cell (p := ⟨gx, ox + j, none⟩) (by rw [HD.out]; exact hgx)
              rw [hc0w] at hc0
              rw [hcjw] at hcj
              clear hc0w hcjw
              have hgD : g < D := by rw [HD.out]; exact HC.out.2.1
              have hgxD : gx < D := by rw [HD.out]; exact hgx
              obtain ⟨p0, hp0, hp0n⟩ := HC.out.2.2.2.1 0 (by omega)
              obtain ⟨pj, hpj, hpjn⟩ := HC.out.2.2.2.1 j hjl
              rw [hp0] at hc0
              rw [hpj] at hcj
              simp only [Nat.add_zero] at hc0
              have hN0 : (0 : Int) < (N : Int) := by omega
              have hN0n : 0 < N := by omega
              have hN0d : decide (0 < N) = true := decide_eq_true hN0n
              have hj0 : (j : Int) < (N : Int) := by omega
              have hlk : (linksL l (X + k) ++ linksC x j).length < 1000000 := by
                rw [List.length_append]
                have h1 := linksL_len (l := l) (B := 1000) H0.out.2.2.2.1 (X + k) (by rw [H0.out.2.2.1]; omega)
                have h3 : (linksC x j).length = j := by simp [linksC]
                omega
              have hsu : linksL l (X + k) ++ linksC x (j + 1) = (linksL l (X + k) ++ linksC x j) ++ [(p0, pj)] := by
                rw [linksC_succ, List.append_assoc, hp0, hpj]; rfl
              have agx : u9.ownBlock ≠ some gx := by
                rcases ho.blk with e | ⟨g', _, e, hB, _⟩ <;> rw [e]
                · simp
                · intro e2; have := Option.some.inj e2; omega
              have agg : u9.ownBlock ≠ some g := by
                rcases ho.blk with e | ⟨g', _, e, hB, _⟩ <;> rw [e]
                · simp
                · intro e2; have := Option.some.inj e2; omega
              have hgr : g < wr.heap.size := by omega
              have hgxr : gx < wr.heap.size := by omega
              obtain ⟨L0, hL0⟩ : ∃ L0, L0 = linksL l (X + k) ++ linksC x j := ⟨_, rfl⟩
              rw [← hL0] at ho hlk hsu
              have hown0 : wr.ownsRow D 83 2 u9 L0.length (pairs L0) := ho
              have Ho := Lib.hid hown0
              have hbox := heap_alloc_new wr (.cells #[.int .i64 (p0 : Int), .int .i64 (pj : Int)] 83)
              have Hbox := Lib.hid hbox
              have H3 := Lib.hid (And.intro ho (And.intro hbl hsu))
              clear ho hbl hsu hp0 hpj hbox hown0 hL0 hgx
              go_wp2
              go_region_held3 (fun w' => w'.cell? ⟨g, o + k, none⟩ = some (.slice (some ⟨gx, ox, none⟩) N cc) ∧ w'.cell? ⟨gx, ox, none⟩ = some (.int .i64 (p0 : Int)) ∧ w'.cell? ⟨gx, ox + j, none⟩ = some (.int .i64 (pj : Int)))
                (first
                  | go_keep
                  | (go_split_ands
                     refine ⟨?_, ?_, ?_⟩
                     · (rw [hgrow.cell_far _ (by simp; omega) (Ne.symm agg)]; assumption)
                     · (rw [hgrow.cell_far _ (by simp; omega) (Ne.symm agx)]; assumption)
                     · (rw [hgrow.cell_far _ (by simp; omega) (Ne.symm agx)]; assumption)))
                ((refine step_append_lies _ (by rfl) _ _ _ (by rfl) D 83 i83 _ 2 16 Try.underlying82 I83.out.1 I83.out.2.1 I83.out.2.2.1 I83.out.2.2.2 rfl (by omega) u9 L0.length (pairs L0) (by rfl) ((World.ownsRow.alloc Ho.out _).drew) ⟨wr.heap.size, 0, none⟩ 1 1 [.int .i64 (p0 : Int), .int .i64 (pj : Int)] (by rfl) (by rfl) (World.news_of_block (cs := #[.int .i64 (p0 : Int), .int .i64 (pj : Int)]) (t := 83) (fr := (0, 0)) Hbox.out) (by simp [Value.oneCell']) (by omega) (by unfold maxLen; omega) (by omega) (by simp; omega) (wr.heap.size + 1) (by simp) ?_; intro gg cap w1 hown1 hgrow hat hlt))
              all_goals
                have h2 : Own2 w1 D (.slice (some ⟨gg, 0, none⟩) (L0.length + 1) cap) (L0 ++ [(p0, pj)]) := by unfold Own2; rw [List.length_append, pairs_app]; exact hown1
                have hb2 := (below_drewN (H3.out.2.1.alloc hDr2 (.cells #[.int .i64 (p0 : Int), .int .i64 (pj : Int)] 83)) 1).grown hgrow (by simp; omega) (fun k hk => by
                  rcases H3.out.1.blk with e | ⟨g', _, e, hB, _⟩
                  · rw [e] at hk; cases hk
                  · rw [e] at hk; cases hk; exact hB)
                have H9 := Lib.hid (And.intro h2 hb2)
                clear h2 hb2 hgrow hown1 hat hlt
                go_wp2
                exact ⟨⟨j + 1, by omega, by go_num, by rw [H3.out.2.2]; exact H9.out.1, H9.out.2⟩, by simp [intOf]; omega⟩
            · have hjT : decide (j < N) = false := decide_eq_false hjl
              obtain rfl : j = N := by omega
              have hlg : linksL l (X + (k + 1)) = linksL l (X + k) ++ linksC x j := by
                rw [show X + (k + 1) = X + k + 1 by omega, linksL, HC.out.2.2.2.2.1, ← HC.out.2.2.2.2.2]
              have H3 := Lib.hid (And.intro ho (And.intro hbl hlg))
              clear ho hbl hlg
              go_wp2
              exact ⟨⟨k + 1, by omega, by go_num, by rw [H3.out.2.2]; exact H3.out.1, H3.out.2.1⟩, by simp [intOf]; omega⟩
        · have hltT : decide (k < Y) = false := decide_eq_false hlt
          obtain rfl : Y = k := by omega
          have HS := Lib.hid (And.intro ho hbl)
          clear ho hbl
          have hlk : (linksL l (X + Y)).length < 1000000 := by
            have h1 := linksL_len (l := l) (B := 1000) H0.out.2.2.2.1 (X + Y) (by rw [H0.out.2.2.1]; omega)
            omega
          obtain ⟨a', c', rfl, hln⟩ := HS.out.1.lnk (by omega)
          have hcl := closed_calls n hn a' c' (linksL l (X + Y)) wr hln (linksL_in H0.out.2.2.2.2.1 (X + Y) (by rw [H0.out.2.2.1]; omega))
          obtain ⟨M, hM⟩ : ∃ M, M = (linksL l (X + Y)).length := ⟨_, rfl⟩
          rw [← hM] at hcl ⊢
          have Hc := Lib.hid hcl
          clear hcl hln hM hlk
          go_wp2_with (go_at_call 75; refine Hc.out.mono ?_; rintro e w2 ⟨a2, c2, f, rfl, hbk, hco, hr2, hb2⟩; have HJ := Lib.hid (And.intro hbk (And.intro hco (And.intro hr2 hb2))); clear hbk hco hr2 hb2)
          obtain ⟨hbk, hco, hr2, hb2⟩ := HJ.out
          have hXk : X + Y = l.length := H0.out.2.2.1.symm
          rw [hXk] at hbk hco
          have hu := uniK_least (linksL l l.length)
          have hff := least_eq hbk hco hu.1 hu.2
          rw [← uniL_K] at hff
          subst hff
          have H2 := Lib.hid (And.intro hr2 (HS.out.2.trans (hb2.mono hDr)))
          clear hbk hco hr2 hb2 hu hXk
          go_ret2
          exact ⟨a2, c2, rfl, H2.out.1, H2.out.2⟩
end Go.Proofs.Ytlnikgcanimggaa

namespace Go.Proofs.Ytlnikgcanimggaa
open Go.RowKit Plain

set_option maxRecDepth 100000 in
set_option maxHeartbeats 1000000 in
theorem meetE_calls (n : Int) (a b : Option Addr) (c d : Nat) (xs ys : List (List Int)) (w : World) (ha : Rows w a xs) (hb : Rows w b ys) (h0 : orL [chk n xs, chk n ys] ≠ 0) :
    Calls Try.prog 24 #[.int .i64 n, .slice a xs.length c, .slice b ys.length d] w fun e w' => ∃ a c, e = .returned (.tuple #[.slice a 0 c, .int .i64 (orL [chk n xs, chk n ys])]) ∧ Rows w' a [] ∧ Below w.heap.size w w' := by
  have hbo := Lib.hid (both_calls n a b c d xs ys w ha hb)
  obtain ⟨E, hE⟩ : ∃ E, orL [chk n xs, chk n ys] = E := ⟨_, rfl⟩
  simp only [hE] at hbo h0 ⊢
  have hE1 : (E != 0) = true := by simpa using h0
  obtain ⟨L, hL⟩ : ∃ L, L = xs.length := ⟨_, rfl⟩
  obtain ⟨M, hM⟩ : ∃ M, M = ys.length := ⟨_, rfl⟩
  rw [← hL] at hbo ⊢
  rw [← hM] at hbo ⊢
  clear hE hL hM ha hb h0
  go_enter Try.func24, Try.ntmps24
  go_wp2_with fail
  refine hbo.out.mono ?_
  rintro e w1 ⟨rfl, hb1⟩
  have H1 := Lib.hid hb1
  clear hb1
  go_wp2
  go_ret2
  first | exact ⟨none, 0, rfl, Rows.nil' _, H1.out⟩ | exact ⟨none, ⟨0, rfl⟩, Rows.nil' _, H1.out⟩

set_option maxRecDepth 100000 in
set_option maxHeartbeats 1000000 in
theorem joinE_calls (n : Int) (a b : Option Addr) (c d : Nat) (xs ys : List (List Int)) (w : World) (ha : Rows w a xs) (hb : Rows w b ys) (h0 : orL [chk n xs, chk n ys] ≠ 0) :
    Calls Try.prog 40 #[.int .i64 n, .slice a xs.length c, .slice b ys.length d] w fun e w' => ∃ a c, e = .returned (.tuple #[.slice a 0 c, .int .i64 (orL [chk n xs, chk n ys])]) ∧ Rows w' a [] ∧ Below w.heap.size w w' := by
  have hbo := Lib.hid (both_calls n a b c d xs ys w ha hb)
  obtain ⟨E, hE⟩ : ∃ E, orL [chk n xs, chk n ys] = E := ⟨_, rfl⟩
  simp only [hE] at hbo h0 ⊢
  have hE1 : (E != 0) = true := by simpa using h0
  obtain ⟨L, hL⟩ : ∃ L, L = xs.length := ⟨_, rfl⟩
  obtain ⟨M, hM⟩ : ∃ M, M = ys.length := ⟨_, rfl⟩
  rw [← hL] at hbo ⊢
  rw [← hM] at hbo ⊢
  clear hE hL hM ha hb h0
  go_enter Try.func40, Try.ntmps40
  go_wp2_with fail
  refine hbo.out.mono ?_
  rintro e w1 ⟨rfl, hb1⟩
  have H1 := Lib.hid hb1
  clear hb1
  go_wp2
  go_ret2
  first | exact ⟨none, 0, rfl, Rows.nil' _, H1.out⟩ | exact ⟨none, ⟨0, rfl⟩, Rows.nil' _, H1.out⟩

set_option maxRecDepth 100000 in
set_option maxHeartbeats 1000000 in
theorem meetRE_calls (n : Int) (a b : Option Addr) (c d : Nat) (xs ys : List (List Int)) (w : World) (ha : Rows w a xs) (hb : Rows w b ys) (h0 : orL [chk n xs, chk n ys] ≠ 0) :
    Calls Try.prog 39 #[.int .i64 n, .slice a xs.length c, .slice b ys.length d] w fun e w' => ∃ a c, e = .returned (.tuple #[.slice a 0 c, .int .i64 (orL [chk n xs, chk n ys])]) ∧ Rows w' a [] ∧ Below w.heap.size w w' := by
  have hbo := Lib.hid (bothR_calls n a b c d xs ys w ha hb)
  obtain ⟨E, hE⟩ : ∃ E, orL [chk n xs, chk n ys] = E := ⟨_, rfl⟩
  simp only [hE] at hbo h0 ⊢
  have hE1 : (E != 0) = true := by simpa using h0
  obtain ⟨L, hL⟩ : ∃ L, L = xs.length := ⟨_, rfl⟩
  obtain ⟨M, hM⟩ : ∃ M, M = ys.length := ⟨_, rfl⟩
  rw [← hL] at hbo ⊢
  rw [← hM] at hbo ⊢
  clear hE hL hM ha hb h0
  go_enter Try.func39, Try.ntmps39
  go_wp2_with fail
  refine hbo.out.mono ?_
  rintro e w1 ⟨rfl, hb1⟩
  have H1 := Lib.hid hb1
  clear hb1
  go_wp2
  go_ret2
  first | exact ⟨none, 0, rfl, Rows.nil' _, H1.out⟩ | exact ⟨none, ⟨0, rfl⟩, Rows.nil' _, H1.out⟩

set_option maxRecDepth 100000 in
set_option maxHeartbeats 1000000 in
theorem joinRE_calls (n : Int) (a b : Option Addr) (c d : Nat) (xs ys : List (List Int)) (w : World) (ha : Rows w a xs) (hb : Rows w b ys) (h0 : orL [chk n xs, chk n ys] ≠ 0) :
    Calls Try.prog 41 #[.int .i64 n, .slice a xs.length c, .slice b ys.length d] w fun e w' => ∃ a c, e = .returned (.tuple #[.slice a 0 c, .int .i64 (orL [chk n xs, chk n ys])]) ∧ Rows w' a [] ∧ Below w.heap.size w w' := by
  have hbo := Lib.hid (bothR_calls n a b c d xs ys w ha hb)
  obtain ⟨E, hE⟩ : ∃ E, orL [chk n xs, chk n ys] = E := ⟨_, rfl⟩
  simp only [hE] at hbo h0 ⊢
  have hE1 : (E != 0) = true := by simpa using h0
  obtain ⟨L, hL⟩ : ∃ L, L = xs.length := ⟨_, rfl⟩
  obtain ⟨M, hM⟩ : ∃ M, M = ys.length := ⟨_, rfl⟩
  rw [← hL] at hbo ⊢
  rw [← hM] at hbo ⊢
  clear hE hL hM ha hb h0
  go_enter Try.func41, Try.ntmps41
  go_wp2_with fail
  refine hbo.out.mono ?_
  rintro e w1 ⟨rfl, hb1⟩
  have H1 := Lib.hid hb1
  clear hb1
  go_wp2
  go_ret2
  first | exact ⟨none, 0, rfl, Rows.nil' _, H1.out⟩ | exact ⟨none, ⟨0, rfl⟩, Rows.nil' _, H1.out⟩

def meetA (n : Int) (xs ys : List (List Int)) : List (List Int) × Int :=
  if orL [chk n xs, chk n ys] = 0 then (collect ((List.range n.toNat).map (two (labelsL n.toNat xs) (labelsL n.toNat ys))), 0) else ([], orL [chk n xs, chk n ys])
def joinA (n : Int) (xs ys : List (List Int)) : List (List Int) × Int :=
  if orL [chk n xs, chk n ys] = 0 then (collect ((List.range n.toNat).map fun i => [(uniL (xs ++ ys) (xs ++ ys).length i : Int)]), 0) else ([], orL [chk n xs, chk n ys])

theorem meetA_calls (n : Int) (a b : Option Addr) (c d : Nat) (xs ys : List (List Int)) (w : World) (ha : Rows w a xs) (hb : Rows w b ys) :
    Calls Try.prog 24 #[.int .i64 n, .slice a xs.length c, .slice b ys.length d] w fun e w' => ∃ a c, e = .returned (.tuple #[.slice a (meetA n xs ys).1.length c, .int .i64 (meetA n xs ys).2]) ∧ Rows w' a (meetA n xs ys).1 ∧ Below w.heap.size w w' := by
  by_cases h0 : orL [chk n xs, chk n ys] = 0
  · obtain ⟨h1, h2⟩ := orL_pair0 h0
    obtain ⟨hn0, hn64, _⟩ := chk_zero h1
    obtain ⟨N, rfl⟩ := Int.eq_ofNat_of_zero_le hn0
    have hN64 : N ≤ 64 := by omega
    unfold meetA
    rw [if_pos h0, show ((N : Int)).toNat = N by omega]
    refine (meet_calls N a b c d xs ys w ha hb h1 h2).mono ?_
    rintro e w' ⟨a1, c1, P, rfl, hr, hp, hbl⟩
    have e1 := part_collect (rows := (List.range N).map (two (labelsL N xs) (labelsL N ys))) (by simp) (fun i hi => by simp [hi, two]) hp
    rw [e1] at hr ⊢
    exact ⟨a1, c1, rfl, hr, hbl⟩
  · unfold meetA
    rw [if_neg h0]
    exact meetE_calls n a b c d xs ys w ha hb h0

theorem meetRA_calls (n : Int) (a b : Option Addr) (c d : Nat) (xs ys : List (List Int)) (w : World) (ha : Rows w a xs) (hb : Rows w b ys) :
    Calls Try.prog 39 #[.int .i64 n, .slice a xs.length c, .slice b ys.length d] w fun e w' => ∃ a c, e = .returned (.tuple #[.slice a (meetA n xs ys).1.length c, .int .i64 (meetA n xs ys).2]) ∧ Rows w' a (meetA n xs ys).1 ∧ Below w.heap.size w w' := by
  by_cases h0 : orL [chk n xs, chk n ys] = 0
  · obtain ⟨h1, h2⟩ := orL_pair0 h0
    obtain ⟨hn0, hn64, _⟩ := chk_zero h1
    obtain ⟨N, rfl⟩ := Int.eq_ofNat_of_zero_le hn0
    have hN64 : N ≤ 64 := by omega
    unfold meetA
    rw [if_pos h0, show ((N : Int)).toNat = N by omega]
    exact meetR_calls N hN64 a b c d xs ys w ha hb h1 h2
  · unfold meetA
    rw [if_neg h0]
    exact meetRE_calls n a b c d xs ys w ha hb h0

theorem joinA_calls (n : Int) (a b : Option Addr) (c d : Nat) (xs ys : List (List Int)) (w : World) (ha : Rows w a xs) (hb : Rows w b ys) :
    Calls Try.prog 40 #[.int .i64 n, .slice a xs.length c, .slice b ys.length d] w fun e w' => ∃ a c, e = .returned (.tuple #[.slice a (joinA n xs ys).1.length c, .int .i64 (joinA n xs ys).2]) ∧ Rows w' a (joinA n xs ys).1 ∧ Below w.heap.size w w' := by
  by_cases h0 : orL [chk n xs, chk n ys] = 0
  · obtain ⟨h1, h2⟩ := orL_pair0 h0
    obtain ⟨hn0, hn64, _⟩ := chk_zero h1
    obtain ⟨N, rfl⟩ := Int.eq_ofNat_of_zero_le hn0
    have hN64 : N ≤ 64 := by omega
    unfold joinA
    rw [if_pos h0, show ((N : Int)).toNat = N by omega]
    refine (join_calls N hN64 a b c d xs ys w ha hb h1 h2).mono ?_
    rintro e w' ⟨a1, c1, P, rfl, hr, hp, hbl⟩
    have e1 := part_collect (rows := (List.range N).map fun i => [(uniL (xs ++ ys) (xs ++ ys).length i : Int)]) (by simp) (fun i hi => by simp [hi]) hp
    rw [e1] at hr ⊢
    exact ⟨a1, c1, rfl, hr, hbl⟩
  · unfold joinA
    rw [if_neg h0]
    exact joinE_calls n a b c d xs ys w ha hb h0

theorem joinRA_calls (n : Int) (a b : Option Addr) (c d : Nat) (xs ys : List (List Int)) (w : World) (ha : Rows w a xs) (hb : Rows w b ys) :
    Calls Try.prog 41 #[.int .i64 n, .slice a xs.length c, .slice b ys.length d] w fun e w' => ∃ a c, e = .returned (.tuple #[.slice a (joinA n xs ys).1.length c, .int .i64 (joinA n xs ys).2]) ∧ Rows w' a (joinA n xs ys).1 ∧ Below w.heap.size w w' := by
  by_cases h0 : orL [chk n xs, chk n ys] = 0
  · obtain ⟨h1, h2⟩ := orL_pair0 h0
    obtain ⟨hn0, hn64, _⟩ := chk_zero h1
    obtain ⟨N, rfl⟩ := Int.eq_ofNat_of_zero_le hn0
    have hN64 : N ≤ 64 := by omega
    unfold joinA
    rw [if_pos h0, show ((N : Int)).toNat = N by omega]
    exact joinR_calls N hN64 a b c d xs ys w ha hb h1 h2
  · unfold joinA
    rw [if_neg h0]
    exact joinRE_calls n a b c d xs ys w ha hb h0

set_option maxRecDepth 100000 in
set_option maxHeartbeats 2000000 in
theorem cellsPairs_calls (n : Int) (al am : Option Addr) (cl cm : Nat) (l m : List (List Int)) (w : World) (hl : Rows w al l) (hm : Rows w am m) :
    Calls Try.prog 7 #[.int .i64 n, .slice al l.length cl, .slice am m.length cm] w fun e w' => e = .returned (.bool true) ∧ Below w.heap.size w w' := by
  have Hlg := Lib.hid (large_calls al am cl cm l m w hl hm)
  have Haw := Lib.hid (awake_calls)
  have H1 := Lib.hid (finer_calls n al am cl cm l m w hl hm)
  have H2 := Lib.hid (fun (w1 : World) (h : Below w.heap.size w w1) => finerR_calls n al am cl cm l m w1 (hl.below h) (hm.below h))
  have h3 := fun (w1 : World) (h : Below w.heap.size w w1) => meetA_calls n al am cl cm l m w1 (hl.below h) (hm.below h)
  have h4 := fun (w1 : World) (h : Below w.heap.size w w1) => meetRA_calls n al am cl cm l m w1 (hl.below h) (hm.below h)
  have h5 := fun (w1 : World) (h : Below w.heap.size w w1) => joinA_calls n al am cl cm l m w1 (hl.below h) (hm.below h)
  have h6 := fun (w1 : World) (h : Below w.heap.size w w1) => joinRA_calls n al am cl cm l m w1 (hl.below h) (hm.below h)
  obtain ⟨A, hA⟩ : ∃ A, (meetA n l m).1 = A := ⟨_, rfl⟩
  obtain ⟨E, hE⟩ : ∃ A, (meetA n l m).2 = A := ⟨_, rfl⟩
  obtain ⟨B, hB⟩ : ∃ A, (joinA n l m).1 = A := ⟨_, rfl⟩
  obtain ⟨G, hG⟩ : ∃ A, (joinA n l m).2 = A := ⟨_, rfl⟩
  simp only [hA, hE] at h3 h4
  simp only [hB, hG] at h5 h6
  obtain ⟨K, hK⟩ : ∃ A, orL [chk n l, chk n m] = A := ⟨_, rfl⟩
  rw [hK] at H1
  simp only [hK] at H2
  have hlx := hl.len
  have hmx := hm.len
  obtain ⟨L, hL⟩ : ∃ L, L = l.length := ⟨_, rfl⟩
  obtain ⟨M, hM⟩ : ∃ L, L = m.length := ⟨_, rfl⟩
  rw [← hL] at Hlg H1 H2 h3 h4 h5 h6 hlx ⊢
  rw [← hM] at Hlg H1 H2 h3 h4 h5 h6 hmx ⊢
  have H3 := Lib.hid h3
  have H4 := Lib.hid h4
  have H5 := Lib.hid h5
  have H6 := Lib.hid h6
  clear hA hE hB hG hK hL hM hl hm h3 h4 h5 h6
  go_enter Try.func7, Try.ntmps7
  go_wp2_with fail
  refine Hlg.out.mono ?_
  rintro e w1 ⟨⟨z, rfl⟩, hw⟩
  replace hw := hw.symm
  subst hw
  cases z with
  | true =>
    go_wp2_with (go_at_call 11; refine (Haw.out _).mono ?_; rintro e w1 ⟨rfl, hb⟩; have H1 := Lib.hid hb; clear hb)
    go_ret
    exact ⟨rfl, H1.out⟩
  | false =>
    go_wp2_with fail
    refine H1.out.mono ?_
    rintro e w2 ⟨r1, rfl, hr1, hr2, hb2⟩
    have hz1 := hb2.size
    have J2 := Lib.hid (And.intro hr1 (And.intro hr2 hb2))
    clear hr1 hr2 hb2
    go_wp2_with fail
    refine (H2.out w2 J2.out.2.2).mono ?_
    rintro e w3 ⟨r2, rfl, hr1, hr2, hb3⟩
    have hrr : r1 = r2 := by
      by_cases hK : K = 0
      · have h1 := J2.out.2.1 hK
        have h2 := hr2 hK
        cases r1 <;> cases r2 <;> simp_all
      · rw [J2.out.1 hK, hr1 hK]
    have hB3 := J2.out.2.2.trans (hb3.mono hz1)
    have J3 := Lib.hid hB3
    clear hr1 hr2 hb3 hB3 hz1
    subst hrr
    go_wp2_with fail
    refine (H3.out w3 J3.out).mono ?_
    rintro e w4 ⟨a4, c4, rfl, hr4, hb4⟩
    have J4 := Lib.hid (And.intro hr4 (J3.out.trans (hb4.mono J3.out.size)))
    clear hr4 hb4
    go_wp2_with fail
    refine (H4.out w4 J4.out.2).mono ?_
    rintro e w5 ⟨a5, c5, rfl, hr5, hb5⟩
    have J5 := Lib.hid (And.intro (J4.out.1.below hb5) (And.intro hr5 (J4.out.2.trans (hb5.mono J4.out.2.size))))
    clear hr5 hb5 J4
    go_wp2_with fail
    refine (H5.out w5 J5.out.2.2).mono ?_
    rintro e w6 ⟨a6, c6, rfl, hr6, hb6⟩
    have J6 := Lib.hid (And.intro (J5.out.1.below hb6) (And.intro (J5.out.2.1.below hb6) (And.intro hr6 (J5.out.2.2.trans (hb6.mono J5.out.2.2.size)))))
    clear hr6 hb6 J5
    go_wp2_with fail
    refine (H6.out w6 J6.out.2.2.2).mono ?_
    rintro e w7 ⟨a7, c7, rfl, hr7, hb7⟩
    have J7 := Lib.hid (And.intro (same_true a4 a5 c4 c5 A w7 (J6.out.1.below hb7) (J6.out.2.1.below hb7)) (And.intro (J6.out.2.2.1.below hb7) (And.intro hr7 (J6.out.2.2.2.trans (hb7.mono J6.out.2.2.2.size)))))
    clear hr7 hb7 J6
    obtain ⟨X, hX⟩ : ∃ N, N = A.length := ⟨_, rfl⟩
    obtain ⟨Y, hY⟩ : ∃ N, N = B.length := ⟨_, rfl⟩
    rw [← hX] at J7 ⊢
    rw [← hY] at ⊢
    have HY := Lib.hid hY
    clear hX hY
    go_wp2_with fail
    refine J7.out.1.mono ?_
    rintro e w8 ⟨rfl, hb8⟩
    have hb78 : Below w7.heap.size w7 w8 := hb8
    have J8 := Lib.hid (And.intro (show Calls Try.prog 14 #[.slice a6 Y c6, .slice a7 Y c7] w8 _ from by rw [HY.out]; exact same_true a6 a7 c6 c7 B w8 (J7.out.2.1.below hb78) (J7.out.2.2.1.below hb78)) (J7.out.2.2.2.trans (hb78.mono J7.out.2.2.2.size)))
    clear hb8 hb78 J7
    go_wp2_with fail
    refine J8.out.1.mono ?_
    rintro e w9 ⟨rfl, hb9⟩
    have J9 := Lib.hid (J8.out.2.trans (hb9.mono J8.out.2.size))
    clear hb9 J8
    go_wp2_with (go_at_call 11; refine (Haw.out _).mono ?_; rintro e w10 ⟨rfl, hb⟩; have JA := Lib.hid (J9.out.trans (hb.mono J9.out.size)); clear hb)
    go_ret
    exact ⟨rfl, JA.out⟩
end Go.Proofs.Ytlnikgcanimggaa

namespace Go.Proofs.Ytlnikgcanimggaa
open Go.ChangeShapes Go.WideShapes Go.ChangeAt Go.RowKit
namespace LawCellsPairs
theorem own : ownKnob Try.prog.godebug = none := by kernel_rfl
theorem laidOut : laidOutB Try.prog = true := by kernel_rfl
theorem params : Try.f7.params = #[3, 22, 22] := by kernel_rfl
theorem results : Try.f7.resultTypes = #[4] := by kernel_rfl

set_option maxRecDepth 100000 in
theorem lifted (os : Os) (started : os.Started) (H : Type) (enc : TypeId × Value → H) :
    ReturnsInHanded {} Try.checked os 7 .any (Rows.cellsPairsSpec.pre6 enc Try.prog Try.f7 Rows.cellsPairsRow.domain false) (Rows.cellsPairsSpec.post enc Try.prog Try.f7 false true false false) := by
  refine returnsInHanded_of_change (C := Try.checked) own started (by kernel_rfl) Try.func7
    (ChangeSpec.witness6 (enc := enc) (C := Try.checked) false ⟨#[], #[.int .i64 0, .slice none 0 0, .slice none 0 0], []⟩ 8 (by kernel_rfl) (by kernel_rfl) (by kernel_rfl) (by kernel_rfl)) ?_
  intro W base args ds gs before hval0 hW hcnd _
  have hval : ∀ (j : Nat) t v, Try.f7.params[j]? = some t → args[j]? = some v → Value.okWide Try.prog W .any base t v := hval0
  have hW' := hW
  obtain ⟨p, q, hA0, hV, rfl, hfz, hnd⟩ := hW
  have hA : DataW.TrodAll enc Try.prog W 0 (fun _ => true) true Try.f7.params.toList args.toList ds p := hA0
  have hV0 : DataW.TrodVars enc Try.prog W (fun _ => true) [] gs q := hV
  obtain ⟨rfl, rfl⟩ := trodVars_none hV0
  rw [params] at hA hval
  obtain ⟨v0, v1, v2, d0, d1, d2, p0, p1, p2, rfl, rfl, rfl, h0, h1, h2⟩ := trodAll_three hA
  have hlt : ∀ x ∈ (p0 ++ p1 ++ p2) ++ [], x.block < W.heap.size := fun x hx => hW'.lt x hx
  obtain ⟨n0, rfl, rfl, rfl, wn0⟩ := open_int Try.underlying3 (hval 0 3 v0 rfl rfl) h0
  obtain ⟨a1, c1, l1, rfl, hr1⟩ := open_rows (hval 1 22 v1 rfl rfl) h1
  obtain ⟨a2, c2, l2, rfl, hr2⟩ := open_rows (hval 2 22 v2 rfl rfl) h2
  refine (cellsPairs_calls n0 a1 a2 c1 c2 l1 l2 W hr1 hr2).mono fun e W' ⟨he, hb⟩ => ?_
  subst he
  refine ⟨_, rfl, _, _, _, [], [] ++ (p1 ++ (p2)), [], hW', ?_, ?_, ?_, ?_, fun h => by cases h⟩
  · rw [results]
    exact trodAll_mk1 (shut_bool Try.underlying4 _)
  · rw [params]
    exact trodAll_mk3 (shut_int Try.underlying3 wn0) (Below.trod laidOut (by kernel_rfl) (of_decide_eq_true (by kernel_rfl)) h1 hb (fun x hx => hlt x (by simp [hx]))) (Below.trod laidOut (by kernel_rfl) (of_decide_eq_true (by kernel_rfl)) h2 hb (fun x hx => hlt x (by simp [hx])))
  · exact rfl
  · exact hb.frame _
end LawCellsPairs

theorem pairs_true : Rows.CellsPairsSaid :=
  OpenClaim.holds_of_wide 7 Try.f7 rfl rfl rfl rfl rfl rfl rfl ⟨rfl, rfl, rfl, rfl, rfl⟩ rfl rfl rfl rfl rfl (by kernel_rfl) Try.func7 (by kernel_rfl)
    (of_decide_eq_true (by kernel_rfl)) (by unfold Func.isWrapper; first | (rw [if_pos (by decide +kernel)]; kernel_rfl) | (rw [if_neg (by decide +kernel)]; exact ⟨rfl, rfl⟩))
    (fun os started H enc _ => LawCellsPairs.lifted os started H enc)
#print axioms pairs_true
end Go.Proofs.Ytlnikgcanimggaa
