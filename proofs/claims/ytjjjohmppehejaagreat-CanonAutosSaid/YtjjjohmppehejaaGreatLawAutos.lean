/- CanonAutos: the law's walk. -/
import Derived.Test.YtjjjohmppehejaaGreatFirstW
import Derived.Test.YtjjjohmppehejaaGreatLeastC
import Derived.Test.YtjjjohmppehejaaGreatRegB
set_option linter.unusedSimpArgs false
set_option linter.unusedVariables false
namespace Go.Proofs.YtjjjohmppehejaaGreat
open Go.RowKit Plain PlainG PlainX PlainT
theorem chain_top {w : World} {oa : Option Addr} {A : Adj} {cs : List Int} {n : Nat} (h : Rows w oa (orbsA A cs n n)) : ∃ ad : Addr, ∀ i, i < n → oa = some ad := by
  by_cases hn : 0 < n
  · obtain ⟨g, o, b, c, e, _⟩ := orb_cell h hn
    exact ⟨_, fun _ _ => e⟩
  · exact ⟨⟨0, 0, none⟩, fun i hi => by omega⟩
theorem perm_fine {n : Nat} {p : List Nat} (h : isPermB n p = true) : fineP (nts p) = true := by
  obtain ⟨h1, h2, h3⟩ := isPermB_iff.1 h
  unfold fineP
  rw [okFrom_iff, nts_len]
  refine ⟨fun x hx => ?_, ?_, fun x _ hm => by simp at hm⟩
  · obtain ⟨y, hy, rfl⟩ := List.mem_map.1 hx
    have := h2 y hy
    omega
  · unfold nts
    exact List.pairwise_map.2 (h3.imp fun {a b} hne e => hne (by omega))
theorem prodF_le (A : Adj) (c : List Int) (n : Nat) (hn : n ≤ 5) : ∀ k, prodF A c n k ≤ 5 ^ k
  | 0 => Nat.le_refl _
  | k + 1 => by
    rw [prodF, Nat.pow_succ]
    exact Nat.mul_le_mul (prodF_le A c n hn k) (by unfold orbA levA; rw [List.length_map]; exact Nat.le_trans (List.length_filterMap_le _ _) (by rw [List.length_range]; exact hn))
theorem pow_le5 {k : Nat} (hk : k ≤ 5) : 5 ^ k ≤ 3125 := by
  have : 5 ^ k ≤ 5 ^ 5 := Nat.pow_le_pow_right (by omega) hk
  simpa using this
theorem orb_len5 (A : Adj) (c : List Int) (n i : Nat) : (orbA A c n i).length ≤ n := by
  unfold orbA levA; rw [List.length_map]; exact Nat.le_trans (List.length_filterMap_le _ _) (by rw [List.length_range]; exact Nat.le_refl _)
set_option maxRecDepth 100000 in
set_option maxHeartbeats 40000000 in
theorem autosW {w : World} {z : Int} {a : Option Addr} {l : List Int} {c0 : Nat} (h1 : Ints w a l) :
    Calls Tryz.prog 4 #[.int .i64 z, .slice a l.length c0] w fun e w' => e = .returned (.bool true) ∧ Below w.heap.size w w' := by
  have hbr := bel_range (n := z) (k := 6) (by omega)
  obtain ⟨n, hn⟩ : ∃ n : Nat, bel z 6 = n := ⟨(bel z 6).toNat, by omega⟩
  have hn5 : n ≤ 5 := by omega
  have K15 := below_calls z 6 w (by omega)
  rw [hn] at K15 hbr
  have K16 := fun W (k : Below w.heap.size w W) => drawn_calls (n := n) c0 (h1.below k) (by omega)
  obtain ⟨m1, hm1⟩ : ∃ m, l.length = m := ⟨_, rfl⟩
  simp only [hm1] at K16
  rw [hm1]
  have HK := Lib.hid (And.intro K15 K16)
  clear K15 K16 h1 hm1 hn hbr
  go_enter Tryz.func4, Tryz.ntmps4
  go_wp2_with fail
  refine HK.out.1.mono ?_
  rintro e w2 ⟨rfl, rfl⟩
  go_wp2_with fail
  refine (HK.out.2 _ (Below.refl _ _)).mono ?_
  rintro e w3 ⟨ea, ec, ca, cc, g, rfl, hgn, hgc, he, hc, hw3⟩
  have hg : Vg n g := ⟨hgc, hgn⟩
  have hcl := hg.cl
  obtain ⟨L, hL⟩ : ∃ L, g.es.length = L := ⟨_, rfl⟩
  rw [hL, hcl]
  obtain ⟨X, hX⟩ : ∃ X, w3.heap.size = X := ⟨_, rfl⟩
  obtain ⟨W1, hW1⟩ : ∃ W1, w3.alloc (.cells #[.int .i64 (n : Int), .slice ea L ec, .slice ca n cc] 25) = W1 := ⟨_, rfl⟩
  have hb31 : Below w3.heap.size w3 W1 := by rw [← hW1]; exact alloc_b (Below.refl _ _) _
  have x0 : W1.cell? ⟨X, 0, none⟩ = some (.int .i64 (n : Int)) := by rw [← hW1, ← hX]; simp
  have x1 : W1.cell? ⟨X, 1, none⟩ = some (.slice ea L ec) := by rw [← hW1, ← hX]; simp
  have x2 : W1.cell? ⟨X, 2, none⟩ = some (.slice ca n cc) := by rw [← hW1, ← hX]; simp
  have hxW : ∀ W, Below W1.heap.size W1 W → W.cell? ⟨X, 0, none⟩ = some (.int .i64 (n : Int)) ∧ W.cell? ⟨X, 1, none⟩ = some (.slice ea L ec) ∧ W.cell? ⟨X, 2, none⟩ = some (.slice ca n cc) := fun W k =>
    ⟨(k.cell (block_lt_of_cell x0)).trans x0, (k.cell (block_lt_of_cell x1)).trans x1, (k.cell (block_lt_of_cell x2)).trans x2⟩
  have hgW : ∀ W, Below W1.heap.size W1 W → Edg W ea g.es ∧ Ints W ca g.cs := fun W k => ⟨(he.below hb31).below k, (hc.below hb31).below k⟩
  have K10 := fun W (k : Below W1.heap.size W1 W) => Group_calls (g := g) (ec := ec) (cc := cc) (hgW W k).1 (hgW W k).2
  have K12 := fun W (k : Below W1.heap.size W1 W) => Many_calls (g := g) (ec := ec) (cc := cc) (hgW W k).1 (hgW W k).2
  have K17 := fun W (k : Below W1.heap.size W1 W) => first_calls (c0 := ec) (d0 := cc) (c1 := ec) (d1 := cc) hn5 hg hg (hgW W k).1 (hgW W k).2 (hgW W k).1 (hgW W k).2
  have K22 := fun (W : World) (k : Below W1.heap.size W1 W) (p : List Nat) (hp : isPermB n p = true) (pb : Option Addr) (e : Nat) (hi : Ints W pb (nts p)) => movd_calls (N := n) (L := g.es.length) (c := ec) (d := cc) (e := e) (by omega) rfl hg.cl (by have := (chkGr_ok.1 hg.chk).2.2.1; rwa [hg.num] at this) hp (hgW W k).1 (hgW W k).2 hi
  have K21 := fun (W : World) (k : Below W1.heap.size W1 W) (p : List Nat) (hp : isPermB n p = true) (a1 b1 : Option Addr) (c d : Nat) (e1 : Edg W a1 (movedG n (nts p) g.es g.cs).es) (i1 : Ints W b1 (movedG n (nts p) g.es g.cs).cs) => hit21 (c := c) (d := d) (c1 := ec) (d1 := cc) hg hg hp e1 i1 (hgW W k).1 (hgW W k).2
  unfold ChnRes at K10
  have ho : (orbsA (adj g.es) g.cs n n).length = n := by simp [orbsA]
  have hr : (repsA (adj g.es) g.cs n n).length = n := by simp [repsA]
  simp only [grp_vg hg (show n ≤ 10 by omega), hg.num, hL, hcl, ho, hr] at K10
  simp only [many_vg hg hn5, hg.num, hL, hcl] at K12
  simp only [hL] at K17 K22 K21
  have hm120 : manyP n g g ≤ 120 := by
    unfold manyP
    exact Nat.le_trans (List.length_filter_le _ _) (chain_facts hn5).2
  have hmp := many_prod hn5 hg
  have HC := Lib.hid (And.intro K10 (And.intro K12 (And.intro K17 (And.intro K22 K21))))
  have HB := Lib.hid (And.intro (below_two hw3 hb31) hxW)
  have HG := Lib.hid (And.intro hg hmp)
  obtain ⟨m, hm⟩ : ∃ m, manyP n g g = m := ⟨_, rfl⟩
  rw [hm] at hm120
  have Hm := Lib.hid hm
  clear K10 K12 K17 K22 K21 hxW hgW hg hw3 hb31 he hc hL hcl ho hr hgn hgc HK hmp hm
  go_wp2_with fail
  clear hW1 hX
  refine (HC.out.1 _ (Below.refl _ _)).mono ?_
  rintro e w4 ⟨oa, oc, ra, rc, rfl, ho4, hr4, hw4⟩
  obtain ⟨A, hA⟩ : ∃ A, w4.heap.size = A := ⟨_, rfl⟩
  obtain ⟨W2, hW2⟩ : ∃ W2, w4.alloc (.cells #[.int .i64 (n : Int), .slice oa n oc, .slice ra n rc] 31) = W2 := ⟨_, rfl⟩
  have hal : Below w4.heap.size w4 W2 := by rw [← hW2]; exact alloc_b (Below.refl _ _) _
  have k2 := below_two hw4 hal
  have y0 : W2.cell? ⟨A, 0, none⟩ = some (.int .i64 (n : Int)) := by rw [← hW2, ← hA]; simp
  have y1 : W2.cell? ⟨A, 1, none⟩ = some (.slice oa n oc) := by rw [← hW2, ← hA]; simp
  have y2 : W2.cell? ⟨A, 2, none⟩ = some (.slice ra n rc) := by rw [← hW2, ← hA]; simp
  have hxy : ∀ W, Below W2.heap.size W2 W → W.cell? ⟨X, 0, none⟩ = some (.int .i64 (n : Int)) ∧ W.cell? ⟨X, 1, none⟩ = some (.slice ea L ec) ∧ W.cell? ⟨X, 2, none⟩ = some (.slice ca n cc) ∧ W.cell? ⟨A, 0, none⟩ = some (.int .i64 (n : Int)) ∧ W.cell? ⟨A, 1, none⟩ = some (.slice oa n oc) ∧ W.cell? ⟨A, 2, none⟩ = some (.slice ra n rc) := fun W k => by
    obtain ⟨e0, e1, e2⟩ := HB.out.2 _ (below_two k2 k)
    exact ⟨e0, e1, e2, (k.cell (block_lt_of_cell y0)).trans y0, (k.cell (block_lt_of_cell y1)).trans y1, (k.cell (block_lt_of_cell y2)).trans y2⟩
  have H2 := Lib.hid (And.intro (ho4.below hal) (And.intro (hr4.below hal) (And.intro k2 hxy)))
  clear ho4 hr4 hw4 hal k2 hxy y0 y1 y2 x0 x1 x2
  obtain ⟨x0, x1, x2, y0, y1, y2⟩ := H2.out.2.2.2 _ (Below.refl _ _)
  go_wp2_with fail
  clear hW2 hA
  refine (HC.out.2.1 _ H2.out.2.2.1).mono ?_
  rintro e w5 ⟨rfl, hw5⟩
  rw [Hm.out]
  have H5 := Lib.hid hw5
  clear x0 x1 x2 y0 y1 y2
  obtain ⟨x0, x1, x2, y0, y1, y2⟩ := H2.out.2.2.2 _ hw5
  clear hw5
  go_wp2_with fail
  refine (HC.out.2.2.1 _ (below_two H2.out.2.2.1 H5.out)).mono ?_
  rintro e w6 ⟨p1, pc1, rfl, -, hw6⟩
  rw [Hm.out]
  have H6 := Lib.hid (below_two H5.out hw6)
  clear hw6 x0 x1 x2 y0 y1 y2
  obtain ⟨x0, x1, x2, y0, y1, y2⟩ := H2.out.2.2.2 _ H6.out
  clear H5
  go_wp2_with fail
  clear x0 x1 x2 y0 y1 y2
  go_loopw [12, 13] (fun pr i wr => ∃ j : Nat, j ≤ n ∧ pr = .int .i64 (prodF (adj g.es) g.cs n j : Int) ∧ i = .int .i64 (j : Int) ∧ Below W2.heap.size W2 wr) (fun _ i _ => n - (intOf i).toNat)
  case atStart => exact ⟨0, Nat.zero_le _, rfl, rfl, H6.out⟩
  case round =>
    clear H6
    obtain ⟨j, hj, rfl, rfl, hbr⟩ := hrel
    obtain ⟨x0, x1, x2, y0, y1, y2⟩ := H2.out.2.2.2 _ hbr
    by_cases hjn : j < n
    · have hjn1 : (j : Int) < n := by omega
      obtain ⟨og, oo, ob, oc2, hoa, c2, ho1⟩ := orb_cell H2.out.1 hjn
      subst hoa
      obtain ⟨rg, ro, rb, rc2, hra, c3, hr1⟩ := rep_cell H2.out.2.1 hjn
      subst hra
      have hpd : prodF (adj g.es) g.cs n (j + 1) = prodF (adj g.es) g.cs n j * (orbA (adj g.es) g.cs n j).length := rfl
      have hpl := prodF_le (adj g.es) g.cs n hn5 j
      have hpl2 := prodF_le (adj g.es) g.cs n hn5 (j + 1)
      have hp5 := pow_le5 (show j ≤ 5 by omega)
      have hp52 := pow_le5 (show j + 1 ≤ 5 by omega)
      have hrl := orb_rep_len (adj g.es) g.cs n j
      have hol := orb_len5 (adj g.es) g.cs n j
      obtain ⟨O, hO⟩ : ∃ O, (orbA (adj g.es) g.cs n j).length = O := ⟨_, rfl⟩
      rw [hrl] at c3
      rw [hO] at c2 c3 hpd hol
      obtain ⟨PJ, hPJ⟩ : ∃ P, prodF (adj g.es) g.cs n j = P := ⟨_, rfl⟩
      rw [hPJ] at hpd hpl ⊢
      have hPJ1 : PJ ≤ 3125 := by omega
      have hPO : PJ * O ≤ 3125 := by rw [← hpd]; omega
      have hmul : IntKind.i64.wrap ((PJ : Int) * (O : Int)) = ((PJ * O : Nat) : Int) := by
        rw [← Int.natCast_mul]
        exact IntWalk.i64_in _ (by omega)
      have c2r := (hbr.cell (block_lt_of_cell c2)).trans c2
      have c3r := (hbr.cell (block_lt_of_cell c3)).trans c3
      have HJ := Lib.hid (And.intro ho1 (And.intro hr1 (And.intro hpd (And.intro hbr (And.intro hO (And.intro hrl (And.intro c2 c3)))))))
      clear ho1 hr1 hpd hpl hpl2 hp5 hp52 hrl hbr hO hPJ c2 c3
      obtain ⟨PO, hPOe⟩ : ∃ P, PJ * O = P := ⟨_, rfl⟩
      rw [hPOe] at hPO hmul
      go_wp2
      go_quiet (fail)
      go_wp2
      clear c2r c3r x0 x1 x2 y0 y1 y2 hmul
      go_loopw [14] (fun k wr => ∃ q : Nat, q ≤ O ∧ k = .int .i64 (q : Int) ∧ Below W2.heap.size W2 wr) (fun k _ => O - (intOf k).toNat)
      case atStart => exact ⟨0, Nat.zero_le _, rfl, below_drewN HJ.out.2.2.2.1 _⟩
      case round =>
        obtain ⟨q, hq, rfl, hbr⟩ := hrel
        obtain ⟨x0, x1, x2, y0, y1, y2⟩ := H2.out.2.2.2 _ hbr
        have c2r := (hbr.cell (block_lt_of_cell HJ.out.2.2.2.2.2.2.1)).trans HJ.out.2.2.2.2.2.2.1
        have c3r := (hbr.cell (block_lt_of_cell HJ.out.2.2.2.2.2.2.2)).trans HJ.out.2.2.2.2.2.2.2
        by_cases hqO : q < O
        · have hqO1 : (q : Int) < O := by omega
          have hO5 : O ≤ 5 := by omega
          have hqo : q < (orbA (adj g.es) g.cs n j).length := by rw [HJ.out.2.2.2.2.1]; exact hqO
          obtain ⟨f1, f2, f3, f4, f5, f6⟩ := rep_facts hn5 HG.out.1 hjn hqo
          obtain ⟨ogk, ook, hob, c5⟩ := ints_at HJ.out.1 hqo
          subst hob
          obtain ⟨rg2, ro2, rb2, rc3, hrb, c4, hr2⟩ := rep_row HJ.out.2.1 (k := q) (by rw [HJ.out.2.2.2.2.2.1]; exact hqo)
          subst hrb
          obtain ⟨Q, hQ⟩ : ∃ Q, (repA (adj g.es) g.cs n j)[q]?.getD [] = Q := ⟨_, rfl⟩
          rw [hQ] at f1 f2 f3 f5 f6 c4 hr2
          have hQn : Q.length = n := (isPermB_iff.1 f1).1
          obtain ⟨qg, qo, hqb, c6⟩ := ints_at hr2 (i := j) (by omega)
          subst hqb
          rw [hQn] at c4
          have c5r := (hbr.cell (block_lt_of_cell c5)).trans c5
          have c4r := (hbr.cell (block_lt_of_cell c4)).trans c4
          have c6r := (hbr.cell (block_lt_of_cell c6)).trans c6
          have hr2r := hr2.below hbr
          have e3 : at_ (orbA (adj g.es) g.cs n j) q = at_ Q j := f3.symm
          rw [e3] at c5r
          obtain ⟨y, hy⟩ : ∃ y, at_ Q j = y := ⟨_, rfl⟩
          rw [hy] at c5r c6r
          have hasc : ∀ q', q = q' + 1 → ∃ y' : Nat, W2.cell? ⟨ogk, ook + q', none⟩ = some (.int .i64 (y' : Int)) ∧ y' < y := fun q' e => by
            obtain ⟨g2, o2, e2, c7⟩ := ints_at HJ.out.1 (i := q') (by omega)
            injection e2 with e2
            injection e2 with e2 e4 _
            subst e2; subst e4
            refine ⟨_, c7, ?_⟩
            have h8 := List.pairwise_iff_getElem.1 (orb_asc (adj g.es) g.cs n j) q' q (by omega) hqo (by omega)
            rw [← at_lt, ← at_lt, e3, hy] at h8
            exact h8
          have hhit : hits n g g Q = true := (hits_iff HG.out.1 HG.out.1 f1).2 f2
          have K18 := fun W (k : Below wr.heap.size wr W) => fine_calls (c := rc3) (hr2r.below k) (by rw [nts_len, hQn]; omega)
          simp only [nts_len, hQn, perm_fine f1] at K18
          have hsame : ∀ W, Below wr.heap.size wr W → y = j → Ints W (some ⟨qg, qo, none⟩) (nts (List.range n)) := fun W k e => by
            have h8 := hr2r.below k
            rwa [f5 (hy.trans e)] at h8
          have H22 := fun W (k : Below wr.heap.size wr W) => HC.out.2.2.2.1 W (below_two H2.out.2.2.1 (below_two hbr k)) Q f1 (some ⟨qg, qo, none⟩) rc3 (hr2r.below k)
          have H21 := fun W (k : Below wr.heap.size wr W) a1 b1 c' d' e1 i1 => HC.out.2.2.2.2 W (below_two H2.out.2.2.1 (below_two hbr k)) Q f1 a1 b1 c' d' e1 i1
          simp only [hhit] at H21
          obtain ⟨mg, hmg⟩ : ∃ mg, movedG n (nts Q) g.es g.cs = mg := ⟨_, rfl⟩
          simp only [hmg] at H21 H22
          have hfix : ∀ W, Below wr.heap.size wr W → ∀ u, u < j → W.cell? ⟨qg, qo + u, none⟩ = some (.int .i64 (u : Int)) := fun W k u hu => by
            obtain ⟨g2, o2, e2, c7⟩ := ints_at hr2 (i := u) (by omega)
            injection e2 with e2
            injection e2 with e2 e4 _
            subst e2; subst e4
            rw [f6 u hu] at c7
            exact ((below_two hbr k).cell (block_lt_of_cell c7)).trans c7
          have HQ := Lib.hid (And.intro K18 (And.intro H22 (And.intro H21 (And.intro True.intro (And.intro hfix (And.intro hbr (And.intro hr2r (And.intro True.intro hsame))))))))
          have c7 : ∀ q', q = q' + 1 → ∃ y' : Nat, wr.cell? ⟨ogk, ook + q', none⟩ = some (.int .i64 (y' : Int)) ∧ y' < y := fun q' e => by
            obtain ⟨y', c7, h7⟩ := hasc q' e
            exact ⟨y', (hbr.cell (block_lt_of_cell c7)).trans c7, h7⟩
          clear K18 H22 H21 hfix hbr hr2r f1 f2 f3 f4 f5 f6 hr2 hQ hmg hhit hasc c4 c5 c6 e3 hqo hy hsame hQn
          obtain ⟨Y, hY⟩ : ∃ Y : Nat, (0 < q → Y < y) ∧ ∀ q', q = q' + 1 → wr.cell? ⟨ogk, ook + q', none⟩ = some (.int .i64 (Y : Int)) := by
            cases q with
            | zero => exact ⟨0, fun h => by omega, fun q' e => by omega⟩
            | succ q' =>
              obtain ⟨y', c7r, hyy⟩ := c7 q' rfl
              exact ⟨y', fun _ => hyy, fun q2 e => by have e2 : q' = q2 := (by omega); subst e2; exact c7r⟩
          obtain ⟨hYy, c7r⟩ := hY
          clear c7
          have hSS := And.intro x0 (And.intro x1 (And.intro x2 (And.intro y1 (And.intro c2r (And.intro c5r (And.intro c6r c7r))))))
          have HY := Lib.hid (And.intro hYy hSS)
          clear hYy hSS c7r
          go_wp2
          go_cut [179] (fun u wx => u = .bool false ∧ Below wr.heap.size wr wx)
          case first =>
            by_cases hq0 : q = 0
            · by_cases hyj : y = j
              · refine Code.wp_mono (OnlyNormal.imp fun aN W h => ?_) (reg19_01 (wr := wr) (n := n) (j := j) (q := q) (y := y) (O := O) (Y := Y) (L := L) (X := X) (A := A) (mg := mg) _ _ _ _ _ _ _ _ _ _ _ _ _ _ _ _ _ _ _ _ _ _ _ _ _ _ _ _ _ _ _ _ _ _ _ _ _ _ _ _ _ _ _ _ _ _ _ _ _ _ _ _ _ _ _ _ _ _ _ _ _ _ _ _ _ _ _ _ _ _ _ _ _ _ _ _ _ _ _ _ _ _ _ _ _ _ _ _ _ _ _ _ _ _ _ _ _ _ _ _ _ _ _ _ _ _ _ _ _ _ _ _ _ _ _ _ _ _ _ _ _ _ _ _ _ _ _ _ _ _ _ _ _ _ _ _ _ _ _ _ _ _ _ _ _ _ _ _ _ _ _ _ _ _ _ _ _ _ _ _ _ _ _ _ _ _ _ _ _ _ _ _ _ _ _ _ _ _ _ _ _ _ _ _ _ _ _ _ _ _ _ _ _ _ _ _ _ _ _ _ _ _ _ _ _ hn5 hjn1 hqO1 hO5 hq0 hyj HY.out.2 HQ.out.1 HQ.out.2.1 (fun W k a1 b1 c d e1 i1 => HQ.out.2.2.1 W k a1 b1 c d e1 i1) (fun W k => HQ.out.2.2.2.2.2.2.2.2 W k hyj))
                obtain ⟨d114, d115, d116, d117, d118, d119, d120, d121, d122, d123, d124, d125, d126, d127, d128, d129, d130, d131, d132, d133, d134, d135, d136, d137, d138, d139, d140, d141, d142, d143, d144, d145, d146, d147, d148, d149, d150, d151, d152, d153, d154, d155, d156, d157, d158, d159, d160, d161, d162, d163, d164, d165, d166, d167, d168, d169, d170, d171, d172, d173, d174, d175, d176, d177, d178, hbe, rfl⟩ := h
                go_wp2
                go_meet
                exact ⟨by first | rfl | trivial, hbe⟩
              · refine Code.wp_mono (OnlyNormal.imp fun aN W h => ?_) (reg19_00 (wr := wr) (n := n) (j := j) (q := q) (y := y) (O := O) (Y := Y) (L := L) (X := X) (A := A) (mg := mg) _ _ _ _ _ _ _ _ _ _ _ _ _ _ _ _ _ _ _ _ _ _ _ _ _ _ _ _ _ _ _ _ _ _ _ _ _ _ _ _ _ _ _ _ _ _ _ _ _ _ _ _ _ _ _ _ _ _ _ _ _ _ _ _ _ _ _ _ _ _ _ _ _ _ _ _ _ _ _ _ _ _ _ _ _ _ _ _ _ _ _ _ _ _ _ _ _ _ _ _ _ _ _ _ _ _ _ _ _ _ _ _ _ _ _ _ _ _ _ _ _ _ _ _ _ _ _ _ _ _ _ _ _ _ _ _ _ _ _ _ _ _ _ _ _ _ _ _ _ _ _ _ _ _ _ _ _ _ _ _ _ _ _ _ _ _ _ _ _ _ _ _ _ _ _ _ _ _ _ _ _ _ _ _ _ _ _ _ _ _ _ _ _ _ _ _ _ _ _ _ _ _ _ _ _ hn5 hjn1 hqO1 hO5 hq0 hyj HY.out.2 HQ.out.1 HQ.out.2.1 (fun W k a1 b1 c d e1 i1 => HQ.out.2.2.1 W k a1 b1 c d e1 i1))
                obtain ⟨d114, d115, d116, d117, d118, d119, d120, d121, d122, d123, d124, d125, d126, d127, d128, d129, d130, d131, d132, d133, d134, d135, d136, d137, d138, d139, d140, d141, d142, d143, d144, d145, d146, d147, d148, d149, d150, d151, d152, d153, d154, d155, d156, d157, d158, d159, d160, d161, d162, d163, d164, d165, d166, d167, d168, d169, d170, d171, d172, d173, d174, d175, d176, d177, d178, hbe, rfl⟩ := h
                go_wp2
                go_meet
                exact ⟨by first | rfl | trivial, hbe⟩
            · by_cases hyj : y = j
              · refine Code.wp_mono (OnlyNormal.imp fun aN W h => ?_) (reg19_11 (wr := wr) (n := n) (j := j) (q := q) (y := y) (O := O) (Y := Y) (L := L) (X := X) (A := A) (mg := mg) _ _ _ _ _ _ _ _ _ _ _ _ _ _ _ _ _ _ _ _ _ _ _ _ _ _ _ _ _ _ _ _ _ _ _ _ _ _ _ _ _ _ _ _ _ _ _ _ _ _ _ _ _ _ _ _ _ _ _ _ _ _ _ _ _ _ _ _ _ _ _ _ _ _ _ _ _ _ _ _ _ _ _ _ _ _ _ _ _ _ _ _ _ _ _ _ _ _ _ _ _ _ _ _ _ _ _ _ _ _ _ _ _ _ _ _ _ _ _ _ _ _ _ _ _ _ _ _ _ _ _ _ _ _ _ _ _ _ _ _ _ _ _ _ _ _ _ _ _ _ _ _ _ _ _ _ _ _ _ _ _ _ _ _ _ _ _ _ _ _ _ _ _ _ _ _ _ _ _ _ _ _ _ _ _ _ _ _ _ _ _ _ _ _ _ _ _ _ _ _ _ _ _ _ _ hn5 hjn1 hqO1 hO5 (by omega) (HY.out.1 (by omega)) hyj HY.out.2 HQ.out.1 HQ.out.2.1 (fun W k a1 b1 c d e1 i1 => HQ.out.2.2.1 W k a1 b1 c d e1 i1) (fun W k => HQ.out.2.2.2.2.2.2.2.2 W k hyj))
                obtain ⟨d114, d115, d116, d117, d118, d119, d120, d121, d122, d123, d124, d125, d126, d127, d128, d129, d130, d131, d132, d133, d134, d135, d136, d137, d138, d139, d140, d141, d142, d143, d144, d145, d146, d147, d148, d149, d150, d151, d152, d153, d154, d155, d156, d157, d158, d159, d160, d161, d162, d163, d164, d165, d166, d167, d168, d169, d170, d171, d172, d173, d174, d175, d176, d177, d178, hbe, rfl⟩ := h
                go_wp2
                go_meet
                exact ⟨by first | rfl | trivial, hbe⟩
              · refine Code.wp_mono (OnlyNormal.imp fun aN W h => ?_) (reg19_10 (wr := wr) (n := n) (j := j) (q := q) (y := y) (O := O) (Y := Y) (L := L) (X := X) (A := A) (mg := mg) _ _ _ _ _ _ _ _ _ _ _ _ _ _ _ _ _ _ _ _ _ _ _ _ _ _ _ _ _ _ _ _ _ _ _ _ _ _ _ _ _ _ _ _ _ _ _ _ _ _ _ _ _ _ _ _ _ _ _ _ _ _ _ _ _ _ _ _ _ _ _ _ _ _ _ _ _ _ _ _ _ _ _ _ _ _ _ _ _ _ _ _ _ _ _ _ _ _ _ _ _ _ _ _ _ _ _ _ _ _ _ _ _ _ _ _ _ _ _ _ _ _ _ _ _ _ _ _ _ _ _ _ _ _ _ _ _ _ _ _ _ _ _ _ _ _ _ _ _ _ _ _ _ _ _ _ _ _ _ _ _ _ _ _ _ _ _ _ _ _ _ _ _ _ _ _ _ _ _ _ _ _ _ _ _ _ _ _ _ _ _ _ _ _ _ _ _ _ _ _ _ _ _ _ _ hn5 hjn1 hqO1 hO5 (by omega) (HY.out.1 (by omega)) hyj HY.out.2 HQ.out.1 HQ.out.2.1 (fun W k a1 b1 c d e1 i1 => HQ.out.2.2.1 W k a1 b1 c d e1 i1))
                obtain ⟨d114, d115, d116, d117, d118, d119, d120, d121, d122, d123, d124, d125, d126, d127, d128, d129, d130, d131, d132, d133, d134, d135, d136, d137, d138, d139, d140, d141, d142, d143, d144, d145, d146, d147, d148, d149, d150, d151, d152, d153, d154, d155, d156, d157, d158, d159, d160, d161, d162, d163, d164, d165, d166, d167, d168, d169, d170, d171, d172, d173, d174, d175, d176, d177, d178, hbe, rfl⟩ := h
                go_wp2
                go_meet
                exact ⟨by first | rfl | trivial, hbe⟩
          case rest =>
            obtain ⟨rfl, hbc⟩ := hcut
            clear x0 x1 x2 y0 y1 y2 c2r c3r c5r c4r c6r
            go_wp2
            go_loopw [16] (fun v wr2 => ∃ u : Nat, u ≤ j ∧ v = .int .i64 (u : Int) ∧ Below wr.heap.size wr wr2) (fun v _ => j - (intOf v).toNat)
            case atStart => exact ⟨0, Nat.zero_le _, rfl, hbc⟩
            case round =>
              obtain ⟨u, hu, rfl, hb2⟩ := hrel
              by_cases huj : u < j
              · have c8 := HQ.out.2.2.2.2.1 _ hb2 u huj
                have huj1 : (u : Int) < j := by omega
                have hun : (u : Int) < n := by omega
                have HE := Lib.hid hb2
                clear hb2
                go_wp2
                exact ⟨⟨u + 1, by omega, by go_num, HE.out⟩, by simp [intOf]; omega⟩
              · obtain rfl : u = j := by omega
                have HE := Lib.hid hb2
                clear hb2
                go_wp2
                exact ⟨⟨q + 1, by omega, by go_num, below_two HQ.out.2.2.2.2.2.1 HE.out⟩, by simp [intOf]; omega⟩
        · obtain rfl : q = O := by omega
          have HE := Lib.hid hbr
          clear hbr
          go_wp2
          refine ⟨⟨j + 1, by omega, by rw [HJ.out.2.2.1, hPOe], by go_num, HE.out⟩, by simp [intOf]; omega⟩
    · obtain rfl : j = n := by omega
      have hpm : prodF (adj g.es) g.cs j j = m := by rw [← Hm.out]; exact HG.out.2.symm
      rw [hpm]
      have HE := Lib.hid hbr
      clear hbr hpm
      go_wp2_with fail
      clear x0 x1 x2 y0 y1 y2
      refine (one_calls j (by omega) _).mono ?_
      rintro e w7 ⟨v, rfl, ho7, hw7⟩
      obtain ⟨a7, c7, rfl⟩ : ∃ a c, v = .slice a j c := by
        obtain ⟨a, c, e⟩ := ho7.any3 (by rw [ints_len, nts_len]; simp; unfold maxLen; omega)
        rw [ints_len, nts_len, List.length_range] at e
        exact ⟨a, c, e⟩
      have H7 := Lib.hid (And.intro (ho7.mono HE.out.size) (below_two HE.out hw7))
      clear ho7 hw7
      go_wp2
      go_loopg [] 121 (fun f wr2 => ∃ (k : Nat) (p : List Nat), (seqP j)[k]? = some p ∧ k + f = 121 ∧ Own wr2 W2.heap.size (.slice a7 j c7) 3 (ints (nts p)) ∧ Below W2.heap.size W2 wr2)
      case atStart => exact ⟨0, List.range j, seq_first, rfl, H7.out.1, H7.out.2⟩
      case round =>
        clear H7 HE
        obtain ⟨k, p, hk, hkf, hv, hbw⟩ := hrel
        have hp := seq_permB hn5 hk
        have hk121 : k < 121 := by have := (List.getElem?_eq_some_iff.1 hk).1; have := (chain_facts hn5).2; omega
        have hlp : p.length = j := (isPermB_iff.1 hp).1
        have hpi : Ints wr a7 (nts p) := hv.toInts (by rw [nts_len]; unfold maxLen; omega)
        obtain ⟨x0, x1, x2, y0, y1, y2⟩ := H2.out.2.2.2 _ hbw
        have H22 := fun W (q : Below wr.heap.size wr W) => HC.out.2.2.2.1 W (below_two H2.out.2.2.1 (below_two hbw q)) p hp a7 c7 (hpi.below q)
        have H21 := fun W (q : Below wr.heap.size wr W) a1 b1 c' d' e1 i1 => HC.out.2.2.2.2 W (below_two H2.out.2.2.1 (below_two hbw q)) p hp a1 b1 c' d' e1 i1
        obtain ⟨b, hb⟩ : ∃ b, hits j g g p = b := ⟨_, rfl⟩
        simp only [hb] at H21
        obtain ⟨mg, hmg⟩ : ∃ mg, movedG j (nts p) g.es g.cs = mg := ⟨_, rfl⟩
        simp only [hmg] at H21 H22
        have H23 : b = true → ∀ W, Below wr.heap.size wr W → Calls Tryz.prog 23 #[.agg #[.int .i64 (j : Int), .slice oa j oc, .slice ra j rc], .slice a7 j c7] W fun e w' => e = .returned (.bool true) ∧ Below W.heap.size W w' := fun e W q => least_calls hn5 ((iso_iff hp).1 (hb.trans e)) (H2.out.1.below (below_two hbw q)) (H2.out.2.1.below (below_two hbw q)) (hpi.below q)
        have hx := (And.intro x0 (And.intro x1 (And.intro x2 (And.intro y0 (And.intro y1 (And.intro y2 (Below.refl wr.heap.size wr)))))))
        have keep : ∀ {W W' : World}, W.cell? ⟨X, 0, none⟩ = some (.int .i64 (j : Int)) ∧ W.cell? ⟨X, 1, none⟩ = some (.slice ea L ec) ∧ W.cell? ⟨X, 2, none⟩ = some (.slice ca j cc) ∧ W.cell? ⟨A, 0, none⟩ = some (.int .i64 (j : Int)) ∧ W.cell? ⟨A, 1, none⟩ = some (.slice oa j oc) ∧ W.cell? ⟨A, 2, none⟩ = some (.slice ra j rc) ∧ Below wr.heap.size wr W → Below W.heap.size W W' → W'.cell? ⟨X, 0, none⟩ = some (.int .i64 (j : Int)) ∧ W'.cell? ⟨X, 1, none⟩ = some (.slice ea L ec) ∧ W'.cell? ⟨X, 2, none⟩ = some (.slice ca j cc) ∧ W'.cell? ⟨A, 0, none⟩ = some (.int .i64 (j : Int)) ∧ W'.cell? ⟨A, 1, none⟩ = some (.slice oa j oc) ∧ W'.cell? ⟨A, 2, none⟩ = some (.slice ra j rc) ∧ Below wr.heap.size wr W' := fun h k => ⟨(k.cell (block_lt_of_cell h.1)).trans h.1, (k.cell (block_lt_of_cell h.2.1)).trans h.2.1, (k.cell (block_lt_of_cell h.2.2.1)).trans h.2.2.1, (k.cell (block_lt_of_cell h.2.2.2.1)).trans h.2.2.2.1, (k.cell (block_lt_of_cell h.2.2.2.2.1)).trans h.2.2.2.2.1, (k.cell (block_lt_of_cell h.2.2.2.2.2.1)).trans h.2.2.2.2.2.1, below_two h.2.2.2.2.2.2 k⟩
        have lastB : ∀ {W : World}, W.cell? ⟨X, 0, none⟩ = some (.int .i64 (j : Int)) ∧ W.cell? ⟨X, 1, none⟩ = some (.slice ea L ec) ∧ W.cell? ⟨X, 2, none⟩ = some (.slice ca j cc) ∧ W.cell? ⟨A, 0, none⟩ = some (.int .i64 (j : Int)) ∧ W.cell? ⟨A, 1, none⟩ = some (.slice oa j oc) ∧ W.cell? ⟨A, 2, none⟩ = some (.slice ra j rc) ∧ Below wr.heap.size wr W → Below wr.heap.size wr W := fun h => h.2.2.2.2.2.2
        have HCc := Lib.hid (And.intro H22 (And.intro H21 H23))
        have HR := Lib.hid (And.intro hv (And.intro hbw (And.intro hk hp)))
        clear H22 H21 H23 hv hbw hp hlp hpi hb hmg
        go_wp2
        go_cut [206] (fun u wx => u = .bool false ∧ Below wr.heap.size wr wx)
        case first =>
          cases b with
          | false =>
            refine wp_region_held_drew (S := (fun W => W.cell? ⟨X, 0, none⟩ = some (.int .i64 (j : Int)) ∧ W.cell? ⟨X, 1, none⟩ = some (.slice ea L ec) ∧ W.cell? ⟨X, 2, none⟩ = some (.slice ca j cc) ∧ W.cell? ⟨A, 0, none⟩ = some (.int .i64 (j : Int)) ∧ W.cell? ⟨A, 1, none⟩ = some (.slice oa j oc) ∧ W.cell? ⟨A, 2, none⟩ = some (.slice ra j rc) ∧ Below wr.heap.size wr W)) (by kernel_rfl) ?_ (fun hHeld => ?_)
            · (try dsimp only)
              first | assumption | exact hx | exact keep (by assumption) (by first | assumption | exact below_self_drewN _ _) | exact keep hx (by first | assumption | exact below_self_drewN _ _)
            refine drawTake (i := 0) (d := 196) (v := ?_) (by simp only [List.getElem?_toArray, List.getElem?_cons_succ, List.getElem?_cons_zero]; rfl) (by rfl) (by kernel_rfl) (by kernel_rfl) (by kernel_rfl) (by exact fun _ _ _ h => h) (Or.inl ⟨by rfl, ?_⟩) (by assumption) ?_
            rotate_left
            · intro w hSw; (try dsimp only at hSw); go_simp; try with_reducible rfl
            try simp only [List.setIfInBounds_toArray, List.set_cons_zero, List.set_cons_succ]
            refine drawTake (i := 1) (d := 197) (v := ?_) (by simp only [List.getElem?_toArray, List.getElem?_cons_succ, List.getElem?_cons_zero]; rfl) (by rfl) (by kernel_rfl) (by kernel_rfl) (by kernel_rfl) (by exact fun _ _ _ h => h) (Or.inl ⟨by rfl, ?_⟩) (by assumption) ?_
            rotate_left
            · intro w hSw; (try dsimp only at hSw); go_simp; try with_reducible rfl
            try simp only [List.setIfInBounds_toArray, List.set_cons_zero, List.set_cons_succ]
            refine drawTake (i := 3) (d := 199) (v := ?_) (by simp only [List.getElem?_toArray, List.getElem?_cons_succ, List.getElem?_cons_zero]; rfl) (by rfl) (by kernel_rfl) (by kernel_rfl) (by kernel_rfl) (by exact fun _ _ _ h => h) (Or.inl ⟨by rfl, ?_⟩) (by assumption) ?_
            rotate_left
            · intro w hSw; (try dsimp only at hSw); go_simp; try with_reducible rfl
            try simp only [List.setIfInBounds_toArray, List.set_cons_zero, List.set_cons_succ]
            refine drawCall (i := 2) (d := 198) (by simp only [List.getElem?_toArray, List.getElem?_cons_succ, List.getElem?_cons_zero]; rfl) (by rfl) (by kernel_rfl) (by rfl) (fun K hK => ?_)
            (first | (go_at_call 22; (with_reducible refine (HCc.out.1 _ (lastB (by assumption))).mono ?_); rintro e wA ⟨a1, k1, b1, d1, rfl, he1, hi1, hwA⟩) | (go_simp; go_at_call 22; (with_reducible refine (HCc.out.1 _ (lastB (by assumption))).mono ?_); rintro e wA ⟨a1, k1, b1, d1, rfl, he1, hi1, hwA⟩))
            refine hK.out _ _ ?_ (fun hHeld2 => ?_)
            · (try dsimp only)
              first | assumption | exact hx | exact keep (by assumption) (by first | assumption | exact below_self_drewN _ _) | exact keep hx (by first | assumption | exact below_self_drewN _ _)
            clear hK K hHeld
            have hHeld := hHeld2
            clear hHeld2
            try simp only [List.setIfInBounds_toArray, List.set_cons_zero, List.set_cons_succ]
            refine drawCall (i := 4) (d := 200) (by simp only [List.getElem?_toArray, List.getElem?_cons_succ, List.getElem?_cons_zero]; rfl) (by rfl) (by kernel_rfl) (by rfl) (fun K hK => ?_)
            (first | (go_at_call 21; (with_reducible refine (HCc.out.2.1 _ (lastB (by assumption)) _ _ _ _ he1 hi1).mono ?_); rintro e wB ⟨rfl, hwB⟩) | (go_simp; go_at_call 21; (with_reducible refine (HCc.out.2.1 _ (lastB (by assumption)) _ _ _ _ he1 hi1).mono ?_); rintro e wB ⟨rfl, hwB⟩))
            refine hK.out _ _ ?_ (fun hHeld2 => ?_)
            · (try dsimp only)
              first | assumption | exact hx | exact keep (by assumption) (by first | assumption | exact below_self_drewN _ _) | exact keep hx (by first | assumption | exact below_self_drewN _ _)
            clear hK K hHeld
            have hHeld := hHeld2
            clear hHeld2
            try simp only [List.setIfInBounds_toArray, List.set_cons_zero, List.set_cons_succ]
            refine drawTake (i := 5) (d := 201) (v := ?_) (by simp only [List.getElem?_toArray, List.getElem?_cons_succ, List.getElem?_cons_zero]; rfl) (by rfl) (by kernel_rfl) (by kernel_rfl) (by kernel_rfl) (by exact fun _ _ _ h => h) (Or.inl ⟨by rfl, ?_⟩) (by assumption) ?_
            rotate_left
            · intro w hSw; (try dsimp only at hSw); go_simp; try with_reducible rfl
            try simp only [List.setIfInBounds_toArray, List.set_cons_zero, List.set_cons_succ]
            refine drawTake (i := 6) (d := 202) (v := undef) (by simp only [List.getElem?_toArray, List.getElem?_cons_succ, List.getElem?_cons_zero]; rfl) (by rfl) (by kernel_rfl) (by kernel_rfl) (by kernel_rfl) (by exact fun _ _ _ h => h) (Or.inr ⟨by rfl, rfl⟩) (by assumption) ?_
            try simp only [List.setIfInBounds_toArray, List.set_cons_zero, List.set_cons_succ]
            refine drawTake (i := 7) (d := 203) (v := undef) (by simp only [List.getElem?_toArray, List.getElem?_cons_succ, List.getElem?_cons_zero]; rfl) (by rfl) (by kernel_rfl) (by kernel_rfl) (by kernel_rfl) (by exact fun _ _ _ h => h) (Or.inr ⟨by rfl, rfl⟩) (by assumption) ?_
            try simp only [List.setIfInBounds_toArray, List.set_cons_zero, List.set_cons_succ]
            refine drawTake (i := 8) (d := 204) (v := undef) (by simp only [List.getElem?_toArray, List.getElem?_cons_succ, List.getElem?_cons_zero]; rfl) (by rfl) (by kernel_rfl) (by kernel_rfl) (by kernel_rfl) (by exact fun _ _ _ h => h) (Or.inr ⟨by rfl, rfl⟩) (by assumption) ?_
            try simp only [List.setIfInBounds_toArray, List.set_cons_zero, List.set_cons_succ]
            refine drawTake (i := 9) (d := 205) (v := undef) (by simp only [List.getElem?_toArray, List.getElem?_cons_succ, List.getElem?_cons_zero]; rfl) (by rfl) (by kernel_rfl) (by kernel_rfl) (by kernel_rfl) (by exact fun _ _ _ h => h) (Or.inr ⟨by rfl, rfl⟩) (by assumption) ?_
            try simp only [List.setIfInBounds_toArray, List.set_cons_zero, List.set_cons_succ]
            refine drawTake (i := 10) (d := 206) (v := ?_) (by simp only [List.getElem?_toArray, List.getElem?_cons_succ, List.getElem?_cons_zero]; rfl) (by rfl) (by kernel_rfl) (by kernel_rfl) (by kernel_rfl) (by exact fun _ _ _ h => h) (Or.inl ⟨by rfl, ?_⟩) (by assumption) ?_
            rotate_left
            · intro w hSw; (try dsimp only at hSw); go_simp; try with_reducible rfl
            try simp only [List.setIfInBounds_toArray, List.set_cons_zero, List.set_cons_succ]
            refine wpAnyH_done (by kernel_rfl) ?_ _
            all_goals have hbe : Below wr.heap.size wr wB := lastB (by assumption)
            all_goals go_wp2
            all_goals go_meet
            all_goals exact ⟨by first | rfl | trivial, hbe⟩
          | true =>
            refine wp_region_held_drew (S := (fun W => W.cell? ⟨X, 0, none⟩ = some (.int .i64 (j : Int)) ∧ W.cell? ⟨X, 1, none⟩ = some (.slice ea L ec) ∧ W.cell? ⟨X, 2, none⟩ = some (.slice ca j cc) ∧ W.cell? ⟨A, 0, none⟩ = some (.int .i64 (j : Int)) ∧ W.cell? ⟨A, 1, none⟩ = some (.slice oa j oc) ∧ W.cell? ⟨A, 2, none⟩ = some (.slice ra j rc) ∧ Below wr.heap.size wr W)) (by kernel_rfl) ?_ (fun hHeld => ?_)
            · (try dsimp only)
              first | assumption | exact hx | exact keep (by assumption) (by first | assumption | exact below_self_drewN _ _) | exact keep hx (by first | assumption | exact below_self_drewN _ _)
            refine drawTake (i := 0) (d := 196) (v := ?_) (by simp only [List.getElem?_toArray, List.getElem?_cons_succ, List.getElem?_cons_zero]; rfl) (by rfl) (by kernel_rfl) (by kernel_rfl) (by kernel_rfl) (by exact fun _ _ _ h => h) (Or.inl ⟨by rfl, ?_⟩) (by assumption) ?_
            rotate_left
            · intro w hSw; (try dsimp only at hSw); go_simp; try with_reducible rfl
            try simp only [List.setIfInBounds_toArray, List.set_cons_zero, List.set_cons_succ]
            refine drawTake (i := 1) (d := 197) (v := ?_) (by simp only [List.getElem?_toArray, List.getElem?_cons_succ, List.getElem?_cons_zero]; rfl) (by rfl) (by kernel_rfl) (by kernel_rfl) (by kernel_rfl) (by exact fun _ _ _ h => h) (Or.inl ⟨by rfl, ?_⟩) (by assumption) ?_
            rotate_left
            · intro w hSw; (try dsimp only at hSw); go_simp; try with_reducible rfl
            try simp only [List.setIfInBounds_toArray, List.set_cons_zero, List.set_cons_succ]
            refine drawTake (i := 3) (d := 199) (v := ?_) (by simp only [List.getElem?_toArray, List.getElem?_cons_succ, List.getElem?_cons_zero]; rfl) (by rfl) (by kernel_rfl) (by kernel_rfl) (by kernel_rfl) (by exact fun _ _ _ h => h) (Or.inl ⟨by rfl, ?_⟩) (by assumption) ?_
            rotate_left
            · intro w hSw; (try dsimp only at hSw); go_simp; try with_reducible rfl
            try simp only [List.setIfInBounds_toArray, List.set_cons_zero, List.set_cons_succ]
            refine drawCall (i := 2) (d := 198) (by simp only [List.getElem?_toArray, List.getElem?_cons_succ, List.getElem?_cons_zero]; rfl) (by rfl) (by kernel_rfl) (by rfl) (fun K hK => ?_)
            (first | (go_at_call 22; (with_reducible refine (HCc.out.1 _ (lastB (by assumption))).mono ?_); rintro e wA ⟨a1, k1, b1, d1, rfl, he1, hi1, hwA⟩) | (go_simp; go_at_call 22; (with_reducible refine (HCc.out.1 _ (lastB (by assumption))).mono ?_); rintro e wA ⟨a1, k1, b1, d1, rfl, he1, hi1, hwA⟩))
            refine hK.out _ _ ?_ (fun hHeld2 => ?_)
            · (try dsimp only)
              first | assumption | exact hx | exact keep (by assumption) (by first | assumption | exact below_self_drewN _ _) | exact keep hx (by first | assumption | exact below_self_drewN _ _)
            clear hK K hHeld
            have hHeld := hHeld2
            clear hHeld2
            try simp only [List.setIfInBounds_toArray, List.set_cons_zero, List.set_cons_succ]
            refine drawCall (i := 4) (d := 200) (by simp only [List.getElem?_toArray, List.getElem?_cons_succ, List.getElem?_cons_zero]; rfl) (by rfl) (by kernel_rfl) (by rfl) (fun K hK => ?_)
            (first | (go_at_call 21; (with_reducible refine (HCc.out.2.1 _ (lastB (by assumption)) _ _ _ _ he1 hi1).mono ?_); rintro e wB ⟨rfl, hwB⟩) | (go_simp; go_at_call 21; (with_reducible refine (HCc.out.2.1 _ (lastB (by assumption)) _ _ _ _ he1 hi1).mono ?_); rintro e wB ⟨rfl, hwB⟩))
            refine hK.out _ _ ?_ (fun hHeld2 => ?_)
            · (try dsimp only)
              first | assumption | exact hx | exact keep (by assumption) (by first | assumption | exact below_self_drewN _ _) | exact keep hx (by first | assumption | exact below_self_drewN _ _)
            clear hK K hHeld
            have hHeld := hHeld2
            clear hHeld2
            try simp only [List.setIfInBounds_toArray, List.set_cons_zero, List.set_cons_succ]
            refine drawTake (i := 5) (d := 201) (v := ?_) (by simp only [List.getElem?_toArray, List.getElem?_cons_succ, List.getElem?_cons_zero]; rfl) (by rfl) (by kernel_rfl) (by kernel_rfl) (by kernel_rfl) (by exact fun _ _ _ h => h) (Or.inl ⟨by rfl, ?_⟩) (by assumption) ?_
            rotate_left
            · intro w hSw; (try dsimp only at hSw); go_simp; try with_reducible rfl
            try simp only [List.setIfInBounds_toArray, List.set_cons_zero, List.set_cons_succ]
            refine drawTake (i := 6) (d := 202) (v := ?_) (by simp only [List.getElem?_toArray, List.getElem?_cons_succ, List.getElem?_cons_zero]; rfl) (by rfl) (by kernel_rfl) (by kernel_rfl) (by kernel_rfl) (by exact fun _ _ _ h => h) (Or.inl ⟨by rfl, ?_⟩) (by assumption) ?_
            rotate_left
            · intro w hSw; (try dsimp only at hSw); go_simp; try with_reducible rfl
            try simp only [List.setIfInBounds_toArray, List.set_cons_zero, List.set_cons_succ]
            refine drawTake (i := 7) (d := 203) (v := ?_) (by simp only [List.getElem?_toArray, List.getElem?_cons_succ, List.getElem?_cons_zero]; rfl) (by rfl) (by kernel_rfl) (by kernel_rfl) (by kernel_rfl) (by exact fun _ _ _ h => h) (Or.inl ⟨by rfl, ?_⟩) (by assumption) ?_
            rotate_left
            · intro w hSw; (try dsimp only at hSw); go_simp; try with_reducible rfl
            try simp only [List.setIfInBounds_toArray, List.set_cons_zero, List.set_cons_succ]
            refine drawCall (i := 8) (d := 204) (by simp only [List.getElem?_toArray, List.getElem?_cons_succ, List.getElem?_cons_zero]; rfl) (by rfl) (by kernel_rfl) (by rfl) (fun K hK => ?_)
            (first | (go_at_call 23; (with_reducible refine (HCc.out.2.2 rfl _ (lastB (by assumption))).mono ?_); rintro e wC ⟨rfl, hwC⟩) | (go_simp; go_at_call 23; (with_reducible refine (HCc.out.2.2 rfl _ (lastB (by assumption))).mono ?_); rintro e wC ⟨rfl, hwC⟩))
            refine hK.out _ _ ?_ (fun hHeld2 => ?_)
            · (try dsimp only)
              first | assumption | exact hx | exact keep (by assumption) (by first | assumption | exact below_self_drewN _ _) | exact keep hx (by first | assumption | exact below_self_drewN _ _)
            clear hK K hHeld
            have hHeld := hHeld2
            clear hHeld2
            try simp only [List.setIfInBounds_toArray, List.set_cons_zero, List.set_cons_succ]
            refine drawTake (i := 9) (d := 205) (v := ?_) (by simp only [List.getElem?_toArray, List.getElem?_cons_succ, List.getElem?_cons_zero]; rfl) (by rfl) (by kernel_rfl) (by kernel_rfl) (by kernel_rfl) (by exact fun _ _ _ h => h) (Or.inl ⟨by rfl, ?_⟩) (by assumption) ?_
            rotate_left
            · intro w hSw; (try dsimp only at hSw); go_simp; try with_reducible rfl
            try simp only [List.setIfInBounds_toArray, List.set_cons_zero, List.set_cons_succ]
            refine drawTake (i := 10) (d := 206) (v := ?_) (by simp only [List.getElem?_toArray, List.getElem?_cons_succ, List.getElem?_cons_zero]; rfl) (by rfl) (by kernel_rfl) (by kernel_rfl) (by kernel_rfl) (by exact fun _ _ _ h => h) (Or.inl ⟨by rfl, ?_⟩) (by assumption) ?_
            rotate_left
            · intro w hSw; (try dsimp only at hSw); go_simp; try with_reducible rfl
            try simp only [List.setIfInBounds_toArray, List.set_cons_zero, List.set_cons_succ]
            refine wpAnyH_done (by kernel_rfl) ?_ _
            all_goals have hbe : Below wr.heap.size wr wC := lastB (by assumption)
            all_goals go_wp2
            all_goals go_meet
            all_goals exact ⟨by first | rfl | trivial, hbe⟩
        case rest =>
          obtain ⟨rfl, hbc⟩ := hcut
          clear hx keep lastB x0 x1 x2 y0 y1 y2 HCc
          have hnx := next_any HR.out.2.2.2 (by omega) (HR.out.1.below hbc)
          have hbw : Below W2.heap.size W2 wc := below_two HR.out.2.1 hbc
          cases hq : nextF p with
          | none =>
            rw [hq] at hnx
            have HN := Lib.hid (And.intro hnx hbw)
            clear hnx hbw hbc hq
            go_wp2_with fail
            refine HN.out.1.mono ?_
            rintro e w8 ⟨rfl, q8, rfl⟩
            go_wp2_with fail
            refine (awake_calls _).mono ?_
            rintro e w9 ⟨rfl, hw9⟩
            have H9 := Lib.hid (below_two HB.out.1 (below_two H2.out.2.2.1 (below_two (below_drewN HN.out.2 _) hw9)))
            clear hw9
            go_wp2
            go_ret
            exact ⟨rfl, H9.out⟩
          | some q =>
            rw [hq] at hnx
            have hk2 := seq_more hn5 hk hq
            have HN := Lib.hid (And.intro hnx hbw)
            clear hnx hbw hbc hq
            go_wp2_with (go_at_call 24; refine HN.out.1.mono ?_; rintro e w8 ⟨rfl, ho8, hg8⟩; have H8 := Lib.hid (And.intro ho8 hg8); clear ho8 hg8)
            go_roundg (120 - k)
            case rel => exact ⟨k + 1, q, hk2, by omega, H8.out.1, HN.out.2.grown H8.out.2 HN.out.2.size (fun gg hgg => (own_above H8.out.1 gg hgg).1)⟩
            case measure => omega
end Go.Proofs.YtjjjohmppehejaaGreat
