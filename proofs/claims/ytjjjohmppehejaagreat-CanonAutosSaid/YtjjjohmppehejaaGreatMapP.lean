/- Many and Map: the program's. · Map: the program's. -/
import Derived.Test.YtjjjohmppehejaaGreatGroupP
set_option linter.unusedSimpArgs false
set_option linter.unusedVariables false
namespace Go.Proofs.YtjjjohmppehejaaGreat
open Go.RowKit Plain PlainG PlainX
/-- The product of the sizes. -/
def prodN (l : List (List Int)) : Nat := l.foldl (fun a o => a * o.length) 1
theorem prodN_snoc (l : List (List Int)) (o : List Int) : prodN (l ++ [o]) = prodN l * o.length := by simp [prodN]
theorem prodN_le {B : Nat} : ∀ (k : Nat) (l : List (List Int)), (∀ o ∈ l, o.length ≤ B) → prodN (l.take k) ≤ B ^ k ∨ l.length ≤ k ∧ prodN (l.take k) ≤ B ^ l.length
  | 0, l, _ => .inl (by simp [prodN])
  | k + 1, l, h => by
    rcases prodN_le k l h with h1 | ⟨h0, h1⟩
    · by_cases hk : k < l.length
      · left
        rw [List.take_add_one, List.getElem?_eq_getElem hk]
        show prodN (l.take k ++ [l[k]]) ≤ _
        rw [prodN_snoc, Nat.pow_succ]
        exact Nat.mul_le_mul h1 (h _ (List.getElem_mem hk))
      · right
        refine ⟨by omega, ?_⟩
        by_cases hk2 : k = l.length
        · rw [List.take_of_length_le (by omega)]
          rw [List.take_of_length_le (by omega)] at h1
          rw [← hk2]; exact h1
        · rw [List.take_of_length_le (by omega)]
          rw [List.take_of_length_le (by omega)] at h1
          have := prodN_le l.length l h
          rw [List.take_of_length_le (Nat.le_refl _)] at this
          rcases this with h | h
          · exact h
          · exact h.2
    · right
      refine ⟨by omega, ?_⟩
      rw [List.take_of_length_le (by omega)]
      rwa [List.take_of_length_le (by omega)] at h1
def manyA (g : Gr) : Int × Int := if ckA [g] ≠ 0 then (0, ckA [g]) else ((prodN (orbsA (adj g.es) g.cs g.n.toNat g.n.toNat) : Int), 0)
theorem orb_len (A : Adj) (c : List Int) (n : Nat) : ∀ o ∈ orbsA A c n n, o.length ≤ n := fun o ho => by
  obtain ⟨i, _, rfl⟩ := List.mem_map.1 ho
  rw [nts_len, orbA, List.length_map]; exact lev_len A c n i
theorem prod_bound {A : Adj} {c : List Int} {n : Nat} (hn : n ≤ 10) (k : Nat) (hk : k ≤ n) : prodN ((orbsA A c n n).take k) ≤ 10000000000 := by
  have hl : (orbsA A c n n).length = n := by simp [orbsA]
  have h1 : ∀ o ∈ orbsA A c n n, o.length ≤ 10 := fun o ho => Nat.le_trans (orb_len A c n o ho) hn
  rcases prodN_le k _ h1 with h | ⟨_, h⟩
  · exact Nat.le_trans h (Nat.le_trans (Nat.pow_le_pow_right (by omega) (by omega : k ≤ 10)) (by decide))
  · rw [hl] at h
    exact Nat.le_trans h (Nat.le_trans (Nat.pow_le_pow_right (by omega) hn) (by decide))
theorem run_orbits (W : World) (u v x : Value) : (Instr.field 31 (.agg #[u, v, x]) 1).run Tryz.prog W = .ok v W := by kernel_rfl
set_option maxRecDepth 100000 in
set_option maxHeartbeats 2000000 in
theorem Many_calls {w : World} {g : Gr} {ea ca : Option Addr} {ec cc : Nat} (he : Edg w ea g.es) (hc : Ints w ca g.cs) :
    Calls Tryz.prog 12 #[.agg #[.int .i64 g.n, .slice ea g.es.length ec, .slice ca g.cs.length cc]] w fun e w' => e = .returned (.tuple #[.int .i64 (manyA g).1, .int .i64 (manyA g).2]) ∧ Below w.heap.size w w' := by
  obtain ⟨X, hX⟩ : ∃ X, w.heap.size = X := ⟨_, rfl⟩
  obtain ⟨n, hn⟩ : ∃ n, g.n = n := ⟨_, rfl⟩
  obtain ⟨L, hL⟩ : ∃ L, g.es.length = L := ⟨_, rfl⟩
  obtain ⟨M, hM⟩ : ∃ M, g.cs.length = M := ⟨_, rfl⟩
  obtain ⟨W1, hW1⟩ : ∃ W1, w.alloc (.cells #[.int .i64 n, .slice ea L ec, .slice ca M cc] 25) = W1 := ⟨_, rfl⟩
  have hs1 : W1.heap.size = X + 1 := by rw [← hW1, ← hX]; simp
  have hb1 : Below w.heap.size w W1 := by rw [← hW1]; exact alloc_b (Below.refl _ _) _
  have x0 : W1.cell? ⟨X, 0, none⟩ = some (.int .i64 n) := by rw [← hW1, ← hX]; simp
  have x1 : W1.cell? ⟨X, 1, none⟩ = some (.slice ea L ec) := by rw [← hW1, ← hX]; simp
  have x2 : W1.cell? ⟨X, 2, none⟩ = some (.slice ca M cc) := by rw [← hW1, ← hX]; simp
  obtain ⟨W2, hW2⟩ : ∃ W2, W1.alloc (.cells #[.int .i64 n, .slice ea L ec, .slice ca M cc] 25) = W2 := ⟨_, rfl⟩
  have hb2 : Below W1.heap.size W1 W2 := by rw [← hW2]; exact alloc_b (Below.refl _ _) _
  have K31 := ccheck_calls (some ⟨W1.heap.size, 0, none⟩) 1 [g] W2 (by
    have := gsl_one (ec := ec) (cc := cc) 25 (he.below hb1) (hc.below hb1)
    rw [hn, hL, hM, hW2] at this
    exact this)
  have K32 := fun (h0 : ckA [g] = 0) (W : World) (k : Below W1.heap.size W1 W) =>
    let c := ck_one h0
    have g1 := chkGr_ok.1 c.1
    group_own (w := W) (n := g.n.toNat) (ec := ec) (cc := cc) ((he.below hb1).below k) ((hc.below hb1).below k) (fun x hx => by have := (chkE_srt g1.2.2.1).2.1 x hx; omega) (by omega) (by omega)
  rw [hL] at K32
  have H := Lib.hid (And.intro hb1 (And.intro hb2 (And.intro hs1 hX)))
  obtain ⟨E, hE⟩ : ∃ E, ckA [g] = E := ⟨_, rfl⟩
  rw [hE, hs1] at K31
  simp only [List.length_cons, List.length_nil, Nat.zero_add] at K31
  rw [hn, hL, hM]
  clear he hc hb1 hb2
  by_cases h0 : E = 0
  · subst h0
    obtain ⟨h1, h2⟩ := ck_one hE
    have g1 := chkGr_ok.1 h1
    have K := K32 hE
    obtain ⟨N, hN⟩ : ∃ N, g.n.toNat = N := ⟨_, rfl⟩
    have hnN : n = (N : Int) := by omega
    rw [hN] at K
    have hMN : M = N := by omega
    subst hnN
    subst hMN
    have hres : manyA g = ((prodN (orbsA (adj g.es) g.cs M M) : Int), 0) := by
      unfold manyA
      rw [if_neg (by simp [hE]), hN]
    rw [hres]
    obtain ⟨O, hO⟩ : ∃ O, orbsA (adj g.es) g.cs M M = O := ⟨_, rfl⟩
    have hpb := prod_bound (A := adj g.es) (c := g.cs) (n := M) (by omega)
    have hOl : O.length = M := by rw [← hO]; simp [orbsA]
    rw [hO] at K hpb ⊢
    have HK := Lib.hid (And.intro K K31)
    have H0 := Lib.hid (And.intro hpb hOl)
    have hM10 : M ≤ 10 := by omega
    clear K K31 K32 hE h1 h2 g1 hres hn hL hM hN hO hpb hOl
    have hfld := run_orbits
    go_enter Tryz.func12, Tryz.ntmps12
    go_wp2_with (go_at_call 31; refine HK.out.2.mono ?_; rintro e w3 ⟨rfl, hw3⟩; have hb3 := below_two H.out.2.1 hw3; have y0 := (hb3.cell (block_lt_of_cell x0)).trans x0; have y1 := (hb3.cell (block_lt_of_cell x1)).trans x1; have y2 := (hb3.cell (block_lt_of_cell x2)).trans x2; have H3 := Lib.hid hb3; clear hw3 hb3 x0 x1 x2 hW1 hW2)
    go_wp2_with (go_at_call 32; refine (HK.out.1 _ H3.out).mono ?_; rintro e w4 ⟨a, c, b, d, rfl, hr1, -, hw4, -⟩; have H4 := Lib.hid (And.intro hr1 hw4); clear hr1 hw4)
    go_loopw [5, 18] (fun p i wr => ∃ k : Nat, k ≤ M ∧ i = .int .i64 (k : Int) ∧ p = .int .i64 (prodN (O.take k) : Int) ∧ wr = w4) (fun _ i _ => M - (intOf i).toNat)
    case atStart => exact ⟨0, by omega, rfl, rfl, rfl⟩
    case round =>
      obtain ⟨k, hk, rfl, rfl, rfl⟩ := hrel
      by_cases hlt : k < M
      · obtain ⟨g1, o1, b1, c1, e1, _, cc1, _⟩ := H4.out.1.at_ (k := k) (by rw [H0.out.2]; exact hlt)
        cases e1
        obtain ⟨l, hl⟩ : ∃ l, (O[k]?.getD []).length = l := ⟨_, rfl⟩
        rw [hl] at cc1
        have hkO : k < O.length := by rw [H0.out.2]; exact hlt
        have hnx : prodN (O.take (k + 1)) = prodN (O.take k) * l := by
          rw [List.take_add_one, List.getElem?_eq_getElem hkO]
          show prodN (O.take k ++ [O[k]]) = _
          rw [prodN_snoc, ← hl, List.getElem?_eq_getElem hkO]; rfl
        have hbd := H0.out.1 (k + 1) (by omega)
        obtain ⟨P, hP⟩ : ∃ P, prodN (O.take k) = P := ⟨_, rfl⟩
        rw [hP] at hnx ⊢
        rw [hnx] at hbd
        have hwr : IntKind.i64.wrap ((P : Int) * (l : Int)) = ((P * l : Nat) : Int) := by
          rw [IntKind.wrap_i64]
          have : (P : Int) * (l : Int) = ((P * l : Nat) : Int) := by simp
          rw [this]; omega
        have HN := Lib.hid (And.intro hnx hwr)
        clear hnx hbd hP hl hkO
        go_wp2
        exact ⟨⟨k + 1, by omega, by go_num, by rw [HN.out.1]; simp, trivial⟩, by simp [intOf]; omega⟩
      · obtain rfl : k = M := by omega
        go_wp2
        go_ret2
        refine ⟨by rw [List.take_of_length_le (by rw [H0.out.2]; omega)]; rfl, ?_⟩
        exact below_two H.out.1 (below_two H3.out H4.out.2)
  · have h0b : (E != 0) = true := by simpa using h0
    have hres : manyA g = (0, E) := by
      unfold manyA
      rw [if_pos (by rw [hE]; exact h0), hE]
    rw [hres]
    have HK := Lib.hid K31
    clear K31 K32 hE hres hn hL hM h0
    go_enter Tryz.func12, Tryz.ntmps12
    go_wp2_with (go_at_call 31; refine HK.out.mono ?_; rintro e w3 ⟨rfl, hw3⟩; have hb3 := below_two H.out.2.1 hw3; have H3 := Lib.hid hb3; clear hw3 hb3 x0 x1 x2 hW1 hW2)
    go_ret2
    exact ⟨rfl, below_two H.out.1 H3.out⟩
end Go.Proofs.YtjjjohmppehejaaGreat

namespace Go.Proofs.YtjjjohmppehejaaGreat
open Go.RowKit Plain PlainG PlainX
def optN : Option (List Nat) → List Int × Int
  | some q => (nts q, 0)
  | none => ([], 18)
def mapA (g h : Gr) : List Int × Int :=
  if ckA [g, h] ≠ 0 then ([], ckA [g, h]) else if g.n = h.n ∧ g.es.length = h.es.length then optN (extA (adj g.es) (adj h.es) g.cs h.cs g.n.toNat []) else ([], 18)
theorem ck_two {g h : Gr} (e : ckA [g, h] = 0) : ckA [g] = 0 ∧ ckA [h] = 0 := by
  obtain ⟨h1, h2⟩ := ckA_vals e
  have a1 : chkGr g = 0 := by
    unfold chkL at h1
    split at h1
    · exact absurd h1 (by assumption)
    · rename_i h; simpa using h
  have a2 : chkGr h = 0 := by
    simp only [chkL, a1] at h1
    by_cases h3 : chkGr h = 0
    · exact h3
    · simp [h3] at h1
  simp only [bigL, List.any_cons, List.any_nil, Bool.or_false, Bool.or_eq_false_iff, decide_eq_false_iff_not] at h2
  rw [ckA_one, ckA_one]
  simp [a1, a2, h2.1, h2.2]
theorem gsl_two {w : World} {g h : Gr} {ea ca eb cb : Option Addr} {ec cc ed cd : Nat} (T : TypeId) (he : Edg w ea g.es) (hc : Ints w ca g.cs) (he2 : Edg w eb h.es) (hc2 : Ints w cb h.cs) :
    GSl (w.alloc (.cells #[.int .i64 g.n, .slice ea g.es.length ec, .slice ca g.cs.length cc, .int .i64 h.n, .slice eb h.es.length ed, .slice cb h.cs.length cd] T)) (some ⟨w.heap.size, 0, none⟩) [g, h] := by
  have hb : Below w.heap.size w (w.alloc (.cells #[.int .i64 g.n, .slice ea g.es.length ec, .slice ca g.cs.length cc, .int .i64 h.n, .slice eb h.es.length ed, .slice cb h.cs.length cd] T)) := alloc_below (Below.refl _ _) _
  refine ⟨by simp, fun i x hi => ?_⟩
  match i, hi with
  | 0, hi =>
    simp at hi; subst hi
    exact ⟨w.heap.size, 0, ea, ec, ca, cc, rfl, by simp, by simp, by simp, by simp, he.below hb, hc.below hb⟩
  | 1, hi =>
    simp at hi; subst hi
    exact ⟨w.heap.size, 0, eb, ed, cb, cd, rfl, by simp, by simp, by simp, by simp, he2.below hb, hc2.below hb⟩
set_option maxRecDepth 100000 in
set_option maxHeartbeats 2000000 in
theorem Map_calls {w : World} {g h : Gr} {ea ca eb cb : Option Addr} {ec cc ed cd : Nat} (he : Edg w ea g.es) (hc : Ints w ca g.cs) (he2 : Edg w eb h.es) (hc2 : Ints w cb h.cs) :
    Calls Tryz.prog 25 #[.agg #[.int .i64 g.n, .slice ea g.es.length ec, .slice ca g.cs.length cc], .agg #[.int .i64 h.n, .slice eb h.es.length ed, .slice cb h.cs.length cd]] w fun e w' =>
      ∃ a c, e = .returned (.tuple #[.slice a (mapA g h).1.length c, .int .i64 (mapA g h).2]) ∧ Ints w' a (mapA g h).1 ∧ Below w.heap.size w w' := by
  obtain ⟨X, hX⟩ : ∃ X, w.heap.size = X := ⟨_, rfl⟩
  obtain ⟨n, hn⟩ : ∃ n, g.n = n := ⟨_, rfl⟩
  obtain ⟨L, hL⟩ : ∃ L, g.es.length = L := ⟨_, rfl⟩
  obtain ⟨M, hM⟩ : ∃ M, g.cs.length = M := ⟨_, rfl⟩
  obtain ⟨n2, hn2⟩ : ∃ n, h.n = n := ⟨_, rfl⟩
  obtain ⟨L2, hL2⟩ : ∃ L, h.es.length = L := ⟨_, rfl⟩
  obtain ⟨M2, hM2⟩ : ∃ M, h.cs.length = M := ⟨_, rfl⟩
  obtain ⟨W1, hW1⟩ : ∃ W1, (w.alloc (.cells #[.int .i64 n, .slice ea L ec, .slice ca M cc] 25)).alloc (.cells #[.int .i64 n2, .slice eb L2 ed, .slice cb M2 cd] 25) = W1 := ⟨_, rfl⟩
  have hs1 : W1.heap.size = X + 2 := by rw [← hW1, ← hX]; simp
  have hb1 : Below w.heap.size w W1 := by rw [← hW1]; exact alloc_b (alloc_b (Below.refl _ _) _) _
  have x0 : W1.cell? ⟨X, 0, none⟩ = some (.int .i64 n) := by rw [← hW1, ← hX]; simp
  have x1 : W1.cell? ⟨X, 1, none⟩ = some (.slice ea L ec) := by rw [← hW1, ← hX]; simp
  have x2 : W1.cell? ⟨X, 2, none⟩ = some (.slice ca M cc) := by rw [← hW1, ← hX]; simp
  have y0 : W1.cell? ⟨X + 1, 0, none⟩ = some (.int .i64 n2) := by rw [← hW1, ← hX]; simp
  have y1 : W1.cell? ⟨X + 1, 1, none⟩ = some (.slice eb L2 ed) := by rw [← hW1, ← hX]; simp
  have y2 : W1.cell? ⟨X + 1, 2, none⟩ = some (.slice cb M2 cd) := by rw [← hW1, ← hX]; simp
  obtain ⟨W2, hW2⟩ : ∃ W2, W1.alloc (.cells #[.int .i64 n, .slice ea L ec, .slice ca M cc, .int .i64 n2, .slice eb L2 ed, .slice cb M2 cd] 25) = W2 := ⟨_, rfl⟩
  have hb2 : Below W1.heap.size W1 W2 := by rw [← hW2]; exact alloc_b (Below.refl _ _) _
  have K31 := ccheck_calls (some ⟨W1.heap.size, 0, none⟩) 2 [g, h] W2 (by
    have := gsl_two (ec := ec) (cc := cc) (ed := ed) (cd := cd) 25 (he.below hb1) (hc.below hb1) (he2.below hb1) (hc2.below hb1)
    rw [hn, hL, hM, hn2, hL2, hM2, hW2] at this
    exact this)
  have K39 := fun (h0 : ckA [g, h] = 0) (hnn : g.n = h.n) (W : World) (k : Below W1.heap.size W1 W) =>
    let c := ck_one (ck_two h0).1
    let c2 := ck_one (ck_two h0).2
    have g1 := chkGr_ok.1 c.1
    have g2 := chkGr_ok.1 c2.1
    extend_calls (w := W) (n := g.n.toNat) (gc := ec) (gd := cc) (hc := ed) (hd := cd) (pa := none) (pc := 0) (i := 0) (p := []) ((he.below hb1).below k) ((hc.below hb1).below k) ((he2.below hb1).below k) ((hc2.below hb1).below k)
      (fun x hx => by have := (chkE_srt g1.2.2.1).2.1 x hx; omega) (fun x hx => by have := (chkE_srt g2.2.2.1).2.1 x hx; omega) (by omega) (by omega) (by omega) (by simp) (by simp) Row.nil rfl (by omega) (fun _ => ⟨rfl, rfl⟩) (.inl rfl)
  rw [hL, hL2] at K39
  have H := Lib.hid (And.intro hb1 (And.intro hb2 (And.intro hs1 hX)))
  obtain ⟨E, hE⟩ : ∃ E, ckA [g, h] = E := ⟨_, rfl⟩
  rw [hE, hs1] at K31
  simp only [List.length_cons, List.length_nil, Nat.zero_add] at K31
  rw [hn, hL, hM, hn2, hL2, hM2]
  clear he hc he2 hc2 hb1 hb2
  by_cases h0 : E = 0
  · subst h0
    obtain ⟨h1, h2⟩ := ck_one (ck_two hE).1
    obtain ⟨h3, h4⟩ := ck_one (ck_two hE).2
    have g1 := chkGr_ok.1 h1
    have g2 := chkGr_ok.1 h3
    obtain ⟨N, hN⟩ : ∃ N, g.n.toNat = N := ⟨_, rfl⟩
    have hnN : n = (N : Int) := by omega
    have hMN : M = N := by omega
    subst hnN
    subst hMN
    by_cases hnn : g.n = h.n
    · have K := K39 hE hnn
      rw [hN] at K
      have hM2M : M2 = M := by omega
      have hn2M : n2 = (M : Int) := by omega
      subst hM2M
      subst hn2M
      by_cases hLL : L = L2
      · subst hLL
        have hres : mapA g h = optN (extA (adj g.es) (adj h.es) g.cs h.cs M2 []) := by
          unfold mapA
          rw [if_neg (by simp [hE]), if_pos ⟨hnn, by omega⟩, hN]
        rw [hres]
        cases ho : extA (adj g.es) (adj h.es) g.cs h.cs M2 [] with
        | none =>
          rw [ho] at K
          have HK := Lib.hid (And.intro K K31)
          clear K K31 K39 hE h1 h2 h3 h4 g1 g2 hres hn hL hM hN hn2 hL2 hM2 hnn ho
          go_enter Tryz.func25, Tryz.ntmps25
          go_wp2_with (go_at_call 31; refine HK.out.2.mono ?_; rintro e w3 ⟨rfl, hw3⟩; have hb3 := below_two H.out.2.1 hw3; have z0 := (hb3.cell (block_lt_of_cell x0)).trans x0; have z1 := (hb3.cell (block_lt_of_cell x1)).trans x1; have z2 := (hb3.cell (block_lt_of_cell x2)).trans x2; have z3 := (hb3.cell (block_lt_of_cell y0)).trans y0; have z4 := (hb3.cell (block_lt_of_cell y1)).trans y1; have z5 := (hb3.cell (block_lt_of_cell y2)).trans y2; have H3 := Lib.hid hb3; clear hw3 hb3 x0 x1 x2 y0 y1 y2 hW1 hW2)
          go_wp2_with (go_at_call 39; refine (HK.out.1 _ H3.out).mono ?_; rintro e w4 ⟨he, hw4⟩; subst he; have H4 := Lib.hid hw4; clear hw4)
          go_ret2
          exact ⟨none, 0, rfl, Row.nil, below_two H.out.1 (below_two H3.out H4.out)⟩
        | some q =>
          rw [ho] at K
          have hql := ext_len ho (by simp)
          have HK := Lib.hid (And.intro K K31)
          have HQ := Lib.hid hql
          have hM100 : M2 ≤ 100 := by omega
          clear K K31 K39 hE h1 h2 h3 h4 g1 g2 hres hn hL hM hN hn2 hL2 hM2 hnn ho hql
          go_enter Tryz.func25, Tryz.ntmps25
          go_wp2_with (go_at_call 31; refine HK.out.2.mono ?_; rintro e w3 ⟨rfl, hw3⟩; have hb3 := below_two H.out.2.1 hw3; have z0 := (hb3.cell (block_lt_of_cell x0)).trans x0; have z1 := (hb3.cell (block_lt_of_cell x1)).trans x1; have z2 := (hb3.cell (block_lt_of_cell x2)).trans x2; have z3 := (hb3.cell (block_lt_of_cell y0)).trans y0; have z4 := (hb3.cell (block_lt_of_cell y1)).trans y1; have z5 := (hb3.cell (block_lt_of_cell y2)).trans y2; have H3 := Lib.hid hb3; clear hw3 hb3 x0 x1 x2 y0 y1 y2 hW1 hW2)
          go_wp2_with (go_at_call 39; refine (HK.out.1 _ H3.out).mono ?_; rintro e w4 ⟨he, hw4⟩; obtain ⟨r, rfl, he⟩ := he; have H4 := Lib.hid (And.intro he hw4); clear he hw4)
          go_ret2
          obtain ⟨a, c, e, hi⟩ := H4.out.1.ints (by rw [nts_len, HQ.out]; unfold maxLen; omega)
          exact ⟨a, c, by rw [e]; rfl, hi, below_two H.out.1 (below_two H3.out H4.out.2)⟩
      · have hres : mapA g h = ([], 18) := by
          unfold mapA
          rw [if_neg (by simp [hE]), if_neg (by rintro ⟨_, e⟩; omega)]
        rw [hres]
        have hd : ((L : Int) == (L2 : Int)) = false := by simp; omega
        have HK := Lib.hid K31
        clear K K31 K39 hE h1 h2 h3 h4 g1 g2 hres hn hL hM hN hn2 hL2 hM2 hnn hLL
        go_enter Tryz.func25, Tryz.ntmps25
        go_wp2_with (go_at_call 31; refine HK.out.mono ?_; rintro e w3 ⟨rfl, hw3⟩; have hb3 := below_two H.out.2.1 hw3; have z0 := (hb3.cell (block_lt_of_cell x0)).trans x0; have z1 := (hb3.cell (block_lt_of_cell x1)).trans x1; have z2 := (hb3.cell (block_lt_of_cell x2)).trans x2; have z3 := (hb3.cell (block_lt_of_cell y0)).trans y0; have z4 := (hb3.cell (block_lt_of_cell y1)).trans y1; have z5 := (hb3.cell (block_lt_of_cell y2)).trans y2; have H3 := Lib.hid hb3; clear hw3 hb3 x0 x1 x2 y0 y1 y2 hW1 hW2)
        go_ret2
        exact ⟨none, 0, rfl, Row.nil, below_two H.out.1 H3.out⟩
    · have hres : mapA g h = ([], 18) := by
        unfold mapA
        rw [if_neg (by simp [hE]), if_neg (by rintro ⟨e, _⟩; exact hnn e)]
      rw [hres]
      have hd : ((M : Int) == n2) = false := by simp; omega
      have HK := Lib.hid K31
      clear K31 K39 hE h1 h2 h3 h4 g1 g2 hres hn hL hM hN hn2 hL2 hM2 hnn
      go_enter Tryz.func25, Tryz.ntmps25
      go_wp2_with (go_at_call 31; refine HK.out.mono ?_; rintro e w3 ⟨rfl, hw3⟩; have hb3 := below_two H.out.2.1 hw3; have z0 := (hb3.cell (block_lt_of_cell x0)).trans x0; have z1 := (hb3.cell (block_lt_of_cell x1)).trans x1; have z2 := (hb3.cell (block_lt_of_cell x2)).trans x2; have z3 := (hb3.cell (block_lt_of_cell y0)).trans y0; have z4 := (hb3.cell (block_lt_of_cell y1)).trans y1; have z5 := (hb3.cell (block_lt_of_cell y2)).trans y2; have H3 := Lib.hid hb3; clear hw3 hb3 x0 x1 x2 y0 y1 y2 hW1 hW2)
      go_ret2
      exact ⟨none, 0, rfl, Row.nil, below_two H.out.1 H3.out⟩
  · have h0b : (E != 0) = true := by simpa using h0
    have hres : mapA g h = ([], E) := by
      unfold mapA
      rw [if_pos (by rw [hE]; exact h0), hE]
    rw [hres]
    have HK := Lib.hid K31
    clear K31 K39 hE hres hn hL hM hn2 hL2 hM2 h0
    go_enter Tryz.func25, Tryz.ntmps25
    go_wp2_with (go_at_call 31; refine HK.out.mono ?_; rintro e w3 ⟨rfl, hw3⟩; have hb3 := below_two H.out.2.1 hw3; have H3 := Lib.hid hb3; clear hw3 hb3 x0 x1 x2 y0 y1 y2 hW1 hW2)
    go_ret2
    exact ⟨none, 0, rfl, Row.nil, below_two H.out.1 H3.out⟩
end Go.Proofs.YtjjjohmppehejaaGreat
