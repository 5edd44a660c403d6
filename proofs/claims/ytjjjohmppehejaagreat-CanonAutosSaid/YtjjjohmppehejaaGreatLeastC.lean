/- The law's least: a chain has, for the first vertex that an automorphism moves, a representative that is not greater. -/
import Derived.Test.YtjjjohmppehejaaGreatDrawn
import Derived.Test.YtjjjohmppehejaaGreatLabs
import Derived.Test.YtjjjohmppehejaaGreatSameC
import Derived.Test.YtjjjohmppehejaaGreatPlainAut
set_option linter.unusedSimpArgs false
set_option linter.unusedVariables false
namespace Go.Proofs.YtjjjohmppehejaaGreat
open Go.RowKit
def okFrom (n : Nat) : List Int → List Int → Bool
  | _, [] => true
  | seen, x :: r => decide (0 ≤ x) && decide (x < n) && !seen.contains x && okFrom n (x :: seen) r
def fineP (p : List Int) : Bool := okFrom p.length [] p
theorem okFrom_iff (n : Nat) : ∀ (r seen : List Int), okFrom n seen r = true ↔ (∀ x ∈ r, 0 ≤ x ∧ x < n) ∧ r.Nodup ∧ ∀ x ∈ r, x ∉ seen
  | [], seen => by simp [okFrom]
  | x :: r, seen => by
    rw [okFrom, Bool.and_eq_true, Bool.and_eq_true, Bool.and_eq_true, okFrom_iff n r (x :: seen)]
    simp only [decide_eq_true_eq, Bool.not_eq_true', List.nodup_cons, List.mem_cons, not_or]
    constructor
    · rintro ⟨⟨⟨h1, h2⟩, h3⟩, h4, h5, h6⟩
      refine ⟨fun y hy => ?_, ⟨fun hx => (h6 x hx).1 rfl, h5⟩, fun y hy => ?_⟩
      · rcases hy with rfl | hy
        · exact ⟨h1, h2⟩
        · exact h4 y hy
      · rcases hy with rfl | hy
        · intro hm; rw [List.contains_iff_mem.2 hm] at h3; cases h3
        · exact (h6 y hy).2
    · rintro ⟨h1, ⟨h2, h3⟩, h4⟩
      refine ⟨⟨h1 x (.inl rfl), ?_⟩, fun y hy => h1 y (.inr hy), h3, fun y hy => ⟨fun e => h2 (e ▸ hy), h4 y (.inr hy)⟩⟩
      rw [Bool.eq_false_iff]; intro hm
      exact h4 x (.inl rfl) (List.contains_iff_mem.1 hm)
theorem okFrom_step {n : Nat} {p : List Int} {k : Nat} (hk : k < p.length) : okFrom n (p.take k).reverse (p.drop k) =
    (decide (0 ≤ p[k]?.getD 0) && decide (p[k]?.getD 0 < n) && !(p.take k).contains (p[k]?.getD 0) && okFrom n (p.take (k + 1)).reverse (p.drop (k + 1))) := by
  rw [List.drop_eq_getElem_cons hk, okFrom]
  have e : (p.take (k + 1)).reverse = p[k] :: (p.take k).reverse := by rw [List.take_add_one, List.getElem?_eq_getElem hk]; simp
  rw [e, List.getElem?_eq_getElem hk]
  simp
def flags (n : Nat) (l : List Int) : List Value := (List.range n).map fun j : Nat => Value.bool (l.contains (j : Int))
theorem flags_len (n : Nat) (l : List Int) : (flags n l).length = n := by simp [flags]
theorem flags_nil (n : Nat) : List.replicate n (Value.bool false) = flags n [] := by
  apply List.ext_getElem (by simp [flags])
  intro i h1 h2
  simp [flags]
theorem flags_get {n : Nat} {l : List Int} {j : Nat} (h : j < n) : (flags n l)[j]? = some (.bool (l.contains (j : Int))) := by
  simp [flags, h]
theorem flags_set {n : Nat} {l : List Int} {j : Nat} : (flags n l).set j (.bool true) = flags n (l ++ [(j : Int)]) := by
  apply List.ext_getElem (by simp [flags])
  intro i h1 h2
  rw [List.getElem_set]
  by_cases e : j = i
  · subst e
    simp [flags]
  · rw [if_neg e]
    have : ((i : Nat) : Int) ≠ (j : Int) := by omega
    simp [flags, this]
set_option maxRecDepth 100000 in
set_option maxHeartbeats 2000000 in
theorem fine_calls {w : World} {a : Option Addr} {c : Nat} {p : List Int} (h : Ints w a p) (h64 : p.length ≤ 64) :
    Calls Tryz.prog 18 #[.slice a p.length c, .int .i64 (p.length : Int)] w fun e w' => e = .returned (.bool (fineP p)) ∧ Below w.heap.size w w' := by
  have H := Lib.hid h
  obtain ⟨n, hn⟩ : ∃ n, p.length = n := ⟨_, rfl⟩
  rw [hn] at h64 ⊢
  have Hn := Lib.hid hn
  obtain ⟨i4, hi4, hz4, hs4, hb4⟩ := info_parts Tryz.info4
  have I4 := Lib.hid (And.intro hi4 (And.intro hz4 (And.intro hs4 hb4)))
  clear h hn hi4 hz4 hs4 hb4
  go_enter Tryz.func18, Tryz.ntmps18
  go_wp2_with (refine mk1 rfl (.tmp 11) (.tmp 11) 69 4 rfl i4 (.bool false) 1 Tryz.underlying69 I4.out.1 I4.out.2.1 I4.out.2.2.1 I4.out.2.2.2 rfl (by omega) w.heap.size n rfl rfl (by omega) (Nat.le_refl _) ?_; intro w1 h2 h3 h4; rw [flags_nil] at h2; have H1 := Lib.hid (And.intro h2 (And.intro h3 (Nat.le_of_eq h4.symm))); clear h2 h3 h4)
  go_loopw [6] (fun i wr => ∃ k : Nat, k ≤ n ∧ i = .int .i64 (k : Int) ∧ Own wr w.heap.size (.slice (some ⟨w.heap.size, 0, none⟩) n n) 4 (flags n (p.take k)) ∧ w1.grownBy wr (some w.heap.size) ∧ fineP p = okFrom n (p.take k).reverse (p.drop k)) (fun i _ => n - (intOf i).toNat)
  case atStart =>
    exact ⟨0, Nat.zero_le _, rfl, H1.out.1, World.grownBy.refl w1 _, by unfold fineP; rw [Hn.out]; rfl⟩
  case round =>
    obtain ⟨k, hk, rfl, hs, hg, hf⟩ := hrel
    have hb : Below w.heap.size w wr := ⟨hg.os.trans H1.out.2.1.os, hg.tape.trans H1.out.2.1.tape, hg.output.trans H1.out.2.1.output, Nat.le_trans H1.out.2.1.size hg.size, fun b hb => (hg.block b (Nat.lt_of_lt_of_le hb H1.out.2.1.size) (fun e => by cases e; omega)).trans (H1.out.2.1.block b hb (by simp))⟩
    by_cases hlt : k < n
    · obtain ⟨b, o, rfl, hbl, hc⟩ := H.out.at_ (k := k) (by rw [Hn.out]; exact hlt)
      have hst := okFrom_step (n := n) (p := p) (k := k) (by rw [Hn.out]; exact hlt)
      replace hc := (hb.cell (p := ⟨b, o + k, none⟩) hbl).trans hc
      obtain ⟨x, hx⟩ : ∃ x, p[k]?.getD 0 = x := ⟨_, rfl⟩
      have htk : p.take (k + 1) = p.take k ++ [x] := by
        rw [← hx, List.take_add_one, List.getElem?_eq_getElem (by rw [Hn.out]; exact hlt)]; rfl
      rw [hx] at hst hc
      by_cases hx0 : 0 ≤ x
      · obtain ⟨y, rfl⟩ : ∃ y : Nat, x = (y : Int) := ⟨x.toNat, by omega⟩
        by_cases hxn : (y : Int) < n
        · have hcy := hs.cell y (by rw [flags_len]; omega)
          rw [flags_get (by omega)] at hcy
          have hfy := hs.frozen y
          cases hsn : (p.take k).contains (y : Int)
          · rw [hsn] at hcy
            have hput := hs.put y (.bool true)
            rw [flags_set, ← htk] at hput
            have hY : decide ((y : Int) < n) = true := by simpa using hxn
            have hz : fineP p = okFrom n (p.take (k + 1)).reverse (p.drop (k + 1)) := by
              rw [hf, hst, hsn]; simp [hxn]
            have H2 := Lib.hid (And.intro hput (And.intro hg hz))
            clear hs hb hf hst htk hx hsn hput hg hz
            go_wp2
            go_roundw
            case rel =>
              exact ⟨k + 1, by omega, by go_num, H2.out.1, H2.out.2.1.trans (grown_put y _), H2.out.2.2⟩
            case measure => simp [intOf]; omega
          · rw [hsn] at hcy
            have hz : fineP p = false := by rw [hf, hst, hsn]; simp
            have H2 := Lib.hid (And.intro hb hz)
            clear hs hb hf hst htk hx hsn hz hg
            go_wp2
            go_ret
            exact ⟨ret_bool H2.out.2.symm, H2.out.1⟩
        · have hz : fineP p = false := by rw [hf, hst]; simp [hxn]
          have H2 := Lib.hid (And.intro hb hz)
          clear hs hb hf hst htk hx hz hg
          go_wp2
          go_ret
          exact ⟨ret_bool H2.out.2.symm, H2.out.1⟩
      · have hz : fineP p = false := by rw [hf, hst]; simp [hx0]
        have H2 := Lib.hid (And.intro hb hz)
        clear hs hb hf hst htk hx hz hg
        go_wp2
        go_ret
        exact ⟨ret_bool H2.out.2.symm, H2.out.1⟩
    · have : k = n := by omega
      subst this
      have hz : fineP p = true := by rw [hf, List.drop_of_length_le (by rw [Hn.out]; exact Nat.le_refl _)]; rfl
      have H2 := Lib.hid (And.intro hb hz)
      clear hs hb hf hz hg
      go_wp2
      go_ret
      exact ⟨ret_bool H2.out.2.symm, H2.out.1⟩
end Go.Proofs.YtjjjohmppehejaaGreat
set_option linter.unusedSimpArgs false
set_option linter.unusedVariables false
namespace Go.Proofs.YtjjjohmppehejaaGreat
open Go.RowKit Plain PlainG PlainX PlainT
theorem orbs_at {A : Adj} {c : List Int} {n i : Nat} (h : i < n) : (orbsA A c n n)[i]?.getD [] = nts (orbA A c n i) := by simp [orbsA, h]
theorem reps_at {A : Adj} {c : List Int} {n i : Nat} (h : i < n) : (repsA A c n n)[i]?.getD [] = (repA A c n i).map nts := by simp [repsA, h]
theorem map_nts_at {l : List (List Nat)} {k : Nat} (h : k < l.length) : (l.map nts)[k]?.getD [] = nts (l[k]?.getD []) := by simp [h]
theorem nts_at2 {p : List Nat} {i : Nat} (h : i < p.length) : (nts p)[i]?.getD 0 = (at_ p i : Int) := by rw [nts_get h]; rfl
/-- A chain's lists in memory: where the cells are. -/
theorem orb_cell {w : World} {oa : Option Addr} {A : Adj} {cs : List Int} {n i : Nat} (h : Rows w oa (orbsA A cs n n)) (hi : i < n) :
    ∃ g o b c, oa = some ⟨g, o, none⟩ ∧ w.cell? ⟨g, o + i, none⟩ = some (.slice b (orbA A cs n i).length c) ∧ Ints w b (nts (orbA A cs n i)) := by
  obtain ⟨g, o, b, c, e, _, hc, hi2⟩ := h.at_ (k := i) (by simp [orbsA]; exact hi)
  rw [orbs_at hi] at hc hi2
  rw [nts_len] at hc
  exact ⟨g, o, b, c, e, hc, hi2⟩
theorem rep_cell {w : World} {ra : Option Addr} {A : Adj} {cs : List Int} {n i : Nat} (h : Rows2 w ra (repsA A cs n n)) (hi : i < n) :
    ∃ g o b c, ra = some ⟨g, o, none⟩ ∧ w.cell? ⟨g, o + i, none⟩ = some (.slice b (repA A cs n i).length c) ∧ Rows w b ((repA A cs n i).map nts) := by
  obtain ⟨g, o, b, c, e, _, hc, hi2⟩ := h.at_ (k := i) (by simp [repsA]; exact hi)
  rw [reps_at hi] at hc hi2
  rw [List.length_map] at hc
  exact ⟨g, o, b, c, e, hc, hi2⟩
theorem rep_row {w : World} {b : Option Addr} {l : List (List Nat)} {k : Nat} (h : Rows w b (l.map nts)) (hk : k < l.length) :
    ∃ g o b2 c, b = some ⟨g, o, none⟩ ∧ w.cell? ⟨g, o + k, none⟩ = some (.slice b2 (l[k]?.getD []).length c) ∧ Ints w b2 (nts (l[k]?.getD [])) := by
  obtain ⟨g, o, b2, c, e, _, hc, hi2⟩ := h.at_ (k := k) (by simpa using hk)
  rw [map_nts_at hk] at hc hi2
  rw [nts_len] at hc
  exact ⟨g, o, b2, c, e, hc, hi2⟩
theorem ints_at {w : World} {a : Option Addr} {p : List Nat} {i : Nat} (h : Ints w a (nts p)) (hi : i < p.length) : ∃ g o, a = some ⟨g, o, none⟩ ∧ w.cell? ⟨g, o + i, none⟩ = some (.int .i64 (at_ p i : Int)) := by
  obtain ⟨g, o, e, _, hc⟩ := h.at_ (k := i) (by rw [nts_len]; exact hi)
  rw [nts_at2 hi] at hc
  exact ⟨g, o, e, hc⟩
theorem slice_inj {a b : Option Addr} {n m c d : Nat} (h : (some (Value.slice a n c)) = some (.slice b m d)) : a = b ∧ n = m ∧ c = d := by
  have h := Option.some.inj h
  injection h with h1 h2 h3
  exact ⟨h1, h2, h3⟩
set_option maxRecDepth 100000 in
set_option maxHeartbeats 2000000 in
theorem least_calls {w : World} {n : Nat} {g : Gr} {p : List Nat} {d : Int} {oa ra pa : Option Addr} {oc rc pc : Nat} (hn : n ≤ 5) (hp : Aut n g p)
    (h1 : Rows w oa (orbsA (adj g.es) g.cs n n)) (h2 : Rows2 w ra (repsA (adj g.es) g.cs n n)) (h3 : Ints w pa (nts p)) :
    Calls Tryz.prog 23 #[.agg #[.int .i64 d, .slice oa n oc, .slice ra n rc], .slice pa n pc] w fun e w' => e = .returned (.bool true) ∧ Below w.heap.size w w' := by
  obtain ⟨X, hX⟩ : ∃ X, w.heap.size = X := ⟨_, rfl⟩
  obtain ⟨W1, hW1⟩ : ∃ W1, w.alloc (.cells #[.int .i64 d, .slice oa n oc, .slice ra n rc] 31) = W1 := ⟨_, rfl⟩
  have hb1 : Below w.heap.size w W1 := by rw [← hW1]; exact alloc_b (Below.refl _ _) _
  have x0 : W1.cell? ⟨X, 0, none⟩ = some (.int .i64 d) := by rw [← hW1, ← hX]; simp
  have x1 : W1.cell? ⟨X, 1, none⟩ = some (.slice oa n oc) := by rw [← hW1, ← hX]; simp
  have x2 : W1.cell? ⟨X, 2, none⟩ = some (.slice ra n rc) := by rw [← hW1, ← hX]; simp
  have hlp := hp.len
  have H := Lib.hid (And.intro hb1 (And.intro (h1.below hb1) (And.intro (h2.below hb1) (And.intro (h3.below hb1) (And.intro hp hlp)))))
  clear h1 h2 h3 hp hb1 hlp
  go_enter Tryz.func23, Tryz.ntmps23
  go_wp2
  clear hW1
  go_loopw [5] (fun i wr => ∃ (j q : Nat), j ≤ n ∧ i = .int .i64 (j : Int) ∧ wr = W1.drewN q ∧ ∀ u, u < j → at_ p u = u) (fun i _ => n - (intOf i).toNat)
  case atStart => exact ⟨0, 0, Nat.zero_le _, rfl, rfl, fun u hu => by omega⟩
  case round =>
    obtain ⟨j, q, hj, rfl, rfl, hfx⟩ := hrel
    by_cases hlt : j < n
    · obtain ⟨pg, po, hpa, c1⟩ := ints_at H.out.2.2.2.1 (i := j) (by rw [H.out.2.2.2.2.2]; exact hlt)
      subst hpa
      obtain ⟨x, hx⟩ : ∃ x, at_ p j = x := ⟨_, rfl⟩
      rw [hx] at c1
      have hjn : (j : Int) < n := by omega
      by_cases hxj : x = j
      · subst hxj
        have hfx2 : ∀ u, u < x + 1 → at_ p u = u := fun u hu => by
          by_cases h : u < x
          · exact hfx u h
          · obtain rfl : u = x := by omega
            exact hx
        have HF := Lib.hid hfx2
        clear hfx hx hfx2
        go_wp2
        exact ⟨⟨x + 1, q, by omega, by go_num, rfl, HF.out⟩, by simp [intOf]; omega⟩
      · obtain ⟨k0, hk0, ho0, hcmp⟩ := lev_has hlt H.out.2.2.2.2.1 hfx
        rw [hx] at ho0
        have hasc := orb_asc (adj g.es) g.cs n j
        have hrl := orb_rep_len (adj g.es) g.cs n j
        have hrq := rep_len_at (g := g) hlt hk0
        obtain ⟨og, oo, ob, oc2, hoa, c2, ho1⟩ := orb_cell H.out.2.1 hlt
        subst hoa
        obtain ⟨rg, ro, rb, rc2, hra, c3, hr1⟩ := rep_cell H.out.2.2.1 hlt
        subst hra
        obtain ⟨rg2, ro2, rb2, rc3, hrb, c4, hr2⟩ := rep_row hr1 (k := k0) (by rw [hrl]; exact hk0)
        subst hrb
        obtain ⟨O, hO⟩ : ∃ O, orbA (adj g.es) g.cs n j = O := ⟨_, rfl⟩
        obtain ⟨Q, hQ⟩ : ∃ Q, (repA (adj g.es) g.cs n j)[k0]?.getD [] = Q := ⟨_, rfl⟩
        rw [hO] at hk0 ho0 hasc c2 ho1 hrl
        rw [hQ] at hcmp c4 hr2 hrq
        rw [hrl] at c3
        rw [hrq] at c4
        have hO5 : O.length ≤ 5 := by
          rw [← hO]
          unfold orbA levA
          rw [List.length_map]
          exact Nat.le_trans (List.length_filterMap_le _ _) (by rw [List.length_range]; exact hn)
        have hne : decide ((x : Int) = (j : Int)) = false := by simp; omega
        have hxj2 : ¬ ((x : Int) = (j : Int)) := by omega
        have hbe : ((x : Int) == (j : Int)) = false := by simp; omega
        have hO0 : at_ O k0 = x := ho0
        have hno : ∀ k, k < k0 → at_ O k ≠ x := fun k hk e => by
          have := List.pairwise_iff_getElem.1 hasc k k0 (Nat.lt_trans hk hk0) hk0 hk
          rw [← at_lt (q := O) (i := k) (Nat.lt_trans hk hk0), ← at_lt hk0, hO0, e] at this
          omega
        have HL := Lib.hid (And.intro hno (And.intro hO0 (And.intro ho1 (And.intro hr2 (And.intro hcmp hrq)))))
        clear hfx hx ho0 hasc hrl ho1 hr1 hr2 hcmp hO hQ hno hO0 hrq
        obtain ⟨N, hN⟩ : ∃ N, O.length = N := ⟨_, rfl⟩
        rw [hN] at c2 c3 hk0 hO5
        go_wp2
        go_loopw [6] (fun i wr => ∃ (k q : Nat), k ≤ k0 ∧ i = .int .i64 (k : Int) ∧ wr = W1.drewN q) (fun i _ => N - (intOf i).toNat)
        case atStart => exact ⟨0, q, Nat.zero_le _, rfl, rfl⟩
        case round =>
          obtain ⟨k, q, hk, rfl, rfl⟩ := hrel
          have hkN : (k : Int) < N := by omega
          obtain ⟨ogk, ook, hob, c5⟩ := ints_at HL.out.2.2.1 (i := k) (by omega)
          subst hob
          obtain ⟨y, hy⟩ : ∃ y, at_ O k = y := ⟨_, rfl⟩
          rw [hy] at c5
          by_cases hkk : k < k0
          · have hyx : ¬ ((y : Int) = (x : Int)) := fun e => HL.out.1 k hkk (by omega)
            clear hy
            go_wp2
            go_quiet (fail)
            go_wp2
            exact ⟨⟨k + 1, q + nq, by omega, by go_num, rfl⟩, by simp [intOf]; omega⟩
          · obtain rfl : k = k0 := by omega
            obtain rfl : y = x := hy.symm.trans HL.out.2.1
            clear hy
            go_wp2
            go_quiet (fail)
            go_wp2
            go_loopw [7] (fun i wr => ∃ (v q : Nat), v ≤ n ∧ i = .int .i64 (v : Int) ∧ wr = W1.drewN q ∧ cmpF Q p (n - v) v = true) (fun i _ => n - (intOf i).toNat)
            case atStart => exact ⟨0, q + nq, Nat.zero_le _, rfl, by first | rfl | simp [Nat.add_comm], HL.out.2.2.2.2.1⟩
            case round =>
              obtain ⟨v, q, hv, rfl, rfl, hc⟩ := hrel
              by_cases hvn : v < n
              · obtain ⟨pg3, po3, hpa3, c6⟩ := ints_at H.out.2.2.2.1 (i := v) (by rw [H.out.2.2.2.2.2]; exact hvn)
                obtain ⟨rfl, rfl⟩ : pg = pg3 ∧ po = po3 := by
                  have := Option.some.inj hpa3
                  injection this with e1 e2 _
                  exact ⟨e1, e2⟩
                obtain ⟨rg4, ro4, hrb4, c7⟩ := ints_at HL.out.2.2.2.1 (i := v) (by rw [HL.out.2.2.2.2.2]; exact hvn)
                subst hrb4
                rw [show n - v = (n - (v + 1)) + 1 by omega] at hc
                have hvn1 : (v : Int) < n := by omega
                by_cases he : at_ Q v = at_ p v
                · rw [cmpF_go he] at hc
                  obtain ⟨z, hz⟩ : ∃ z, at_ p v = z := ⟨_, rfl⟩
                  rw [he] at c7
                  rw [hz] at c6 c7
                  have HC := Lib.hid hc
                  clear hc he hz
                  go_wp2
                  go_quiet (fail)
                  go_wp2
                  go_roundw
                  case rel => exact ⟨v + 1, q + nq, by omega, by go_num, by first | rfl | simp [Nat.add_comm], HC.out⟩
                  case measure => simp [intOf]; omega
                · rw [cmpF_stop he, decide_eq_true_iff] at hc
                  obtain ⟨z, hz⟩ : ∃ z, at_ p v = z := ⟨_, rfl⟩
                  obtain ⟨s, hs⟩ : ∃ s, at_ Q v = s := ⟨_, rfl⟩
                  rw [hs] at c7 he hc
                  rw [hz] at c6 he hc
                  have hsz : ¬ ((s : Int) = (z : Int)) := by omega
                  have hsl : decide ((s : Int) < (z : Int)) = true := by simp; omega
                  clear hz hs he
                  go_wp2
                  go_quiet (fail)
                  go_wp2
                  go_quiet (fail)
                  go_wp2
                  go_ret
                  exact ⟨ret_bool (by simp), (below_drewN (below_drewN (below_drewN H.out.1 _) _) _)⟩
              · obtain rfl : v = n := by omega
                go_wp2
                go_ret
                exact ⟨rfl, H.out.1.trans (below_self_drewN _ _)⟩
    · obtain rfl : j = n := by omega
      go_wp2
      go_ret
      exact ⟨rfl, H.out.1.trans (below_self_drewN _ _)⟩
end Go.Proofs.YtjjjohmppehejaaGreat
