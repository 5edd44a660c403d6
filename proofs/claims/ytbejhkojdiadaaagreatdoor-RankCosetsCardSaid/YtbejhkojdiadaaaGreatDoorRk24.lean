/- The kit's Decimal. · RankCosets walked. -/
import Derived.Test.YtbejhkojdiadaaaGreatDoorRk01
import Derived.Test.YtbejhkojdiadaaaGreatDoorRk02
import Derived.Test.YtbejhkojdiadaaaGreatDoorRk03
import Derived.Test.YtbejhkojdiadaaaGreatDoorRk04
import Derived.Test.YtbejhkojdiadaaaGreatDoorRk05
import Derived.Test.YtbejhkojdiadaaaGreatDoorRk06
import Derived.Test.YtbejhkojdiadaaaGreatDoorRk07
import Derived.Test.YtbejhkojdiadaaaGreatDoorRk08
import Derived.Test.YtbejhkojdiadaaaGreatDoorRk09
import Derived.Test.YtbejhkojdiadaaaGreatDoorRk10
import Derived.Test.YtbejhkojdiadaaaGreatDoorRk11
import Derived.Test.YtbejhkojdiadaaaGreatDoorRk12
import Derived.Test.YtbejhkojdiadaaaGreatDoorRk13
import Derived.Test.YtbejhkojdiadaaaGreatDoorRk14
import Derived.Test.YtbejhkojdiadaaaGreatDoorRk15
import Derived.Test.YtbejhkojdiadaaaGreatDoorRk16
import Derived.Test.YtbejhkojdiadaaaGreatDoorRk17
import Derived.Test.YtbejhkojdiadaaaGreatDoorRk18
import Derived.Test.YtbejhkojdiadaaaGreatDoorRk19
import Derived.Test.YtbejhkojdiadaaaGreatDoorRk20
import Derived.Test.YtbejhkojdiadaaaGreatDoorRk21
import Derived.Test.YtbejhkojdiadaaaGreatDoorRk22
import Derived.Test.YtbejhkojdiadaaaGreatDoorRk23
import Derived.Test.YtbejhkojdiadaaaGreatDoorProg
import Derived.Laws.Runes
import Derived.WalkKit
import Derived.WalkSpells
import Derived.BigQuiet
import Derived.Deep.QuietTactic
import Derived.Deep.LoopGhost
import Derived.Lib.Hide
import Derived.Maps.AppendAt
import Derived.Deep.AppendLies
import Derived.StillTailTactics
import Derived.Laws.CopyOwn
import Derived.Deep.OwnRows
import Derived.Deep.DeepCutAuto
import Derived.Laws.Cover3
import Derived.Deep.RegionHeld3
import Derived.RangeFuncRecord
import Derived.Lib.SlicesSearch
import Derived.RangeFuncBox
import Derived.RangeFuncLeaves
import Derived.RangeFuncWrites
import Derived.RangeFuncFrom
import Derived.Shelf.Abstract
import Derived.OwnWalkIn
import Derived.TacticsInMore
import Derived.LoopNIn
import Derived.LoopIn
import Derived.Shelf.GgSortFunc.Insertion
import Derived.Shelf.SlIter.Collect
import Derived.Shelf.Sort.Plain
import Derived.Deep.RegionLaw
import Derived.ControlIn
import Derived.Deep.AppendSrc
import Derived.Sort.BigQuietIn
import Derived.Laws.BytesArg
import Derived.Laws.IdiomStrings
import Derived.Maps.OwnSet
import Derived.Carry
import Derived.Shelf.SlLaysF
import Derived.Shelf.SlSortCmp.Whole1
set_option linter.unusedSimpArgs false
set_option linter.unusedVariables false
namespace Go.Proofs.YtbejhkojdiadaaaGreatDoor
open Go.RowKit
theorem enc_digit {d : Nat} (h : d < 10) : Utf8.encode ((48 : Int) + (d : Int)) = ⟨#[UInt8.ofNat (48 + d)]⟩ := by
  have h1 : Utf8.valid ((48 : Int) + (d : Int)) = true := by unfold Utf8.valid; simp; omega
  have h2 : ((48 : Int) + (d : Int)).toNat = 48 + d := by omega
  unfold Utf8.encode
  simp only [h1, if_true, h2]
  rw [if_pos (by omega)]
theorem num_one {d : Nat} (h0 : 0 < d) (h : d < 10) : IsNum ⟨#[UInt8.ofNat (48 + d)]⟩ d :=
  ⟨[d], ⟨fun x hx => by rw [List.mem_singleton.1 hx]; exact h, by simp, by simp; omega⟩, by simp [valL], by simp [digB]⟩
theorem IsNum.snoc {t : ByteArray} {k d : Nat} (h : IsNum t k) (hd : d < 10) : IsNum (t ++ ⟨#[UInt8.ofNat (48 + d)]⟩) (10 * k + d) := by
  obtain ⟨ds, h1, h2, h3⟩ := h
  refine ⟨d :: ds, ⟨fun x hx => ?_, by simp, ?_⟩, ?_, ?_⟩
  · rcases List.mem_cons.1 hx with rfl | hx
    · exact hd
    · exact h1.1 x hx
  · obtain ⟨e, es, rfl⟩ : ∃ e es, ds = e :: es := by
      cases hc : ds with
      | nil => exact absurd hc h1.2.1
      | cons e es => exact ⟨e, es, rfl⟩
    have := h1.2.2
    simpa using this
  · rw [valL, h2]; omega
  · rw [ByteArray.data_append, Array.toList_append, h3, List.reverse_cons, digB_app]
theorem IsNum.size6 {t : ByteArray} {k : Nat} (h : IsNum t k) (hk : k < 1000000) : t.size ≤ 6 := by
  obtain ⟨ds, h1, h2, h3⟩ := h
  have hl : ds.length ≤ 6 := h1.len (h2 ▸ hk)
  have := congrArg List.length h3
  rw [digB_len, List.length_reverse] at this
  have e : t.size = t.data.toList.length := by simp
  omega
set_option maxRecDepth 100000 in
set_option maxHeartbeats 1000000 in
theorem dec32 : ∀ (f k : Nat), k ≤ f → 0 < k → k < 1000000 → ∀ (w : World), Calls Tryz.prog 32 #[.int .i64 (k : Int)] w fun e w' => ∃ t, e = .returned (.string t) ∧ IsNum t k ∧ Below w.heap.size w w'
  | 0, k, h, h0, _, _ => absurd h0 (by omega)
  | f + 1, k, h, h0, hk, w => by
    by_cases h10 : k < 10
    · have g1 : (k : Int) < 10 := by omega
      have hw : IntKind.i64.wrap (48 + (k : Int)) = 48 + (k : Int) := by exact IntWalk.i64_in _ (by omega)
      have hw2 : IntKind.i32.wrap (48 + (k : Int)) = 48 + (k : Int) := by exact IntWalk.i32_in _ (by omega)
      have he := enc_digit h10
      have H := Lib.hid (num_one h0 h10)
      clear h h0 hk h10
      go_enter Tryz.func32, Tryz.ntmps32
      go_wp2_with fail
      go_ret
      exact ⟨_, rfl, by have h := H.out; simpa using h, Below.refl _ _⟩
    · obtain ⟨q, hq⟩ : ∃ q, k / 10 = q := ⟨_, rfl⟩
      obtain ⟨r, hr⟩ : ∃ r, k % 10 = r := ⟨_, rfl⟩
      have hkq : k = 10 * q + r := by omega
      have hqk : q ≤ k := by omega
      have hq6 : q < 1000000 := Nat.lt_of_le_of_lt hqk hk
      clear hqk
      have hr10 : r < 10 := by omega
      have ih : ∀ W : World, Calls Tryz.prog 32 #[.int .i64 (wrap64 (q : Int))] W fun e w' => ∃ t, e = .returned (.string t) ∧ IsNum t q ∧ Below W.heap.size W w' := fun W => by
        have h9 := dec32 f q (by omega) (by omega) (by omega) W
        have h8 : wrap64 (q : Int) = (q : Int) := by exact IntWalk.wrap64_in _ (by omega)
        rw [h8]; exact h9
      have g1 : ¬ (k : Int) < 10 := by omega
      have g2 : (k : Int).tdiv 10 = (q : Int) := by rw [Int.tdiv_eq_ediv_of_nonneg (by omega)]; omega
      have g3 : (k : Int).tmod 10 = (r : Int) := by rw [Int.tmod_eq_emod_of_nonneg (by omega)]; omega
      have g4 : IntKind.i64.wrap (48 + (r : Int)) = 48 + (r : Int) := by exact IntWalk.i64_in _ (by omega)
      have g5 : IntKind.i32.wrap (48 + (r : Int)) = 48 + (r : Int) := by exact IntWalk.i32_in _ (by omega)
      have g6 : wrap64 (r : Int) = (r : Int) := IntWalk.wrap64_in _ (by omega)
      have g7 : wrap64 (48 + (r : Int)) = 48 + (r : Int) := IntWalk.wrap64_in _ (by omega)
      have he := enc_digit hr10
      obtain ⟨B, hB⟩ : ∃ B, Utf8.encode ((48 : Int) + (r : Int)) = B := ⟨_, rfl⟩
      rw [hB] at he
      have H := Lib.hid (And.intro ih (And.intro (And.intro hkq hq6) (And.intro hr10 he)))
      clear h h0 hk h10 hq6 hq hr ih hkq hr10 he
      go_enter Tryz.func32, Tryz.ntmps32
      go_wp2_with fail
      go_at_call 32
      (with_reducible refine (H.out.1 _).mono ?_)
      rintro e2 w2 ⟨t, rfl, k1, k2⟩
      have hB1 : B.size = 1 := by rw [H.out.2.2.2]; rfl
      have h96 := k1.size6 H.out.2.1.2
      have hsum : (9223372036854775807 < t.size + B.size) = False := eq_false (by omega)
      have H2 := Lib.hid (And.intro k1 k2)
      clear k1 k2 hB1 h96
      go_wp2_with fail
      go_ret
      exact ⟨_, rfl, by rw [H.out.2.1.1, H.out.2.2.2]; exact H2.out.1.snoc H.out.2.2.1, H2.out.2⟩
end Go.Proofs.YtbejhkojdiadaaaGreatDoor
namespace Go.Proofs.YtbejhkojdiadaaaGreatDoor
open Go.RowKit PlainPm

section
variable {n : Nat} {w : World} {u u' v v' : Value}
theorem finep (hn : 0 < n ∧ n ≤ 64) {x : Pm n} (h : PmV w [] u x) : Calls Tryz.prog 33 #[u, .int .i64 (n : Int)] w fun e w' => e = .returned (.bool true) ∧ Below w.heap.size w w' := by
  obtain ⟨a, c, rfl, hi⟩ := h.ints (by omega)
  have hl := x.ok.1
  have hc := chkP_l hn x
  have hf : fine x.l = true := by
    cases hb : fine x.l with
    | true => rfl
    | false => exact absurd hc (by unfold chkPerm; rw [if_neg (by omega), hb]; decide)
  have h3 := fine_calls (c := c) hi (by omega) (by omega)
  rw [hf, hl] at h3
  rw [hl]
  exact h3
theorem index_in (hn : n ≤ 64) {E : List (Pm n)} {x : Pm n} (hl : E.length ≤ 1000000) (hs : E.Pairwise lexLt) (hx : x ∈ E) (hv : PmsV w [] v E) (hu : PmV w [] u x) :
    Calls Tryz.prog 34 #[v, u] w fun e w' => ∃ a : Nat, e = .returned (.int .i64 (a : Int)) ∧ E[a]? = some x ∧ Below w.heap.size w w' :=
  (index43 hn hl hs hv hu).mono fun _ _ ⟨i, h1, h2, h3⟩ => by
    rcases h2 with ⟨_, k, rfl, hk⟩ | ⟨h, _⟩
    · exact ⟨k, h1, hk, h3⟩
    · exact absurd hx h
theorem cos_in14 (hn : 0 < n ∧ n ≤ 8) {G1 G2 : Pm n → Prop} (hG : IsG G1) (hG2 : IsG G2) (h : GrG w v G1) (h' : GrG w v' G2) (hs : ∀ x, G1 x → G2 x) {CL : List (Pm n)} (hC : CosSet G1 G2 CL) {m : Nat} (hm : CL.length = m) (h5 : m ≤ 5040) :
    Calls Tryz.prog 14 #[v, v'] w fun e w' => ∃ a c, e = .returned (.tuple #[.slice a m c, .int .i64 0]) ∧ PmsV w' [] (.slice a m c) CL ∧ Below w.heap.size w w' :=
  (cosets14 hn hG hG2 h h' hs hC).mono fun e w' ⟨x, c, h1, h2, h3⟩ => by
    subst h1
    rcases h2 with ⟨_, rfl, us, k1, k2⟩ | ⟨k1, _⟩
    · have hul : us.length = m := k2.1.trans hm
      obtain ⟨a, d, rfl, _⟩ := k1.row (by rw [hul]; unfold maxLen; omega)
      have hv := pms_ownB k1 k2 (by omega)
      rw [hul] at hv
      exact ⟨a, d, by rw [hul], hv, h3⟩
    · omega
theorem idx_in (hn : 0 < n ∧ n ≤ 8) {G1 G2 : Pm n → Prop} {O1 O2 : Nat → List Nat} {R1 R2 : Nat → Nat → Pm n} (h : GrG w v G1) (h' : GrG w v' G2) (hs : ∀ x, G1 x → G2 x) (hC1 : ChG G1 O1 R1) (hC2 : ChG G2 O2 R2) {m : Nat} (hq : szF O2 n 0 / szF O1 n 0 = m) :
    Calls Tryz.prog 12 #[v, v'] w fun e w' => ∃ t, e = .returned (.tuple #[.string t, .int .i64 0]) ∧ IsNum t m ∧ Below w.heap.size w w' :=
  (index12y hn hC1.isG hC2.isG h h' hs).mono fun _ _ ⟨t, k1, k2, k3⟩ => ⟨t, k1, hq ▸ k2 _ _ _ _ hC1 hC2, k3⟩
theorem dec_same {m : Nat} (h0 : 0 < m) (h : m ≤ 720) {t : ByteArray} (ht : IsNum t m) : Calls Tryz.prog 32 #[.int .i64 (m : Int)] w fun e w' => e = .returned (.string t) ∧ Below w.heap.size w w' := by
  have h6 : m < 1000000 := by omega
  refine (dec32 m m (Nat.le_refl _) h0 h6 w).mono ?_
  rintro e w' ⟨t', k1, k2, k3⟩
  exact ⟨by rw [k1, k2.ext ht], k3⟩
theorem mul_facts {a b m : Nat} (h : a * b = m) (hb : 0 < b) (hm0 : 0 < m) (hm : m ≤ 720) : 0 < a ∧ a ≤ 720 ∧ b ≤ 720 := by
  have ha : 0 < a := Nat.pos_of_ne_zero (fun e => by subst e; rw [Nat.zero_mul] at h; omega)
  have h1 : a ≤ m := h ▸ Nat.le_mul_of_pos_right a hb
  have h2 : b ≤ m := h ▸ Nat.le_mul_of_pos_left b ha
  exact ⟨ha, Nat.le_trans h1 hm, Nat.le_trans h2 hm⟩
theorem keep2z {V A B : World} {p q : Addr} {u0 u1 : Value} (h : A.cell? p = some u0 ∧ A.cell? q = some u1 ∧ Below V.heap.size V A) (k : Below A.heap.size A B) :
    B.cell? p = some u0 ∧ B.cell? q = some u1 ∧ Below V.heap.size V B :=
  ⟨(k.cell (block_lt_of_cell h.1)).trans h.1, (k.cell (block_lt_of_cell h.2.1)).trans h.2.1, below_trans h.2.2 k⟩
end
set_option maxRecDepth 100000 in
set_option maxHeartbeats 8000000 in
theorem rankCosetsW {w : World} {a1 a2 : Option Addr} {c1 c2 : Nat} {l l2 : List Int} (hi : Ints w a1 l) (hi2 : Ints w a2 l2) : Calls Tryz.prog 7 #[.slice a1 l.length c1, .slice a2 l2.length c2] w fun e w' => e = .returned (.bool true) ∧ Below w.heap.size w w' := by
  obtain ⟨i27, hi27, hz27, hs27, hb27⟩ := info_parts Tryz.info41
  have I27 := Lib.hid (And.intro hi27 (And.intro hz27 (And.intro hs27 hb27)))
  obtain ⟨i4, hi4, hz4, hs4, hb4⟩ := info_parts Tryz.info4
  have I4 := Lib.hid (And.intro hi4 (And.intro hz4 (And.intro hs4 hb4)))
  clear hi27 hz27 hs27 hb27 hi4 hz4 hs4 hb4
  obtain ⟨m1, hm1⟩ : ∃ m, l.length = m := ⟨_, rfl⟩
  obtain ⟨m2, hm2⟩ : ∃ m, l2.length = m := ⟨_, rfl⟩
  rw [hm1, hm2]
  have H := Lib.hid (And.intro hi hm1)
  have HI := Lib.hid (And.intro hi2 hm2)
  clear hi hm1 hi2 hm2
  go_enter Tryz.func7, Tryz.ntmps7
  go_wp2_with fail
  go_at_call 4
  (with_reducible refine rankKnownW.mono ?_)
  rintro e1 w1 ⟨rfl, k1⟩
  have h97 : Calls Tryz.prog 22 #[.slice a1 m1 c1, .int .i64 6] w1 _ := H.out.2 ▸ groupOf97 (c := c1) (most := 6) (by omega) (H.out.1.below k1)
  have H1 := Lib.hid (And.intro k1 h97)
  clear k1 h97
  go_wp2_with fail
  go_at_call 22
  (with_reducible refine H1.out.2.mono ?_)
  rintro e3 w3 ⟨n, v3, rfl, hn, ⟨Lg, hlg, hp⟩, k⟩
  obtain ⟨a3, c3, us3, rfl, hr3, hpl3⟩ := id hp
  obtain ⟨m3, hm3⟩ : ∃ m, Lg.length = m := ⟨_, rfl⟩
  rw [hm3] at hp hlg ⊢
  obtain ⟨W3, hW3⟩ : ∃ W3, w3.alloc (.cells #[.int .i64 (n : Int), .slice a3 m3 c3] 49) = W3 := ⟨_, rfl⟩
  have b3 : Below w3.heap.size w3 W3 := hW3 ▸ alloc_b (Below.refl _ _) _
  obtain ⟨Y, hY⟩ : ∃ Y, w3.heap.size = Y := ⟨_, rfl⟩
  have y3 : W3.heap[Y]? = some (.cells #[.int .i64 (n : Int), .slice a3 m3 c3] 49) := hW3 ▸ al_at hY _
  obtain ⟨s0, s1, s2⟩ := box2_cells y3
  have h45 : Calls Tryz.prog 23 #[.int .i64 (n : Int), .slice a3 m3 c3, .int .i64 720] W3 _ := elements45 (n := n) (most := 720) ⟨hn.1, by omega⟩ hm3 (by omega) (hp.below b3) (fac_le6 hn.2) (by omega)
  have H3 := Lib.hid (And.intro hn (And.intro (And.intro hlg (And.intro hm3 (hp.below b3))) (And.intro (below_trans H1.out.1 (below_trans k b3)) (And.intro y3 h45))))
  clear hp k b3 y3 h45 hr3 hpl3 hm3 hlg hn
  go_wp2_with fail
  go_at_call 23
  (with_reducible refine H3.out.2.2.2.2.mono ?_)
  rintro e4 w4 ⟨v4, rfl, hE, k4⟩
  obtain ⟨E, hE1, hE2, hE3⟩ := (hE.lst (M := []) (by have := H3.out.1; omega) (by simp)).now
  have hAll : AllE E (Grp (· ∈ Lg)) := ⟨hE2, hE3⟩
  have hE720 : E.length ≤ 720 := Nat.le_trans (pm_card (sorted_nodup hE2)) (fac_le6 H3.out.1.2)
  have hEpos : 0 < E.length := List.length_pos_of_mem ((hE3 (PlainPm.one n)).2 Grp.one)
  obtain ⟨_, c4, rfl, _, hat4⟩ := pms_at hE1
  obtain ⟨g4, o4, _, rfl, _⟩ := hat4 0 _ (List.getElem?_eq_getElem hEpos)
  obtain ⟨m4, hm4⟩ : ∃ m, E.length = m := ⟨_, rfl⟩
  rw [hm4] at hE720 hEpos hE1 ⊢
  have hy4 := (k4.block Y (Array.getElem?_eq_some_iff.1 H3.out.2.2.2.1).1).trans H3.out.2.2.2.1
  obtain ⟨x0, x1, x2⟩ := box2_cells hy4
  have HE := Lib.hid (And.intro hAll (And.intro hm4 (And.intro hE1 hat4)))
  have HB34 := Lib.hid k4
  have H4 := Lib.hid (And.intro (below_trans H3.out.2.2.1 k4) hy4)
  clear hE hE1 hE2 hE3 hAll hm4 hat4 k4 hy4 s0 s1 s2 hW3
  obtain ⟨Z, hZ⟩ : ∃ Z, w4.heap.size = Z := ⟨_, rfl⟩
  obtain ⟨W4, hW4⟩ : ∃ W, w4.alloc (.cells #[.slice a2 m2 c2, .int .i64 0] 60) = W := ⟨_, rfl⟩
  have b4 : Below w4.heap.size w4 W4 := hW4 ▸ alloc_b (Below.refl _ _) _
  have htk : TkW w4 W4 Z l2 := hW4 ▸ tk_new HI.out.2 (HI.out.1.below H4.out.1) hZ (Below.refl _ _)
  have h98 : Calls Tryz.prog 30 #[.pointer (some ⟨Z, 0, none⟩), .int .i64 3] W4 _ := take98 htk (n := (3 : Int)) (by omega) (by omega)
  have hD : W4.heap.size = Z + 1 := by rw [← hW4]; simp [hZ]
  have hYZ : Y < Z := hZ ▸ (Array.getElem?_eq_some_iff.1 H4.out.2).1
  have HT := Lib.hid (And.intro b4 (And.intro htk (And.intro (And.intro hD (And.intro hYZ hZ)) h98)))
  clear b4 htk h98 hD hYZ
  go_wp2_with fail
  go_at_call 30
  (with_reducible refine HT.out.2.2.2.mono ?_)
  rintro e5 w5 ⟨b5, rfl, k1, k2, k3, k4⟩
  have H5 := Lib.hid (And.intro (k1 (by omega)) (And.intro k3 k4))
  clear k1 k2 k3 k4 hW4 x0 x1 x2
  go_wp2_with fail
  go_loopw [9, 10] (fun v i wr => ∃ (k : Nat) (G : List (Pm n)) (us : List Value) (vv : Value), vv = v ∧ i = .int .i64 (k : Int) ∧ G.length + k ≤ 2 ∧ (∀ x ∈ G, x ∈ E) ∧ GrowL [Z] wr (Z + 1) v us G ∧ TkW w4 wr Z l2 ∧ Z + 1 ≤ wr.heap.size ∧ Below Z W4 wr) (fun _ i _ => (intOf i).toNat)
  case atStart =>
    exact ⟨b5, [], [], _, rfl, rfl, by have := H5.out.1; simp; omega, by simp, GrowL.nil _ (fun q hq => by have := H5.out.2.2.size; have := HT.out.2.2.1.1; simp at hq; omega), H5.out.2.1, by have := H5.out.2.2.size; have := HT.out.2.2.1.1; omega, H5.out.2.2.below1 (by have := HT.out.2.2.1.1; omega) (Nat.le_refl _)⟩
  case round =>
    obtain ⟨k, G, us, v, rfl, rfl, hG, hGE, hgl, htk, hDs, hbz⟩ := hrel
    obtain ⟨wo, rfl⟩ : ∃ wo, wo = wr := ⟨_, rfl⟩
    by_cases hk0 : 0 < k
    · obtain ⟨j, rfl⟩ : ∃ j, k = j + 1 := ⟨k - 1, by omega⟩
      have hk1 : (0 : Int) < ((j + 1 : Nat) : Int) := by omega
      have hj3 : j ≤ 2 := by omega
      have h98 : Calls Tryz.prog 30 #[.pointer (some ⟨Z, 0, none⟩), .int .i64 (m4 : Int)] wo _ := take98 htk (n := (m4 : Int)) (by omega) (by omega)
      have hul : us.length < 1099511627776 := by have := hgl.len; omega
      have HK := Lib.hid (And.intro h98 (And.intro hG (And.intro hGE (And.intro hgl (And.intro htk (And.intro hDs hbz))))))
      clear h98 hG hGE hgl htk hDs hbz
      go_wp2_with (first
        | (at_builtin; refine app1 rfl (.tmp 41) (.tmp 49) 28 41 rfl i27 (.slice none 0 0) 24 Tryz.underlying28 I27.out.1 I27.out.2.1 I27.out.2.2.1 I27.out.2.2.2 rfl (by omega) (Z + 1) (.slice (some ⟨ub, uo, none⟩) n uc) _ us rfl H7.out.2.1.1 rfl rfl hul (Nat.le_trans HK.out.2.2.2.2.2.1 H7.out.1.size) ?_; intro v8 w8 k1 k2 k3
           have H8 := Lib.hid (And.intro k1 (And.intro k2 k3)); clear k1 k2 k3)
        | (go_at_call 30; (with_reducible refine HK.out.1.mono ?_); rintro e7 w7 ⟨b7, rfl, k1, k2, k3, k4⟩
           have hb7 : b7 < m4 := by have := k1 (by omega); omega
           have hb7' : (b7 : Int) < (m4 : Int) := by omega
           obtain ⟨x, hx⟩ : ∃ x, E[b7]? = some x := ⟨_, List.getElem?_eq_getElem (by rw [HE.out.2.1]; exact hb7)⟩
           have hbW : Below Z W4 w7 := HK.out.2.2.2.2.2.2.trans (k4.below1 (by have := HK.out.2.2.2.2.2.1; omega) (Nat.le_refl _))
           obtain ⟨g7, o7, u7, e7, hc7, hp7⟩ := HE.out.2.2.2 b7 x hx
           cases e7
           have hc7' := (k3.bel.cell (block_lt_of_cell hc7)).trans hc7
           obtain ⟨ub, uo, uc, rfl, _⟩ := id hp7
           have hgl7 : GrowL [Z] w7 (Z + 1) v us G := ⟨HK.out.2.2.2.1.1.keptL k4 (fun q e hq => by have h1 := (HK.out.2.2.2.1.1.block_lt e).2; rw [List.mem_singleton.1 hq] at h1; omega), HK.out.2.2.2.1.2.1.stp ⟨k4.mono (fun q hq => List.mem_append_right _ (by rw [List.mem_singleton.1 hq]; simp)), fun q hq => .inl hq⟩, fun q hq => Nat.lt_of_lt_of_le (HK.out.2.2.2.1.2.2 q hq) k4.size⟩
           have hz7 : PmV w7 (v.ownBlock.toList ++ [Z]) (.slice (some ⟨ub, uo, none⟩) n uc) x := (hp7.ext (fun q hq => by
             have ho := HT.out.2.2.1.2.2
             rcases List.mem_append.1 hq with hq | hq
             · have h1 := (HK.out.2.2.2.1.1.block_lt (mem_ob.1 hq)).2; exact .inr (by omega)
             · have e := List.mem_singleton.1 hq
               exact .inr (by omega))).below k3.bel
           have H7 := Lib.hid (And.intro k4 (And.intro hgl7 (And.intro k3 (And.intro hbW (And.intro hz7 hx)))))
           clear hgl7 hbW hz7 hx hp7 hc7
           clear k1 k2 k3 k4))
      have hgl8 := H7.out.2.1.app H7.out.2.2.2.2.1 H8.out.1 H8.out.2.1 H8.out.2.2
      have hob : ∀ q, v.ownBlock = some q → Z + 1 ≤ q := fun q e => (HK.out.2.2.2.1.1.block_lt e).2
      have k8 : Kept w7 w8 v.ownBlock.toList := Kept.ofGrown H8.out.2.1 (fun q e => mem_ob.2 e)
      have ho := H7.out.2.2.1.old
      refine ⟨⟨j, G ++ [x], _, _, rfl, by go_num, by rw [List.length_append]; have := HK.out.2.1; simp; omega, fun y hy => ?_, hgl8, H7.out.2.2.1.kept k8 (fun q hq => by have h1 := hob q (mem_ob.1 hq); exact ⟨by omega, by omega⟩), Nat.le_trans (Nat.le_trans HK.out.2.2.2.2.2.1 H7.out.1.size) k8.size, H7.out.2.2.2.1.trans (k8.below (by have := H7.out.1.size; have := HK.out.2.2.2.2.2.1; omega) (fun q hq => by have h1 := hob q (mem_ob.1 hq); omega))⟩, by first | (simp [intOf]; done) | (simp [intOf]; omega)⟩
      rcases List.mem_append.1 hy with hy | hy
      · exact HK.out.2.2.1 y hy
      · rw [List.mem_singleton.1 hy]; exact List.mem_of_getElem? H7.out.2.2.2.2.2
    · obtain rfl : k = 0 := by omega
      have hk1 : ¬ (0 : Int) < ((0 : Nat) : Int) := by simp
      have hGn : G.length ≤ 2 := by omega
      obtain ⟨va, vc, rfl, _⟩ := hgl.1.row (by rw [hgl.len]; unfold maxLen; omega)
      have hpG : PmsV wo [] (.slice va us.length vc) G := pms_ownB hgl.1 (hgl.2.1.extM (M' := []) (by simp)) (by omega)
      have hus : G.length = us.length := hgl.len.symm
      obtain ⟨ul, hul⟩ : ∃ u, us.length = u := ⟨_, rfl⟩
      rw [hul] at hpG hus ⊢
      have hn64 : 0 < n ∧ n ≤ 64 := ⟨H3.out.1.1, by have := H3.out.1; omega⟩
      have hb4o : Below w4.heap.size w4 wo := HT.out.1.trans (hbz.mono (by have := HT.out.2.2.1.2.2; omega))
      have hbwo : Below w.heap.size w wo := below_trans H4.out.1 hb4o
      have hY := (hb4o.block Y (Array.getElem?_eq_some_iff.1 H4.out.2).1).trans H4.out.2
      have h45 : Calls Tryz.prog 23 #[.int .i64 (n : Int), .slice va ul vc, .int .i64 720] wo _ := elements45 (n := n) (most := 720) hn64 hus (by omega) hpG (fac_le6 H3.out.1.2) (by omega)
      obtain ⟨y0, y1, y2⟩ := box2_cells hY
      have HN := Lib.hid (And.intro hn64 (show 0 < n ∧ n ≤ 8 from ⟨hn64.1, by have := H3.out.1; omega⟩))
      have HK := Lib.hid (And.intro h45 (And.intro (And.intro hGE (And.intro hGn hus)) (And.intro hpG (And.intro (And.intro hbwo hb4o) hY))))
      clear h45 hGE hGn hus hpG hbwo hb4o hY hgl htk hDs hbz hul hG hn64
      go_wp2_with fail
      go_at_call 23
      (with_reducible refine HK.out.1.mono ?_)
      rintro e8 w8 ⟨v8, rfl, hE8, k8⟩
      obtain ⟨S, hS1, hS2, hS3⟩ := (hE8.lst (M := []) (by have := H3.out.1; omega) (by simp)).now
      have hSpos : 0 < S.length := List.length_pos_of_mem ((hS3 (PlainPm.one n)).2 Grp.one)
      obtain ⟨_, c8, rfl, _, hat8⟩ := pms_at hS1
      obtain ⟨g8, o8, _, rfl, _⟩ := hat8 0 _ (List.getElem?_eq_getElem hSpos)
      obtain ⟨mS, hmS⟩ : ∃ m, S.length = m := ⟨_, rfl⟩
      rw [hmS] at hSpos hS1 ⊢
      have hy8 := (k8.block Y (Array.getElem?_eq_some_iff.1 HK.out.2.2.2.2).1).trans HK.out.2.2.2.2
      obtain ⟨z0, z1, z2⟩ := box2_cells hy8
      have h31 : Calls Tryz.prog 31 #[.int .i64 (n : Int), .slice va ul vc] w8 _ := mk96 HN.out.1 (by have := HK.out.2.1.2.1; omega) (HK.out.2.2.1.below k8)
      have HS := Lib.hid (And.intro (show AllE S (Grp (· ∈ G)) from ⟨hS2, hS3⟩) (And.intro hmS (And.intro hat8 (And.intro hSpos (And.intro k8 (And.intro hy8 h31))))))
      clear hE8 hS1 hS2 hS3 hmS hat8 hSpos k8 hy8 h31 y0 y1 y2
      go_wp2_with fail
      go_at_call 31
      (with_reducible refine HS.out.2.2.2.2.2.2.mono ?_)
      rintro e9 w9 ⟨a9, c9, b9, d9, rfl, k9, k9g⟩
      obtain ⟨X, hX⟩ : ∃ X, w9.heap.size = X := ⟨_, rfl⟩
      obtain ⟨W9, hW9⟩ : ∃ W, w9.alloc (.cells #[.int .i64 (n : Int), .slice a9 n c9, .slice b9 n d9] 25) = W := ⟨_, rfl⟩
      have b9' : Below w9.heap.size w9 W9 := hW9 ▸ alloc_b (Below.refl _ _) _
      have z9 : W9.heap[X]? = some (.cells #[.int .i64 (n : Int), .slice a9 n c9, .slice b9 n d9] 25) := hW9 ▸ box_al25 hX _ _ _
      have kb9 := below_trans k9 b9'
      have hy9 := (kb9.block Y (Array.getElem?_eq_some_iff.1 HS.out.2.2.2.2.2.1).1).trans HS.out.2.2.2.2.2.1
      obtain ⟨y0, y1, y2⟩ := box2_cells hy9
      have hg9 : GrG W9 (.agg #[.int .i64 (n : Int), .slice a9 n c9, .slice b9 n d9]) (Grp (· ∈ G)) := ((k9g [] (by simp)).now).below b9'
      have kw9 : Below w4.heap.size w4 W9 := below_trans HK.out.2.2.2.1.2 (below_trans HS.out.2.2.2.2.1 kb9)
      have h99 : Calls Tryz.prog 24 #[.agg #[.int .i64 (n : Int), .slice a3 m3 c3]] W9 _ := of99 (n := n) HN.out.1 H3.out.2.1.2.1 (by have := H3.out.2.1.1; omega) ((H3.out.2.1.2.2.below HB34.out).below kw9)
      have H9 := Lib.hid (And.intro kb9 (And.intro z9 (And.intro hy9 (And.intro hg9 (And.intro kw9 h99)))))
      clear k9 k9g b9' z9 kb9 hy9 hg9 kw9 h99 z0 z1 z2
      go_wp2_with fail
      go_at_call 24
      (with_reducible refine H9.out.2.2.2.2.2.mono ?_)
      rintro e10 w10 ⟨a10, c10, b10, d10, rfl, k10, k10g⟩
      obtain ⟨X2, hX2⟩ : ∃ X, w10.heap.size = X := ⟨_, rfl⟩
      obtain ⟨W10, hW10⟩ : ∃ W, w10.alloc (.cells #[.int .i64 (n : Int), .slice a10 n c10, .slice b10 n d10] 25) = W := ⟨_, rfl⟩
      have b10' : Below w10.heap.size w10 W10 := hW10 ▸ alloc_b (Below.refl _ _) _
      have z10 : W10.heap[X2]? = some (.cells #[.int .i64 (n : Int), .slice a10 n c10, .slice b10 n d10] 25) := hW10 ▸ box_al25 hX2 _ _ _
      have kb10 := below_trans k10 b10'
      have hg10 : GrG W10 (.agg #[.int .i64 (n : Int), .slice a10 n c10, .slice b10 n d10]) (Grp (· ∈ Lg)) := ((k10g [] (by simp)).now).below b10'
      have hgc := H9.out.2.2.2.1.below kb10
      have zx := (kb10.block X (Array.getElem?_eq_some_iff.1 H9.out.2.1).1).trans H9.out.2.1
      have zy := (kb10.block Y (Array.getElem?_eq_some_iff.1 H9.out.2.2.1).1).trans H9.out.2.2.1
      obtain ⟨os1, rs1, _, _, _, hC1⟩ := hgc.vals HN.out.1 Grp.isG
      obtain ⟨os2, rs2, _, _, _, hC2⟩ := hg10.vals HN.out.1 Grp.isG
      obtain ⟨CL, hCL⟩ : ∃ CL, CosSet (Grp (· ∈ G)) (Grp (· ∈ Lg)) CL := ⟨_, cos_of hC1 hC2⟩
      have hsub : ∀ x, Grp (· ∈ G) x → Grp (· ∈ Lg) x := fun x hx => Grp.sub Grp.isG (fun s hs => (HE.out.1.2 s).1 (HK.out.2.1.1 s hs)) hx
      have hmul := cos_mul hC1 hC2 hsub HE.out.1 HS.out.1 hCL
      have hquo := cos_quot hC1 hC2 hsub HE.out.1 HS.out.1 hCL
      obtain ⟨mC, hmC⟩ : ∃ m, CL.length = m := ⟨_, rfl⟩
      rw [hmC, HS.out.2.1, HE.out.2.1] at hmul
      rw [hmC] at hquo
      obtain ⟨hCpos, hC7, hS7⟩ := mul_facts hmul HS.out.2.2.2.1 hEpos hE720
      have HMU := Lib.hid (And.intro hmul hS7)
      clear hmul hS7
      have h14 := cos_in14 HN.out.2 Grp.isG Grp.isG hgc hg10 hsub hCL hmC (by omega)
      have h12 := fun (V : World) (hV : Below W10.heap.size W10 V) => idx_in HN.out.2 (hgc.below hV) (hg10.below hV) hsub hC1 hC2 hquo
      obtain ⟨j0, j1, j2, _⟩ := box_cells z10
      obtain ⟨i0, i1, i2, _⟩ := box_cells zx
      have hk410 := below_trans H9.out.2.2.2.2.1 kb10
      have H10 := Lib.hid (And.intro hk410 (And.intro z10 (And.intro zx (And.intro zy (And.intro (And.intro hCL (And.intro hmC (And.intro trivial (And.intro hCpos hC7)))) (And.intro h14 h12))))))
      have HKB := Lib.hid kb10
      clear k10 k10g b10' z10 hg10 hgc zx zy hC1 hC2 hsub hquo h14 h12 hk410 hCL hmC y0 y1 y2 kb10
      go_wp2_with fail
      go_at_call 14
      (with_reducible refine H10.out.2.2.2.2.2.1.mono ?_)
      rintro e11 w11 ⟨a11, c11, rfl, hp11, k11⟩
      obtain ⟨_, _, e11', _, hat11⟩ := pms_at hp11
      simp only [Value.slice.injEq] at e11'
      obtain ⟨rfl, -, rfl⟩ := e11'
      obtain ⟨g11, o11, _, rfl, _⟩ := hat11 0 _ (List.getElem?_eq_getElem (show 0 < CL.length by rw [H10.out.2.2.2.2.1.2.1]; exact H10.out.2.2.2.2.1.2.2.2.1))
      have zz := (k11.block X2 (Array.getElem?_eq_some_iff.1 H10.out.2.1).1).trans H10.out.2.1
      obtain ⟨p0, p1, p2, _⟩ := box_cells zz
      have zz := (k11.block X (Array.getElem?_eq_some_iff.1 H10.out.2.2.1).1).trans H10.out.2.2.1
      obtain ⟨q0, q1, q2, _⟩ := box_cells zz
      have H11 := Lib.hid (And.intro k11 hat11)
      clear hp11 k11 hat11 zz i0 i1 i2 j0 j1 j2 hW9 hW10
      go_wp2_with fail
      go_at_call 12
      (with_reducible refine (H10.out.2.2.2.2.2.2 _ H11.out.1).mono ?_)
      rintro e12 w12 ⟨t, rfl, ht, k12⟩
      have h32 := dec_same (w := w12) H10.out.2.2.2.2.1.2.2.2.1 H10.out.2.2.2.2.1.2.2.2.2 ht
      have hmW : wrap64 (m4 : Int) = (m4 : Int) := IntWalk.wrap64_in _ (by omega)
      have hmI : (mC : Int) * (mS : Int) = (m4 : Int) := by rw [← HMU.out.1]; simp
      have HM := Lib.hid (And.intro hE720 (And.intro hEpos hC7))
      clear hC7 hCpos hE720 hEpos
      have H12 := Lib.hid (And.intro k12 h32)
      clear k12 h32 ht p0 p1 p2 q0 q1 q2
      go_wp2_with fail
      go_at_call 32
      (with_reducible refine H12.out.2.mono ?_)
      rintro e13 w13 ⟨rfl, k13⟩
      clear hmI hmW
      have b11 : Below w11.heap.size w11 w13 := below_trans H12.out.1 k13
      have bW10 := below_trans H11.out.1 b11
      have b413 := below_trans H10.out.1 bW10
      have b813 : Below w8.heap.size w8 w13 := below_trans H9.out.1 (below_trans HKB.out bW10)
      have H13 := Lib.hid (And.intro b11 (And.intro bW10 (And.intro b413 b813)))
      clear b11 bW10 b413 b813 k13
      go_wp2_with (refine mk1 rfl (.tmp 103) (.tmp 103) 67 4 rfl i4 (.bool false) 1 Tryz.underlying67 I4.out.1 I4.out.2.1 I4.out.2.2.1 I4.out.2.2.2 rfl (by omega) w13.heap.size m4 rfl rfl (by have := HM.out.1; omega) (Nat.le_refl _) ?_; intro w14 h2 h3 h4; have H14 := Lib.hid (And.intro h2 (And.intro h3 h4)); clear h2 h3 h4)
      go_loopw [21, 22, 23] (fun ii _ _ wr => ∃ (i : Nat) (bs : List Bool), ii = .int .i64 (i : Int) ∧ i ≤ mC ∧ SeenI E S CL i 0 bs ∧ Own wr w13.heap.size (.slice (some ⟨w13.heap.size, 0, none⟩) m4 m4) 4 (bs.map Value.bool) ∧ Below w13.heap.size w13 wr) (fun ii _ _ _ => mC - (intOf ii).toNat)
      case atStart =>
        refine ⟨0, _, rfl, by omega, SeenI.start E S CL, ?_, (Below.refl _ _).grown H14.out.2.1 (Nat.le_refl _) (fun k e => by cases e)⟩
        rw [HE.out.2.1, List.map_replicate]
        exact H14.out.1
      case round =>
        obtain ⟨i, bs, rfl, hi, hsI, hO, hbw⟩ := hrel
        obtain ⟨wp, rfl⟩ : ∃ wp, wp = wr := ⟨_, rfl⟩
        by_cases hlt : i < mC
        · obtain ⟨c, hc⟩ : ∃ c, CL[i]? = some c := ⟨_, List.getElem?_eq_getElem (by rw [H10.out.2.2.2.2.1.2.1]; exact hlt)⟩
          obtain ⟨gC, oC, uC, eC, hcC, hpC⟩ := H11.out.2 i c hc
          cases eC
          have kC := below_trans H13.out.1 hbw
          have hcC' := (kC.cell (block_lt_of_cell hcC)).trans hcC
          have hpC' := hpC.below kC
          obtain ⟨cb, co, cc, rfl, _⟩ := id hpC
          have hy := ((below_trans H13.out.2.1 hbw).block Y (Array.getElem?_eq_some_iff.1 H10.out.2.2.2.1).1).trans H10.out.2.2.2.1
          obtain ⟨y0, _, _⟩ := box2_cells hy
          have hz0 := And.intro hcC' (And.intro y0 (Below.refl wp.heap.size wp))
          have hfi := fun (V : World) (hV : Below wp.heap.size wp V) => finep HN.out.1 (hpC'.below hV)
          have hiI : (i : Int) < (mC : Int) := by omega
          have HR := Lib.hid (And.intro hsI (And.intro hO (And.intro hbw (And.intro hc (And.intro hcC' (And.intro hpC' hi))))))
          clear hsI hO hbw hc hcC hcC' hpC hpC' kC hy hi hlt y0
          go_wp2_with fail
          go_region_held3 (fun W => W.cell? ⟨g11, o11 + i, none⟩ = some (.slice (some ⟨cb, co, none⟩) n cc) ∧ W.cell? ⟨Y, 0, none⟩ = some (.int .i64 (n : Int)) ∧ Below wp.heap.size wp W)
            (first
              | with_reducible assumption
              | with_reducible exact hz0
              | exact keep2z hz0 (below_drw (Below.refl _ _))
              | exact keep2z hz0 (below_self_drewN _ _)
              | exact keep2z hz0 b3
              | exact keep2z hz0 (below_drw b3)
              | exact keep2z hz0 (below_trans b3 (below_self_drewN _ _))
              | fail)
            (first
              | (go_at_call 33; (with_reducible refine (hfi _ (by first | exact Below.refl _ _ | exact below_drw (Below.refl _ _) | exact below_self_drewN _ _)).mono ?_); rintro e3 w3 ⟨rfl, k⟩; have b3 : Below wp.heap.size wp w3 := below_trans (by first | exact Below.refl _ _ | exact below_drw (Below.refl _ _) | exact below_self_drewN _ _) k; clear k))
          have HB3 := Lib.hid b3
          clear b3 hz0 hfi
          go_wp2_with fail
          go_loopw [22, 23] (fun kk _ wr => ∃ (k : Nat) (bs : List Bool), kk = .int .i64 (k : Int) ∧ k ≤ mS ∧ SeenI E S CL i k bs ∧ Own wr w13.heap.size (.slice (some ⟨w13.heap.size, 0, none⟩) m4 m4) 4 (bs.map Value.bool) ∧ Below w13.heap.size w13 wr) (fun kk _ _ => mS - (intOf kk).toNat)
          case atStart => exact ⟨0, bs, rfl, by omega, HR.out.1, HR.out.2.1.below HB3.out, below_trans HR.out.2.2.1 HB3.out⟩
          case round =>
            obtain ⟨k, bs, rfl, hk, hsI, hO, hbw⟩ := hrel
            by_cases hlt : k < mS
            · obtain ⟨s, hs⟩ : ∃ s, S[k]? = some s := ⟨_, List.getElem?_eq_getElem (by rw [HS.out.2.1]; exact hlt)⟩
              obtain ⟨gS, oS, uS, eS, hcS, hpS⟩ := HS.out.2.2.1 k s hs
              cases eS
              obtain ⟨gC, oC, uC, eC, hcC, hpC⟩ := H11.out.2 i c HR.out.2.2.2.1
              cases eC
              have kS := below_trans H13.out.2.2.2 hbw
              have kC := below_trans H13.out.1 hbw
              have hcS' := (kS.cell (block_lt_of_cell hcS)).trans hcS
              have hcC' := (kC.cell (block_lt_of_cell hcC)).trans hcC
              have hEv := HE.out.2.2.1.below (below_trans H13.out.2.2.1 hbw)
              obtain ⟨cb, co, cc, rfl, _⟩ := id hpC
              obtain ⟨ub, uo, uc, rfl, _⟩ := id hpS
              have hz0 := And.intro hcS' (And.intro hcC' (Below.refl wr.heap.size wr))
              have hmem : s.mul c ∈ E := (HE.out.1.2 _).2 (Grp.isG.mul (Grp.sub Grp.isG (fun q hq => (HE.out.1.2 q).1 (HK.out.2.1.1 q hq)) ((HS.out.1.2 s).1 (List.mem_of_getElem? hs))) ((H10.out.2.2.2.2.1.1.2 c).1 (List.mem_of_getElem? HR.out.2.2.2.1)).1)
              have hmu := fun (V : World) (hV : Below wr.heap.size wr V) => mul49 (w := V) HN.out.1.2 HN.out.1.1 ((hpS.below kS).below hV) ((hpC.below kC).below hV)
              have hix := fun (V : World) (hV : Below wr.heap.size wr V) (v : Value) (hv : PmV V [] v (s.mul c)) => index_in (w := V) HN.out.1.2 (by have := HE.out.2.1; have := HM.out.1; omega) HE.out.1.1 hmem (hEv.below hV) hv
              have hstep := fun (a : Nat) (ha : E[a]? = some (s.mul c)) => hsI.step Grp.isG HE.out.1.1 HS.out.1 H10.out.2.2.2.2.1.1 hs HR.out.2.2.2.1 ha
              have hkI : (k : Int) < (mS : Int) := by omega
              have hiI : (i : Int) < (mC : Int) := by have h9 := (List.getElem?_eq_some_iff.1 HR.out.2.2.2.1).1; have h8 := H10.out.2.2.2.2.1.2.1; omega
              have HQ := Lib.hid (And.intro hstep (And.intro hO (And.intro hbw hlt)))
              clear hstep hO hbw hs hcS hpS hcC hpC kS kC hcS' hcC' hEv hmem hk hlt hsI
              go_wp2_with fail
              go_region_held3 (fun W => W.cell? ⟨g8, o8 + k, none⟩ = some (.slice (some ⟨ub, uo, none⟩) n uc) ∧ W.cell? ⟨g11, o11 + i, none⟩ = some (.slice (some ⟨cb, co, none⟩) n cc) ∧ Below wr.heap.size wr W)
                (first
                  | with_reducible assumption
                  | with_reducible exact hz0
                  | exact keep2z hz0 (below_drw (Below.refl _ _))
                  | exact keep2z hz0 (below_self_drewN _ _)
                  | exact keep2z hz0 b5
                  | exact keep2z hz0 (below_drw b5)
                  | exact keep2z hz0 (below_trans b5 (below_self_drewN _ _))
                  | exact keep2z hz0 b3
                  | exact keep2z hz0 (below_drw b3)
                  | exact keep2z hz0 (below_trans b3 (below_self_drewN _ _))
                  | fail)
                (first
                  | (go_at_call 28; (with_reducible refine (hmu _ (by first | exact Below.refl _ _ | exact below_drw (Below.refl _ _) | exact below_self_drewN _ _)).mono ?_); rintro e3 w3 ⟨v3, rfl, k1, k⟩; have b3 : Below wr.heap.size wr w3 := below_trans (by first | exact Below.refl _ _ | exact below_drw (Below.refl _ _) | exact below_self_drewN _ _) k; have k3 : PmV w3 [] v3 (s.mul c) := k1.pm (by simp); clear k k1)
                  | (go_at_call 34; (with_reducible refine (hix _ (by first | exact b3 | exact below_drw b3 | exact below_trans b3 (below_self_drewN _ _)) _ (by first | exact k3 | exact k3.drewN _)).mono ?_); rintro e5 w5 ⟨a, rfl, ha, k⟩; have b5 : Below wr.heap.size wr w5 := below_trans (by first | exact b3 | exact below_drw b3 | exact below_trans b3 (below_self_drewN _ _)) k; clear k))
              obtain ⟨hs1, hs2⟩ := HQ.out.1 a ha
              have ham : a < m4 := by have h9 := (List.getElem?_eq_some_iff.1 ha).1; have h8 := HE.out.2.1; omega
              have hO5 := HQ.out.2.1.below b5
              have hcl := (hO5.cell a (by have h9 := (List.getElem?_eq_some_iff.1 hs1).1; simpa using h9)).trans (show (bs.map Value.bool)[a]? = some (.bool false) by rw [List.getElem?_map, hs1]; rfl)
              have hfz := hO5.frozen a
              have haI : ¬ (a : Int) < 0 := by omega
              have haI2 : (a : Int) < (m4 : Int) := by omega
              have hput := hO5.put a (.bool true)
              rw [show (bs.map Value.bool).set a (.bool true) = (bs.set a true).map Value.bool from (List.map_set).symm] at hput
              have hgr := grown_put (w := w5) (g := w13.heap.size) a (.bool true)
              have HP := Lib.hid (And.intro hs2 (And.intro hput (And.intro (HQ.out.2.2.1.trans (b5.mono HQ.out.2.2.1.size)) hgr)))
              clear hs1 hs2 hO5 hput hgr b5 b3 k3 hz0 hmu hix
              have hk720 := HMU.out.2
              have hlt := HQ.out.2.2.2
              go_wp2_with fail
              refine ⟨⟨k + 1, bs.set a true, by go_num, by omega, HP.out.1, HP.out.2.1, HP.out.2.2.1.grown HP.out.2.2.2 HP.out.2.2.1.size (fun q e => by cases e; exact Nat.le_refl _)⟩, by simp [intOf]; omega⟩
            · have hkI : ¬ (k : Int) < (mS : Int) := by omega
              obtain rfl : k = S.length := by have := HS.out.2.1; omega
              have HQ := Lib.hid (And.intro hsI.next (And.intro hO hbw))
              have HI2 := Lib.hid HR.out.2.2.2.2.2.2
              have hiC : i + 1 ≤ mC := by have h9 := (List.getElem?_eq_some_iff.1 HR.out.2.2.2.1).1; have h8 := H10.out.2.2.2.2.1.2.1; omega
              clear hsI hO hbw hlt
              have hc720 := HM.out.2.2
              go_wp2_with fail
              exact ⟨⟨i + 1, bs, by go_num, hiC, HQ.out.1, HQ.out.2.1, HQ.out.2.2⟩, by simp [intOf]; omega⟩
        · have hiI : ¬ (i : Int) < (mC : Int) := by omega
          have HQ := Lib.hid hbw
          clear hsI hO hbw
          go_wp2_with fail
          go_ret
          exact ⟨rfl, below_trans H4.out.1 (below_trans H13.out.2.2.1 HQ.out)⟩
end Go.Proofs.YtbejhkojdiadaaaGreatDoor
