/- The reference's Cosets walked. -/
import Derived.Test.YtbejhkojdiadaaaGreatDoorRk01
import Derived.Test.YtbejhkojdiadaaaGreatDoorRk02
import Derived.Test.YtbejhkojdiadaaaGreatDoorRk03
import Derived.Test.YtbejhkojdiadaaaGreatDoorRk04
import Derived.Test.YtbejhkojdiadaaaGreatDoorRk05
import Derived.Test.YtbejhkojdiadaaaGreatDoorRk06
import Derived.Test.YtbejhkojdiadaaaGreatDoorRk07
import Derived.Test.YtbejhkojdiadaaaGreatDoorRk08
import Derived.Test.YtbejhkojdiadaaaGreatDoorRk09
import Derived.Test.YtbejhkojdiadaaaGreatDoorRk10
import Derived.Test.YtbejhkojdiadaaaGreatDoorRk11
import Derived.Test.YtbejhkojdiadaaaGreatDoorRk12
import Derived.Test.YtbejhkojdiadaaaGreatDoorRk13
import Derived.Test.YtbejhkojdiadaaaGreatDoorRk14
import Derived.Test.YtbejhkojdiadaaaGreatDoorRk15
import Derived.Test.YtbejhkojdiadaaaGreatDoorRk16
import Derived.Test.YtbejhkojdiadaaaGreatDoorRk17
import Derived.Test.YtbejhkojdiadaaaGreatDoorRk18
import Derived.Test.YtbejhkojdiadaaaGreatDoorRk19
import Derived.Test.YtbejhkojdiadaaaGreatDoorRk20
import Derived.Test.YtbejhkojdiadaaaGreatDoorRl01
import Derived.Test.YtbejhkojdiadaaaGreatDoorRl02
import Derived.Test.YtbejhkojdiadaaaGreatDoorRl03
import Derived.Test.YtbejhkojdiadaaaGreatDoorProg
import Derived.WalkKit
import Derived.WalkSpells
import Derived.BigQuiet
import Derived.Deep.QuietTactic
import Derived.Deep.LoopGhost
import Derived.Lib.Hide
import Derived.Maps.AppendAt
import Derived.Deep.AppendLies
import Derived.StillTailTactics
import Derived.Laws.CopyOwn
import Derived.Deep.OwnRows
import Derived.Deep.DeepCutAuto
import Derived.Laws.Cover3
import Derived.Deep.RegionHeld3
import Derived.RangeFuncRecord
import Derived.Lib.SlicesSearch
import Derived.RangeFuncBox
import Derived.RangeFuncLeaves
import Derived.RangeFuncWrites
import Derived.RangeFuncFrom
import Derived.Shelf.Abstract
import Derived.OwnWalkIn
import Derived.TacticsInMore
import Derived.LoopNIn
import Derived.LoopIn
import Derived.Shelf.GgSortFunc.Insertion
import Derived.Shelf.SlIter.Collect
import Derived.Shelf.Sort.Plain
import Derived.Deep.RegionLaw
import Derived.ControlIn
import Derived.Deep.AppendSrc
import Derived.Sort.BigQuietIn
import Derived.Laws.BytesArg
import Derived.Laws.IdiomStrings
import Derived.Maps.OwnSet
import Derived.Carry
import Derived.Shelf.SlLaysF
import Derived.Shelf.SlSortCmp.Whole1
set_option linter.unusedSimpArgs false
set_option linter.unusedVariables false
namespace Go.Proofs.YtbejhkojdiadaaaGreatDoor
open Go.RowKit PlainPm Go.Maps
variable {n : Nat}

@[local go_sem] theorem gtr_str (t : TypeId) (a b : ByteArray) : binOp .gtr t (.string a) (.string b) = pure (.bool !(Op.bytesLess a.data.toList b.data.toList || a.data.toList == b.data.toList)) := by simp [binOp, Op.stringOp, ByteArray.toList_eq]
theorem cos_len {G G2 : Pm n → Prop} {O O2 : Nat → List Nat} {R R2 : Nat → Nat → Pm n} {CL : List (Pm n)} (h : ChG G O R) (h2 : ChG G2 O2 R2) (hs : ∀ x, G x → G2 x) (hn : CL.Nodup) (hC : ∀ x, x ∈ CL ↔ G2 x ∧ lstC O R x = x) : CL.length = szF O2 n 0 / szF O n 0 := by
  rw [(sz_dvd h h2 hs).2]
  have hm : ∀ x, x ∈ cosF O R (elsF O2 R2 n 0 (PlainPm.one n)) ↔ x ∈ CL := fun x => mem_cosF.trans ((and_congr_left' (mem_all h2)).trans (hC x).symm)
  exact Nat.le_antisymm (sub_len hn fun x hx => (hm x).2 hx) (sub_len ((els_nodup h2).filter _) fun x hx => (hm x).1 hx)
theorem mid_facts {lo hi mid N1 : Nat} (h : (lo + hi) / 2 = mid) (hlt : lo < hi) (hh : hi ≤ N1) (hN : N1 ≤ 5040) : lo ≤ mid ∧ mid < hi ∧ mid < N1 ∧ (((lo : Int) + (hi : Int)) / 2) = (mid : Int) ∧ (((lo : Int) + (hi : Int)).tdiv 2) = (mid : Int) ∧ (mid : Int) < (N1 : Int) :=
  ⟨by omega, by omega, by omega, by omega, by rw [Int.tdiv_eq_ediv_of_nonneg (by omega)]; omega, by omega⟩
set_option maxRecDepth 100000 in
set_option maxHeartbeats 40000000 in
theorem cosets15 {n : Nat} (hn' : 0 < n ∧ n ≤ 8) {w : World} {v1 v2 : Value} {G1 G2 : Pm n → Prop} (hG1 : IsG G1) (hG2 : IsG G2) (h1 : GrG w v1 G1) (h2 : GrG w v2 G2) (hs : ∀ x, G1 x → G2 x) {CL : List (Pm n)} (hCL : CosSet G1 G2 CL) :
    Calls Tryz.prog 15 #[v1, v2] w fun r w' => ∃ v c, r = .returned (.tuple #[v, .int .i64 c]) ∧ ((CL.length ≤ 5040 ∧ c = 0 ∧ ∃ us, Own w' w.heap.size v 41 us ∧ PmL w' [] us CL) ∨ (5040 < CL.length ∧ c = 5 ∧ v = .slice none 0 0)) ∧ Below w.heap.size w w' := by
  have hn : 0 < n ∧ n ≤ 64 := ⟨hn'.1, by omega⟩
  have hbl := fun (V : World) (hV : Below w.heap.size w V) => index13y hn' hG1 hG2 (h1.below hV) (h2.below hV) hs
  have hst := fun (V : World) (hV : Below w.heap.size w V) => strong56 hn' hG2 (h2.below hV)
  obtain ⟨T, t, ab, ao, c, bb, bo, e, hv1, hl1⟩ := h1.lev hG1 ⟨hn.1, hn.2⟩
  obtain ⟨T', t', ab', ao', c', bb', bo', e', hv2, hl2⟩ := h2.lev hG2 ⟨hn.1, hn.2⟩
  subst hv1 hv2
  have hO := t.chG hG1
  obtain ⟨O, eO⟩ : ∃ O, orbO T = O := ⟨_, rfl⟩
  obtain ⟨R, eR⟩ : ∃ R, PlainPm.repT T = R := ⟨_, rfl⟩
  have hO : ChG G1 O R := by rw [← eO, ← eR]; exact hO
  have hl1 : LvW n w O R ab ao bb bo := by rw [← eO, ← eR]; exact hl1
  obtain ⟨i27, hi27, hz27, hs27, hb27⟩ := info_parts Tryz.info41
  have I27 := Lib.hid (And.intro hi27 (And.intro hz27 (And.intro hs27 hb27)))
  clear hi27 hz27 hs27 hb27
  obtain ⟨X, hX⟩ : ∃ X, w.heap.size = X := ⟨_, rfl⟩
  obtain ⟨W0, hW0⟩ : ∃ W0, ((w.alloc (.cells #[.int .i64 (n : Int), .slice (some ⟨ab, ao, none⟩) n c, .slice (some ⟨bb, bo, none⟩) n e] 25)).alloc (.cells #[.int .i64 (n : Int), .slice (some ⟨ab', ao', none⟩) n c', .slice (some ⟨bb', bo', none⟩) n e'] 25)) = W0 := ⟨_, rfl⟩
  have hF : Below w.heap.size w W0 ∧ W0.heap[X]? = some (.cells #[.int .i64 (n : Int), .slice (some ⟨ab, ao, none⟩) n c, .slice (some ⟨bb, bo, none⟩) n e] 25) ∧ W0.heap[X + 1]? = some (.cells #[.int .i64 (n : Int), .slice (some ⟨ab', ao', none⟩) n c', .slice (some ⟨bb', bo', none⟩) n e'] 25) := by
    refine ⟨?_, ?_, ?_⟩
    · rw [← hW0]; exact alloc_b (alloc_b (Below.refl _ _) _) _
    · rw [← hW0, ← hX]; exact ((alloc_b (Below.refl _ _) _).block _ (by simp)).trans (box_al25 rfl _ _ _)
    · rw [← hW0]; exact box_al25 (by simp [hX]) _ _ _
  obtain ⟨q0, q1, q2, _⟩ := box_cells hF.2.1
  obtain ⟨p0, p1, p2, _⟩ := box_cells hF.2.2
  have hx6 := And.intro (And.intro q0 (And.intro q1 q2)) (And.intro (And.intro p0 (And.intro p1 p2)) (Below.refl W0.heap.size W0))
  have hwW := hF.1
  have hW0s : W0.heap.size = X + 2 := by rw [← hW0]; simp [hX]
  have hls := fun (V : World) (hV : Below w.heap.size w V) (v : Value) (y : Pm n) (hy : PmV V [] v y) => least57n (c := c) (e := e) hn.1 hn.2 hO (hl1.below hV) hy
  unfold cv at hls
  have hCi : ∀ x, x ∈ CL ↔ G2 x ∧ lstC O R x = x := fun x => (hCL.2 x).trans (by rw [leastC_iff hO])
  have HCL := Lib.hid (And.intro (show ∀ z, G2 z → lstC O R z ∈ CL from fun z hz => cos_in hO hG2 hs hCi hz) (And.intro hCL.1 hCi))
  have hlen := cos_len hO (t'.chG hG2) hs (hCL.1.imp (S := fun a b => a ≠ b) (fun {a b} h e => by subst e; exact lexLt_irrefl _ h)) hCi
  have HLN := Lib.hid (And.intro hlen (And.intro hO (t'.chG hG2)))
  clear hlen
  have H := Lib.hid (And.intro hbl (And.intro hst (And.intro hls (And.intro hO (And.intro hwW hW0s)))))
  clear hbl hs h1 h2 hl1 hl2 hF hst hls hW0s
  clear hCi hCL
  unfold cv at H ⊢
  go_enter Tryz.func15, Tryz.ntmps15
  go_wp2_with fail
  go_at_call 13
  (with_reducible refine (H.out.1 _ hwW).mono ?_)
  rintro e1 w1 ⟨tx, rfl, hN, k⟩
  obtain ⟨⟨j0, j1, j2⟩, ⟨j3, j4, j5⟩, bj⟩ := keepBB hx6 k
  have hx7 := And.intro (And.intro j0 (And.intro j1 j2)) (And.intro (And.intro j3 (And.intro j4 j5)) (Below.refl w1.heap.size w1))
  have hw1 := below_trans hwW bj
  have h50 := num5040 (hN _ _ _ _ HLN.out.2.1 HLN.out.2.2)
  rw [← HLN.out.1] at h50
  clear k bj hN
  obtain ⟨ts, hts⟩ : ∃ ts, tx.size = ts := ⟨_, rfl⟩
  rw [hts] at h50
  have HT := Lib.hid h50
  clear h50
  by_cases hover : 5040 < CL.length
  · rcases HT.out.2 hover with h4 | ⟨h4, hgt⟩
    · have hI4 : (4 : Int) < (ts : Int) := by omega
      have HO := Lib.hid hover
      clear hover
      go_wp2_with fail
      go_ret2
      exact ⟨_, 5, rfl, .inr ⟨HO.out, rfl, rfl⟩, hw1⟩
    · have hI4 : ¬ (4 : Int) < (ts : Int) := by omega
      have hI5 : (ts : Int) = 4 := by omega
      have HO := Lib.hid hover
      clear hover
      obtain ⟨hb1, hb2⟩ : Op.bytesLess tx.data.toList [53, 48, 52, 48] = false ∧ (tx.data.toList == [53, 48, 52, 48]) = false := by simpa using hgt
      go_wp2_with fail
      go_ret2
      exact ⟨_, 5, rfl, .inr ⟨HO.out, rfl, rfl⟩, hw1⟩
  · have hcase : (ts = 4 ∧ (Op.bytesLess tx.data.toList [53, 48, 52, 48] || tx.data.toList == [53, 48, 52, 48]) = true) ∨ ts < 4 := by
      rcases Nat.lt_trichotomy ts 4 with h | h | h
      · exact .inr h
      · refine .inl ⟨h, ?_⟩
        cases hq : (Op.bytesLess tx.data.toList [53, 48, 52, 48] || tx.data.toList == [53, 48, 52, 48]) with
        | true => rfl
        | false => exact absurd (HT.out.1 (.inr ⟨h, by rw [hq]; rfl⟩)) hover
      · exact absurd (HT.out.1 (.inl h)) hover
    have HO := Lib.hid (Nat.le_of_not_lt hover)
    clear hover
    go_upto_region 4 with (fail)
    go_cut [40] (fun b wx => b = .bool false ∧ wx = w1)
    case first =>
      rcases hcase with ⟨h4, hlq⟩ | h4
      · have hI4 : ¬ (4 : Int) < (ts : Int) := by omega
        have hI5 : (ts : Int) = 4 := by omega
        go_wp2_with fail
        go_meet
        exact ⟨rfl, rfl⟩
      · have hI4 : ¬ (4 : Int) < (ts : Int) := by omega
        have hI5 : ¬ (ts : Int) = 4 := by omega
        go_wp2_with fail
        go_meet
        exact ⟨rfl, rfl⟩
    case rest =>
      obtain ⟨rfl, rfl⟩ := hcut
      go_wp2_with fail
      go_at_call 56
      (with_reducible refine (H.out.2.1 _ hw1).mono ?_)
      rintro e2 w2 ⟨vG, uG, LG, rfl, kk⟩
      obtain ⟨⟨j0, j1, j2⟩, ⟨j3, j4, j5⟩, bj2⟩ := keepBB hx7 kk.2.2.2.2
      have hx8 := And.intro (And.intro j0 (And.intro j1 j2)) (And.intro (And.intro j3 (And.intro j4 j5)) (Below.refl w2.heap.size w2))
      obtain ⟨aG, cG, rfl, _⟩ := kk.1.row (by have h9 := kk.2.1.1; have h8 := kk.2.2.1; unfold maxLen; omega)
      obtain ⟨ll, hll⟩ : ∃ q, LG.length = q := ⟨_, rfl⟩
      have hGu : uG.length = ll := kk.2.1.1.trans hll
      have kkG := pms_ownB kk.1 (kk.2.1.extM (M' := []) (by simp)) (by have h8 := kk.2.2.1; omega)
      rw [hGu] at kkG ⊢
      have H10 := Lib.hid (And.intro kk bj2)
      have HGN := Lib.hid (And.intro kkG (And.intro hll kk.2.2.1))
      clear kkG hGu
      have HW := Lib.hid (below_trans hw1 kk.2.2.2.2)
      have hlsw := fun (V : World) (hV : Below w2.heap.size w2 V) (v : Value) (y : Pm n) (hy : PmV V [] v y) => H.out.2.2.1 V (below_trans HW.out hV) v y hy
      clear kk bj2 hx7 hw1 hx6 hwW hW0
      go_wp2_with fail
      go_region_held3 (fun W => (W.cell? ⟨X, 0, none⟩ = some (.int .i64 (n : Int)) ∧ W.cell? ⟨X, 1, none⟩ = some (.slice (some ⟨ab, ao, none⟩) n c) ∧ W.cell? ⟨X, 2, none⟩ = some (.slice (some ⟨bb, bo, none⟩) n e)) ∧ (W.cell? ⟨X + 1, 0, none⟩ = some (.int .i64 (n : Int)) ∧ W.cell? ⟨X + 1, 1, none⟩ = some (.slice (some ⟨ab', ao', none⟩) n c') ∧ W.cell? ⟨X + 1, 2, none⟩ = some (.slice (some ⟨bb', bo', none⟩) n e')) ∧ Below w2.heap.size w2 W)
        (first
          | with_reducible assumption
          | with_reducible exact hx8
          | exact keepBB hx8 (below_drw (Below.refl _ _))
          | exact keepBB hx8 (below_self_drewN _ _)
          | exact keepBB hx8 b5
          | exact keepBB hx8 (below_drw b5)
          | exact keepBB hx8 (below_trans b5 (below_self_drewN _ _))
          | exact keepBB hx8 b3
          | exact keepBB hx8 (below_drw b3)
          | exact keepBB hx8 (below_trans b3 (below_self_drewN _ _))
          | exact keepBB hx8 (alloc_b b5 _)
          | fail)
        (first
          | (go_at_call 26; (with_reducible refine (one65 hn.2 hn.1).mono ?_); rintro e3 w3 ⟨v3, rfl, k1, k⟩; have b3 : Below w2.heap.size w2 w3 := below_trans (by first | exact Below.refl _ _ | exact below_drw (Below.refl _ _) | exact below_self_drewN _ _) k; have k3 : PmV w3 [] v3 (PlainPm.one n) := k1.pm (by simp); clear k k1)
          | (go_at_call 57; (with_reducible refine (hlsw _ (by first | exact b3 | exact below_drw b3 | exact below_trans b3 (below_self_drewN _ _)) _ _ (by first | exact k3 | exact k3.drewN _)).mono ?_); rintro e5 w5 ⟨v5, rfl, k1, k⟩; obtain ⟨fb, fc, rfl, _⟩ := id k1; have b5 : Below w2.heap.size w2 w5 := below_trans (by first | exact b3 | exact below_drw b3 | exact below_trans b3 (below_self_drewN _ _)) k; have k5 : NewPm w2 w5 (.slice (some ⟨fb, 0, none⟩) n fc) (lstC O R (PlainPm.one n)) := k1.from (by first | exact b3.size | exact (below_drw b3).size | exact (below_trans b3 (below_self_drewN _ _)).size); clear k k1))
      obtain ⟨W6, hW6⟩ : ∃ W6, w5.alloc (.cells #[.slice (some ⟨fb, 0, none⟩) n fc] 41) = W6 := ⟨_, rfl⟩
      obtain ⟨W7, hW7⟩ : ∃ W7, W6.alloc (.cells #[.slice (some ⟨fb, 0, none⟩) n fc] 41) = W7 := ⟨_, rfl⟩
      have hc6 : W6.cell? ⟨w5.heap.size, 0, none⟩ = some (.slice (some ⟨fb, 0, none⟩) n fc) := by
        rw [← hW6]; exact cell_one_new w5 _ _ 0 _ rfl
      obtain ⟨D, hD⟩ : ∃ D, w2.heap.size = D := ⟨_, rfl⟩
      have hs6 : W6.heap.size = w5.heap.size + 1 := by rw [← hW6]; simp
      have hs5 := b5.size
      have hb56 : Below w5.heap.size w5 W6 := hW6 ▸ alloc_b (Below.refl _ _) _
      have hb67 : Below W6.heap.size W6 W7 := hW7 ▸ alloc_b (Below.refl _ _) _
      have hO6 : Own W6 D (.slice (some ⟨w5.heap.size, 0, none⟩) 1 1) 41 [.slice (some ⟨fb, 0, none⟩) n fc] := hW6 ▸ Own.new 41 [.slice (some ⟨fb, 0, none⟩) n fc] (by omega) (by simp; decide)
      have hO7 : Own W7 D (.slice (some ⟨W6.heap.size, 0, none⟩) 1 1) 41 [.slice (some ⟨fb, 0, none⟩) n fc] := hW7 ▸ Own.new 41 [.slice (some ⟨fb, 0, none⟩) n fc] (by omega) (by simp; decide)
      have hp5 : PmV w5 [] (.slice (some ⟨fb, 0, none⟩) n fc) (lstC O R (PlainPm.one n)) := k5.pm (by simp)
      have hp7 : PmV W7 [w5.heap.size, W6.heap.size] (.slice (some ⟨fb, 0, none⟩) n fc) (lstC O R (PlainPm.one n)) := hp5.fresh (below_trans hb56 hb67) (fun q hq => by simp at hq; omega)
      have hE0 : ElS [] D w2 W7 (.slice (some ⟨w5.heap.size, 0, none⟩) 1 1) (.slice (some ⟨W6.heap.size, 0, none⟩) 1 1) [.slice (some ⟨fb, 0, none⟩) n fc] [.slice (some ⟨fb, 0, none⟩) n fc] [lstC O R (PlainPm.one n)] [lstC O R (PlainPm.one n)] := by
        refine ⟨hO6.below hb67, hO7, fun q e e' => ?_, ⟨rfl, fun k s hs => ?_⟩, ⟨rfl, fun k s hs => ?_⟩, ?_, fun u hu => by rw [List.mem_singleton.1 hu]; exact k5.nb (Nat.le_of_eq hD.symm)⟩
        · have e1 : w5.heap.size = q := Option.some.inj e
          have e2 : W6.heap.size = q := Option.some.inj e'
          omega
        · match k, hs with
          | 0, hs => simp at hs; subst hs; exact ⟨_, rfl, hp7⟩
          | k + 1, hs => simp at hs
        · match k, hs with
          | 0, hs => simp at hs; subst hs; exact ⟨_, rfl, hp7⟩
          | k + 1, hs => simp at hs
        · rw [← hD]
          exact below_trans b5 (below_trans hb56 hb67)
      have HE0 := Lib.hid hE0
      have HD := Lib.hid (And.intro hD hx8)
      clear hE0 hp7 hp5 hO7 hO6 hb67 hb56 hs5 hs6 b5 k5 b3 k3 hx8
      obtain ⟨i27, hi27, hz27, hs27, hb27⟩ := info_parts Tryz.info41
      have I27 := Lib.hid (And.intro hi27 (And.intro hz27 (And.intro hs27 hb27)))
      clear hi27 hz27 hs27 hb27
      go_wp2_with fail
      try rw [hW7]
      clear hW7 hW6 hc6
      go_loopw [10, 11, 12, 13, 14, 15, 16, 17] (fun va vt _ _ _ _ _ _ wr => ∃ (L : List (Pm n)) (us : List Value) (todo : List (Pm n)) (ts : List Value), ElS [] D w2 wr va vt us ts L todo ∧ CosD O R LG CL L todo none 0 ∧ todo.length ≤ L.length) (fun va vt _ _ _ _ _ _ _ => 2 * (5040 - lenV va) + lenV vt)
      case atStart => exact ⟨_, _, _, _, HE0.out, CosD.start (HCL.out.1 _ hG2.one), Nat.le_refl _⟩
      case round =>
        obtain ⟨L, us, todo, ts, hE, hB, htL⟩ := hrel
        obtain ⟨ga, ca, rfl, hga, _, hca, _⟩ := hE.oa.form (by rw [hE.pa.1]; exact List.length_pos_of_mem hB.2.2.1)
        rcases snoc_cases todo with rfl | ⟨todo', x, rfl⟩
        · obtain rfl : ts = [] := List.eq_nil_of_length_eq_zero hE.pt.1
          obtain ⟨at0, ct, e0, _⟩ := hE.ot.row (by simp)
          rw [List.length_nil] at e0
          subst e0
          have hLC : L = CL := hB.all H.out.2.2.2.1 HCL.out.2.1 HCL.out.2.2 H10.out.1.2.2.2.1
          subst hLC
          have HK := Lib.hid (And.intro hE hB)
          clear hE hB htL
          obtain ⟨mC, hmC⟩ : ∃ q, us.length = q := ⟨_, rfl⟩
          have hmL : mC = L.length := by rw [← hmC]; exact HK.out.1.pa.1
          have hm5 : mC ≤ 5040 := by have := HO.out; omega
          rw [hmC]
          have HL := Lib.hid (And.intro hmC hmL)
          clear hmC hmL
          go_wp2_with fail
          obtain ⟨wo, rfl⟩ : ∃ wo, wo = wr := ⟨_, rfl⟩
          go_loopw [18, 19] (fun v i wr => ∃ (k : Nat) (us' : List Value), i = .int .i64 (k : Int) ∧ k ≤ mC ∧ GrowL [] wr wo.heap.size v us' (L.take k) ∧ Below wo.heap.size wo wr) (fun _ i _ => mC - (intOf i).toNat)
          case atStart => exact ⟨0, [], rfl, Nat.zero_le _, GrowL.nil _ (by simp), Below.refl _ _⟩
          case round =>
            obtain ⟨k, us', rfl, hk, hg, hb⟩ := hrel
            by_cases hkm : k < mC
            · have hkI : (k : Int) < (mC : Int) := by omega
              obtain ⟨z, hz⟩ : ∃ z, L[k]? = some z := ⟨_, List.getElem?_eq_getElem (by rw [← HL.out.2]; exact hkm)⟩
              obtain ⟨uz, huz, hpz⟩ := HK.out.1.pa.2 k z hz
              have hcz := (HK.out.1.oa.cell k (by rw [HL.out.1]; exact hkm)).trans huz
              have hczr := (hb.cell (block_lt_of_cell hcz)).trans hcz
              have h58 := own58p hn ((hpz.weak).below hb)
              obtain ⟨zb, zo, zc, rfl, _⟩ := id hpz
              have hul : us'.length < 1099511627776 := by have h9 := hg.len; rw [List.length_take] at h9; omega
              have HR := Lib.hid (And.intro h58 (And.intro hg (And.intro hb hz)))
              clear h58 hg hb hz hpz hcz huz
              go_wp2_with (first
                | (at_builtin; refine app1 rfl (.tmp 139) (.tmp 145) 28 41 rfl i27 (.slice none 0 0) 24 Tryz.underlying28 I27.out.1 I27.out.2.1 I27.out.2.2.1 I27.out.2.2.2 rfl (by omega) wo.heap.size (.slice (some ⟨qb, 0, none⟩) n qc) _ us' rfl H8.out.2.1.1 rfl rfl hul (Nat.le_trans HR.out.2.2.1.size H8.out.2.2.size) ?_; intro v9 w9 k1 k2 k3
                   have H9 := Lib.hid (And.intro k1 (And.intro k2 k3)); clear k1 k2 k3)
                | (go_at_call 58; (with_reducible refine HR.out.1.mono ?_); rintro e8 w8 ⟨v8, rfl, k1, k2⟩
                   obtain ⟨qb, qc, rfl, _⟩ := id k1
                   have H8 := Lib.hid (And.intro k1 (And.intro (HR.out.2.1.below k2) k2)); clear k1 k2))
              have hq8 := H8.out.2.2.size
              have hzz : PmV w8 (u18.ownBlock.toList ++ []) (.slice (some ⟨qb, 0, none⟩) n qc) z := H8.out.1.pm (fun q hq => by
                simp at hq
                exact (HR.out.2.1.1.block_lt hq).1)
              have hgl := H8.out.2.1.app hzz H9.out.1 H9.out.2.1 H9.out.2.2
              have hbo := (HR.out.2.2.1.trans (H8.out.2.2.mono HR.out.2.2.1.size)).grown H9.out.2.1 (Nat.le_trans HR.out.2.2.1.size H8.out.2.2.size) (fun q e => (HR.out.2.1.1.block_lt e).2)
              refine ⟨⟨k + 1, us' ++ [.slice (some ⟨qb, 0, none⟩) n qc], by go_num, by omega, ?_, hbo⟩, by simp [intOf]; omega⟩
              rw [List.take_add_one, HR.out.2.2.2, Option.toList_some]
              exact hgl
            · have hkI : ¬ (k : Int) < (mC : Int) := by omega
              obtain rfl : k = L.length := by have := HL.out.2; omega
              rw [List.take_length] at hg
              have HR := Lib.hid (And.intro hg hb)
              clear hg hb
              go_wp2_with fail
              go_ret2
              have hwo : Below w.heap.size w wo := below_trans HW.out (by rw [HD.out.1]; exact HK.out.1.bel)
              exact ⟨_, 0, rfl, .inl ⟨HO.out, rfl, us', HR.out.1.1.mono (by first | exact hwo.size | (rw [← hX]; exact hwo.size)), HR.out.1.2.1.weakM⟩, by first | exact below_trans hwo HR.out.2 | (rw [← hX]; exact below_trans hwo HR.out.2)⟩
        · skip
          obtain ⟨ts', u, rfl⟩ : ∃ ts' u, ts = ts' ++ [u] := by
            rcases snoc_cases ts with e | ⟨a, b, e⟩
            · have := hE.pt.1; rw [e] at this; simp at this
            · exact ⟨a, b, e⟩
          obtain ⟨gt, ct, rfl, hgt, _, hct, _⟩ := hE.ot.form (by simp)
          obtain ⟨T, hT⟩ : ∃ T, ts'.length = T := ⟨_, rfl⟩
          obtain ⟨N, hN⟩ : ∃ N, us.length = N := ⟨_, rfl⟩
          have hcl := hE.ot.cell T (by simp [hT])
          rw [show (ts' ++ [u])[T]? = some u by rw [← hT]; simp] at hcl
          have htl : ts'.length = todo'.length := by have := hE.pt.1; simpa using this
          obtain ⟨u', hu', hpu⟩ := hE.pt.2 T x (by rw [← hT, htl]; simp)
          rw [show (ts' ++ [u])[T]? = some u by rw [← hT]; simp] at hu'
          cases hu'
          obtain ⟨ub, uo, uc, rfl, _⟩ := id hpu
          have hl1 : (ts' ++ [Value.slice (some ⟨ub, uo, none⟩) n uc]).length = T + 1 := by simp [hT]
          rw [hl1] at hct
          rw [hl1, hN]
          have hLF : L.length ≤ 5040 := Nat.le_trans hB.le HO.out
          have hNL : N = L.length := by rw [← hN]; exact hE.pa.1
          have hTL : T + 1 ≤ L.length := by rw [← hT, htl]; simpa using htL
          have hTb : T ≤ 1000000 := by omega
          have hT0 : (0 : Int) ≤ (T : Int) := by omega
          have hT1 : (T : Int) < ((T + 1 : Nat) : Int) := by omega
          have hT2 : (T : Int) ≤ (ct : Int) := by omega
          have hwT : IntKind.i64.wrap (((T + 1 : Nat) : Int) - 1) = (T : Int) := by rw [show (((T + 1 : Nat) : Int) - 1) = (T : Int) by omega]; exact IntWalk.i64_in _ (by omega)
          have HK := Lib.hid (And.intro hE (And.intro hB (And.intro hT (And.intro hN (And.intro htl (And.intro hpu (And.intro hLF (And.intro hNL hTL))))))))
          clear htL hTL hE hB hT hN htl hpu hLF hNL hl1
          go_wp2_with fail
          have hE1 : ElS [] D w2 wr (.slice (some ⟨ga, 0, none⟩) N ca) (.slice (some ⟨gt, 0, none⟩) T ct) us ts' L todo' := by
            have hE := HK.out.1
            have h1 := hE.ot.pop
            rw [HK.out.2.2.1] at h1
            have h2 := hE.oa
            rw [HK.out.2.2.2.1] at h2
            exact ⟨h2, h1, hE.ne, hE.pa, ⟨by rw [HK.out.2.2.2.2.1], fun k s hs => by
              have hk := (List.getElem?_eq_some_iff.1 hs).1
              obtain ⟨v, q1, q2⟩ := hE.pt.2 k s (by rw [List.getElem?_append_left hk]; exact hs)
              rw [List.getElem?_append_left (by rw [HK.out.2.2.2.2.1]; exact hk)] at q1
              exact ⟨v, q1, q2⟩⟩, hE.bel, hE.nw⟩
          have HE1 := Lib.hid hE1
          clear hE1
          obtain ⟨wo, rfl⟩ : ∃ wo, wo = wr := ⟨_, rfl⟩
          go_loopw [10, 11, 13, 14, 15, 16, 17] (fun va vt i _ _ _ _ wr => ∃ (k : Nat) (L1 : List (Pm n)) (us : List Value) (todo : List (Pm n)) (ts : List Value), k ≤ ll ∧ i = .int .i64 (k : Int) ∧ ElS [] D w2 wr va vt us ts L1 todo ∧ CosD O R LG CL L1 todo (some x) k ∧ PmV wr (va.ownBlock.toList ++ vt.ownBlock.toList) (.slice (some ⟨ub, uo, none⟩) n uc) x ∧ todo.length + 1 ≤ L1.length ∧ 2 * L.length + todo.length ≤ 2 * L1.length + T ∧ va = .slice (some ⟨lenG va, 0, none⟩) us.length (lenC va) ∧ vt = .slice (some ⟨lenG vt, 0, none⟩) ts.length (lenC vt)) (fun _ _ i _ _ _ _ _ => ll - (intOf i).toNat)
          case atStart => exact ⟨0, L, us, todo', ts', by omega, rfl, HE1.out, HK.out.2.1.pop, HK.out.2.2.2.2.2.1, by have := HK.out.2.2.2.2.2.2.2.2; have := HK.out.2.2.1; have := HK.out.2.2.2.2.1; omega, by have := HK.out.2.2.1; have := HK.out.2.2.2.2.1; omega, by rw [HK.out.2.2.2.1]; rfl, by rw [HK.out.2.2.1]; rfl⟩
          case round =>
            obtain ⟨k, L1, us1, todo1, ts1, hk, rfl, hE, hB, hpu, hT1', hms, hva, hvt⟩ := hrel
            obtain ⟨g1, hg1⟩ : ∃ q, lenG u10 = q := ⟨_, rfl⟩
            obtain ⟨c1, hc1⟩ : ∃ q, lenC u10 = q := ⟨_, rfl⟩
            obtain ⟨t1, ht1⟩ : ∃ q, lenG u11 = q := ⟨_, rfl⟩
            obtain ⟨d1, hd1⟩ : ∃ q, lenC u11 = q := ⟨_, rfl⟩
            obtain ⟨N1, hN1⟩ : ∃ q, us1.length = q := ⟨_, rfl⟩
            obtain ⟨T1, hT1⟩ : ∃ q, ts1.length = q := ⟨_, rfl⟩
            rw [hg1, hc1, hN1] at hva
            rw [ht1, hd1, hT1] at hvt
            clear hg1 hc1 ht1 hd1
            subst hva
            subst hvt
            have hNL1 : N1 = L1.length := by rw [← hN1]; exact hE.pa.1
            have hTL1 : T1 = todo1.length := by rw [← hT1]; exact hE.pt.1
            have hLF1 : L1.length ≤ 5040 := Nat.le_trans hB.le HO.out
            have hN5 : N1 ≤ 5040 := by omega
            have hT5 : T1 ≤ 5040 := by omega
            have hbw : Below w2.heap.size w2 wr := by rw [HD.out.1]; exact hE.bel
            by_cases hkm : k < ll
            · have hk1 : (k : Int) < ll := by omega
              obtain ⟨_, _, egn, _, hatg⟩ := pms_at HGN.out.1
              simp only [Value.slice.injEq] at egn
              obtain ⟨g, hgk⟩ : ∃ g, LG[k]? = some g := ⟨_, List.getElem?_eq_getElem (by rw [HGN.out.2.1]; exact hkm)⟩
              obtain ⟨gg, og, ug, eag, hcg, hpg⟩ := hatg k g hgk
              rw [← egn.1] at eag
              subst eag
              have hcgr := (hbw.cell (block_lt_of_cell hcg)).trans hcg
              obtain ⟨⟨j0, j1, j2⟩, _, _⟩ := keepBB HD.out.2 hbw
              have hmu := fun (V : World) (hV : Below wr.heap.size wr V) => mul49 (w := V) hn.2 hn.1 (hpu.weak.below hV) ((hpg.below hbw).below hV)
              have hls5 := fun (V : World) (hV : Below wr.heap.size wr V) (v : Value) (y : Pm n) (hy : PmV V [] v y) => hlsw V (below_trans hbw hV) v y hy
              obtain ⟨ugb, ugo, ugc, rfl, _⟩ := id hpg
              have hz0 := And.intro hcgr (And.intro (And.intro j0 (And.intro j1 j2)) (Below.refl wr.heap.size wr))
              have HI := Lib.hid (And.intro hE (And.intro hB (And.intro hpu (And.intro hT1' (And.intro hms (And.intro hN1 (And.intro hT1 (And.intro hNL1 (And.intro hTL1 (And.intro hLF1 (And.intro hbw hgk)))))))))))
              clear hE hB hpu hT1' hms hN1 hT1 hNL1 hTL1 hLF1 hbw hgk hpg hcg hcgr hatg j0 j1 j2 egn
              go_wp2_with fail
              go_region_held3 (fun W => W.cell? ⟨gg, og + k, none⟩ = some (.slice (some ⟨ugb, ugo, none⟩) n ugc) ∧ (W.cell? ⟨X, 0, none⟩ = some (.int .i64 (n : Int)) ∧ W.cell? ⟨X, 1, none⟩ = some (.slice (some ⟨ab, ao, none⟩) n c) ∧ W.cell? ⟨X, 2, none⟩ = some (.slice (some ⟨bb, bo, none⟩) n e)) ∧ Below wr.heap.size wr W)
                (first
                  | with_reducible assumption
                  | with_reducible exact hz0
                  | exact keep4z hz0 (below_drw (Below.refl _ _))
                  | exact keep4z hz0 (below_self_drewN _ _)
                  | exact keep4z hz0 b5
                  | exact keep4z hz0 (below_drw b5)
                  | exact keep4z hz0 (below_trans b5 (below_self_drewN _ _))
                  | exact keep4z hz0 b3
                  | exact keep4z hz0 (below_drw b3)
                  | exact keep4z hz0 (below_trans b3 (below_self_drewN _ _))
                  | fail)
                (first
                  | (go_at_call 28; (with_reducible refine (hmu _ (by first | exact Below.refl _ _ | exact below_drw (Below.refl _ _) | exact below_self_drewN _ _)).mono ?_); rintro e3 w3 ⟨v3, rfl, k1, k⟩; have b3 : Below wr.heap.size wr w3 := below_trans (by first | exact Below.refl _ _ | exact below_drw (Below.refl _ _) | exact below_self_drewN _ _) k; have k3 : PmV w3 [] v3 (x.mul g) := k1.pm (by simp); clear k k1)
                  | (go_at_call 57; (with_reducible refine (hls5 _ (by first | exact b3 | exact below_drw b3 | exact below_trans b3 (below_self_drewN _ _)) _ _ (by first | exact k3 | exact k3.drewN _)).mono ?_); rintro e5 w5 ⟨v5, rfl, k1, k⟩; have b5 : Below wr.heap.size wr w5 := below_trans (by first | exact b3 | exact below_drw b3 | exact below_trans b3 (below_self_drewN _ _)) k; have k5 : NewPm wr w5 v5 (lstC O R (x.mul g)) := k1.from (by first | exact b3.size | exact (below_drw b3).size | exact (below_trans b3 (below_self_drewN _ _)).size); clear k k1))
              obtain ⟨yb, yc, rfl, _⟩ := id k5
              obtain ⟨y, hy⟩ : ∃ y, lstC O R (x.mul g) = y := ⟨_, rfl⟩
              rw [hy] at k5
              have hxC := (HCL.out.2.2 x).1 (HI.out.2.1.2.1 x (HI.out.2.1.2.2.2.2.2 x rfl).1)
              have hyC : y ∈ CL := hy ▸ HCL.out.1 _ (hG2.mul hxC.1 ((H10.out.1.2.2.2.1 g).1 (Grp.base (List.mem_of_getElem? HI.out.2.2.2.2.2.2.2.2.2.2.2))))
              have p5 : PmV w5 [] (.slice (some ⟨yb, 0, none⟩) n yc) y := k5.pm (by simp)
              have hp5 := pms_ownB (HI.out.1.oa.below b5) ((HI.out.1.pa.extM (M' := []) (by simp)).below b5) (by have h9 := HI.out.2.2.2.2.2.2.2.2.2.1; omega)
              obtain ⟨_, _, el5, _, hat5⟩ := pms_at hp5
              simp only [Value.slice.injEq] at el5
              have H5 := Lib.hid (And.intro k5 (And.intro b5 (And.intro p5 (And.intro hat5 (And.intro hyC (And.intro hy el5.1))))))
              clear k5 b5 p5 hat5 hyC hy el5 hp5 b3 k3 hz0 hmu hls5 hxC
              go_wp2_with fail
              obtain ⟨wm, rfl⟩ : ∃ wm, wm = wr := ⟨_, rfl⟩
              go_loopw [15, 16, 17] (fun a b _ wr => ∃ lo hi : Nat, a = .int .i64 (lo : Int) ∧ b = .int .i64 (hi : Int) ∧ lo ≤ hi ∧ hi ≤ N1 ∧ Below w5.heap.size w5 wr ∧ (∀ j z, j < lo → L1[j]? = some z → lexLt z y) ∧ (∀ j z, hi ≤ j → L1[j]? = some z → ¬ lexLt z y)) (fun a b _ _ => (intOf b).toNat - (intOf a).toNat)
              case atStart => exact ⟨0, N1, rfl, rfl, Nat.zero_le _, Nat.le_refl _, by first | exact Below.refl _ _ | exact below_drw (Below.refl _ _) | exact below_self_drewN _ _, fun j z hj => by omega, fun j z hj hz => by have h1 := (List.getElem?_eq_some_iff.1 hz).1; have h2 := HI.out.2.2.2.2.2.2.2.1; omega⟩
              case round =>
                obtain ⟨lo, hi, rfl, rfl, hlh, hhm, hb, h1, h2⟩ := hrel
                by_cases hlt : lo < hi
                · obtain ⟨mid, hmid⟩ : ∃ mid, (lo + hi) / 2 = mid := ⟨_, rfl⟩
                  obtain ⟨hm1, hm2, hmN, hq, hq', hmI⟩ := mid_facts hmid hlt hhm hN5
                  clear hmid
                  obtain ⟨z, hz⟩ : ∃ z, L1[mid]? = some z := ⟨_, List.getElem?_eq_getElem (by have h2 := HI.out.2.2.2.2.2.2.2.1; omega)⟩
                  obtain ⟨gz, oz, uz, ez, hcz, hpz⟩ := H5.out.2.2.2.1 mid z hz
                  rw [← H5.out.2.2.2.2.2.2] at ez
                  simp only [Option.some.injEq, Addr.mk.injEq, and_true] at ez
                  obtain ⟨rfl, rfl⟩ := ez
                  rw [Nat.zero_add] at hcz
                  have hczr := (hb.cell (block_lt_of_cell hcz)).trans hcz
                  obtain ⟨zb, zo, zc, rfl, _⟩ := id hpz
                  have h135 := less135 hn.2 (hpz.below hb) (H5.out.2.2.1.below hb)
                  have hlt1 : (lo : Int) < hi := by omega
                  have HC := Lib.hid (And.intro hb (And.intro h1 (And.intro h2 (And.intro hz (And.intro h135 hhm)))))
                  clear hb h1 h2 hz h135 hpz hcz
                  have hpw : ∀ i j u v, i < j → L1[i]? = some u → L1[j]? = some v → lexLt u v := fun i j u v hij hu hv => by
                    obtain ⟨hi', rfl⟩ := List.getElem?_eq_some_iff.1 hu
                    obtain ⟨hj', rfl⟩ := List.getElem?_eq_some_iff.1 hv
                    exact List.pairwise_iff_getElem.1 HI.out.2.1.1 i j hi' hj' hij
                  have HW2 := Lib.hid hpw
                  clear hpw
                  by_cases hx : lexLt z y
                  · have HG := Lib.hid hx
                    clear hx
                    go_wp2_with (go_at_call 29; (with_reducible refine HC.out.2.2.2.2.1.mono ?_); rintro e2 w2' ⟨h1, k⟩; have h2 := h1.true_ HG.out; subst h2; have H2 := Lib.hid k; clear h1 k)
                    clear hq hq'
                    refine ⟨⟨mid + 1, hi, by go_num, rfl, by omega, hhm, below_trans HC.out.1 H2.out, fun j q hj hq => ?_, HC.out.2.2.1⟩, by simp [intOf]; omega⟩
                    rcases Nat.lt_or_ge j mid with h | h
                    · exact lexLt_trans (HW2.out j mid q z h hq HC.out.2.2.2.1) HG.out
                    · have : j = mid := by omega
                      subst this
                      rw [HC.out.2.2.2.1] at hq; cases hq; exact HG.out
                  · have HG := Lib.hid hx
                    clear hx
                    go_wp2_with (go_at_call 29; (with_reducible refine HC.out.2.2.2.2.1.mono ?_); rintro e2 w2' ⟨h1, k⟩; have h2 := h1.false_ HG.out; subst h2; have H2 := Lib.hid k; clear h1 k)
                    clear hq hq'
                    refine ⟨⟨lo, mid, rfl, rfl, hm1, by omega, below_trans HC.out.1 H2.out, HC.out.2.1, fun j q hj hq hqx => ?_⟩, by simp [intOf]; omega⟩
                    rcases Nat.lt_or_ge mid j with h | h
                    · exact HG.out (lexLt_trans (HW2.out mid j z q h HC.out.2.2.2.1 hq) hqx)
                    · have : j = mid := by omega
                      subst this
                      rw [HC.out.2.2.2.1] at hq; cases hq; exact HG.out hqx
                · obtain rfl : lo = hi := by omega
                  have hlt1 : ¬ (lo : Int) < lo := by omega
                  have hpm := place_mem HI.out.2.1.1 h1 h2
                  have HP := Lib.hid (And.intro hb (And.intro h1 (And.intro h2 hpm)))
                  clear hb h1 h2 hpm
                  have hloN0 : lo ≤ N1 := hhm
                  by_cases hm : y ∈ L1
                  · have hL := HP.out.2.2.2.1 hm
                    have hlo : lo < N1 := by have h9 := (List.getElem?_eq_some_iff.1 hL).1; have h2 := HI.out.2.2.2.2.2.2.2.1; omega
                    obtain ⟨gz, oz, uz, ez, hcz, hpz⟩ := H5.out.2.2.2.1 lo y hL
                    rw [← H5.out.2.2.2.2.2.2] at ez
                    simp only [Option.some.injEq, Addr.mk.injEq, and_true] at ez
                    obtain ⟨rfl, rfl⟩ := ez
                    rw [Nat.zero_add] at hcz
                    have hczr := (HP.out.1.cell (block_lt_of_cell hcz)).trans hcz
                    obtain ⟨zb, zo, zc, rfl, _⟩ := id hpz
                    have h20 := same20p hn.2 (hpz.below HP.out.1) (H5.out.2.2.1.below HP.out.1)
                    rw [decide_eq_true rfl] at h20
                    have hloI : (lo : Int) < (N1 : Int) := by omega
                    have Hm := Lib.hid (And.intro hm h20)
                    clear hm h20 hpz hcz hL
                    go_wp2_with fail
                    go_at_call 20
                    (with_reducible refine Hm.out.2.mono ?_)
                    rintro e6 w6 ⟨rfl, k6⟩
                    have hb6 := below_trans H5.out.2.1 (below_trans HP.out.1 k6)
                    have HB6 := Lib.hid hb6
                    clear k6 hb6
                    go_wp2_with fail
                    have hE := HI.out.1
                    have hb6 := HB6.out
                    refine ⟨⟨k + 1, L1, us1, todo1, ts1, by omega, by go_num, ⟨hE.oa.below hb6, hE.ot.below hb6, hE.ne, hE.pa.stp (Stp.below hb6), hE.pt.stp (Stp.below hb6), hE.bel.trans (hb6.mono (by have h8 := hE.bel.size; omega)), hE.nw⟩, HI.out.2.1.old HI.out.2.2.2.2.2.2.2.2.2.2.2 (by rw [H5.out.2.2.2.2.2.1]; exact Hm.out.1), HI.out.2.2.1.below hb6, HI.out.2.2.2.1, HI.out.2.2.2.2.1, by rw [HI.out.2.2.2.2.2.1]; rfl, by rw [HI.out.2.2.2.2.2.2.1]; rfl⟩, by simp [intOf]; omega⟩
                  · have Hm := Lib.hid hm
                    clear hm
                    go_upto_region 22 with (fail)
                    go_cut [113] (fun b wx => b = .bool false ∧ Below w5.heap.size w5 wx)
                    case first =>
                      by_cases hlo : lo < N1
                      · obtain ⟨z, hz⟩ : ∃ z, L1[lo]? = some z := ⟨_, List.getElem?_eq_getElem (by have h2 := HI.out.2.2.2.2.2.2.2.1; omega)⟩
                        obtain ⟨gz, oz, uz, ez, hcz, hpz⟩ := H5.out.2.2.2.1 lo z hz
                        rw [← H5.out.2.2.2.2.2.2] at ez
                        simp only [Option.some.injEq, Addr.mk.injEq, and_true] at ez
                        obtain ⟨rfl, rfl⟩ := ez
                        rw [Nat.zero_add] at hcz
                        have hczr := (HP.out.1.cell (block_lt_of_cell hcz)).trans hcz
                        obtain ⟨zb, zo, zc, rfl, _⟩ := id hpz
                        have h20 := same20p hn.2 (hpz.below HP.out.1) (H5.out.2.2.1.below HP.out.1)
                        rw [decide_eq_false (show ¬ z = y from fun e => Hm.out (by rw [← e]; exact List.mem_of_getElem? hz))] at h20
                        have hloI : (lo : Int) < (N1 : Int) := by omega
                        have HX := Lib.hid h20
                        clear h20 hpz hcz hz
                        go_wp2_with fail
                        go_at_call 20
                        (with_reducible refine HX.out.mono ?_)
                        rintro e6 w6 ⟨rfl, k6⟩
                        have HB6 := Lib.hid k6
                        clear k6
                        go_wp2_with fail
                        go_meet
                        exact ⟨rfl, below_trans HP.out.1 HB6.out⟩
                      · have hloI : ¬ (lo : Int) < (N1 : Int) := by omega
                        go_wp2_with fail
                        go_meet
                        exact ⟨rfl, HP.out.1⟩
                    case rest =>
                      obtain ⟨rfl, hbc⟩ := hcut
                      have H6 := Lib.hid (And.intro (show lo ≤ L1.length by have h2 := HI.out.2.2.2.2.2.2.2.1; omega) (And.intro hbc (And.intro HP.out.2.1 (And.intro HP.out.2.2.1 ((HI.out.1.oa.below H5.out.2.1).below hbc)))))
                      clear hbc
                      have hul : us1.length < 1099511627776 := by have h8 := HI.out.2.2.2.2.2.1; omega
                      go_wp2_with (first
                        | (at_builtin; refine app1 rfl (.tmp 114) (.tmp 115) 28 41 rfl i27 (.slice none 0 0) 24 Tryz.underlying28 I27.out.1 I27.out.2.1 I27.out.2.2.1 I27.out.2.2.2 rfl (by omega) D (.slice none 0 0) (.slice (some ⟨g1, 0, none⟩) N1 c1) us1 rfl H6.out.2.2.2.2 rfl rfl hul (by have h8 := HI.out.1.bel.size; have h9 := H5.out.2.1.size; have h7 := H6.out.2.1.size; omega) ?_; intro v8 w8 k1 k2 k3
                           obtain ⟨g8, c8, rfl, hg8, _, hc8, _⟩ := k1.form (by simp)
                           have hlen8 : (us1 ++ [Value.slice none 0 0]).length = N1 + 1 := by have h8 := HI.out.2.2.2.2.2.1; simp [h8]
                           rw [hlen8] at k1 hc8
                           rw [hlen8]
                           have H8 := Lib.hid (And.intro k1 (And.intro k2 k3)); clear k1 k2 k3 hlen8))
                      have hloN : lo ≤ N1 := by have h7 := H6.out.1; have h8 := HI.out.2.2.2.2.2.2.2.1; omega
                      have hl0 : (0 : Int) ≤ (lo : Int) + 1 := by omega
                      have hl1 : (lo : Int) + 1 ≤ ((N1 + 1 : Nat) : Int) := by omega
                      have hl2 : (lo : Int) ≤ ((N1 + 1 : Nat) : Int) := by omega
                      have hl3 : N1 + 1 ≤ c8 := hc8
                      have hl4 : (lo : Int) ≤ (N1 : Int) + 1 := by omega
                      have hl5 : (lo : Int) + 1 ≤ (N1 : Int) + 1 := by omega
                      have hne1 : ¬ c8 = lo := by omega
                      have hwl : IntKind.i64.wrap ((lo : Int) + 1) = ((lo + 1 : Nat) : Int) := by rw [show ((lo : Int) + 1) = ((lo + 1 : Nat) : Int) by simp]; exact IntWalk.i64_in _ (by omega)
                      have hul1 : us1.length = N1 := HI.out.2.2.2.2.2.1
                      have hcp : ∀ j v, (us1.drop lo)[j]? = some v → w8.cell? ((⟨g8, lo, none⟩ : Addr).add j) = some v := fun j v hj => by
                        have hjl := (List.getElem?_eq_some_iff.1 hj).1
                        rw [List.length_drop] at hjl
                        have h1 := H8.out.1.cell (lo + j) (by simp [hul1]; omega)
                        rw [List.getElem?_append_left (by omega)] at h1
                        rw [List.getElem?_drop] at hj
                        rw [show ((⟨g8, lo, none⟩ : Addr).add j) = ⟨g8, lo + j, none⟩ by simp [Addr.add]]
                        exact h1.trans hj
                      have Hc := Lib.hid (And.intro hcp hul1)
                      clear hcp hul1
                      go_region_law
                        (first
                          | (refine step_copy1 ?_ (.tmp 120) (.tmp 123) 28 41 ?_ Tryz.underlying28 i27 I27.out.1 I27.out.2.2.1 D g8 (N1 + 1) c8 (us1 ++ [.slice none 0 0]) ?_ (if c8 = lo + 1 then some ⟨g8, 0, none⟩ else some ⟨g8, lo + 1, none⟩) (some ⟨g8, lo, none⟩) (N1 - lo) (c8 - (lo + 1)) (N1 + 1 - lo) (c8 - lo) ?_ ?_ (lo + 1) (us1.drop lo) ?_ ?_ ?_ ?_ ?_
                             rfl
                             rfl
                             first | exact H8.out.1 | exact H8.out.1.drew | exact H8.out.1.drewN _
                             rfl
                             rfl
                             rw [List.length_drop, Hc.out.2]; exact (Nat.min_eq_right (by omega)).symm
                             intro hpos
                             rw [List.length_drop, Hc.out.2] at hpos
                             refine ⟨if_neg (by omega), _, rfl, ?_⟩
                             first | exact Hc.out.1 | exact fun j v hj => Hc.out.1 j v hj
                             rw [List.length_drop, Hc.out.2]; simp [Hc.out.2]; omega
                             exact fun v hv => HI.out.1.pa.weakM.one_ v (List.mem_of_mem_drop hv)
                             intro w9 k1 k2
                             have H9 := Lib.hid (And.intro k1 k2)
                             clear k1 k2))
                      have hul1 : us1.length = N1 := HI.out.2.2.2.2.2.1
                      have hO9 := H9.out.1
                      have hins := ins_list us1 (Value.slice none 0 0) (Value.slice (some ⟨yb, 0, none⟩) n yc) (lo := lo) (by omega)
                      have hO10 := hO9.put lo (.slice (some ⟨yb, 0, none⟩) n yc)
                      rw [hins] at hO10
                      obtain ⟨e9, he9⟩ : ∃ e, (((us1 ++ [Value.slice none 0 0]).take (lo + 1) ++ (us1.drop lo ++ (us1 ++ [Value.slice none 0 0]).drop (lo + 1 + (us1.drop lo).length))))[lo]? = some e := ⟨_, List.getElem?_eq_getElem (by simp [hul1]; omega)⟩
                      have hcell9 : w9.cell? ⟨g8, lo, none⟩ = some e9 := (hO9.cell lo (by simp [hul1]; omega)).trans he9
                      have hfz9 := hO9.frozen lo
                      obtain ⟨W10, hW10⟩ : ∃ W, w9.setCell ⟨g8, lo, none⟩ (.slice (some ⟨yb, 0, none⟩) n yc) = W := ⟨_, rfl⟩
                      have hg10 : w9.grownBy W10 (some g8) := hW10 ▸ grown_put lo _
                      rw [hW10] at hO10
                      have hb56 : Below w5.heap.size w5 wc := H6.out.2.1
                      have hg1t1 : g1 ≠ t1 := fun e => HI.out.1.ne g1 rfl (by rw [e]; rfl)
                      have hs6 : wm.heap.size ≤ wc.heap.size := Nat.le_trans H5.out.2.1.size hb56.size
                      have ht1s : t1 < wm.heap.size := (HI.out.1.ot.block_lt rfl).1
                      have hg8t1 : g8 ≠ t1 := by
                        rcases H8.out.2.2 with e | ⟨q, e, hq⟩
                        · have e' : some g8 = some g1 := e
                          cases e'; exact hg1t1
                        · have e' : some g8 = some q := e
                          cases e'; omega
                      have hot6 : Own wc D (.slice (some ⟨t1, 0, none⟩) T1 d1) 41 ts1 := (HI.out.1.ot.below H5.out.2.1).below hb56
                      have hot8 := hot6.kept H8.out.2.1 (.inr (fun e => by have e' : some t1 = some g1 := e; cases e'; exact hg1t1 rfl))
                      have hot9 := (show Own w8.drew D _ 41 ts1 from hot8).kept H9.out.2 (.inr (fun e => by have e' : some t1 = some g8 := e; cases e'; exact hg8t1 rfl))
                      have hot10 := hot9.kept hg10 (.inr (fun e => by have e' : some t1 = some g8 := e; cases e'; exact hg8t1 rfl))
                      have hlo9 : (lo : Int) < (N1 : Int) + 1 := by omega
                      have hlo8 : (0 : Int) ≤ (lo : Int) := by omega
                      have htl1 : ts1.length < 1099511627776 := by have h8 := HI.out.2.2.2.2.2.2.1; omega
                      have hD10 : D ≤ W10.heap.size := by have h1 := (hO10.block_lt rfl).2; have h2 := (hO10.block_lt rfl).1; omega
                      have HX := Lib.hid (And.intro hO10 (And.intro hot10 (And.intro hg10 (And.intro hg8t1 (And.intro hb56 (And.intro ht1s hs6))))))
                      clear hO9 hins hO10 hot6 hot8 hot9 hot10 hg10 he9 hg8t1 hb56 ht1s hs6 hul1
                      go_wp2_with (at_builtin; refine app1 rfl (.tmp 129) (.tmp 131) 28 41 rfl i27 (.slice none 0 0) 24 Tryz.underlying28 I27.out.1 I27.out.2.1 I27.out.2.2.1 I27.out.2.2.2 rfl (by omega) D (.slice (some ⟨yb, 0, none⟩) n yc) (.slice (some ⟨t1, 0, none⟩) T1 d1) ts1 rfl HX.out.2.1 rfl rfl htl1 hD10 ?_; intro v11 w11 k1 k2 k3
                                   obtain ⟨t11, d11, rfl, _, _, _, _⟩ := k1.form (by simp)
                                   have H11 := Lib.hid (And.intro k1 (And.intro k2 k3)); clear k1 k2 k3)
                      have hul1 : us1.length = N1 := HI.out.2.2.2.2.2.1
                      have hg8 : ∀ q ∈ ([g8] ++ [t1] : List Nat), q ∈ ([g1] ++ [t1] : List Nat) ∨ wc.heap.size ≤ q := fun q hq => by
                        simp at hq
                        rcases hq with e | e
                        · subst e
                          rcases H8.out.2.2 with e | ⟨q', e, hq'⟩
                          · have e' : some q = some g1 := e
                            cases e'; exact .inl (by simp)
                          · have e' : some q = some q' := e
                            cases e'; exact .inr hq'
                        · exact .inl (by simp [e])
                      have ht11 : ∀ q ∈ ([g8] ++ [t11] : List Nat), q ∈ ([g8] ++ [t1] : List Nat) ∨ W10.heap.size ≤ q := fun q hq => by
                        simp at hq
                        rcases hq with e | e
                        · exact .inl (by simp [e])
                        · subst e
                          rcases H11.out.2.2 with e | ⟨q', e, hq'⟩
                          · have e' : some q = some t1 := e
                            cases e'; exact .inl (by simp)
                          · have e' : some q = some q' := e
                            cases e'; exact .inr hq'
                      have S68 : Stp wc ([g1] ++ [t1]) w8 ([g8] ++ [t1]) := ⟨Kept.ofGrown H8.out.2.1 (fun q e => by have e' : some g1 = some q := e.symm ▸ rfl; cases e'; simp), hg8⟩
                      have S810 : Stp w8 ([g8] ++ [t1]) W10 ([g8] ++ [t1]) := ⟨(show Kept w8 w9 _ from ((Kept.refl w8 _).drewN 1).trans (Kept.ofGrown H9.out.2 (fun q e => by cases e; simp))).trans (Kept.ofGrown HX.out.2.2.1 (fun q e => by cases e; simp)), fun q hq => .inl hq⟩
                      have S1011 : Stp W10 ([g8] ++ [t1]) w11 ([g8] ++ [t11]) := ⟨Kept.ofGrown H11.out.2.1 (fun q e => by have e' : some t1 = some q := e.symm ▸ rfl; cases e'; simp), ht11⟩
                      have S5 : Stp w5 ([g1] ++ [t1]) w11 ([g8] ++ [t11]) := (Stp.below HX.out.2.2.2.2.1).trans (S68.trans (S810.trans S1011))
                      have S0 : Stp wm ([g1] ++ [t1]) w11 ([g8] ++ [t11]) := (Stp.below H5.out.2.1).trans S5
                      have hg1s : g1 < wm.heap.size ∧ D ≤ g1 := HI.out.1.oa.block_lt rfl
                      have ht1s : t1 < wm.heap.size ∧ D ≤ t1 := HI.out.1.ot.block_lt rfl
                      have hy5 : PmV w5 ([g1] ++ [t1]) (.slice (some ⟨yb, 0, none⟩) n yc) y := H5.out.1.pm (fun q hq => by simp at hq; rcases hq with e | e <;> omega)
                      have hne11 : g8 ≠ t11 := by
                        rcases ht11 t11 (by simp) with h | h
                        · rcases H11.out.2.2 with e | ⟨q', e, hq'⟩
                          · have e' : some t11 = some t1 := e
                            cases e'; exact HX.out.2.2.2.1
                          · have e' : some t11 = some q' := e
                            cases e'
                            have h1 := (HX.out.1.block_lt rfl).1
                            have h2 : g8 < W10.heap.size := h1
                            omega
                        · have h2 : g8 < W10.heap.size := (HX.out.1.block_lt rfl).1
                          omega
                      have hu2 : (us1.take lo ++ Value.slice (some ⟨yb, 0, none⟩) n yc :: us1.drop lo).length = N1 + 1 := by simp [hul1]; omega
                      have ht2 : (ts1 ++ [Value.slice (some ⟨yb, 0, none⟩) n yc]).length = T1 + 1 := by simp [HI.out.2.2.2.2.2.2.1]
                      have hoa11 : Own w11 D (.slice (some ⟨g8, 0, none⟩) (N1 + 1) c8) 41 (us1.take lo ++ Value.slice (some ⟨yb, 0, none⟩) n yc :: us1.drop lo) := HX.out.1.kept H11.out.2.1 (.inr (fun e => by have e' : some g8 = some t1 := e; cases e'; exact HX.out.2.2.2.1 rfl))
                      have hbl : Below D wm w11 := S0.1.below (Nat.le_trans hg1s.2 (Nat.le_of_lt hg1s.1)) (fun q hq => by simp at hq; rcases hq with e | e <;> omega)
                      have h11 : Own w11 D (.slice (some ⟨t11, 0, none⟩) (ts1.length + 1) d11) 41 (ts1 ++ [.slice (some ⟨yb, 0, none⟩) n yc]) := by have h := H11.out.1; rwa [List.length_append, List.length_singleton] at h
                      have hlo := H6.out.1
                      have hB1 := (HI.out.2.1.new H5.out.2.2.2.2.1 (insAt_srt HI.out.2.1.1 H6.out.2.2.1 H6.out.2.2.2.1 Hm.out) (fun z => (mem_insAt (L := L1) (lo := lo) (y := y)).trans or_comm)).old HI.out.2.2.2.2.2.2.2.2.2.2.2 (by rw [H5.out.2.2.2.2.2.1]; exact mem_insAt.2 (.inl rfl))
                      have HB1 := Lib.hid hB1
                      clear hB1
                      have hL2 := insAt_len (y := y) hlo
                      refine ⟨⟨k + 1, insAt L1 lo y, us1.take lo ++ .slice (some ⟨yb, 0, none⟩) n yc :: us1.drop lo, todo1 ++ [y], ts1 ++ [.slice (some ⟨yb, 0, none⟩) n yc], by omega, by go_num, ⟨hoa11, h11, fun q e e' => ?_, ?_, ?_, HI.out.1.bel.trans hbl, nb_ins HI.out.1.nw (H5.out.1.nb (Nat.le_trans hg1s.2 (Nat.le_of_lt hg1s.1)))⟩, HB1.out, ?_, ?_, ?_, ?_, ?_⟩, by simp [intOf]; omega⟩
                      · have e1 : some g8 = some q := e
                        have e2 : some t11 = some q := e'
                        cases e1; cases e2; exact hne11 rfl
                      · exact pml_ins (HI.out.1.pa.stp S0) hlo (hy5.stp S5)
                      · exact (HI.out.1.pt.stp S0).snoc (hy5.stp S5)
                      · exact HI.out.2.2.1.stp S0
                      · have := HI.out.2.2.2.1; rw [List.length_append, hL2]; simp; omega
                      · have := HI.out.2.2.2.2.1; rw [List.length_append, hL2]; simp; omega
                      · show _ = Value.slice (some ⟨g8, 0, none⟩) _ c8; rw [hu2]
                      · show _ = Value.slice (some ⟨t11, 0, none⟩) _ d11; rw [List.length_append]; rfl
            · have hk1 : ¬ (k : Int) < ll := by omega
              have hkm0 : k = LG.length := by rw [HGN.out.2.1]; omega
              rw [hkm0] at hB
              have HI := Lib.hid (And.intro hE (And.intro hB.next (And.intro hT1' (And.intro hms (And.intro hNL1 (And.intro hTL1 hLF1))))))
              clear hE hB hpu hT1' hms hLF1 hbw hN1 hT1
              go_wp2_with fail
              refine ⟨⟨L1, us1, todo1, ts1, HI.out.1, HI.out.2.1, by have := HI.out.2.2.1; omega⟩, ?_⟩
              have h1 := HI.out.2.2.2.1
              have h2 := HI.out.2.2.2.2.1
              have h3 := HI.out.2.2.2.2.2.1
              have h4 := HI.out.2.2.2.2.2.2
              have h5 := HK.out.2.2.2.2.2.2.2.1
              have h6 := HK.out.2.2.2.2.2.2.1
              simp only [lenV]
              omega
end Go.Proofs.YtbejhkojdiadaaaGreatDoor
