/- The law ClosureCores walked. · Arguments read: lists of ints, and chains. -/
import Derived.Test.YtbejhkojdiadaaaGreatCo01
import Derived.Test.YtbejhkojdiadaaaGreatCo02
import Derived.Test.YtbejhkojdiadaaaGreatCo03
import Derived.Test.YtbejhkojdiadaaaGreatCo04
import Derived.Test.YtbejhkojdiadaaaGreatCo05
import Derived.Test.YtbejhkojdiadaaaGreatCo06
import Derived.Test.YtbejhkojdiadaaaGreatCo07
import Derived.Test.YtbejhkojdiadaaaGreatCo08
import Derived.Test.YtbejhkojdiadaaaGreatCo09
import Derived.Test.YtbejhkojdiadaaaGreatCo10
import Derived.Test.YtbejhkojdiadaaaGreatCo11
import Derived.Test.YtbejhkojdiadaaaGreatCo12
import Derived.Test.YtbejhkojdiadaaaGreatCo13
import Derived.Test.YtbejhkojdiadaaaGreatCo14
import Derived.Test.YtbejhkojdiadaaaGreatCo15
import Derived.Test.YtbejhkojdiadaaaGreatCo16
import Derived.Test.YtbejhkojdiadaaaGreatCo17
import Derived.Test.YtbejhkojdiadaaaGreatCo18
import Derived.Test.YtbejhkojdiadaaaGreatCo19
import Derived.Test.YtbejhkojdiadaaaGreatCo20
import Derived.Test.YtbejhkojdiadaaaGreatCo21
import Derived.Test.YtbejhkojdiadaaaGreatCo22
import Derived.Test.YtbejhkojdiadaaaGreatCo23
import Derived.Test.YtbejhkojdiadaaaGreatCo24
import Derived.Test.YtbejhkojdiadaaaGreatCo25
import Derived.Test.YtbejhkojdiadaaaGreatCo26
import Derived.Test.YtbejhkojdiadaaaGreatProg
import Derived.Deep.Matrix
import Derived.Below
import Derived.ChangeSame
import Derived.Deep.Slices
import Derived.Deep.Fields
import Derived.OpenShut
import Derived.WalkKit
import Derived.WalkSpells
import Derived.BigQuiet
import Derived.Deep.QuietTactic
import Derived.Deep.LoopGhost
import Derived.Lib.Hide
import Derived.Maps.AppendAt
import Derived.Deep.AppendLies
import Derived.StillTailTactics
import Derived.Laws.CopyOwn
import Derived.Deep.OwnRows
import Derived.Deep.DeepCutAuto
import Derived.Laws.Cover3
import Derived.Deep.RegionHeld3
import Derived.RangeFuncRecord
import Derived.Lib.SlicesSearch
import Derived.RangeFuncBox
import Derived.RangeFuncLeaves
import Derived.RangeFuncWrites
import Derived.RangeFuncFrom
import Derived.Shelf.Abstract
import Derived.OwnWalkIn
import Derived.TacticsInMore
import Derived.LoopNIn
import Derived.LoopIn
import Derived.Shelf.GgSortFunc.Insertion
import Derived.Shelf.SlIter.Collect
import Derived.Shelf.Sort.Plain
import Derived.Deep.RegionLaw
import Derived.ControlIn
import Derived.Deep.AppendSrc
import Derived.Laws.BytesArg
import Derived.Maps.OwnSet
import Derived.Carry
import Derived.Maps.Range
set_option linter.unusedSimpArgs false
set_option linter.unusedVariables false
namespace Go.Proofs.YtbejhkojdiadaaaGreat
open Go.RowKit PlainPm
def CorQ (n : Nat) (V : World) (G : Pm n → Prop) (z : Value) (wx : World) : Prop := ∃ (Z : Nat) (a : Option Addr) (c : Nat) (b : Option Addr) (d : Nat), z = .pointer (some ⟨Z, 0, none⟩) ∧ wx.heap[Z]? = some (.cells #[.int .i64 (n : Int), .slice a n c, .slice b n d] 25) ∧ GrG wx (.agg #[.int .i64 (n : Int), .slice a n c, .slice b n d]) G ∧ Below V.heap.size V wx
theorem corq_set {n : Nat} {V w : World} {Z : Nat} {a : Option Addr} {c : Nat} {b : Option Addr} {d : Nat} {a0 a1 a2 : Value} {G : Pm n → Prop} (hZ : V.heap.size ≤ Z) (hb : Below V.heap.size V w) (hz : w.heap[Z]? = some (.cells #[a0, a1, a2] 25))
    (hg : GrS w (.agg #[.int .i64 (n : Int), .slice a n c, .slice b n d]) G [Z]) : CorQ n V G (.pointer (some ⟨Z, 0, none⟩)) (((w.setCell ⟨Z, 0, none⟩ (.int .i64 (n : Int))).setCell ⟨Z, 1, none⟩ (.slice a n c)).setCell ⟨Z, 2, none⟩ (.slice b n d)) :=
  ⟨Z, a, c, b, d, rfl, set3_box hz, (hg.kept (set3_kept (by simp))).now, hb.trans ((set3_kept (S := [Z]) (by simp)).below hb.size (fun q hq => by simp at hq; omega))⟩
def B3c (W : World) (Z : Nat) (u0 u1 u2 : Value) : Prop := W.cell? ⟨Z, 0, none⟩ = some u0 ∧ W.cell? ⟨Z, 1, none⟩ = some u1 ∧ W.cell? ⟨Z, 2, none⟩ = some u2
theorem box6 {V W : World} (hW : Below V.heap.size V W) {Z0 Z1 Z2 Z3 Z4 Z5 : Nat} {a0 a1 a2 b0 b1 b2 c0 c1 c2 d0 d1 d2 e0 e1 e2 f0 f1 f2 : Value}
    (h0 : V.heap[Z0]? = some (.cells #[a0, a1, a2] 25)) (h1 : V.heap[Z1]? = some (.cells #[b0, b1, b2] 25)) (h2 : V.heap[Z2]? = some (.cells #[c0, c1, c2] 25)) (h3 : V.heap[Z3]? = some (.cells #[d0, d1, d2] 25)) (h4 : V.heap[Z4]? = some (.cells #[e0, e1, e2] 25)) (h5 : V.heap[Z5]? = some (.cells #[f0, f1, f2] 25)) :
    B3c W Z0 a0 a1 a2 ∧ B3c W Z1 b0 b1 b2 ∧ B3c W Z2 c0 c1 c2 ∧ B3c W Z3 d0 d1 d2 ∧ B3c W Z4 e0 e1 e2 ∧ B3c W Z5 f0 f1 f2 := by
  have k : ∀ {Z : Nat} {u0 u1 u2 : Value}, V.heap[Z]? = some (.cells #[u0, u1, u2] 25) → B3c W Z u0 u1 u2 := fun {Z u0 u1 u2} h => by
    obtain ⟨x0, x1, x2, _⟩ := box_cells ((hW.block Z (Array.getElem?_eq_some_iff.1 h).1).trans h)
    exact ⟨x0, x1, x2⟩
  exact ⟨k h0, k h1, k h2, k h3, k h4, k h5⟩
theorem corq_new {n : Nat} {V w : World} {a : Option Addr} {c : Nat} {b : Option Addr} {d : Nat} {G : Pm n → Prop} (hb : Below V.heap.size V w)
    (hg : GrS w (.agg #[.int .i64 (n : Int), .slice a n c, .slice b n d]) G []) : CorQ n V G (.pointer (some ⟨w.heap.size, 0, none⟩)) (w.alloc (.cells #[.int .i64 (n : Int), .slice a n c, .slice b n d] 25)) :=
  ⟨w.heap.size, a, c, b, d, rfl, box_al25 rfl _ _ _, hg.now.below (alloc_b (Below.refl _ _) _), alloc_b hb _⟩
set_option maxRecDepth 100000 in
set_option maxHeartbeats 16000000 in
theorem closureCoresW {w : World} {a1 a2 : Option Addr} {c1 c2 : Nat} {l1 l2 : List Int} {nx ny : Int} (h1 : Ints w a1 l1) (h2 : Ints w a2 l2) :
    Calls Tryz.prog 9 #[.slice a1 l1.length c1, .slice a2 l2.length c2, .int .i64 nx, .int .i64 ny] w fun e w' => e = .returned (.bool true) ∧ Below w.heap.size w w' := by
  obtain ⟨i27, hi27, hz27, hs27, hb27⟩ := info_parts Tryz.info27
  have I27 := Lib.hid (And.intro hi27 (And.intro hz27 (And.intro hs27 hb27)))
  clear hi27 hz27 hs27 hb27
  have h41 := fun (V : World) (hV : Below w.heap.size w V) => group41 (c1 := c1) (c2 := c2) (h1.below hV) (h2.below hV)
  obtain ⟨m1, hm1⟩ : ∃ m, l1.length = m := ⟨_, rfl⟩
  obtain ⟨m2, hm2⟩ : ∃ m, l2.length = m := ⟨_, rfl⟩
  rw [hm1, hm2] at h41 ⊢
  have H := Lib.hid h41
  clear h41 h1 h2 hm1 hm2
  go_enter Tryz.func9, Tryz.ntmps9
  go_wp2_with (first
    | (go_at_call 41; (with_reducible refine (H.out _ H2.out).mono ?_); rintro e3 w3 ⟨v1, v2, v3, v4, rfl, ⟨n, Lg, Ls, hn, hsub, q1, q2, q3, q4⟩, k⟩
       obtain ⟨a3, cc3, b3, d3, rfl⟩ := q3.form
       obtain ⟨a4, cc4, b4, d4, rfl⟩ := q4.form
       obtain ⟨E1, p1, p1s, p1m⟩ := q1
       obtain ⟨E2, p2, p2s, p2m⟩ := q2
       obtain ⟨f1, g1, rfl, _, _⟩ := pms_at p1
       obtain ⟨f2, g2, rfl, _, _⟩ := pms_at p2
       have hl1 : E1.length ≤ 120 := Nat.le_trans (pm_card (sorted_nodup p1s)) (fac_le5 hn.2)
       have hl2 : E2.length ≤ 120 := Nat.le_trans (pm_card (sorted_nodup p2s)) (fac_le5 hn.2)
       obtain ⟨N1, hN1⟩ : ∃ m, E1.length = m := ⟨_, rfl⟩
       obtain ⟨N2, hN2⟩ : ∃ m, E2.length = m := ⟨_, rfl⟩
       rw [hN1] at p1 hl1 ⊢
       rw [hN2] at p2 hl2 ⊢
       obtain ⟨Y, U, V1, V, hY, hU, ⟨s0, s1, s2, s3, s4, s5⟩, hV1, ⟨t0, t1, t2, t3, t4, t5⟩, hV, bw, z0, z1⟩ := st2 (w := w3) (.int .i64 (n : Int)) (.slice a3 n cc3) (.slice b3 n d3) (.int .i64 (n : Int)) (.slice a4 n cc4) (.slice b4 n d4)
       have H3 := Lib.hid (And.intro (below_trans (below_trans H2.out k) bw) (And.intro hn (And.intro hsub (And.intro (And.intro (p1.below bw) (And.intro p1s (And.intro p1m hN1))) (And.intro (And.intro (p2.below bw) (And.intro p2s (And.intro p2m hN2))) (And.intro (And.intro (q3.below bw) (q4.below bw)) (And.intro z0 z1)))))))
       unfold set3 at hV1 hV
       clear k bw hsub p1 p2 p1s p2s p1m p2m hN1 hN2 q3 q4 z0 z1)
    | (go_at_call 6; (with_reducible refine closureKnownW.mono ?_); rintro e2 w2 ⟨rfl, k⟩
       have H2 := Lib.hid k; clear k))
  obtain ⟨_, _, q1, hN1b, hat1⟩ := pms_at H3.out.2.2.2.1.1
  obtain ⟨_, _, q2, hN2b, hat2⟩ := pms_at H3.out.2.2.2.2.1.1
  simp only [Value.slice.injEq] at q1 q2
  obtain ⟨rfl, -, rfl⟩ := q1
  obtain ⟨rfl, -, rfl⟩ := q2
  have HA := Lib.hid (And.intro hat1 hat2)
  clear hat1 hat2 hN1b hN2b
  clear hV1 hV hU hY s0 s1 s2 s3 s4 s5 t0 t1 t2 t3 t4 t5
  go_loopw [14, 16] (fun v i wr => ∃ (k : Nat) (us : List Value) (co : List (Pm n)) (vv : Value), vv = v ∧ i = .int .i64 (k : Int) ∧ k ≤ N2 ∧ GrowL [] wr V.heap.size vv us co ∧ FilI (fun a => ∀ g ∈ E1, cj a g ∈ E2) E2 k co ∧ Below V.heap.size V wr) (fun _ i _ => N2 - (intOf i).toNat)
  case atStart => exact ⟨0, [], [], _, rfl, rfl, Nat.zero_le _, GrowL.nil _ (by simp), FilI.start, Below.refl _ _⟩
  case round =>
    obtain ⟨i, us, co, v, rfl, rfl, hi, hgl, hfi, hbr⟩ := hrel
    by_cases hi2 : i < N2
    · have hi1 : (i : Int) < N2 := by omega
      obtain ⟨a, ha⟩ : ∃ a, E2[i]? = some a := ⟨_, List.getElem?_eq_getElem (by rw [H3.out.2.2.2.2.1.2.2.2]; exact hi2)⟩
      have HK := Lib.hid (And.intro hgl (And.intro hfi (And.intro hbr ha)))
      clear hgl hfi hbr ha
      go_wp2_with fail
      go_loopw [17, 18] (fun b i' wr => ∃ (k : Nat) (B : Bool), b = .bool B ∧ i' = .int .i64 (k : Int) ∧ k ≤ N1 ∧ (B = true → ∀ g ∈ E1.take k, cj a g ∈ E2) ∧ (B = false → ∃ g ∈ E1, ¬ cj a g ∈ E2) ∧ GrowL [] wr V.heap.size v us co ∧ Below V.heap.size V wr) (fun _ i' _ => N1 - (intOf i').toNat)
      case atStart => exact ⟨0, true, rfl, rfl, Nat.zero_le _, by simp, by simp, HK.out.1, HK.out.2.2.1⟩
      case round =>
        obtain ⟨k, B, rfl, rfl, hk, hT, hF, hgl, hbr⟩ := hrel
        obtain ⟨g6, o6, u6, e6, hc6, hp6⟩ := HA.out.2 i a HK.out.2.2.2
        cases e6
        have hc6i := (hbr.cell (block_lt_of_cell hc6)).trans hc6
        obtain ⟨b6b, b6o, b6c, rfl, _⟩ := id hp6
        have hlu : us.length < 1099511627776 := by have h1 := hgl.len; have := HK.out.2.1.len H3.out.2.1.2; omega
        have hD : V.heap.size ≤ wr.heap.size := hbr.size
        have hn5 := H3.out.2.1
        have hz6 : PmV wr (v.ownBlock.toList ++ []) (.slice (some ⟨b6b, b6o, none⟩) n b6c) a := hp6.fresh hbr (fun q hq => by rw [List.append_nil] at hq; exact (hgl.1.block_lt (mem_ob.1 hq)).2)
        have HG := Lib.hid (And.intro hgl (And.intro hbr hz6))
        clear hgl hz6
        rcases B with _ | _
        · obtain ⟨g, hg, hgn⟩ := hF rfl
          have hP : ¬ ∀ g ∈ E1, cj a g ∈ E2 := fun h => hgn (h g hg)
          clear hT hF hg hgn hbr
          go_wp2_with fail
          exact ⟨⟨i + 1, us, co, _, rfl, by go_num, by omega, HG.out.1, HK.out.2.1.old HK.out.2.2.2 hP, HG.out.2.1⟩, by first | (simp [intOf]; done) | (simp [intOf]; omega)⟩
        · by_cases hk2 : k < N1
          · have hk1 : (k : Int) < N1 := by omega
            obtain ⟨g, hg⟩ : ∃ g, E1[k]? = some g := ⟨_, List.getElem?_eq_getElem (by rw [H3.out.2.2.2.1.2.2.2]; exact hk2)⟩
            obtain ⟨g7, o7, u7, e7, hc7, hp7⟩ := HA.out.1 k g hg
            cases e7
            have hc7i := (hbr.cell (block_lt_of_cell hc7)).trans hc7
            obtain ⟨b7b, b7o, b7c, rfl, _⟩ := id hp7
            have h42 := fun (W : World) (hV : Below wr.heap.size wr W) => px42 (n := n) ⟨hn5.1, by omega⟩ (hp6.below (below_trans hbr hV)) (hp7.below (below_trans hbr hV))
            have h43 := fun (W : World) (hV : Below wr.heap.size wr W) {vx : Value} (hx : PmV W [] vx (cj a g)) => index43 (n := n) (x := cj a g) (by omega) (by rw [H3.out.2.2.2.2.1.2.2.2]; omega) H3.out.2.2.2.2.1.2.1 (H3.out.2.2.2.2.1.1.below (below_trans hbr hV)) hx
            have hz0 := And.intro hc6i (And.intro hc7i (Below.refl wr.heap.size wr))
            have HY := Lib.hid (And.intro h42 (And.intro hg (And.intro (hT rfl) @h43)))
            clear h42 h43 hg hT hF hp7 hc7 hc6
            go_wp2_with fail
            go_region_held3 (fun W => W.cell? ⟨g6, o6 + i, none⟩ = some (.slice (some ⟨b6b, b6o, none⟩) n b6c) ∧ W.cell? ⟨g7, o7 + k, none⟩ = some (.slice (some ⟨b7b, b7o, none⟩) n b7c) ∧ Below wr.heap.size wr W)
              (first
                | with_reducible assumption
                | with_reducible exact hz0
                | exact keep2c hz0 (below_drw (Below.refl _ _))
                | exact keep2c hz0 (below_self_drewN _ _)
                | exact keep2c hz0 b8
                | exact keep2c hz0 b6
                | fail)
              (first
                | (go_at_call 43; (with_reducible refine (HY.out.2.2.2 _ (by first | exact b6 | exact below_drw b6 | exact below_trans b6 (below_self_drewN _ _)) (PmV.below (n6.pm (M := []) (by simp)) (by first | exact Below.refl _ _ | exact below_drw (Below.refl _ _) | exact below_self_drewN _ _))).mono ?_); rintro e8 w8 ⟨ii, rfl, hii, k2⟩; have b8 : Below wr.heap.size wr w8 := below_trans b6 (below_trans (by first | exact Below.refl _ _ | exact below_drw (Below.refl _ _) | exact below_self_drewN _ _) k2); clear k2)
                | (go_at_call 42; (with_reducible refine (HY.out.1 _ (by first | exact Below.refl _ _ | exact below_drw (Below.refl _ _) | exact below_self_drewN _ _)).mono ?_); rintro e6 w6 ⟨v6, rfl, k1, k2⟩; have b6 : Below wr.heap.size wr w6 := below_trans (by first | exact Below.refl _ _ | exact below_drw (Below.refl _ _) | exact below_self_drewN _ _) k2; have n6 : NewPm wr w6 v6 (cj a g) := NewPm.from k1 (by first | exact Nat.le_refl _ | simp [World.drew]); clear k1 k2))
            go_wp2_with fail
            have hgl8 := HG.out.1.below b8
            have hb8 := HG.out.2.1.trans (b8.mono hD)
            refine ⟨⟨k + 1, _, rfl, by go_num, by omega, fun e => take_all HY.out.2.1 HY.out.2.2.1 ?_, fun e => ⟨g, List.mem_of_getElem? HY.out.2.1, ?_⟩, hgl8, hb8⟩, by first | (simp [intOf]; done) | (simp [intOf]; omega)⟩
            · rcases hii with ⟨h, _⟩ | ⟨h, rfl⟩
              · exact h
              · simp at e
            · rcases hii with ⟨h, q, rfl, _⟩ | ⟨h, rfl⟩
              · first | (simp at e; done) | (simp at e; omega)
              · exact h
          · have hk1 : ¬ (k : Int) < N1 := by omega
            have hkN : k = N1 := by omega
            have hP : ∀ g ∈ E1, cj a g ∈ E2 := by have h := hT rfl; rwa [hkN, ← H3.out.2.2.2.1.2.2.2, List.take_length] at h
            clear hT hF hbr
            go_wp2_with (at_builtin; refine app1 rfl (.tmp 71) (.tmp 76) 44 27 rfl i27 (.slice none 0 0) 24 Tryz.underlying44 I27.out.1 I27.out.2.1 I27.out.2.2.1 I27.out.2.2.2 rfl (by omega) V.heap.size (.slice (some ⟨b6b, b6o, none⟩) n b6c) _ us rfl HG.out.1.1 rfl rfl hlu hD ?_; intro v9 w9 k1 k2 k3; have H9 := Lib.hid (And.intro k1 (And.intro k2 k3)); clear k1 k2 k3)
            exact ⟨⟨i + 1, us ++ [.slice (some ⟨b6b, b6o, none⟩) n b6c], co ++ [a], _, rfl, by go_num, by omega, HG.out.1.app HG.out.2.2 H9.out.1 H9.out.2.1 H9.out.2.2, HK.out.2.1.new H3.out.2.2.2.2.1.2.1 HK.out.2.2.2 hP, HG.out.2.1.grown H9.out.2.1 hD (fun g e => (HG.out.1.1.block_lt e).2)⟩, by first | (simp [intOf]; done) | (simp [intOf]; omega)⟩
    · have hi1 : ¬ (i : Int) < N2 := by omega
      have hiN : i = N2 := by omega
      rw [hiN, ← H3.out.2.2.2.2.1.2.2.2] at hfi
      have hco : LstV wr v (CoG (Grp (· ∈ Ls)) (Grp (· ∈ Lg))) := ⟨co, pms_ownB hgl.1 hgl.2.1 (by have := hfi.len H3.out.2.1.2; omega), hfi.1, fun x => by
        rw [hfi.2 x, List.take_length]
        constructor
        · rintro ⟨_, h⟩ y hy
          exact (H3.out.2.2.2.2.1.2.2.1 _).1 (h y ((H3.out.2.2.2.1.2.2.1 y).2 hy))
        · intro h
          exact ⟨(H3.out.2.2.2.2.1.2.2.1 x).2 (CoG.sub Grp.isG h), fun g hg => (H3.out.2.2.2.2.1.2.2.1 _).2 (h g ((H3.out.2.2.2.1.2.2.1 g).1 hg))⟩⟩
      obtain ⟨wo, rfl⟩ : ∃ wo, wo = wr := ⟨_, rfl⟩
      have HL1 := Lib.hid (And.intro hco hbr)
      clear hco hbr hgl hfi
      go_wp2_with fail
      clear hi hi1 hi2 hiN
      go_loopw [15, 19] (fun v i wr => ∃ (k : Nat) (us : List Value) (co : List (Pm n)) (vv : Value), vv = v ∧ i = .int .i64 (k : Int) ∧ k ≤ N1 ∧ GrowL [] wr wo.heap.size vv us co ∧ FilI (fun a => ∀ g ∈ E1, a.mul g = g.mul a) E1 k co ∧ Below wo.heap.size wo wr) (fun _ i _ => N1 - (intOf i).toNat)
      case atStart => exact ⟨0, [], [], _, rfl, rfl, Nat.zero_le _, GrowL.nil _ (by simp), FilI.start, Below.refl _ _⟩
      case round =>
        obtain ⟨i, us, co, v2, rfl, rfl, hi, hgl, hfi, hbr⟩ := hrel
        by_cases hi2 : i < N1
        · have hi1 : (i : Int) < N1 := by omega
          obtain ⟨a, ha⟩ : ∃ a, E1[i]? = some a := ⟨_, List.getElem?_eq_getElem (by rw [H3.out.2.2.2.1.2.2.2]; exact hi2)⟩
          have HK := Lib.hid (And.intro hgl (And.intro hfi (And.intro hbr ha)))
          clear hgl hfi hbr ha
          go_wp2_with fail
          go_loopw [20, 21] (fun b i' wr => ∃ (k : Nat) (B : Bool), b = .bool B ∧ i' = .int .i64 (k : Int) ∧ k ≤ N1 ∧ (B = true → ∀ g ∈ E1.take k, a.mul g = g.mul a) ∧ (B = false → ∃ g ∈ E1, ¬ a.mul g = g.mul a) ∧ GrowL [] wr wo.heap.size v2 us co ∧ Below wo.heap.size wo wr) (fun _ i' _ => N1 - (intOf i').toNat)
          case atStart => exact ⟨0, true, rfl, rfl, Nat.zero_le _, by simp, by simp, HK.out.1, HK.out.2.2.1⟩
          case round =>
            obtain ⟨k, B, rfl, rfl, hk, hT, hF, hgl, hbo⟩ := hrel
            obtain ⟨g6, o6, u6, e6, hc6, hp6⟩ := HA.out.1 i a HK.out.2.2.2
            cases e6
            have hbr : Below V.heap.size V wr := HL1.out.2.trans (hbo.mono HL1.out.2.size)
            have hc6i := (hbr.cell (block_lt_of_cell hc6)).trans hc6
            obtain ⟨b6b, b6o, b6c, rfl, _⟩ := id hp6
            have hlu : us.length < 1099511627776 := by have h1 := hgl.len; have := HK.out.2.1.len H3.out.2.1.2; omega
            have hD : wo.heap.size ≤ wr.heap.size := hbo.size
            have hn5 := H3.out.2.1
            have hz6 : PmV wr (v2.ownBlock.toList ++ []) (.slice (some ⟨b6b, b6o, none⟩) n b6c) a := (hp6.below HL1.out.2).fresh hbo (fun q hq => by rw [List.append_nil] at hq; exact (hgl.1.block_lt (mem_ob.1 hq)).2)
            have HG := Lib.hid (And.intro hgl (And.intro hbo hz6))
            clear hgl hz6 hbo
            rcases B with _ | _
            · obtain ⟨g, hg, hgn⟩ := hF rfl
              have hP : ¬ ∀ g ∈ E1, a.mul g = g.mul a := fun h => hgn (h g hg)
              clear hT hF hg hgn hbr
              go_wp2_with fail
              exact ⟨⟨i + 1, us, co, _, rfl, by go_num, by omega, HG.out.1, HK.out.2.1.old HK.out.2.2.2 hP, HG.out.2.1⟩, by first | (simp [intOf]; done) | (simp [intOf]; omega)⟩
            · by_cases hk2 : k < N1
              · have hk1 : (k : Int) < N1 := by omega
                obtain ⟨g, hg⟩ : ∃ g, E1[k]? = some g := ⟨_, List.getElem?_eq_getElem (by rw [H3.out.2.2.2.1.2.2.2]; exact hk2)⟩
                obtain ⟨g7, o7, u7, e7, hc7, hp7⟩ := HA.out.1 k g hg
                have e7' : g6 = g7 ∧ o6 = o7 := by cases e7; exact ⟨rfl, rfl⟩
                obtain ⟨rfl, rfl⟩ := e7'
                clear e7
                have hc7i := (hbr.cell (block_lt_of_cell hc7)).trans hc7
                obtain ⟨b7b, b7o, b7c, rfl, _⟩ := id hp7
                have hpa := hp6.below hbr
                have hpg := hp7.below hbr
                have h49 := fun (W : World) (hV : Below wr.heap.size wr W) => mul49 (n := n) (by omega) hn5.1 (hpa.below hV) (hpg.below hV)
                have h49' := fun (W : World) (hV : Below wr.heap.size wr W) => mul49 (n := n) (by omega) hn5.1 (hpg.below hV) (hpa.below hV)
                have hz0 := And.intro hc6i (And.intro hc7i (Below.refl wr.heap.size wr))
                have HY := Lib.hid (And.intro h49 (And.intro h49' (And.intro hg (hT rfl))))
                clear h49 h49' hg hT hF hp7 hc7 hc6 hpa hpg
                go_wp2_with fail
                go_region_held3 (fun W => W.cell? ⟨g6, o6 + i, none⟩ = some (.slice (some ⟨b6b, b6o, none⟩) n b6c) ∧ W.cell? ⟨g6, o6 + k, none⟩ = some (.slice (some ⟨b7b, b7o, none⟩) n b7c) ∧ Below wr.heap.size wr W)
                  (first
                    | with_reducible assumption
                    | with_reducible exact hz0
                    | exact keep2c hz0 (below_drw (Below.refl _ _))
                    | exact keep2c hz0 (below_self_drewN _ _)
                    | exact keep2c hz0 b8
                    | exact keep2c hz0 b7
                    | exact keep2c hz0 b6
                    | fail)
                  (first
                    | (go_at_call 20; (with_reducible refine (same20p (n := n) (by omega) (PmV.below (n6.pm (M := []) (by simp)) (below_trans k7 (by first | exact Below.refl _ _ | exact below_drw (Below.refl _ _) | exact below_self_drewN _ _))) (PmV.below (n7.pm (M := []) (by simp)) (by first | exact Below.refl _ _ | exact below_drw (Below.refl _ _) | exact below_self_drewN _ _))).mono ?_); rintro e8 w8 ⟨rfl, k2⟩; have b8 : Below wr.heap.size wr w8 := below_trans b7 (below_trans (by first | exact Below.refl _ _ | exact below_drw (Below.refl _ _) | exact below_self_drewN _ _) k2); clear k2)
                    | (go_at_call 49; (with_reducible refine (HY.out.2.1 _ (by first | exact b6 | exact below_drw b6 | exact below_trans b6 (below_self_drewN _ _))).mono ?_); rintro e7 w7 ⟨v7, rfl, k1, k2⟩; have k7 : Below w6.heap.size w6 w7 := below_trans (by first | exact Below.refl _ _ | exact below_drw (Below.refl _ _) | exact below_self_drewN _ _) k2; have b7 : Below wr.heap.size wr w7 := below_trans b6 k7; have n7 : NewPm w6 w7 v7 (g.mul a) := NewPm.from k1 (by first | exact Nat.le_refl _ | simp [World.drew]); clear k1 k2)
                    | (go_at_call 49; (with_reducible refine (HY.out.1 _ (by first | exact Below.refl _ _ | exact below_drw (Below.refl _ _) | exact below_self_drewN _ _)).mono ?_); rintro e6 w6 ⟨v6, rfl, k1, k2⟩; have b6 : Below wr.heap.size wr w6 := below_trans (by first | exact Below.refl _ _ | exact below_drw (Below.refl _ _) | exact below_self_drewN _ _) k2; have n6 : NewPm wr w6 v6 (a.mul g) := NewPm.from k1 (by first | exact Nat.le_refl _ | simp [World.drew]); clear k1 k2))
                go_wp2_with fail
                have hgl8 := HG.out.1.below b8
                have hb8 := HG.out.2.1.trans (b8.mono hD)
                refine ⟨⟨k + 1, _, rfl, by go_num, by omega, fun e => take_all HY.out.2.2.1 HY.out.2.2.2 (of_decide_eq_true e), fun e => ⟨g, List.mem_of_getElem? HY.out.2.2.1, of_decide_eq_false e⟩, hgl8, hb8⟩, by first | (simp [intOf]; done) | (simp [intOf]; omega)⟩
              · have hk1 : ¬ (k : Int) < N1 := by omega
                have hkN : k = N1 := by omega
                have hP : ∀ g ∈ E1, a.mul g = g.mul a := by have h := hT rfl; rwa [hkN, ← H3.out.2.2.2.1.2.2.2, List.take_length] at h
                clear hT hF hbr
                go_wp2_with (at_builtin; refine app1 rfl (.tmp 113) (.tmp 118) 44 27 rfl i27 (.slice none 0 0) 24 Tryz.underlying44 I27.out.1 I27.out.2.1 I27.out.2.2.1 I27.out.2.2.2 rfl (by omega) wo.heap.size (.slice (some ⟨b6b, b6o, none⟩) n b6c) _ us rfl HG.out.1.1 rfl rfl hlu hD ?_; intro v9 w9 k1 k2 k3; have H9 := Lib.hid (And.intro k1 (And.intro k2 k3)); clear k1 k2 k3)
                exact ⟨⟨i + 1, us ++ [.slice (some ⟨b6b, b6o, none⟩) n b6c], co ++ [a], _, rfl, by go_num, by omega, HG.out.1.app HG.out.2.2 H9.out.1 H9.out.2.1 H9.out.2.2, HK.out.2.1.new H3.out.2.2.2.1.2.1 HK.out.2.2.2 hP, HG.out.2.1.grown H9.out.2.1 hD (fun g e => (HG.out.1.1.block_lt e).2)⟩, by first | (simp [intOf]; done) | (simp [intOf]; omega)⟩
        · have hi1 : ¬ (i : Int) < N1 := by omega
          have hiN : i = N1 := by omega
          rw [hiN, ← H3.out.2.2.2.1.2.2.2] at hfi
          have hct : LstV wr v2 (CtG (Grp (· ∈ Lg))) := ⟨co, pms_ownB hgl.1 hgl.2.1 (by have := hfi.len H3.out.2.1.2; omega), hfi.1, fun x => by
            rw [hfi.2 x, List.take_length]
            constructor
            · rintro ⟨h1, h⟩
              exact ⟨(H3.out.2.2.2.1.2.2.1 x).1 h1, fun y hy => h y ((H3.out.2.2.2.1.2.2.1 y).2 hy)⟩
            · intro h
              exact ⟨(H3.out.2.2.2.1.2.2.1 x).2 h.1, fun g hg => h.2 g ((H3.out.2.2.2.1.2.2.1 g).1 hg)⟩⟩
          have hbV : Below V.heap.size V wr := HL1.out.2.trans (hbr.mono HL1.out.2.size)
          have hn5 := H3.out.2.1
          have hpos : 0 < N1 := by rw [← H3.out.2.2.2.1.2.2.2]; exact List.length_pos_of_mem ((H3.out.2.2.2.1.2.2.1 (PlainPm.one n)).2 Grp.one)
          have hN1m : N1 ≤ 1000000 := by have h1 := pm_card (sorted_nodup H3.out.2.2.2.1.2.1); have h2 := fac_le5 hn5.2; rw [H3.out.2.2.2.1.2.2.2] at h1; omega
          obtain ⟨ix, hix, h51x⟩ := pick51n (x := nx) hpos hN1m
          obtain ⟨iy, hiy, h51y⟩ := pick51n (x := ny) hpos hN1m
          have hix1 : (ix : Int) < N1 := by omega
          have hiy1 : (iy : Int) < N1 := by omega
          obtain ⟨x, hx⟩ : ∃ g, E1[ix]? = some g := ⟨_, List.getElem?_eq_getElem (by rw [H3.out.2.2.2.1.2.2.2]; exact hix)⟩
          obtain ⟨y, hy⟩ : ∃ g, E1[iy]? = some g := ⟨_, List.getElem?_eq_getElem (by rw [H3.out.2.2.2.1.2.2.2]; exact hiy)⟩
          obtain ⟨g6, o6, u6, e6, hc6, hp6⟩ := HA.out.1 ix x hx
          cases e6
          obtain ⟨g7, o7, u7, e7, hc7, hp7⟩ := HA.out.1 iy y hy
          have e7' : g6 = g7 ∧ o6 = o7 := by cases e7; exact ⟨rfl, rfl⟩
          obtain ⟨rfl, rfl⟩ := e7'
          clear e7
          have hc6i := (hbV.cell (block_lt_of_cell hc6)).trans hc6
          have hc7i := (hbV.cell (block_lt_of_cell hc7)).trans hc7
          obtain ⟨b6b, b6o, b6c, rfl, _⟩ := id hp6
          obtain ⟨b7b, b7o, b7c, rfl, _⟩ := id hp7
          have hz0 := And.intro hc6i (And.intro hc7i (Below.refl wr.heap.size wr))
          have HP := Lib.hid (And.intro (hp6.below hbV) (And.intro (hp7.below hbV) (And.intro hbV (And.intro hbr hct))))
          have H51 := Lib.hid (And.intro h51x h51y)
          clear hp6 hp7 hct hgl hfi hc6 hc7 h51x h51y hx hy
          go_wp2_with fail
          clear hi hi1 hi2 hiN
          go_region_held3 (fun W => W.cell? ⟨g6, o6 + ix, none⟩ = some (.slice (some ⟨b6b, b6o, none⟩) n b6c) ∧ W.cell? ⟨g6, o6 + iy, none⟩ = some (.slice (some ⟨b7b, b7o, none⟩) n b7c) ∧ Below wr.heap.size wr W)
            (first
              | with_reducible assumption
              | with_reducible exact hz0
              | exact keep2c hz0 (below_drw (Below.refl _ _))
              | exact keep2c hz0 (below_self_drewN _ _)
              | exact keep2c hz0 b7
              | exact keep2c hz0 b6
              | fail)
            (first
              | (go_at_call 51; (with_reducible refine (H51.out.2 _).mono ?_); rintro e7 w7 ⟨rfl, k2⟩; have b7 : Below wr.heap.size wr w7 := below_trans b6 (below_trans (by first | exact Below.refl _ _ | exact below_drw (Below.refl _ _) | exact below_self_drewN _ _) k2); clear k2)
              | (go_at_call 51; (with_reducible refine (H51.out.1 _).mono ?_); rintro e6 w6 ⟨rfl, k2⟩; have b6 : Below wr.heap.size wr w6 := below_trans (by first | exact Below.refl _ _ | exact below_drw (Below.refl _ _) | exact below_self_drewN _ _) k2; clear k2))
          have hz0' := (HP.out.2.2.1.block Y (Array.getElem?_eq_some_iff.1 H3.out.2.2.2.2.2.2.1).1).trans H3.out.2.2.2.2.2.2.1
          have hz1' := (HP.out.2.2.1.block (Y + 1) (Array.getElem?_eq_some_iff.1 H3.out.2.2.2.2.2.2.2).1).trans H3.out.2.2.2.2.2.2.2
          have HGG := Lib.hid (And.intro (H3.out.2.2.2.2.2.1.1.below HP.out.2.2.1) (And.intro (H3.out.2.2.2.2.2.1.2.below HP.out.2.2.1) (And.intro hz0' hz1')))
          obtain ⟨x0, x1, x2, _⟩ := box_cells hz0'
          obtain ⟨y0, y1, y2, _⟩ := box_cells hz1'
          have hx6 := And.intro (And.intro x0 (And.intro x1 x2)) (And.intro (And.intro y0 (And.intro y1 y2)) (Below.refl wr.heap.size wr))
          obtain ⟨⟨j0, j1, j2⟩, ⟨j3, j4, j5⟩, _⟩ := keep6 hx6 b7
          clear hz0 hz0' hz1' hc6i hc7i hbr hbV
          go_wp2_with (first
            | (go_at_call 34; (with_reducible refine (cnj34 (n := n) (G := CjG (Grp (· ∈ Ls)) x) (p := y) ⟨hn5.1, by omega⟩ (CjG.isG Grp.isG x) K43.out.2.1 (HP.out.2.1.below K43.out.1)).mono ?_); rintro e44 w44 ⟨a44, c44, b44, d44, rfl, k, hg⟩
               obtain ⟨Z44, U44, V44, hY44, hU44, s0, s1, s2, s3, s4, s5, hV44, bw, z⟩ := stB (w := w44) (.int .i64 (n : Int)) (.slice a44 n c44) (.slice b44 n d44)
               obtain ⟨⟨p0, p1, p2⟩, ⟨p3, p4, p5⟩, bj⟩ := keep6 hx6 (below_trans K43.out.1 (below_trans k bw))
               obtain ⟨f440, f441, f442, _⟩ := box_cells z
               have K44 := Lib.hid (And.intro bj (And.intro (((hg [] (by simp)).now).below bw) (And.intro z (below_trans k bw))))
               unfold set3 at hV44
               clear k bw z hg bj)
            | (go_at_call 34; (with_reducible refine (cnj34 (n := n) (G := Grp (· ∈ Ls)) (p := x) ⟨hn5.1, by omega⟩ Grp.isG (HGG.out.2.1.below K42.out.1) (HP.out.1.below K42.out.1)).mono ?_); rintro e43 w43 ⟨a43, c43, b43, d43, rfl, k, hg⟩
               obtain ⟨Z43, U43, V43, hY43, hU43, s0, s1, s2, s3, s4, s5, hV43, bw, z⟩ := stB (w := w43) (.int .i64 (n : Int)) (.slice a43 n c43) (.slice b43 n d43)
               obtain ⟨⟨p0, p1, p2⟩, ⟨p3, p4, p5⟩, bj⟩ := keep6 hx6 (below_trans K42.out.1 (below_trans k bw))
               obtain ⟨f430, f431, f432, _⟩ := box_cells z
               have K43 := Lib.hid (And.intro bj (And.intro (((hg [] (by simp)).now).below bw) (And.intro z (below_trans k bw))))
               unfold set3 at hV43
               clear k bw z hg bj)
            | (go_at_call 36; (with_reducible refine (ctr36 (n := n) (G := Grp (· ∈ Lg)) ⟨hn5.1, by omega⟩ Grp.isG (HGG.out.1.below K41.out.1) (fun O R hc => hc.sz7 (by omega))).mono ?_); rintro e42 w42 ⟨a42, c42, b42, d42, rfl, k, hg⟩
               obtain ⟨Z42, U42, V42, hY42, hU42, s0, s1, s2, s3, s4, s5, hV42, bw, z⟩ := stB (w := w42) (.int .i64 (n : Int)) (.slice a42 n c42) (.slice b42 n d42)
               obtain ⟨⟨p0, p1, p2⟩, ⟨p3, p4, p5⟩, bj⟩ := keep6 hx6 (below_trans K41.out.1 (below_trans k bw))
               obtain ⟨f420, f421, f422, _⟩ := box_cells z
               have K42 := Lib.hid (And.intro bj (And.intro (((hg [] (by simp)).now).below bw) (And.intro z (below_trans k bw))))
               unfold set3 at hV42
               clear k bw z hg bj)
            | (go_at_call 29; (with_reducible refine (core29 (n := n) (G1 := Grp (· ∈ Ls)) (G2 := Grp (· ∈ Lg)) ⟨hn5.1, by omega⟩ Grp.isG Grp.isG (HGG.out.2.1.below b7) (HGG.out.1.below b7) (fun O R hc => hc.sz7 (by omega))).mono ?_); rintro e41 w41 ⟨a41, c41, b41, d41, rfl, k, hg⟩
               obtain ⟨Z41, U41, V41, hY41, hU41, s0, s1, s2, s3, s4, s5, hV41, bw, z⟩ := stB (w := w41) (.int .i64 (n : Int)) (.slice a41 n c41) (.slice b41 n d41)
               obtain ⟨⟨p0, p1, p2⟩, ⟨p3, p4, p5⟩, bj⟩ := keep6 hx6 (below_trans b7 (below_trans k bw))
               obtain ⟨f410, f411, f412, _⟩ := box_cells z
               have K41 := Lib.hid (And.intro bj (And.intro (((hg [] (by simp)).now).below bw) (And.intro z (below_trans k bw))))
               unfold set3 at hV41
               clear k bw z hg bj))
          clear hV41 hV42 hV43 hV44
          obtain ⟨f440', f441', f442', _⟩ := box_cells K44.out.2.2.1
          have hz1' : V44.heap[Y + 1]? = some (.cells #[.int .i64 (n : Int), .slice a4 n cc4, .slice b4 n d4] 25) := (K44.out.1.block (Y + 1) (Array.getElem?_eq_some_iff.1 HGG.out.2.2.2).1).trans HGG.out.2.2.2
          obtain ⟨r0, r1, r2, _⟩ := box_cells (a0 := .int .i64 (n : Int)) (a1 := .slice a4 n cc4) (a2 := .slice b4 n d4) hz1'
          have hz9 := And.intro r0 (And.intro r1 (And.intro r2 (Below.refl V44.heap.size V44)))
          clear hz1'
          go_cut [32, 33] (fun z e wx => e = .int .i64 0 ∧ CorQ n V44 (CjG (Grp (· ∈ Ls)) (x.mul y)) z wx)
          case first =>
            go_region_held3 (fun W => W.cell? ⟨Y + 1, 0, none⟩ = some (.int .i64 (n : Int)) ∧ W.cell? ⟨Y + 1, 1, none⟩ = some (.slice a4 n cc4) ∧ W.cell? ⟨Y + 1, 2, none⟩ = some (.slice b4 n d4) ∧ Below V44.heap.size V44 W)
              (first
                | with_reducible assumption
                | with_reducible exact hz9
                | (refine keep3b hz9 ?_; (repeat' (first | exact Below.refl _ _ | exact b46 | exact b45 | apply below_drw | refine alloc_b ?_ _ | refine Below.setCell ?_ ?_ _ | exact Nat.le_refl _ | exact Nat.le_add_right _ _ | exact b45.size | exact b46.size)); done)
                | fail)
              (first
                | (go_at_call 34; (with_reducible refine (cnj34 (n := n) (G := Grp (· ∈ Ls)) (p := x.mul y) ⟨hn5.1, by omega⟩ Grp.isG (HGG.out.2.1.below (below_trans K44.out.1 (below_trans b45 ?_))) (PmV.below (n45.pm (M := []) (by simp)) ?_)).mono ?_)
                   (repeat' (first | exact Below.refl _ _ | apply below_drw | refine alloc_b ?_ _))
                   rintro e46 w46 ⟨a46, c46, b46', d46, rfl, k1, hg⟩
                   have b4546 : Below w45.heap.size w45 w46 := below_trans (by (repeat' (first | exact Below.refl _ _ | apply below_drw | refine alloc_b ?_ _))) k1
                   have b46 : Below V44.heap.size V44 w46 := below_trans b45 b4546
                   try simp only [drew_size', World.size_alloc] at hg
                   try (have q46 : w46.heap[V44.heap.size]? = some (.cells #[.int .i64 0, .slice none 0 0, .slice none 0 0] 25) := by
                          have h1 := (q45 (by simp)).trans (box_al25 rfl _ _ _)
                          exact (b4546.block _ (Array.getElem?_eq_some_iff.1 h1).1).trans h1
                        obtain ⟨m0, m1, m2, m3, m4, m5⟩ := box_cells q46)
                   try (have q46 : w46.heap[w45.heap.size]? = some (.cells #[.int .i64 0, .slice none 0 0, .slice none 0 0] 25) := (k1.block _ (by simp)).trans (box_al25 rfl _ _ _)
                        obtain ⟨m0, m1, m2, m3, m4, m5⟩ := box_cells q46)
                   have H46 := Lib.hid hg
                   clear hg k1)
                | (go_at_call 49; (with_reducible refine (mul49 (n := n) (by omega) hn5.1 (HP.out.1.below (below_trans K44.out.1 ?_)) (HP.out.2.1.below (below_trans K44.out.1 ?_))).mono ?_)
                   (repeat' (first | exact Below.refl _ _ | apply below_drw | refine alloc_b ?_ _))
                   rintro e45 w45 ⟨v45, rfl, k1, k2⟩
                   have b45 : Below V44.heap.size V44 w45 := below_trans (by (repeat' (first | exact Below.refl _ _ | apply below_drw | refine alloc_b ?_ _))) k2
                   have n45 : NewPm V44 w45 v45 (x.mul y) := NewPm.from k1 (by simp)
                   have q45 := fun h => k2.block V44.heap.size h
                   have l45 := k2.size
                   try simp only [drew_size', World.size_alloc] at l45
                   clear k1 k2))
            all_goals go_wp2_with fail
            all_goals go_meet
            · exact ⟨rfl, corq_new b46 (H46.out [] (by simp))⟩
            · refine ⟨rfl, corq_set b45.size b46 q46 (H46.out [w45.heap.size] ?_)⟩
              intro m hm
              rw [List.mem_singleton.1 hm]
              first | omega | (simp; done) | (simp; omega)
            · refine ⟨rfl, corq_set (Nat.le_refl _) b46 q46 (H46.out [V44.heap.size] ?_)⟩
              intro m hm
              rw [List.mem_singleton.1 hm]
              first | omega | (simp; done) | (simp; omega)
          case rest =>
            obtain ⟨rfl, Z45, a45, c45, b45, d45, rfl, hz45, hg45, hb45⟩ := hcut
            obtain ⟨s0, s1, s2, _⟩ := box_cells hz45
            have K45 := Lib.hid (And.intro hg45 hb45)
            have B4 := below_trans K44.out.1 hb45
            have B3 := below_trans K44.out.2.2.2 hb45
            have B2 := below_trans K43.out.2.2.2 B3
            have B1 := below_trans K42.out.2.2.2 B2
            have KB := Lib.hid (And.intro B1 (And.intro B2 (And.intro B3 (And.intro hb45 B4))))
            have z1 := (B1.block Z41 (Array.getElem?_eq_some_iff.1 K41.out.2.2.1).1).trans K41.out.2.2.1
            have z2 := (B2.block Z42 (Array.getElem?_eq_some_iff.1 K42.out.2.2.1).1).trans K42.out.2.2.1
            have z3 := (B3.block Z43 (Array.getElem?_eq_some_iff.1 K43.out.2.2.1).1).trans K43.out.2.2.1
            have z4 := (hb45.block Z44 (Array.getElem?_eq_some_iff.1 K44.out.2.2.1).1).trans K44.out.2.2.1
            have z0 := (B4.block Y (Array.getElem?_eq_some_iff.1 HGG.out.2.2.1).1).trans HGG.out.2.2.1
            have HZ := Lib.hid (And.intro z0 (And.intro z1 (And.intro z2 (And.intro z3 (And.intro z4 hz45)))))
            have hbx := fun (W : World) (hW : Below wc.heap.size wc W) => box6 hW z0 z1 z2 z3 z4 hz45
            have HX := Lib.hid hbx
            obtain ⟨i0, i1, i2, i3, i4, i5⟩ := hbx wc (Below.refl _ _)
            clear hz45 hg45 hb45 B4 B3 B2 B1 z0 z1 z2 z3 z4 hz9 r0 r1 r2 hbx
            obtain ⟨c00, c01, c02⟩ := i0
            obtain ⟨c10, c11, c12⟩ := i1
            obtain ⟨c20, c21, c22⟩ := i2
            obtain ⟨c30, c31, c32⟩ := i3
            obtain ⟨c40, c41, c42⟩ := i4
            obtain ⟨c50, c51, c52⟩ := i5
            have hcow := (HL1.out.1.below (below_trans HP.out.2.2.2.1 K44.out.1)).below KB.out.2.2.2.1
            have hctw := (HP.out.2.2.2.2.below K44.out.1).below KB.out.2.2.2.1
            have HW := Lib.hid (And.intro hcow hctw)
            clear hcow hctw
            go_wp2_with (first
              | (go_at_call 48; (with_reducible refine (elements48 (n := n) (G := CjG (Grp (· ∈ Ls)) x) hn5 (CjG.isG Grp.isG x) ((K43.out.2.1.below KB.out.2.2.1).below L5.out)).mono ?_); rintro e6 w66 ⟨v66, rfl, ⟨E6, p6, ps6, pm6⟩, k⟩
                 obtain ⟨f6, gg6, rfl, _, _⟩ := pms_at p6
                 have hlen : E6.length = N2 := (cj_card (sorted_nodup H3.out.2.2.2.2.1.2.1) (sorted_nodup ps6) H3.out.2.2.2.2.1.2.2.1 pm6).trans H3.out.2.2.2.2.1.2.2.2
                 rw [hlen]
                 have L6 := Lib.hid (below_trans L5.out k)
                 clear p6 ps6 pm6 hlen k)
              | (go_at_call 31; (with_reducible refine (GrG.same (n := n) (G := CjG (CjG (Grp (· ∈ Ls)) x) y) (G' := CjG (Grp (· ∈ Ls)) (x.mul y)) (CjG.isG (CjG.isG Grp.isG x) y) ((K44.out.2.1.below KB.out.2.2.2.1).below L4.out) (K45.out.1.below L4.out) (cj_two _ x y)).mono ?_); rintro e5 w55 ⟨rfl, k⟩
                 have L5 := Lib.hid (below_trans L4.out k)
                 obtain ⟨⟨c00, c01, c02⟩, ⟨c10, c11, c12⟩, ⟨c20, c21, c22⟩, ⟨c30, c31, c32⟩, ⟨c40, c41, c42⟩, ⟨c50, c51, c52⟩⟩ := HX.out _ L5.out
                 clear k)
              | (go_at_call 47; (with_reducible refine (LstV.same (n := n) (G := CtG (Grp (· ∈ Lg))) hn5.2 L3.out.2 (HW.out.2.below L3.out.1)).mono ?_); rintro e4 w44' ⟨rfl, k⟩
                 have L4 := Lib.hid (below_trans L3.out.1 k)
                 obtain ⟨⟨c00, c01, c02⟩, ⟨c10, c11, c12⟩, ⟨c20, c21, c22⟩, ⟨c30, c31, c32⟩, ⟨c40, c41, c42⟩, ⟨c50, c51, c52⟩⟩ := HX.out _ L4.out
                 clear k)
              | (go_at_call 48; (with_reducible refine (elements48 (n := n) (G := CtG (Grp (· ∈ Lg))) hn5 (CtG.isG Grp.isG) ((K42.out.2.1.below KB.out.2.1).below L2.out)).mono ?_); rintro e3 w33 ⟨v33, rfl, hl, k⟩
                 have L3 := Lib.hid (And.intro (below_trans L2.out k) hl)
                 obtain ⟨⟨c00, c01, c02⟩, ⟨c10, c11, c12⟩, ⟨c20, c21, c22⟩, ⟨c30, c31, c32⟩, ⟨c40, c41, c42⟩, ⟨c50, c51, c52⟩⟩ := HX.out _ L3.out.1
                 clear k hl)
              | (go_at_call 47; (with_reducible refine (LstV.same (n := n) (G := CoG (Grp (· ∈ Ls)) (Grp (· ∈ Lg))) hn5.2 L1.out.2 (HW.out.1.below L1.out.1)).mono ?_); rintro e2 w22 ⟨rfl, k⟩
                 have L2 := Lib.hid (below_trans L1.out.1 k)
                 obtain ⟨⟨c00, c01, c02⟩, ⟨c10, c11, c12⟩, ⟨c20, c21, c22⟩, ⟨c30, c31, c32⟩, ⟨c40, c41, c42⟩, ⟨c50, c51, c52⟩⟩ := HX.out _ L2.out
                 clear k)
              | (go_at_call 48; (with_reducible refine (elements48 (n := n) (G := CoG (Grp (· ∈ Ls)) (Grp (· ∈ Lg))) hn5 (CoG.isG Grp.isG) (K41.out.2.1.below KB.out.1)).mono ?_); rintro e1 w11 ⟨v11, rfl, hl, k⟩
                 have L1 := Lib.hid (And.intro k hl)
                 obtain ⟨⟨c00, c01, c02⟩, ⟨c10, c11, c12⟩, ⟨c20, c21, c22⟩, ⟨c30, c31, c32⟩, ⟨c40, c41, c42⟩, ⟨c50, c51, c52⟩⟩ := HX.out _ k
                 clear k hl))
            go_ret
            exact ⟨rfl, below_trans (below_trans (below_trans (below_trans H3.out.1 HP.out.2.2.1) K44.out.1) KB.out.2.2.2.1) L6.out⟩
end Go.Proofs.YtbejhkojdiadaaaGreat
namespace Go.Proofs.YtbejhkojdiadaaaGreat
open Go.RowKit Go.WideShapes Go.ChangeShapes Go.Deep
theorem Tryz.cells3 : Tryz.prog.cellsOf 3 = 1 := by kernel_rfl
theorem list_choice {α β : Type} {P : α → β → Prop} : ∀ {us : List α}, (∀ u ∈ us, ∃ x, P u x) → ∃ xs : List β, us.length = xs.length ∧ ∀ (i : Nat) u x, us[i]? = some u → xs[i]? = some x → P u x
  | [], _ => ⟨[], rfl, fun i u x h => by simp at h⟩
  | u :: us, h => by
    obtain ⟨x, hx⟩ := h u (by simp)
    obtain ⟨xs, hl, hp⟩ := list_choice (us := us) (fun u' hu => h u' (by simp [hu]))
    refine ⟨x :: xs, by simp [hl], fun i u' x' hu hx' => ?_⟩
    match i, hu, hx' with
    | 0, hu, hx' => simp at hu hx'; subst hu; subst hx'; exact hx
    | i + 1, hu, hx' => exact hp i u' x' (by simpa using hu) (by simpa using hx')
section
variable {H : Type} {enc : TypeId × Value → H}
theorem spot_none {w : World} {a : Addr} {v : Value} (h : w.cell? (a.add 0) = some v) : ∃ b o, a = ⟨b, o, none⟩ := by
  obtain ⟨b, o, s⟩ := a
  have hs : s = none := by simpa [Addr.add] using World.cell?_spot h
  exact ⟨b, o, by rw [hs]⟩
set_option maxRecDepth 100000 in
theorem elems_of {t e : TypeId} (ht : Tryz.prog.underlying t = some (.slice e)) (he : Tryz.prog.cellsOf e = 1) {W : World} {b0 n : Nat} {v : Value} {y : DataW H × List MemPlace} {Q : Value → Prop}
    (hf : DataW.trod enc Tryz.prog W b0 (fun _ => true) true n t [v] = some y) (hQ : ∀ n' u y', DataW.trod enc Tryz.prog W b0 (fun _ => true) true n' e [u] = some y' → Q u) :
    ∃ a c us, v = .slice a (List.length us) c ∧ us.length ≤ c ∧ Row W a us ∧ ∀ u ∈ us, Q u := by
  rcases open_slice ht hf with ⟨hcs0, hx⟩ | ⟨a, len, cap, m, n, D, Pl, hcs0, hb, hl, hm, hmm, hx, hi⟩
  · simp at hcs0
    subst hcs0
    exact ⟨none, 0, [], rfl, Nat.le_refl _, Row.nil, by simp⟩
  · simp at hcs0
    subst hcs0
    simp only [if_true] at hmm
    subst hmm
    rw [he] at hi
    have each : ∀ i, ∃ u, i < len → W.cell? (a.add i) = some u ∧ Q u := fun i => by
      by_cases hlt : i < len
      · obtain ⟨cs, hc, ht'⟩ := hi i (by omega)
        obtain ⟨_, hcl, hat⟩ := World.cells?_some hc
        match cs, hcl, hat, ht' with
        | [u], _, hat, ht' =>
          refine ⟨u, fun _ => ⟨?_, hQ _ u _ ht'⟩⟩
          have := hat 0 (by decide)
          rw [add_of_add, Nat.mul_one, Nat.add_zero] at this
          exact this
      · exact ⟨.bool false, fun h => absurd h hlt⟩
    obtain ⟨f, hfe⟩ := Classical.axiomOfChoice each
    refine ⟨some a, m, (List.range len).map f, by simp, by simpa using hl, ⟨by simp; unfold maxLen at hm ⊢; omega, fun i u hu => ?_⟩, fun u hu => ?_⟩
    · have hlt : i < len := by have := (List.getElem?_eq_some_iff.1 hu).1; simpa using this
      rw [List.getElem?_map, List.getElem?_range hlt] at hu
      cases hu
      obtain ⟨c0, _⟩ := hfe i hlt
      obtain ⟨z0, _⟩ := hfe 0 (by omega)
      obtain ⟨b, o, rfl⟩ := spot_none z0
      rw [add_zero_addr] at c0
      exact ⟨b, o, rfl, block_lt_of_cell c0, c0⟩
    · obtain ⟨i, hi', rfl⟩ := List.mem_map.1 hu
      exact (hfe i (List.mem_range.1 hi')).2
set_option maxRecDepth 100000 in
theorem ints_of_trod {t : TypeId} (ht : Tryz.prog.underlying t = some (.slice 3)) {W : World} {b0 n : Nat} {v : Value} {y : DataW H × List MemPlace} (hf : DataW.trod enc Tryz.prog W b0 (fun _ => true) true n t [v] = some y) :
    ∃ a c l, v = .slice a (List.length l) c ∧ l.length ≤ c ∧ Ints W a l := by
  obtain ⟨a, c, us, rfl, hl, hr, hq⟩ := elems_of (Q := fun u => ∃ x : Int, u = .int .i64 x) ht Tryz.cells3 hf (fun n' u y' h => by
    obtain ⟨x, hx, _, _⟩ := DataW.trod_int Tryz.underlying3 h
    simp at hx
    exact ⟨x, hx⟩)
  obtain ⟨xs, hxl, hp⟩ := list_choice hq
  have he : us = xs.map (Value.int .i64) := by
    refine List.ext_getElem? fun i => ?_
    rw [List.getElem?_map]
    by_cases hi : i < us.length
    · rw [List.getElem?_eq_getElem hi, List.getElem?_eq_getElem (by omega : i < xs.length)]
      exact congrArg some (hp i _ _ (List.getElem?_eq_getElem hi) (List.getElem?_eq_getElem (by omega)))
    · rw [List.getElem?_eq_none (by omega), List.getElem?_eq_none (by omega)]; rfl
  refine ⟨a, c, xs, by rw [hxl], by omega, ?_⟩
  unfold Ints; rw [← he]; exact hr
set_option maxRecDepth 100000 in
theorem open_ints1 {t : TypeId} (ht : Tryz.prog.underlying t = some (.slice 3)) {W : World} {base b0 : Nat} {v : Value} {d : DataW H} {p : List MemPlace} (hv : Value.okWide Tryz.prog W .any base t v) (h : DataW.Trod enc Tryz.prog W b0 (fun _ => true) true t v d p) :
    ∃ a c l, v = .slice a (List.length l) c ∧ Ints W a l := by
  obtain ⟨a0, len, cap, rfl⟩ := okWide_slice ht hv
  obtain ⟨fuel, hf⟩ := h
  obtain ⟨a, c, l, h1, _, h2⟩ := ints_of_trod ht hf
  exact ⟨a, c, l, h1, h2⟩
end
end Go.Proofs.YtbejhkojdiadaaaGreat
