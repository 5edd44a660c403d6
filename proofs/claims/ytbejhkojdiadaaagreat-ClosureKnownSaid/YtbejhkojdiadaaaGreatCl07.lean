/- The tower's least element of a coset. -/
import Derived.Test.YtbejhkojdiadaaaGreatCl01
import Derived.Test.YtbejhkojdiadaaaGreatCl02
import Derived.Test.YtbejhkojdiadaaaGreatCl03
import Derived.Test.YtbejhkojdiadaaaGreatCl04
import Derived.Test.YtbejhkojdiadaaaGreatCl05
import Derived.Test.YtbejhkojdiadaaaGreatProg
import Derived.WalkKit
import Derived.WalkSpells
import Derived.BigQuiet
import Derived.Deep.QuietTactic
import Derived.Deep.LoopGhost
import Derived.Lib.Hide
import Derived.Maps.AppendAt
import Derived.Deep.AppendLies
import Derived.StillTailTactics
import Derived.Laws.CopyOwn
import Derived.Deep.OwnRows
import Derived.Deep.DeepCutAuto
import Derived.Laws.Cover3
import Derived.Deep.RegionHeld3
set_option linter.unusedSimpArgs false
set_option linter.unusedVariables false
namespace Go.Proofs.YtbejhkojdiadaaaGreat
open Go.RowKit PlainPm
set_option maxRecDepth 100000 in
set_option maxHeartbeats 4000000 in
theorem least_calls {n B t G i : Nat} {w : World} {M : List Nat} {T : Tw n} {F : Nat → Value} {x : Pm n} {vx : Value} (hT : TowW n B t G w M T F) (hw : Wf T) (hx : PmV w M vx x) (hi : i < n) :
    Calls Tryz.prog 147 #[.pointer (some ⟨t, 0, none⟩), vx, .int .i64 (i : Int)] w fun e w' => ∃ v, e = .returned v ∧ PmV w' M v (leastT T (n - (i + 1)) (i + 1) x) ∧ Below w.heap.size w w' := by
  have hn := hT.hn.2
  have H := Lib.hid (And.intro hT (And.intro hw hx))
  clear hT hw hx
  go_enter Tryz.func147, Tryz.ntmps147
  go_wp2_with fail
  go_loopw [1, 7] (fun v i' wr => ∃ (k : Nat) (x' : Pm n), k ≤ n ∧ i' = .int .i64 (k : Int) ∧ PmV wr M v x' ∧ Below w.heap.size w wr ∧ leastT T (n - (i + 1)) (i + 1) x = leastT T (n - k) k x') (fun _ i' _ => n - (intOf i').toNat)
  case atStart => exact ⟨i + 1, x, hi, by go_num, H.out.2.2, Below.refl _ _, rfl⟩
  case round =>
    obtain ⟨k, x', hk, rfl, hx', hb, hs⟩ := hrel
    have hT' := H.out.1.below hb
    have t0 := hT'.tb
    have t1 := hT'.tl
    by_cases hkn : k < n
    · have o1 := hT'.orb_ hkn
      have g1 := hT'.cell (c := 1) hkn (by omega)
      have hol := orb_le H.out.2.1 hkn
      obtain ⟨ov, hov⟩ : ∃ ov, F (194 * k + 1) = ov := ⟨_, rfl⟩
      rw [hov] at o1 g1
      rw [show 194 * k + 1 = k * 194 + 1 by omega] at g1
      obtain ⟨oa, oc, hoe, hor⟩ := o1.row (by rw [ints_len, nts_len]; unfold maxLen; omega)
      rw [ints_len, nts_len] at hoe
      obtain ⟨L, hL⟩ : ∃ L, (T k).orb.length = L := ⟨_, rfl⟩
      rw [hL] at hoe hol
      subst hoe
      have hoi : Ints wr oa (nts (T k).orb) := hor
      obtain ⟨bx, ox, cx, rfl, hxm, hxl, hxc⟩ := id hx'
      have HP := Lib.hid (And.intro hT' (And.intro hx' (And.intro hb (And.intro hs (And.intro hL (And.intro hoi hxc))))))
      clear hT' hx' hb hs hL hov o1 hor hoi hxc hxm
      have hk1 : (k : Int) < n := by omega
      go_wp2_with fail
      go_loopw [8, 31] (fun b j wi => ∃ (bb jj q : Nat), jj ≤ L ∧ j = .int .i64 (jj : Int) ∧ b = .int .i64 (bb : Int) ∧ bb < n ∧ bb = best x' ((T k).orb.take jj) k ∧ wi = wr.drewN q) (fun _ j _ => L - (intOf j).toNat)
      case atStart => exact ⟨k, 0, 0, by omega, rfl, rfl, hkn, by rw [List.take_zero]; rfl, rfl⟩
      case round =>
        obtain ⟨bb, jj, qq, hjj, rfl, rfl, hbn, hbb, rfl⟩ := hrel
        have HB := Lib.hid hbb
        clear hbb
        by_cases hjl : jj < L
        · obtain ⟨p, hp⟩ : ∃ p, (T k).orb[jj]? = some p := ⟨_, List.getElem?_eq_getElem (by rw [HP.out.2.2.2.2.1]; exact hjl)⟩
          have hpn : p < n := by
            have w1 := H.out.2.1 k hkn
            obtain ⟨z, hz⟩ := Option.isSome_iff_exists.1 ((w1.orb p).1 (List.mem_of_getElem? hp))
            exact (w1.img p z hz).1
          obtain ⟨ob, oo, hoa, _, oce⟩ := HP.out.2.2.2.2.2.1.at_ (k := jj) (by rw [nts_len, HP.out.2.2.2.2.1]; exact hjl)
          subst hoa
          rw [nts_get (by rw [HP.out.2.2.2.2.1]; exact hjl), hp, Option.getD_some] at oce
          have cp := HP.out.2.2.2.2.2.2 p hpn
          have cb := HP.out.2.2.2.2.2.2 bb hbn
          obtain ⟨r1, hr1⟩ : ∃ r, x'.at p = r := ⟨_, rfl⟩
          obtain ⟨r2, hr2⟩ : ∃ r, x'.at bb = r := ⟨_, rfl⟩
          rw [hr1] at cp
          rw [hr2] at cb
          have hst : best x' ((T k).orb.take (jj + 1)) k = if r1 < r2 then p else bb := by
            rw [List.take_add_one, hp, Option.toList_some, best_snoc, ← HB.out, hr1, hr2]
          have HQ := Lib.hid hst
          clear hst hr1 hr2 hp
          have hp1 : (p : Int) < n := by omega
          have hb1 : (bb : Int) < n := by omega
          have hj1 : (jj : Int) < L := by omega
          by_cases hlt : r1 < r2
          · go_wp2_with fail
            go_quiet (fail)
            go_wp2_with fail
            exact ⟨⟨p, jj + 1, qq + nq, by omega, by go_num, rfl, hpn, by rw [HQ.out, if_pos hlt], rfl⟩, by simp [intOf]; omega⟩
          · go_wp2_with fail
            go_quiet (fail)
            go_wp2_with fail
            exact ⟨⟨bb, jj + 1, qq + nq, by omega, by go_num, rfl, hbn, by rw [HQ.out, if_neg hlt], rfl⟩, by simp [intOf]; omega⟩
        · have hjL : jj = L := by omega
          have hbe : bb = best x' (T k).orb k := by
            rw [HB.out, List.take_of_length_le (by rw [HP.out.2.2.2.2.1]; omega)]
          have hls : leastT T (n - k) k x' = leastT T (n - (k + 1)) (k + 1) (if bb = k then x' else (((T k).to bb).getD (one n)).mul x') := by
            rw [hbe, show n - k = n - (k + 1) + 1 by omega]; rfl
          have hno : ((T k).to bb).isSome = true := by
            obtain ⟨y, h1, _⟩ := least_next H.out.2.1 hkn x'
            rw [hbe, h1]; rfl
          obtain ⟨y, hy⟩ := Option.isSome_iff_exists.1 hno
          rw [hy, Option.getD_some] at hls
          have HL := Lib.hid hls
          clear hls hno hbe
          by_cases hbk : bb = k
          · have hne : ((bb : Int) != (k : Int)) = false := by simp [hbk]
            have hbk' := Lib.hid hbk
            clear hbk
            go_wp2_with fail
            refine ⟨⟨k + 1, x', by omega, by go_num, HP.out.2.1.drewN _, below_drewN HP.out.2.2.1 _, ?_⟩, by simp [intOf]; omega⟩
            rw [HP.out.2.2.2.1, HL.out, if_pos hbk'.out]
          · have hne : ((bb : Int) != (k : Int)) = true := by simp; omega
            have hto := HP.out.1.to_ hkn (p := bb) (by omega)
            have hct := HP.out.1.cell hkn (c := 2 + bb) (by omega)
            rw [hy] at hto
            obtain ⟨f, hf⟩ : ∃ f, F (194 * k + (2 + bb)) = f := ⟨_, rfl⟩
            rw [hf] at hto hct
            rw [show 194 * k + (2 + bb) = k * 194 + 2 + bb by omega] at hct
            have hto : PmV wr M f y := hto
            obtain ⟨fb, fo, fc, rfl⟩ := hto.form
            have HT := Lib.hid (And.intro hto hbk)
            clear hto hf hy hbk
            have hb64 : (bb : Int) < 64 := by omega
            go_wp2_with (go_at_call 161; refine (mul161 hn (HT.out.1.weak.drewN qq) (HP.out.2.1.weak.drewN qq)).mono ?_; rintro e w4 ⟨v4, rfl, k4, k5⟩; have HM := Lib.hid (And.intro k4 k5); clear k4 k5)
            refine ⟨⟨k + 1, y.mul x', by omega, by go_num, ?_, ?_, ?_⟩, by simp [intOf]; omega⟩
            · exact HM.out.1.pm fun m hm => (HP.out.1.mb m hm).2
            · exact below_trans (below_drewN HP.out.2.2.1 qq) HM.out.2
            · rw [HP.out.2.2.2.1, HL.out, if_neg HT.out.2]
    · obtain rfl : k = n := by omega
      have HP := Lib.hid (And.intro hT' (And.intro hx' (And.intro hb hs)))
      clear hT' hx' hb hs
      go_wp2_with fail
      go_ret
      rw [HP.out.2.2.2, Nat.sub_self]
      exact ⟨_, rfl, HP.out.2.1, HP.out.2.2.1⟩
end Go.Proofs.YtbejhkojdiadaaaGreat
