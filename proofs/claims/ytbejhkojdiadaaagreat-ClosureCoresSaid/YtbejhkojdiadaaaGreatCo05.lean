/- The tower's close: each generator is tried at each point of a level's orbit. · The tower of the identity, and a tower built of permutations. · The checks of permutations, of the program and of the reference. · Ranks, elements by rank and least elements in a chain of a group: plain. · A chain in memory, level by level; the sizes of its levels. · Places in lists: slices.IndexFunc, slices.BinarySearch and rank's lowest, with the closures of rank. -/
import Derived.Test.YtbejhkojdiadaaaGreatCo01
import Derived.Test.YtbejhkojdiadaaaGreatCo02
import Derived.Test.YtbejhkojdiadaaaGreatCo03
import Derived.Test.YtbejhkojdiadaaaGreatCo04
import Derived.Test.YtbejhkojdiadaaaGreatProg
import Derived.Deep.RegionHeld3
import Derived.RangeFuncRecord
import Derived.Lib.SlicesSearch
import Derived.WalkKit
import Derived.WalkSpells
import Derived.BigQuiet
import Derived.Deep.QuietTactic
import Derived.Deep.LoopGhost
import Derived.Lib.Hide
import Derived.Maps.AppendAt
import Derived.Deep.AppendLies
import Derived.StillTailTactics
import Derived.Laws.CopyOwn
import Derived.Deep.OwnRows
import Derived.Deep.DeepCutAuto
import Derived.Laws.Cover3
set_option linter.unusedSimpArgs false
set_option linter.unusedVariables false
namespace Go.Proofs.YtbejhkojdiadaaaGreat
open Go.RowKit PlainPm
section
variable {n : Nat}
theorem NewPm.form {w w' : World} {v : Value} {x : Pm n} (h : NewPm w w' v x) : ∃ b c, v = .slice (some ⟨b, 0, none⟩) n c := by
  obtain ⟨b, c, rfl, _⟩ := h; exact ⟨b, c, rfl⟩
def PreL (l : Lv n) (kk : Nat) : Prop := ∀ j q, j < kk → l.orb[j]? = some q → l.tried q = l.gens.length
theorem PreL.step {l l' : Lv n} {kk q : Nat} {e : List Nat} (h : PreL l kk) (hq : l.orb[kk]? = some q) (hnd : l.orb.Nodup) (h1 : l'.orb = l.orb ++ e) (h2 : l'.gens = l.gens) (h3 : ∀ x, x ≠ q → l'.tried x = l.tried x) : PreL l' kk ∧ l'.orb[kk]? = some q := by
  have hl := (List.getElem?_eq_some_iff.1 hq).1
  refine ⟨fun j x hj hx => ?_, by rw [h1, List.getElem?_append_left hl]; exact hq⟩
  rw [h1, List.getElem?_append_left (by omega)] at hx
  have hne : x ≠ q := fun e => by
    subst e
    have := (List.getElem?_inj (i := j) (j := kk) (by omega) hnd).1 (hx.trans hq.symm)
    omega
  rw [h3 x hne, h2]
  exact h j x hj hx
theorem PreL.next {l : Lv n} {kk q : Nat} (h : PreL l kk) (hq : l.orb[kk]? = some q) (ht : l.tried q = l.gens.length) : PreL l (kk + 1) := fun j x hj hx => by
  by_cases e : j = kk
  · subst e; rw [hq] at hx; cases hx; exact ht
  · exact h j x (by omega) hx
theorem PreL.done {T : Tw n} {k kk : Nat} (h : PreL (T k) kk) (hk : (T k).orb.length ≤ kk) : DoneL T k := fun q hq => by
  obtain ⟨j, hj⟩ := List.mem_iff_getElem?.1 hq
  exact h j q (by have := (List.getElem?_eq_some_iff.1 hj).1; omega) hj
theorem orb_le {T : Tw n} (h : Wf T) {k : Nat} (hk : k < n) : (T k).orb.length ≤ n := by
  have w := h k hk
  have := sub_len (l := (T k).orb) (m := List.range n) w.nd (fun p hp => by
    obtain ⟨z, hz⟩ := Option.isSome_iff_exists.1 ((w.orb p).1 hp)
    exact List.mem_range.2 (w.img p z hz).1)
  simpa using this
theorem stepNew_eq (T : Tw n) (k q p : Nat) (y : Pm n) :
    updL (updL (updL T k (stepTry (T k) q)) k (setTo (updL T k (stepTry (T k) q) k) p y)) k (addOrb (updL (updL T k (stepTry (T k) q)) k (setTo (updL T k (stepTry (T k) q) k) p y) k) p) = updL T k (stepNew (T k) q p y) := funext fun j => by
  by_cases e : j = k
  · subst e; simp only [updL_at]; rfl
  · simp only [updL_ne _ _ e]
theorem tried_many (T : Tw n) (k q : Nat) : many (updL T k (stepTry (T k) q)) = many T ∧ ∀ j, (updL T k (stepTry (T k) q) j).gens = (T j).gens := by
  refine ⟨?_, fun j => ?_⟩
  · unfold many
    congr 1
    apply List.map_congr_left
    intro j _
    by_cases e : j = k
    · subst e; rw [updL_at]; rfl
    · rw [updL_ne _ _ e]
  · by_cases e : j = k
    · subst e; rw [updL_at]; rfl
    · rw [updL_ne _ _ e]
theorem fld_addOrb {l : Lv n} {p c : Nat} (hc : c ≠ 1) : fld (addOrb l p) c = fld l c := by
  unfold fld addOrb
  by_cases c0 : c = 0
  · rw [if_pos c0, if_pos c0]
  rw [if_neg c0, if_neg c0, if_neg hc, if_neg hc]
theorem nts_app (l : List Nat) (p : Nat) : ints (nts (l ++ [p])) = ints (nts l) ++ [.int .i64 (p : Int)] := by simp [ints, nts]
theorem TowW.appO {B t G i g cap m p : Nat} {w w6 : World} {M : List Nat} {T : Tw n} {F : Nat → Value} (h : TowW n B t G w M T F) (hi : i < n)
    (hg : w.grownBy w6 (F (194 * i + 1)).ownBlock) (hnew : (F (194 * i + 1)).ownBlock = some g ∨ w.heap.size ≤ g)
    (hown : Own w6 B (.slice (some ⟨g, 0, none⟩) m cap) 3 (ints (nts (T i).orb) ++ [.int .i64 (p : Int)])) :
    TowW n B t G (w6.setCell ⟨G, i * 194 + 1, none⟩ (.slice (some ⟨g, 0, none⟩) m cap)) (g :: M) (updL T i (addOrb (T i) p)) (fun k => if k = 194 * i + 1 then .slice (some ⟨g, 0, none⟩) m cap else F k) ∧
    Stp w M (w6.setCell ⟨G, i * 194 + 1, none⟩ (.slice (some ⟨g, 0, none⟩) m cap)) (g :: M) := by
  have := h.app (i := i) (c0 := 1) (g := g) (cap := cap) (m := m) (l := addOrb (T i) p) (w6 := w6) h.gB hi (by omega) (fun c _ hc => fld_addOrb hc) hg hnew (hown.block_lt rfl).1 (fun w7 M7 k hb => by
      unfold CellOk fld addOrb
      rw [← nts_app] at hown
      exact ownsRow_block hown (fun b e => by cases e; exact hb))
  rw [show 194 * i + 1 = i * 194 + 1 by omega] at this
  rw [show 194 * i + 1 = i * 194 + 1 by omega]
  exact this
end
set_option maxRecDepth 100000 in
set_option maxHeartbeats 4000000 in
theorem close_of_add {n B t G k : Nat} (hk : k < n) (hA : k + 1 < n → AddC n B t G (k + 1)) : CloseC n B t G k := by
  intro w M T F hT hP hlen
  obtain ⟨i3, hi3, hz3, hs3, hb3⟩ := info_parts Tryz.info3
  have I3 := Lib.hid (And.intro hi3 (And.intro hz3 (And.intro hs3 hb3)))
  clear hi3 hz3 hs3 hb3
  have hn := hT.hn.2
  have c1 := hT.tl
  have H := Lib.hid (And.intro hT (And.intro hP hlen))
  have HA := Lib.hid hA
  clear hT hP hlen hA
  have hkn : (k : Int) < n := by omega
  go_enter Tryz.func158, Tryz.ntmps158
  go_wp2_with fail
  go_loopw [5] (fun v wr => ∃ (kk : Nat) (M' : List Nat) (T' : Tw n) (F' : Nat → Value), v = .int .i64 (kk : Int) ∧ TowW n B t G wr M' T' F' ∧ CloseR T k T' ∧ Stp w M wr M' ∧ PreL (T' k) kk ∧ kk ≤ n) (fun v _ => n - (intOf v).toNat)
  case atStart => exact ⟨0, M, T, F, rfl, H.out.1, CloseR.start H.out.2.1, Stp.refl _ _, fun j q hj => by omega, by omega⟩
  case round =>
    obtain ⟨kk, M1, T1, F1, rfl, hT1, hC1, hS1, hL1, hkk⟩ := hrel
    have o1 := hT1.orb_ hk
    have g1 := hT1.cell (c := 1) hk (by omega)
    have hol := orb_le hC1.inv.wf hk
    obtain ⟨L, hL⟩ : ∃ L, (T1 k).orb.length = L := ⟨_, rfl⟩
    obtain ⟨ov, hov⟩ : ∃ ov, F1 (194 * k + 1) = ov := ⟨_, rfl⟩
    rw [hov] at o1 g1
    rw [show 194 * k + 1 = k * 194 + 1 by omega] at g1
    obtain ⟨oa, oc, hoe, hor⟩ := o1.row (by rw [ints_len, nts_len]; unfold maxLen; omega)
    rw [ints_len, nts_len, hL] at hoe
    subst hoe
    by_cases hlt : kk < L
    · obtain ⟨q, hq⟩ : ∃ q, (T1 k).orb[kk]? = some q := ⟨_, List.getElem?_eq_getElem (by omega)⟩
      have hoi : Ints wr oa (nts (T1 k).orb) := hor
      obtain ⟨ob, oo, hoa, _, oce⟩ := hoi.at_ (k := kk) (by rw [nts_len]; omega)
      subst hoa
      rw [nts_get (by omega), hq, Option.getD_some] at oce
      have hqs : (T1 k).to q ≠ none := by
        have := ((hC1.inv.wf k hk).orb q).1 (List.mem_of_getElem? hq)
        intro e; rw [e] at this; cases this
      have hqn : q < n := by
        obtain ⟨z, hz⟩ := Option.ne_none_iff_exists'.1 hqs
        exact ((hC1.inv.wf k hk).img q z hz).1
      have HP := Lib.hid (And.intro hT1 (And.intro hC1 (And.intro hS1 (And.intro hL1 (And.intro hov (And.intro hL hq))))))
      clear hT1 hC1 hS1 hL1 hov hL hq hqs o1 hor hoi
      have hkL : (kk : Int) < L := by omega
      go_wp2_with fail
      go_loopg [9] ((T1 k).gens.length - (T1 k).tried q) (fun gk v wr => ∃ (M' : List Nat) (T' : Tw n) (F' : Nat → Value), TowW n B t G wr M' T' F' ∧ CloseR T k T' ∧ Stp w M wr M' ∧ PreL (T' k) kk ∧ (T' k).orb[kk]? = some q ∧ gk = (T' k).gens.length - (T' k).tried q)
      case atStart => exact ⟨M1, T1, F1, HP.out.1, HP.out.2.1, HP.out.2.2.1, HP.out.2.2.2.1, HP.out.2.2.2.2.2.2, rfl⟩
      case round =>
        obtain ⟨M2, T2, F2, hT2, hC2, hS2, hL2, hq2, hgk⟩ := hrel
        have wl := hC2.inv.wf k hk
        have hgb : (T2 k).gens.length < 1000000 := by
          have h1 := hC2.ext.pot k
          have h2 := H.out.2.2 k
          have h3 := many_le hC2.inv.wf
          have h4 : n * n ≤ 64 * 64 := Nat.mul_le_mul hn hn
          omega
        obtain ⟨gs, hgs, hpl⟩ := hT2.gens_ hk
        have g0 := hT2.cell (c := 0) hk (by omega)
        have gt := hT2.cell (c := 130 + q) hk (by omega)
        rw [hT2.tried_ hk (by omega), show 194 * k + (130 + q) = k * 194 + 130 + q by omega] at gt
        obtain ⟨gv, hgv⟩ : ∃ gv, F2 (194 * k) = gv := ⟨_, rfl⟩
        rw [show 194 * k + 0 = 194 * k by omega, hgv, show 194 * k = k * 194 by omega] at g0
        rw [hgv] at hgs
        obtain ⟨ga, gc, hge, hgr⟩ := hgs.row (by have := hpl.1; unfold maxLen; omega)
        rw [hpl.1] at hge
        obtain ⟨R, hR⟩ : ∃ R, (T2 k).gens.length = R := ⟨_, rfl⟩
        obtain ⟨tq, htq⟩ : ∃ tq, (T2 k).tried q = tq := ⟨_, rfl⟩
        rw [hR] at hge hgb hgk
        rw [htq] at gt hgk
        subst hge
        have htl : tq ≤ R := by rw [← hR, ← htq]; exact wl.tl q
        have hq64 : (q : Int) < 64 := by omega
        have HQ := Lib.hid (And.intro hT2 (And.intro hC2 (And.intro hS2 (And.intro hL2 (And.intro hq2 (And.intro hR (And.intro htq (And.intro hgv (And.intro hpl (And.intro hgs wl))))))))))
        clear hT2 hC2 hS2 hL2 hq2 hR htq hgv hpl hgs wl
        by_cases hlt2 : tq < R
        · have hgd : decide ((tq : Int) < (R : Int)) = true := by simp; omega
          obtain ⟨s, hs⟩ : ∃ s, (T2 k).gens[tq]? = some s := ⟨_, List.getElem?_eq_getElem (by rw [HQ.out.2.2.2.2.2.1]; omega)⟩
          obtain ⟨sv, hsv, hsp⟩ := HQ.out.2.2.2.2.2.2.2.2.1.2 tq s hs
          obtain ⟨gb, go, hga, _, gcell⟩ := hgr.2 tq sv hsv
          subst hga
          obtain ⟨sb, so, sc, rfl⟩ := hsp.form
          have HSS := Lib.hid (And.intro hs (And.intro hsp hsv))
          have hgr' := Lib.hid hgr
          clear hs hsp hsv hgr
          have hRt : (tq : Int) < (R : Int) := by omega
          have ft := HQ.out.1.row.frozen (k * 194 + 130 + q)
          go_wp2_with fail
          go_quiet (fail)
          revert nq
          intro n1
          go_wp2_with fail
          go_quiet (fail)
          go_wp2_with fail
          go_region
          obtain ⟨V, hV⟩ : ∃ V, (wr.drewN (n1 + nq + 1)).setCell ⟨G, k * 194 + 130 + q, none⟩ (.int .i64 ((tq : Int) + 1)) = V := ⟨_, rfl⟩
          rw [hV]
          obtain ⟨T3, hT3⟩ : ∃ T3, updL T2 k (stepTry (T2 k) q) = T3 := ⟨_, rfl⟩
          obtain ⟨F3, hTV⟩ : ∃ F3, TowW n B t G V M2 T3 F3 := by
            have h3 := (HQ.out.1.below (below_drewN_self wr (n1 + nq + 1))).setTried hk (q := q) (by omega)
            rw [HQ.out.2.2.2.2.2.2.1, show 194 * k + (130 + q) = k * 194 + 130 + q by omega, show ((tq + 1 : Nat) : Int) = (tq : Int) + 1 by omega, hV, hT3] at h3
            exact ⟨_, h3⟩
          have hSV : Stp wr M2 V M2 := by
            have h3 := (HQ.out.1.below (below_drewN_self wr (n1 + nq + 1))).stored (k * 194 + 130 + q) (.int .i64 ((tq : Int) + 1))
            rw [hV] at h3
            exact (Stp.below (below_drewN_self wr (n1 + nq + 1))).trans h3
          have e3 : T3 k = stepTry (T2 k) q := by rw [← hT3, updL_at]
          obtain ⟨yq, hyq⟩ : ∃ yq, (T2 k).to q = some yq := by
            have := (HQ.out.2.2.2.2.2.2.2.2.2.2.orb q).1 (List.mem_of_getElem? HQ.out.2.2.2.2.1)
            exact Option.isSome_iff_exists.1 this
          have oq := hTV.to_ hk (p := q) (by omega)
          have cq := hTV.cell hk (c := 2 + q) (by omega)
          rw [e3, show (stepTry (T2 k) q).to q = (T2 k).to q from rfl, hyq] at oq
          obtain ⟨fq, hfq⟩ : ∃ fq, F3 (194 * k + (2 + q)) = fq := ⟨_, rfl⟩
          rw [hfq] at oq cq
          rw [show 194 * k + (2 + q) = k * 194 + 2 + q by omega] at cq
          have oq : PmV V M2 fq yq := oq
          obtain ⟨y, hy⟩ : ∃ y, yq.mul s = y := ⟨_, rfl⟩
          obtain ⟨p, hp⟩ : ∃ p, y.at k = p := ⟨_, rfl⟩
          have hpn : p < n := by rw [← hp]; exact y.lt hk
          have hmul := mul161 hn oq.weak (HSS.out.2.1.stp hSV).weak
          rw [hy] at hmul
          have op := hTV.to_ hk (p := p) (by omega)
          have cp := hTV.cell hk (c := 2 + p) (by omega)
          rw [e3, show (stepTry (T2 k) q).to p = (T2 k).to p from rfl] at op
          obtain ⟨fp, hfp⟩ : ∃ fp, F3 (194 * k + (2 + p)) = fp := ⟨_, rfl⟩
          rw [hfp] at op cp
          rw [show 194 * k + (2 + p) = k * 194 + 2 + p by omega] at cp
          obtain ⟨bq, ofq, cfq, rfl⟩ := oq.form
          have HV := Lib.hid (And.intro hTV (And.intro hSV (And.intro hyq (And.intro hy (And.intro hp (And.intro hmul (And.intro e3 hT3)))))))
          have Hfp := Lib.hid hfp
          clear hV hTV hSV hyq hy hp hmul e3 hT3 hfq hfp oq gt g0 gcell ft hgd hlt2
          have hp64 : (p : Int) < 64 := by omega
          cases hto : (T2 k).to p with
          | none =>
            rw [hto] at op
            have hfn : fp = .slice none 0 0 := op
            subst hfn
            have he : ∀ W, (binOp .eql 27 (.slice none 0 0) (.slice none 0 0)).run Tryz.prog W = .ok (.bool true) W := fun W => eql_nil27 W none 0 0
            have Hto := Lib.hid hto
            clear hto op
            go_wp2_with (go_at_call 161; refine HV.out.2.2.2.2.2.1.mono ?_; rintro e w4 ⟨v4, rfl, k4, k5⟩; obtain ⟨yb, yc, rfl, k6, k7, k8⟩ := id k4; have cy := k8 k hk; rw [HV.out.2.2.2.2.1] at cy; have cp4 := (k5.cell (p := ⟨G, k * 194 + 2 + p, none⟩) HV.out.1.row.lt).trans cp; have H4 := Lib.hid (And.intro k4 k5); clear k4 k5 k6 k7 k8)
            obtain ⟨fb, hfb⟩ : ∃ fb, F3 (194 * k + (66 + p)) = fb := ⟨_, rfl⟩
            have HFB := Lib.hid hfb
            clear hfb
            have hinv := Lib.hid (fun W (hw : PmV W [] (.slice (some ⟨yb, 0, none⟩) n yc) y) => inv173 (w := W) hn hw)
            have HT4 := Lib.hid (HV.out.1.below H4.out.2)
            have hp2 : 2 + p < 194 := by omega
            have hp66 : 66 + p < 194 := by omega
            have hpa : 194 * k + (2 + p) = k * 194 + 2 + p := by omega
            have hpb : 194 * k + (66 + p) = k * 194 + 66 + p := by omega
            have hne : k * 194 + 2 + p ≠ k * 194 + 66 + p := by omega
            have hyv : PmV w4 M2 (.slice (some ⟨yb, 0, none⟩) n yc) y := H4.out.1.pm (fun m hm => (HV.out.1.mb m hm).2)
            have Hyv := Lib.hid hyv
            clear hyv
            go_region_with (first
              | (go_at_call 173; refine (hinv.out _ (Hyv.out.weak.below (by first | exact Below.refl _ _ | exact below_self_drewN _ _))).mono ?_; rintro e w5 ⟨v5, rfl, k4, k5⟩; obtain ⟨ib, ic, rfl⟩ := k4.form; have h5 := (HT4.out.below (by first | exact Below.refl _ _ | exact below_self_drewN _ _)).below k5; have cpw5 := h5.cell hk (c := 2 + p) hp2; rw [Hfp.out, hpa] at cpw5; have cb5 := h5.cell hk (c := 66 + p) hp66; rw [HFB.out, hpb] at cb5; have fr1 := h5.row.frozen (k * 194 + 2 + p); have fr2 := h5.row.frozen (k * 194 + 66 + p); have H5 := Lib.hid (And.intro k4 (And.intro h5 k5)); clear k4 k5 h5))
            obtain ⟨V6, hV6⟩ : ∃ V6, (w5.setCell ⟨G, k * 194 + 2 + p, none⟩ (.slice (some ⟨yb, 0, none⟩) n yc)).setCell ⟨G, k * 194 + 66 + p, none⟩ (.slice (some ⟨ib, 0, none⟩) n ic) = V6 := ⟨_, rfl⟩
            rw [hV6]
            obtain ⟨T5, hT5⟩ : ∃ T5, updL T3 k (setTo (T3 k) p y) = T5 := ⟨_, rfl⟩
            obtain ⟨F5, hTV6, hSV6⟩ : ∃ F5, TowW n B t G V6 M2 T5 F5 ∧ Stp V M2 V6 M2 := by
              have h3 := H5.out.2.1.put2 hk (p := p) (by omega) ((Hyv.out.below (by first | exact Below.refl _ _ | exact below_self_drewN _ _)).below H5.out.2.2) (H5.out.1.pm (fun m hm => (HT4.out.mb m hm).2))
              rw [hpa, hpb, hV6, hT5] at h3
              exact ⟨_, h3.1, (Stp.below H4.out.2).trans ((Stp.below (by first | exact Below.refl _ _ | exact below_self_drewN _ _)).trans ((Stp.below H5.out.2.2).trans h3.2))⟩
            have e5 : (T5 k).orb = (T2 k).orb := by rw [← hT5, updL_at, HV.out.2.2.2.2.2.2.1]; rfl
            have o5 := hTV6.orb_ hk
            have g5 := hTV6.cell hk (c := 1) (by omega)
            have gf5 := hTV6.row.frozen (k * 194 + 1)
            rw [e5] at o5
            obtain ⟨ov5, hov5⟩ : ∃ ov5, F5 (194 * k + 1) = ov5 := ⟨_, rfl⟩
            rw [hov5] at o5 g5
            rw [show 194 * k + 1 = k * 194 + 1 by omega] at g5
            have hb5 : (F5 (194 * k + 1)).ownBlock ≠ some G := fun e => (hTV6.blk k 1 hk (by omega) G e).2 rfl
            have hB5 := hTV6.gB
            obtain ⟨L5, hL5⟩ : ∃ L5, (ints (nts (T2 k).orb)).length = L5 := ⟨_, rfl⟩
            have hl5 : L5 < 1099511627776 := by
              rw [← hL5, ints_len, nts_len]
              have := orb_le HQ.out.2.1.inv.wf hk
              omega
            have HW := Lib.hid (And.intro hTV6 (And.intro hSV6 (And.intro hT5 (And.intro o5 (And.intro hov5 (And.intro hL5 hb5))))))
            clear hV6 hTV6 hSV6 hT5 o5 hov5 e5 hL5 hb5 cpw5 cb5 fr1 fr2 cp4 cy he hpa hpb hne
            go_wp2_with (at_builtin; refine app1f rfl (.tmp 102) (.tmp 104) 26 3 rfl i3 (.int .i64 0) 8 Tryz.underlying26 I3.out.1 I3.out.2.1 I3.out.2.2.1 I3.out.2.2.2 rfl (by omega) B (.int .i64 (p : Int)) ov5 (ints (nts (T2 k).orb)) L5 rfl HW.out.2.2.2.1 rfl rfl HW.out.2.2.2.2.2.1 hl5 hB5 ?_; intro G8 cap8 w8 k1 k2 k3 k4 k5; have g8 : w8.cell? ⟨G, k * 194 + 1, none⟩ = some ov5 := (World.cell?_of_block (w := V6) (a := ⟨G, k * 194 + 1, none⟩) (k2.block G HW.out.1.row.lt (fun e => HW.out.2.2.2.2.2.2 (by rw [HW.out.2.2.2.2.1]; exact e.symm)))).trans g5; have gf8 : w8.frozen? ⟨G, k * 194 + 1, none⟩ = false := (World.frozen?_of_block (w := V6) (a := ⟨G, k * 194 + 1, none⟩) (k2.block G HW.out.1.row.lt (fun e => HW.out.2.2.2.2.2.2 (by rw [HW.out.2.2.2.2.1]; exact e.symm)))).trans gf5; have H8 := Lib.hid (And.intro k1 (And.intro k2 k3)); clear k1 k2 k3 k4 k5)
            have hq9 := HW.out.1.appO (p := p) hk (by rw [HW.out.2.2.2.2.1]; exact H8.out.2.1) (by rw [HW.out.2.2.2.2.1]; exact H8.out.2.2) (by rw [← HW.out.2.2.1, updL_at, HV.out.2.2.2.2.2.2.1]; exact H8.out.1)
            have hT6 := stepNew_eq T2 k q p y
            rw [HV.out.2.2.2.2.2.2.2, HW.out.2.2.1] at hT6
            rw [hT6] at hq9
            have hC9 := HQ.out.2.1.new hk HV.out.2.2.1 (by rw [HQ.out.2.2.2.2.2.2.1]; exact HSS.out.1) HV.out.2.2.2.1.symm HV.out.2.2.2.2.1 Hto.out
            have hP9 := HQ.out.2.2.2.1.step (l' := stepNew (T2 k) q p y) (e := [p]) HQ.out.2.2.2.2.1 HQ.out.2.2.2.2.2.2.2.2.2.2.nd rfl rfl (fun x hx => if_neg hx)
            go_roundg (R - (tq + 1))
            case measure => omega
            case rel =>
              refine ⟨_, _, _, hq9.1, hC9, HQ.out.2.2.1.trans (HV.out.2.1.trans (HW.out.2.1.trans hq9.2)), ?_, ?_, ?_⟩
              · rw [updL_at]; exact hP9.1
              · rw [updL_at]; exact hP9.2
              · rw [updL_at]
                have h1 : (stepNew (T2 k) q p y).tried q = tq + 1 := by rw [← HQ.out.2.2.2.2.2.2.1]; exact if_pos rfl
                have h2 : (stepNew (T2 k) q p y).gens.length = R := HQ.out.2.2.2.2.2.1
                rw [h1, h2]
          | some z =>
            rw [hto] at op
            have op : PmV V M2 fp z := op
            obtain ⟨zb, zo, zc, rfl⟩ := op.form
            have he : ∀ W, (binOp .eql 27 (.slice (some ⟨zb, zo, none⟩) n zc) (.slice none 0 0)).run Tryz.prog W = .ok (.bool false) W := fun W => eql_nil27 W _ _ _
            have oby := HV.out.1.by_ hk (p := p) (by omega)
            have cby := HV.out.1.cell hk (c := 66 + p) (by omega)
            rw [HV.out.2.2.2.2.2.2.1, show (stepTry (T2 k) q).to p = (T2 k).to p from rfl, hto] at oby
            obtain ⟨fb, hfb⟩ : ∃ fb, F3 (194 * k + (66 + p)) = fb := ⟨_, rfl⟩
            rw [hfb] at oby cby
            rw [show 194 * k + (66 + p) = k * 194 + 66 + p by omega] at cby
            have oby : PmV V M2 fb z.inv := oby
            obtain ⟨ib, io, ic, rfl⟩ := oby.form
            have hpre := AddPre.ofTry HQ.out.2.1 hk HV.out.2.2.1 (by rw [HQ.out.2.2.2.2.2.2.1]; exact HSS.out.1) HV.out.2.2.2.1.symm HV.out.2.2.2.2.1 hto
            have hold := fun T5 => CloseR.old (T2 := T5) HQ.out.2.1 hk HV.out.2.2.1 (by rw [HQ.out.2.2.2.2.2.2.1]; exact HSS.out.1) HV.out.2.2.2.1.symm HV.out.2.2.2.2.1 hto
            rw [HV.out.2.2.2.2.2.2.2] at hpre hold
            have c0 := HV.out.1.tb
            have hP9 := HQ.out.2.2.2.1.step (l' := stepTry (T2 k) q) (e := []) HQ.out.2.2.2.2.1 HQ.out.2.2.2.2.2.2.2.2.2.2.nd (by rw [List.append_nil]; rfl) rfl (fun x hx => if_neg hx)
            have hfin : ∀ (T5 : Tw n), T5 k = stepTry (T2 k) q → PreL (T5 k) kk ∧ (T5 k).orb[kk]? = some q ∧ R - (tq + 1) = (T5 k).gens.length - (T5 k).tried q := fun T5 h5 => by
              rw [h5]
              refine ⟨hP9.1, hP9.2, ?_⟩
              have h1 : (stepTry (T2 k) q).tried q = tq + 1 := by rw [← HQ.out.2.2.2.2.2.2.1]; exact if_pos rfl
              have h2 : (stepTry (T2 k) q).gens.length = R := HQ.out.2.2.2.2.2.1
              rw [h1, h2]
            have Hto := Lib.hid (And.intro hto (And.intro oby (And.intro hpre (And.intro hold hfin))))
            clear hto op oby hpre hold hfb hP9 hfin
            by_cases hkl : k + 1 < n
            · have hkd : (k : Int) + 1 < n := by omega
              have hlen3 : ∀ j, (T3 j).gens.length ≤ many T3 + (k + 1) := fun j => by
                have h1 := tried_many T2 k q
                rw [HV.out.2.2.2.2.2.2.2] at h1
                rw [h1.1, h1.2 j]
                have h2 := HQ.out.2.1.ext.pot j
                have h3 := H.out.2.2 j
                omega
              have HL3 := Lib.hid hlen3
              clear hlen3
              go_wp2_with (first
                | (go_at_call 161; refine hm5.out.mono ?_; rintro e w5 ⟨v5, rfl, k4, k5⟩; have H5 := Lib.hid (And.intro k4 k5); have hadd := Lib.hid (HA.out hkl w5 M2 T3 F3 _ v5 ((HV.out.1.below H4.out.2).below k5) Hto.out.2.2.1 HL3.out (k4.pm (fun m hm => Nat.lt_of_lt_of_le (HV.out.1.mb m hm).2 H4.out.2.size))); clear k4 k5)
                | (go_at_call 161; refine HV.out.2.2.2.2.2.1.mono ?_; rintro e w4 ⟨v4, rfl, k4, k5⟩; obtain ⟨yb, yc, rfl, k6, k7, k8⟩ := id k4; have cy := k8 k hk; rw [HV.out.2.2.2.2.1] at cy; have cp4 := (k5.cell (p := ⟨G, k * 194 + 2 + p, none⟩) HV.out.1.row.lt).trans cp; have cby4 := (k5.cell (p := ⟨G, k * 194 + 66 + p, none⟩) HV.out.1.row.lt).trans cby; have c04 := (k5.cell (p := ⟨t, 0, none⟩) HV.out.1.tm.2).trans c0; have H4 := Lib.hid (And.intro k4 k5); have hm5 := Lib.hid (mul161 (w := w4) hn (k4.pm (M := []) (by simp)) (Hto.out.2.1.below k5).weak); clear k4 k5 k6 k7 k8)
                | (go_at_call 144; refine hadd.out.mono ?_; rintro e w6 ⟨rfl, M6, T6, F6, k1, k2, k3⟩; have H6 := Lib.hid (And.intro k1 (And.intro k2 k3)); clear k1 k2 k3))
              go_roundg (R - (tq + 1))
              case measure => omega
              case rel =>
                have h5 : T6 k = stepTry (T2 k) q := (H6.out.2.1.ext.low k (by omega)).trans HV.out.2.2.2.2.2.2.1
                exact ⟨M6, T6, F6, H6.out.1, Hto.out.2.2.2.1 _ H6.out.2.1, HQ.out.2.2.1.trans (HV.out.2.1.trans ((Stp.below H4.out.2).trans ((Stp.below H5.out.2).trans H6.out.2.2))), Hto.out.2.2.2.2 T6 h5⟩
            · have hkd : ¬ (k : Int) + 1 < n := by omega
              go_wp2_with (first
                | (go_at_call 161; refine HV.out.2.2.2.2.2.1.mono ?_; rintro e w4 ⟨v4, rfl, k4, k5⟩; obtain ⟨yb, yc, rfl, k6, k7, k8⟩ := id k4; have cy := k8 k hk; rw [HV.out.2.2.2.2.1] at cy; have cp4 := (k5.cell (p := ⟨G, k * 194 + 2 + p, none⟩) HV.out.1.row.lt).trans cp; have c04 := (k5.cell (p := ⟨t, 0, none⟩) HV.out.1.tm.2).trans c0; have H4 := Lib.hid (And.intro k4 k5); clear k4 k5 k6 k7 k8))
              go_roundg (R - (tq + 1))
              case measure => omega
              case rel =>
                exact ⟨M2, T3, F3, HV.out.1.below H4.out.2, Hto.out.2.2.2.1 _ (AddPost.last Hto.out.2.2.1 (by omega)), HQ.out.2.2.1.trans (HV.out.2.1.trans (Stp.below H4.out.2)), Hto.out.2.2.2.2 T3 HV.out.2.2.2.2.2.2.1⟩
        · have hgd : decide ((tq : Int) < (R : Int)) = false := by simp; omega
          have htR : tq = R := by omega
          have HR := Lib.hid htR
          clear htR
          go_wp2_with fail
          go_quiet (fail)
          go_wp2_with fail
          have hkn2 : kk < n := by have := HP.out.2.2.2.2.2.1; omega
          refine ⟨⟨kk + 1, M2, T2, F2, by go_num, HQ.out.1.below (below_drewN_self _ _), HQ.out.2.1, HQ.out.2.2.1.trans (Stp.below (below_drewN_self _ _)), HQ.out.2.2.2.1.next HQ.out.2.2.2.2.1 (by rw [HQ.out.2.2.2.2.2.2.1, HR.out, HQ.out.2.2.2.2.2.1]), by omega⟩, by simp [intOf]; omega⟩
    · have HP := Lib.hid (And.intro hT1 (And.intro hC1 (And.intro hS1 (And.intro hL1 hL))))
      clear hT1 hC1 hS1 hL1 hL hov o1 hor
      have hkL : ¬ (kk : Int) < L := by omega
      go_wp2_with fail
      go_end0
      exact ⟨rfl, M1, T1, ⟨F1, HP.out.1⟩, HP.out.2.1, HP.out.2.2.2.1.done (by rw [HP.out.2.2.2.2]; omega), HP.out.2.2.1⟩
theorem add_close {n B t G : Nat} : ∀ (f i : Nat), i < n → n - i ≤ f → AddC n B t G i
  | 0, i, hi, hf => by omega
  | f + 1, i, hi, hf => add_of_close hi fun k hik hkn => close_of_add hkn fun h => add_close f (k + 1) h (by omega)
end Go.Proofs.YtbejhkojdiadaaaGreat
namespace Go.Proofs.YtbejhkojdiadaaaGreat
open Go.RowKit PlainPm
def lvZero : List Value := List.replicate 130 (.slice none 0 0) ++ List.replicate 64 (.int .i64 0)
theorem Tryz.info161 : (Tryz.prog.info? 161).map (fun i => (i.zero, i.size, i.bytes)) = some (some (.agg lvZero.toArray), 194, 3632) := by kernel_rfl
def lvF (c : Nat) : Value := if c % 194 < 130 then .slice none 0 0 else .int .i64 0
theorem lvZero_get {c : Nat} (h : c < 194) : lvZero[c]? = some (if c < 130 then .slice none 0 0 else .int .i64 0) := by
  unfold lvZero
  by_cases hc : c < 130
  · rw [List.getElem?_append_left (by simpa using hc), List.getElem?_replicate, if_pos hc, if_pos hc]
  · rw [List.getElem?_append_right (by simpa using hc), List.getElem?_replicate, List.length_replicate, if_pos (by omega), if_neg hc]
theorem made_lv (n : Nat) {c : Nat} (h : c < n * 194) : (madeCells (Value.agg lvZero.toArray).cells (n * 194))[c]? = some (lvF c) := by
  have hs : lvZero.toArray.size = 194 := by rw [List.size_toArray]; unfold lvZero; rw [List.length_append, List.length_replicate, List.length_replicate]
  have hm : c % 194 < 194 := Nat.mod_lt _ (by omega)
  have hg := lvZero_get hm
  unfold madeCells lvF
  rw [show (Value.agg lvZero.toArray).cells = lvZero.toArray from rfl, hs]
  rw [Array.getElem?_map, Array.getElem?_range]
  rw [if_pos h]
  simp only [Option.map_some]
  rw [← hg, getElem!_def]
  simp [hg]
def preT (n k : Nat) : Tw n := fun i => if i < k then tower0 n i else ⟨[], [], fun _ => none, fun _ => 0⟩
theorem heap_new0 (w : World) (o : Obj) : (w.alloc o).heap.size = w.heap.size + 1 := World.size_alloc ..
theorem TowW.congr {n B t G : Nat} {w : World} {M : List Nat} {T T' : Tw n} {F : Nat → Value} (h : TowW n B t G w M T F) (e : ∀ i, i < n → T i = T' i) : TowW n B t G w M T' F :=
  ⟨h.hn, h.tb, h.tl, h.tm, h.row, h.gm, h.mb, fun i c hi hc => by rw [← e i hi]; exact h.cells i c hi hc, h.blk, h.dis⟩
theorem tow_start {n B t G : Nat} {w : World} (hn : 0 < n ∧ n ≤ 64) (hB : B ≤ G) (ht : G < t) (htw : t < w.heap.size) (h1 : w.heap[G]? = some (.cells (madeCells (Value.agg lvZero.toArray).cells (n * 194)) 161))
    (t0 : w.cell? ⟨t, 0, none⟩ = some (.int .i64 (n : Int))) (t1 : w.cell? ⟨t, 1, none⟩ = some (.slice (some ⟨G, 0, none⟩) n n)) : TowW n B t G w [G] (preT n 0) lvF := by
  have hmod : ∀ i c, c < 194 → (194 * i + c) % 194 = c := fun i c hc => by omega
  have hl : ∀ i c, c < 130 → lvF (194 * i + c) = .slice none 0 0 := fun i c hc => by
    unfold lvF; rw [hmod i c (by omega), if_pos hc]
  refine ⟨hn, t0, t1, ⟨by simp; omega, htw⟩, ⟨_, h1, size_madeCells _ _, fun i hi => made_lv n hi⟩, by simp, fun m hm => ?_, fun i c hi hc => ?_, fun i c hi hc g hg => ?_, fun i c j d hi hc hj hd g hg => ?_⟩
  · rw [List.mem_singleton.1 hm]; omega
  · unfold CellOk fld preT
    rw [if_neg (by omega : ¬ i < 0)]
    by_cases c0 : c = 0
    · rw [if_pos c0, if_pos c0, hl i c (by omega)]
      exact ⟨[], Own.nil _ _ _, rfl, fun k s hs => by simp at hs⟩
    rw [if_neg c0, if_neg c0]
    by_cases c1 : c = 1
    · rw [if_pos c1, if_pos c1, hl i c (by omega)]
      exact Own.nil _ _ _
    rw [if_neg c1, if_neg c1]
    by_cases c2 : c < 66
    · rw [if_pos c2, if_pos c2, hl i c (by omega)]; rfl
    rw [if_neg c2, if_neg c2]
    by_cases c3 : c < 130
    · rw [if_pos c3, if_pos c3, hl i c c3]; rfl
    rw [if_neg c3, if_neg c3]
    unfold lvF
    rw [hmod i c hc, if_neg c3]; rfl
  · rw [hl i c (by omega)] at hg; cases hg
  · rw [hl i c (by omega)] at hg; cases hg
theorem heap_new (w : World) (o : Obj) : (w.alloc o).heap[w.heap.size]? = some o := by
  show (w.heap.push o)[w.heap.size]? = some o
  simp
theorem preT_step (n k : Nat) : updL (updL (preT n k) k (addOrb (preT n k k) k)) k (setTo (updL (preT n k) k (addOrb (preT n k k) k) k) k (PlainPm.one n)) = preT n (k + 1) := funext fun j => by
  by_cases e : j = k
  · subst e
    rw [updL_at, updL_at]
    unfold preT setTo addOrb tower0
    simp
  · rw [updL_ne _ _ e, updL_ne _ _ e]
    unfold preT
    by_cases h : j < k
    · rw [if_pos h, if_pos (by omega)]
    · rw [if_neg h, if_neg (by omega)]
set_option maxRecDepth 100000 in
set_option maxHeartbeats 4000000 in
theorem newTower_calls {n : Nat} (hn : 0 < n ∧ n ≤ 64) {w : World} :
    Calls Tryz.prog 143 #[.int .i64 (n : Int)] w fun e w' => ∃ t G M F, e = .returned (.pointer (some ⟨t, 0, none⟩)) ∧ TowW n w.heap.size t G w' M (tower0 n) F ∧ Below w.heap.size w w' := by
  obtain ⟨il, hi, hz, hs, hb⟩ := info_parts Tryz.info161
  have hmk := run_make (P := Tryz.prog) w 151 161 il (.agg lvZero.toArray) Tryz.underlying151 hi hz .i64 .i64 n n (by omega) (Int.le_refl _) (by rw [hb]; omega) (by omega)
  rw [hs] at hmk
  simp only [Int.toNat_natCast] at hmk
  clear hi hz hs hb il
  obtain ⟨A, hA⟩ : ∃ A, madeCells (Value.agg lvZero.toArray).cells (n * 194) = A := ⟨_, rfl⟩
  rw [hA] at hmk
  have HA := Lib.hid hA
  clear hA
  have hn1 := hn.2
  go_enter Tryz.func143, Tryz.ntmps143
  go_wp2_with fail
  obtain ⟨W0, hW0⟩ : ∃ W0, (w.alloc (.cells A 161)).alloc (.cells #[.int .i64 (n : Int), .slice (some ⟨w.heap.size, 0, none⟩) n n] 153) = W0 := ⟨_, rfl⟩
  rw [hW0]
  have hT0 : TowW n w.heap.size (w.heap.size + 1) w.heap.size W0 [w.heap.size] (preT n 0) lvF := by
    have hs1 : (w.alloc (.cells A 161)).heap.size = w.heap.size + 1 := heap_new0 _ _
    have hs2 : W0.heap.size = w.heap.size + 2 := by rw [← hW0, heap_new0, hs1]
    have h2 : W0.heap[w.heap.size + 1]? = some (.cells #[.int .i64 (n : Int), .slice (some ⟨w.heap.size, 0, none⟩) n n] 153) := by
      rw [← hW0, ← hs1]; exact heap_new _ _
    refine tow_start hn (Nat.le_refl _) (by omega) (by omega) ?_ ?_ ?_
    · rw [HA.out, ← hW0, Below.heap_alloc _ _ _ (by omega)]
      exact heap_new w _
    · simp [World.cell?, h2]
    · simp [World.cell?, h2]
  have hb0 : Below w.heap.size w W0 := by
    rw [← hW0]
    exact ((Below.refl _ w).alloc (Nat.le_refl _) _).alloc (by simp) _
  have H0 := Lib.hid (And.intro hT0 (And.intro hb0 hW0))
  clear hT0 hb0 hW0 hmk
  generalize hG : w.heap.size = G at *
  generalize ht : G + 1 = t at *
  have HG := Lib.hid (And.intro hG ht)
  clear hG ht
  go_loopw [16] (fun v wr => ∃ (k : Nat) (M : List Nat) (F : Nat → Value), k ≤ n ∧ v = .int .i64 (k : Int) ∧ TowW n G t G wr M (preT n k) F ∧ Stp W0 [G] wr M) (fun v _ => n - (intOf v).toNat)
  case atStart => exact ⟨0, [G], lvF, by omega, rfl, H0.out.1, Stp.refl _ _⟩
  case round =>
    obtain ⟨k, M, F, hk, rfl, hT, hS⟩ := hrel
    by_cases hkn : k < n
    · have t1 := hT.tl
      have g1 := hT.cell hkn (c := 1) (by omega)
      have gf := hT.row.frozen (k * 194 + 1)
      rw [show 194 * k + 1 = k * 194 + 1 by omega] at g1
      have hGw := hT.row.lt
      have htw := hT.tm.2
      have hGn : G ≠ wr.heap.size := by omega
      have htn : t ≠ wr.heap.size := by omega
      obtain ⟨ov, hov⟩ : ∃ ov, F (k * 194 + 1) = ov := ⟨_, rfl⟩
      rw [hov] at g1
      have ha := hT.appO (i := k) (p := k) (g := wr.heap.size) (m := 1) (cap := 1) (w6 := wr.alloc (.cells #[.int .i64 (k : Int)] 3)) hkn (grown_alloc _ _ _) (.inr (Nat.le_refl _)) (by
        have : (preT n k k).orb = [] := by unfold preT; rw [if_neg (by omega)]
        rw [this]
        exact Own.new 3 [.int .i64 (k : Int)] hT.gB (by unfold maxLen; simp))
      rw [World.setCell_alloc_past (hn := hGw)] at ha
      have ha := ha
      obtain ⟨V, hV⟩ : ∃ V, (wr.setCell ⟨G, k * 194 + 1, none⟩ (.slice (some ⟨wr.heap.size, 0, none⟩) 1 1)).alloc (.cells #[.int .i64 (k : Int)] 3) = V := ⟨_, rfl⟩
      have HP := Lib.hid (And.intro hT (And.intro hS (And.intro ha hV)))
      clear hT hS ha hov
      have hk1 : (k : Int) < n := by omega
      have hk64 : (k : Int) < 64 := by omega
      go_wp2_with fail
      obtain ⟨F2, hTV, hSV⟩ : ∃ F2, TowW n G t G V (wr.heap.size :: M) (updL (preT n k) k (addOrb (preT n k k) k)) F2 ∧ Stp wr M V (wr.heap.size :: M) := by
        have := HP.out.2.2.1
        rw [HP.out.2.2.2] at this
        exact ⟨_, this⟩
      obtain ⟨fp, hfp⟩ : ∃ fp, F2 (194 * k + (2 + k)) = fp := ⟨_, rfl⟩
      obtain ⟨fb, hfb⟩ : ∃ fb, F2 (194 * k + (66 + k)) = fb := ⟨_, rfl⟩
      have HV := Lib.hid (And.intro hTV (And.intro hSV (And.intro hfp hfb)))
      clear hTV hSV hfp hfb t1 g1 gf hGw htw hGn htn
      have hp2 : 2 + k < 194 := by omega
      have hp66 : 66 + k < 194 := by omega
      have hpa : 194 * k + (2 + k) = k * 194 + 2 + k := by omega
      have hpb : 194 * k + (66 + k) = k * 194 + 66 + k := by omega
      have hne : k * 194 + 2 + k ≠ k * 194 + 66 + k := by omega
      go_region_with (first
        | (go_at_call 156; refine (H5.out.2.2).mono ?_; rintro e w6 ⟨v6, rfl, k4, k5⟩; obtain ⟨jb, jc, rfl⟩ := k4.form; have h5 := H5.out.2.1.below k5; have cpw5 := h5.cell hkn (c := 2 + k) hp2; rw [HV.out.2.2.1, hpa] at cpw5; have cb5 := h5.cell hkn (c := 66 + k) hp66; rw [HV.out.2.2.2, hpb] at cb5; have fr1 := h5.row.frozen (k * 194 + 2 + k); have fr2 := h5.row.frozen (k * 194 + 66 + k); have H6 := Lib.hid (And.intro k4 (And.intro h5 k5)); clear k4 k5 h5)
        | (go_at_call 156; refine (one156 hn1).mono ?_; rintro e w5 ⟨v5, rfl, k4, k5⟩; obtain ⟨ib, ic, rfl⟩ := k4.form; have h5 := (HV.out.1.below (by first | exact Below.refl _ _ | exact below_self_drewN _ _)).below k5; have H5 := Lib.hid (And.intro k4 (And.intro h5 (one156 (w := w5) hn1))); have K5 := Lib.hid k5; clear k4 k5 h5))
      have hfin := H6.out.2.1.put2 hkn (p := k) (y := PlainPm.one n) (by omega) (H5.out.1.pm (M := wr.heap.size :: M) (fun m hm => (HV.out.1.mb m hm).2) |>.below H6.out.2.2) (by rw [Pm.inv_one]; exact H6.out.1.pm (fun m hm => (H5.out.2.1.mb m hm).2))
      rw [hpa, hpb, preT_step] at hfin
      go_wp2
      exact ⟨⟨k + 1, _, _, by omega, by go_num, hfin.1, HP.out.2.1.trans (HV.out.2.1.trans ((Stp.below (by first | exact K5.out | exact below_trans (below_self_drewN _ _) K5.out)).trans ((Stp.below H6.out.2.2).trans hfin.2)))⟩, by simp [intOf]; omega⟩
    · obtain rfl : k = n := by omega
      have HP := Lib.hid (And.intro hT hS)
      clear hT hS
      go_wp2_with fail
      go_ret
      rw [HG.out.1]
      exact ⟨t, G, M, F, rfl, HP.out.1.congr fun i hi => if_pos hi, H0.out.2.1.trans (HP.out.2.kept.below (by have := H0.out.2.1.size; have := HG.out.1; omega) (by simp))⟩
def PmsV {n : Nat} (w : World) (M : List Nat) (v : Value) (l : List (Pm n)) : Prop :=
  ∃ a c vs, v = .slice a l.length c ∧ Row w a vs ∧ PmL w M vs l
theorem PmsV.below {n : Nat} {w w' : World} {v : Value} {l : List (Pm n)} (h : PmsV w [] v l) (hb : Below w.heap.size w w') : PmsV w' [] v l := by
  obtain ⟨a, c, vs, rfl, h1, h2⟩ := h
  exact ⟨a, c, vs, rfl, h1.below hb, h2.stp (Stp.below hb)⟩
theorem PmV.fresh {n : Nat} {w w' : World} {M : List Nat} {v : Value} {x : Pm n} (h : PmV w [] v x) (hb : Below w.heap.size w w') (hM : ∀ m ∈ M, w.heap.size ≤ m) : PmV w' M v x := by
  obtain ⟨b, o, c, rfl, _, h2, h3⟩ := h
  exact ⟨b, o, c, rfl, fun hm => by have := hM b hm; omega, Nat.lt_of_lt_of_le h2 hb.size, fun i hi => (hb.cell (p := ⟨b, o + i, none⟩) h2).trans (h3 i hi)⟩
set_option maxRecDepth 100000 in
set_option maxHeartbeats 1000000 in
theorem build_calls {n : Nat} (hn : 0 < n ∧ n ≤ 64) {w : World} {v : Value} {l : List (Pm n)} (hl : l.length ≤ 1000000) (hv : PmsV w [] v l) :
    Calls Tryz.prog 103 #[.int .i64 (n : Int), v] w fun e w' => ∃ t G M T F, e = .returned (.pointer (some ⟨t, 0, none⟩)) ∧ TowW n w.heap.size t G w' M T F ∧ Built l T ∧ Below w.heap.size w w' := by
  obtain ⟨a, c, vs, rfl, hr, hp⟩ := hv
  have H := Lib.hid (And.intro hr hp)
  clear hr hp
  obtain ⟨L, hL⟩ : ∃ L, l.length = L := ⟨_, rfl⟩
  have hL0 := Lib.hid hL
  rw [hL] at hl ⊢
  clear hL
  go_enter Tryz.func103, Tryz.ntmps103
  go_wp2_with (go_at_call 143; refine (newTower_calls hn).mono ?_; rintro e w1 ⟨t, G, M, F, rfl, k1, k2⟩; have H1 := Lib.hid (And.intro k1 k2); clear k1 k2)
  go_loopw [12] (fun v wr => ∃ (k : Nat) (M' : List Nat) (T : Tw n) (F' : Nat → Value), k ≤ L ∧ v = .int .i64 (k : Int) ∧ TowW n w.heap.size t G wr M' T F' ∧ Built (l.take k) T ∧ Below w.heap.size w wr) (fun v _ => L - (intOf v).toNat)
  case atStart => exact ⟨0, M, _, F, by omega, rfl, H1.out.1, by rw [List.take_zero]; exact Built.start, H1.out.2⟩
  case round =>
    obtain ⟨k, M1, T1, F1, hk, rfl, hT, hB, hb⟩ := hrel
    by_cases hkl : k < L
    · obtain ⟨x, hx⟩ : ∃ x, l[k]? = some x := ⟨_, List.getElem?_eq_getElem (by rw [hL0.out]; exact hkl)⟩
      obtain ⟨u, hu, hpm⟩ := H.out.2.2 k x hx
      obtain ⟨ab, ao, hae, _, hac⟩ := (H.out.1.below hb).2 k u hu
      subst hae
      have hpm2 := hpm.fresh hb (fun m hm => (hT.mb m hm).1)
      obtain ⟨ub, uo, uc, rfl⟩ := hpm.form
      have hadd := add_close (B := w.heap.size) (t := t) (G := G) n 0 hn.1 (by omega) wr M1 T1 F1 x _ hT (hB.pre x) (fun j => by
        have := hB.ext.pot j
        have h0 : ((tower0 n) j).gens.length = 0 := rfl
        omega) hpm2
      have hs : l.take (k + 1) = l.take k ++ [x] := by rw [List.take_add_one, hx]; rfl
      have HP := Lib.hid (And.intro hT (And.intro hB (And.intro hb (And.intro hadd hs))))
      clear hT hB hb hadd hs hpm hpm2 hx hu
      have hk1 : (k : Int) < L := by omega
      go_wp2_with (go_at_call 144; refine HP.out.2.2.2.1.mono ?_; rintro e w4 ⟨rfl, M4, T4, F4, k1, k2, k3⟩; have H4 := Lib.hid (And.intro k1 (And.intro k2 k3)); clear k1 k2 k3)
      refine ⟨⟨k + 1, M4, T4, F4, by omega, by go_num, H4.out.1, ?_, ?_⟩, by simp [intOf]; omega⟩
      · rw [HP.out.2.2.2.2]; exact HP.out.2.1.snoc H4.out.2.1
      · exact HP.out.2.2.1.trans (H4.out.2.2.kept.below HP.out.2.2.1.size (fun m hm => (HP.out.1.mb m hm).1))
    · have hkL : k = L := by omega
      subst hkL
      rw [← hL0.out, List.take_length] at hB
      have HP := Lib.hid (And.intro hT (And.intro hB hb))
      clear hT hB hb
      go_wp2_with fail
      go_ret
      exact ⟨t, G, M1, T1, F1, rfl, HP.out.1, HP.out.2.1, HP.out.2.2⟩
end Go.Proofs.YtbejhkojdiadaaaGreat
namespace Go.Proofs.YtbejhkojdiadaaaGreat
open Go.RowKit PlainPm
def okFrom (n : Nat) : List Int → List Int → Bool
  | _, [] => true
  | seen, x :: r => decide (0 ≤ x) && decide (x < n) && !(seen.contains x) && okFrom n (x :: seen) r
def fine (p : List Int) : Bool := okFrom p.length [] p
def chkPerm (p : List Int) : Int := if p.length < 1 ∨ 64 < p.length then 2 else if fine p then 0 else 3
theorem okFrom_iff (n : Nat) : ∀ (r seen : List Int), okFrom n seen r = true ↔ (∀ x ∈ r, 0 ≤ x ∧ x < n) ∧ r.Nodup ∧ ∀ x ∈ r, x ∉ seen
  | [], seen => by simp [okFrom]
  | x :: r, seen => by
    rw [okFrom]
    simp only [Bool.and_eq_true, decide_eq_true_eq, Bool.not_eq_true', List.contains_eq_mem, decide_eq_false_iff_not]
    rw [okFrom_iff n r (x :: seen)]
    simp only [List.mem_cons, List.nodup_cons, forall_eq_or_imp]
    constructor
    · rintro ⟨⟨⟨h1, h2⟩, h3⟩, h4, h5, h6⟩
      exact ⟨⟨⟨h1, h2⟩, h4⟩, ⟨fun hx => h6 x hx (.inl rfl), h5⟩, h3, fun y hy hs => h6 y hy (.inr hs)⟩
    · rintro ⟨⟨⟨h1, h2⟩, h4⟩, ⟨h5, h6⟩, h3, h7⟩
      exact ⟨⟨⟨h1, h2⟩, h3⟩, h4, h6, fun y hy => by rintro (rfl | hs); exact h5 hy; exact h7 y hy hs⟩
theorem okFrom_step {n : Nat} {p : List Int} {k : Nat} (hk : k < p.length) : okFrom n (p.take k).reverse (p.drop k) =
    (decide (0 ≤ p[k]?.getD 0) && decide (p[k]?.getD 0 < n) && !((p.take k).contains (p[k]?.getD 0)) && okFrom n (p.take (k + 1)).reverse (p.drop (k + 1))) := by
  rw [List.drop_eq_getElem_cons hk, okFrom, List.getElem?_eq_getElem hk, Option.getD_some, List.take_add_one, List.getElem?_eq_getElem hk, Option.toList_some, List.reverse_append]
  simp
def Seen (w : World) (Z : Nat) (l : List Int) : Prop := Z < w.heap.size ∧ ∀ j : Nat, j < 64 → w.cell? ⟨Z, j, none⟩ = some (.bool (l.contains (j : Int))) ∧ w.frozen? ⟨Z, j, none⟩ = false
theorem Seen.new {w : World} {cs : Array Value} {T : TypeId} (h : cs.toList = List.replicate 64 (Value.bool false)) : Seen (w.alloc (.cells cs T)) w.heap.size [] := by
  have hs : cs.size = 64 := by rw [← Array.length_toList, h, List.length_replicate]
  have hh := heap_new w (.cells cs T)
  refine ⟨?_, fun j hj => ?_⟩
  · rcases Nat.lt_or_ge w.heap.size (w.alloc (.cells cs T)).heap.size with hl | hl
    · exact hl
    · rw [Array.getElem?_eq_none hl] at hh; cases hh
  have hg : cs[j]? = some (.bool false) := by rw [← Array.getElem?_toList, h, List.getElem?_replicate, if_pos hj]
  constructor
  · unfold World.cell?
    simp only [hh]
    exact hg
  · unfold World.frozen?
    simp only [hh]
    simp
theorem Seen.put {w : World} {Z : Nat} {l : List Int} (h : Seen w Z l) (x : Nat) (hx : x < 64) : Seen (w.setCell ⟨Z, x, none⟩ (.bool true)) Z (l ++ [(x : Int)]) := by
  refine ⟨by simp [World.setCell]; exact h.1, fun j hj => ⟨?_, (World.frozen?_setCell _ _ _ _).trans (h.2 j hj).2⟩⟩
  by_cases e : j = x
  · subst e
    rw [World.cell?_setCell_same _ _ _ (h.2 j hj).1]
    simp
  · rw [World.cell?_setCell_other _ _ _ _ (by intro e'; simp only [Addr.mk.injEq] at e'; omega), (h.2 j hj).1]
    have : ¬ (j : Int) = (x : Int) := by omega
    simp [this]
def chkFine (p : List Int) : Int := if fine p then 0 else 3
theorem chkFine_yes {p : List Int} (h : fine p = true) : 0 = chkFine p := by unfold chkFine; rw [h]; rfl
theorem chkFine_no {p : List Int} (h : fine p = false) : 3 = chkFine p := by unfold chkFine; rw [h]; rfl
set_option maxHeartbeats 2000000 in
theorem perm_calls {w : World} {a : Option Addr} {c : Nat} {p : List Int} (h : Ints w a p) :
    Calls Tryz.prog 92 #[.slice a p.length c] w fun e w' => e = .returned (.int .i64 (chkPerm p)) ∧ Below w.heap.size w w' := by
  have hm := h.len
  have H := Lib.hid h
  obtain ⟨n, hn⟩ : ∃ n, p.length = n := ⟨_, rfl⟩
  have hcp : chkPerm p = if n < 1 ∨ 64 < n then 2 else chkFine p := by unfold chkPerm chkFine; rw [hn]
  rw [hcp]
  rw [hn] at hm ⊢
  have Hn := Lib.hid hn
  clear h hn hcp
  by_cases h1 : n < 1
  · rw [if_pos (.inl h1)]
    go_enter Tryz.func92, Tryz.ntmps92
    go_wp2
    go_ret
    exact ⟨rfl, Below.refl _ _⟩
  by_cases h2 : 64 < n
  · rw [if_pos (.inr h2)]
    go_enter Tryz.func92, Tryz.ntmps92
    go_wp2
    go_ret
    exact ⟨rfl, Below.refl _ _⟩
  rw [if_neg (by omega)]
  go_enter Tryz.func92, Tryz.ntmps92
  go_wp2
  go_loopw [16] (fun i wr => ∃ k : Nat, k ≤ n ∧ i = .int .i64 (k : Int) ∧ Seen wr w.heap.size (p.take k) ∧ Below w.heap.size w wr ∧ fine p = okFrom n (p.take k).reverse (p.drop k)) (fun i _ => n - (intOf i).toNat)
  case atStart =>
    exact ⟨0, Nat.zero_le _, rfl, Seen.new rfl, (Below.refl _ _).alloc (Nat.le_refl _) _, by unfold fine; rw [Hn.out]; rfl⟩
  case round =>
    obtain ⟨k, hk, rfl, hs, hb, hf⟩ := hrel
    by_cases hlt : k < n
    · obtain ⟨b, o, rfl, hbl, hc⟩ := H.out.at_ (k := k) (by rw [Hn.out]; exact hlt)
      have hst := okFrom_step (n := n) (p := p) (k := k) (by rw [Hn.out]; exact hlt)
      replace hc := (hb.cell (p := ⟨b, o + k, none⟩) hbl).trans hc
      obtain ⟨x, hx⟩ : ∃ x, p[k]?.getD 0 = x := ⟨_, rfl⟩
      have htk : p.take (k + 1) = p.take k ++ [x] := by
        rw [← hx, List.take_add_one, List.getElem?_eq_getElem (by rw [Hn.out]; exact hlt)]; rfl
      rw [hx] at hst hc
      by_cases hx0 : 0 ≤ x
      · obtain ⟨y, rfl⟩ : ∃ y : Nat, x = (y : Int) := ⟨x.toNat, by omega⟩
        by_cases hxn : (y : Int) < n
        · obtain ⟨hcy, hfy⟩ := hs.2 y (by omega)
          cases hsn : (p.take k).contains (y : Int)
          · rw [hsn] at hcy
            have hY : decide ((y : Int) < n) = true := by simpa using hxn
            have H2 := Lib.hid (And.intro hs (And.intro hb (And.intro hf (And.intro hst (And.intro htk hsn)))))
            clear hs hb hf hst htk hx hsn
            go_wp2
            go_roundw
            case rel =>
              refine ⟨k + 1, by omega, by go_num, ?_, H2.out.2.1.setCell (Nat.le_refl _) _, ?_⟩
              · rw [H2.out.2.2.2.2.1]; exact H2.out.1.put y (by omega)
              · rw [H2.out.2.2.1, H2.out.2.2.2.1, H2.out.2.2.2.2.2]; simp [hxn]
            case measure => simp [intOf]; omega
          · rw [hsn] at hcy
            have hz : fine p = false := by rw [hf, hst, hsn]; simp
            have H2 := Lib.hid (And.intro hb hz)
            clear hs hb hf hst htk hx hsn hz
            go_wp2
            go_ret
            exact ⟨ret_int (chkFine_no H2.out.2), H2.out.1⟩
        · have hz : fine p = false := by rw [hf, hst]; simp [hxn]
          have H2 := Lib.hid (And.intro hb hz)
          clear hs hb hf hst htk hx hz
          go_wp2
          go_ret
          exact ⟨ret_int (chkFine_no H2.out.2), H2.out.1⟩
      · have hz : fine p = false := by rw [hf, hst]; simp [hx0]
        have H2 := Lib.hid (And.intro hb hz)
        clear hs hb hf hst htk hx hz
        go_wp2
        go_ret
        exact ⟨ret_int (chkFine_no H2.out.2), H2.out.1⟩
    · have : k = n := by omega
      subst this
      have hz : fine p = true := by rw [hf, List.drop_of_length_le (by rw [Hn.out]; exact Nat.le_refl _)]; rfl
      have H2 := Lib.hid (And.intro hb hz)
      clear hs hb hf hz
      go_wp2
      go_ret
      exact ⟨ret_int (chkFine_yes H2.out.2), H2.out.1⟩

theorem Tryz.info4 : (Tryz.prog.info? 4).map (fun i => (i.zero, i.size, i.bytes)) = some (some (.bool false), 1, 1) := by kernel_rfl
def flags (n : Nat) (l : List Int) : List Value := (List.range n).map fun j : Nat => Value.bool (l.contains (j : Int))
theorem flags_len (n : Nat) (l : List Int) : (flags n l).length = n := by simp [flags]
theorem flags_nil (n : Nat) : List.replicate n (Value.bool false) = flags n [] := by
  unfold flags
  apply List.ext_getElem?
  intro i
  by_cases h : i < n
  · simp [h]
  · simp [h]
theorem flags_get {n : Nat} {l : List Int} {j : Nat} (h : j < n) : (flags n l)[j]? = some (.bool (l.contains (j : Int))) := by
  unfold flags; simp [h]
theorem flags_set {n : Nat} {l : List Int} {j : Nat} : (flags n l).set j (.bool true) = flags n (l ++ [(j : Int)]) := by
  apply List.ext_getElem?
  intro i
  by_cases hi : i < n
  · by_cases hij : j = i
    · subst hij
      rw [List.getElem?_set_self (by rw [flags_len]; exact hi), flags_get hi]; simp
    · rw [List.getElem?_set_ne hij, flags_get hi, flags_get hi]
      have : ¬ (i : Int) = (j : Int) := by omega
      simp [this]
  · rw [List.getElem?_eq_none (by rw [List.length_set, flags_len]; omega), List.getElem?_eq_none (by rw [flags_len]; omega)]
set_option maxRecDepth 100000 in
set_option maxHeartbeats 2000000 in
theorem fine_calls {w : World} {a : Option Addr} {c : Nat} {p : List Int} (h : Ints w a p) (h0 : 1 ≤ p.length) (h64 : p.length ≤ 64) :
    Calls Tryz.prog 126 #[.slice a p.length c, .int .i64 (p.length : Int)] w fun e w' => e = .returned (.bool (fine p)) ∧ Below w.heap.size w w' := by
  have H := Lib.hid h
  obtain ⟨n, hn⟩ : ∃ n, p.length = n := ⟨_, rfl⟩
  rw [hn] at h0 h64 ⊢
  have Hn := Lib.hid hn
  obtain ⟨i4, hi4, hz4, hs4, hb4⟩ := info_parts Tryz.info4
  have I4 := Lib.hid (And.intro hi4 (And.intro hz4 (And.intro hs4 hb4)))
  clear h hn hi4 hz4 hs4 hb4
  go_enter Tryz.func126, Tryz.ntmps126
  go_wp2_with (refine mk1 rfl (.tmp 11) (.tmp 11) 166 4 rfl i4 (.bool false) 1 Tryz.underlying166 I4.out.1 I4.out.2.1 I4.out.2.2.1 I4.out.2.2.2 rfl (by omega) w.heap.size n rfl rfl (by omega) (Nat.le_refl _) ?_; intro w1 h2 h3 h4; rw [flags_nil] at h2; have H1 := Lib.hid (And.intro h2 (And.intro h3 (Nat.le_of_eq h4.symm))); clear h2 h3 h4)
  go_loopw [6] (fun i wr => ∃ k : Nat, k ≤ n ∧ i = .int .i64 (k : Int) ∧ Own wr w.heap.size (.slice (some ⟨w.heap.size, 0, none⟩) n n) 4 (flags n (p.take k)) ∧ w1.grownBy wr (some w.heap.size) ∧ fine p = okFrom n (p.take k).reverse (p.drop k)) (fun i _ => n - (intOf i).toNat)
  case atStart =>
    exact ⟨0, Nat.zero_le _, rfl, H1.out.1, World.grownBy.refl w1 _, by unfold fine; rw [Hn.out]; rfl⟩
  case round =>
    obtain ⟨k, hk, rfl, hs, hg, hf⟩ := hrel
    have hb : Below w.heap.size w wr := ⟨hg.os.trans H1.out.2.1.os, hg.tape.trans H1.out.2.1.tape, hg.output.trans H1.out.2.1.output, Nat.le_trans H1.out.2.1.size hg.size, fun b hb => (hg.block b (Nat.lt_of_lt_of_le hb H1.out.2.1.size) (fun e => by cases e; omega)).trans (H1.out.2.1.block b hb (by simp))⟩
    by_cases hlt : k < n
    · obtain ⟨b, o, rfl, hbl, hc⟩ := H.out.at_ (k := k) (by rw [Hn.out]; exact hlt)
      have hst := okFrom_step (n := n) (p := p) (k := k) (by rw [Hn.out]; exact hlt)
      replace hc := (hb.cell (p := ⟨b, o + k, none⟩) hbl).trans hc
      obtain ⟨x, hx⟩ : ∃ x, p[k]?.getD 0 = x := ⟨_, rfl⟩
      have htk : p.take (k + 1) = p.take k ++ [x] := by
        rw [← hx, List.take_add_one, List.getElem?_eq_getElem (by rw [Hn.out]; exact hlt)]; rfl
      rw [hx] at hst hc
      by_cases hx0 : 0 ≤ x
      · obtain ⟨y, rfl⟩ : ∃ y : Nat, x = (y : Int) := ⟨x.toNat, by omega⟩
        by_cases hxn : (y : Int) < n
        · have hcy := hs.cell y (by rw [flags_len]; omega)
          rw [flags_get (by omega)] at hcy
          have hfy := hs.frozen y
          cases hsn : (p.take k).contains (y : Int)
          · rw [hsn] at hcy
            have hput := hs.put y (.bool true)
            rw [flags_set, ← htk] at hput
            have hY : decide ((y : Int) < n) = true := by simpa using hxn
            have hz : fine p = okFrom n (p.take (k + 1)).reverse (p.drop (k + 1)) := by
              rw [hf, hst, hsn]; simp [hxn]
            have H2 := Lib.hid (And.intro hput (And.intro hg hz))
            clear hs hb hf hst htk hx hsn hput hg hz
            go_wp2
            go_roundw
            case rel =>
              exact ⟨k + 1, by omega, by go_num, H2.out.1, H2.out.2.1.trans (grown_put y _), H2.out.2.2⟩
            case measure => simp [intOf]; omega
          · rw [hsn] at hcy
            have hz : fine p = false := by rw [hf, hst, hsn]; simp
            have H2 := Lib.hid (And.intro hb hz)
            clear hs hb hf hst htk hx hsn hz hg
            go_wp2
            go_ret
            exact ⟨ret_bool H2.out.2.symm, H2.out.1⟩
        · have hz : fine p = false := by rw [hf, hst]; simp [hxn]
          have H2 := Lib.hid (And.intro hb hz)
          clear hs hb hf hst htk hx hz hg
          go_wp2
          go_ret
          exact ⟨ret_bool H2.out.2.symm, H2.out.1⟩
      · have hz : fine p = false := by rw [hf, hst]; simp [hx0]
        have H2 := Lib.hid (And.intro hb hz)
        clear hs hb hf hst htk hx hz hg
        go_wp2
        go_ret
        exact ⟨ret_bool H2.out.2.symm, H2.out.1⟩
    · have : k = n := by omega
      subst this
      have hz : fine p = true := by rw [hf, List.drop_of_length_le (by rw [Hn.out]; exact Nat.le_refl _)]; rfl
      have H2 := Lib.hid (And.intro hb hz)
      clear hs hb hf hz hg
      go_wp2
      go_ret
      exact ⟨ret_bool H2.out.2.symm, H2.out.1⟩
set_option maxHeartbeats 2000000 in
theorem rperm_calls {w : World} {a : Option Addr} {c : Nat} {p : List Int} (h : Ints w a p) :
    Calls Tryz.prog 91 #[.slice a p.length c] w fun e w' => e = .returned (.int .i64 (chkPerm p)) ∧ Below w.heap.size w w' := by
  have hm := h.len
  have hfc := fun h0 h64 => fine_calls (c := c) h h0 h64
  obtain ⟨n, hn⟩ : ∃ n, p.length = n := ⟨_, rfl⟩
  have hcp : chkPerm p = if n < 1 ∨ 64 < n then 2 else chkFine p := by unfold chkPerm chkFine; rw [hn]
  rw [hcp]
  rw [hn] at hm hfc ⊢
  clear h hn hcp
  by_cases h1 : n < 1
  · rw [if_pos (.inl h1)]
    clear hfc
    go_enter Tryz.func91, Tryz.ntmps91
    go_wp2
    go_ret
    exact ⟨rfl, Below.refl _ _⟩
  by_cases h2 : 64 < n
  · rw [if_pos (.inr h2)]
    clear hfc
    go_enter Tryz.func91, Tryz.ntmps91
    go_wp2
    go_ret
    exact ⟨rfl, Below.refl _ _⟩
  rw [if_neg (by omega)]
  have hfc := hfc (by omega) (by omega)
  cases hF : fine p
  · rw [hF] at hfc
    have hz := chkFine_no hF
    rw [← hz]
    have HF := Lib.hid hfc
    clear hfc hF hz
    go_enter Tryz.func91, Tryz.ntmps91
    go_wp2_with (go_at_call 126; refine HF.out.mono ?_; rintro e w1 ⟨rfl, hb1⟩; have HB1 := Lib.hid hb1; clear hb1)
    go_ret
    exact ⟨rfl, HB1.out⟩
  · rw [hF] at hfc
    have hz := chkFine_yes hF
    rw [← hz]
    have HF := Lib.hid hfc
    clear hfc hF hz
    go_enter Tryz.func91, Tryz.ntmps91
    go_wp2_with (go_at_call 126; refine HF.out.mono ?_; rintro e w1 ⟨rfl, hb1⟩; have HB1 := Lib.hid hb1; clear hb1)
    go_ret
    exact ⟨rfl, HB1.out⟩

end Go.Proofs.YtbejhkojdiadaaaGreat
namespace Go.Proofs.YtbejhkojdiadaaaGreat.PlainPm
section
variable {n : Nat}
structure ChG (G : Pm n → Prop) (O : Nat → List Nat) (R : Nat → Nat → Pm n) : Prop where
  isG : IsG G
  nd : ∀ i, i < n → (O i).Nodup
  lt : ∀ i, i < n → ∀ p ∈ O i, p < n
  mem : ∀ i, i < n → ∀ p, p ∈ O i ↔ ∃ y, G y ∧ Fx i y ∧ y.at i = p
  rep : ∀ i, i < n → ∀ p ∈ O i, G (R i p) ∧ Fx i (R i p) ∧ (R i p).at i = p
theorem Of.chG {G : Pm n → Prop} (hG : IsG G) {T : Tw n} (h : Of G T) : ChG G (fun i => ptsOf n (T i).orb) (PlainPm.repT T) := by
  have hm : ∀ i, i < n → ∀ p, p ∈ ptsOf n (T i).orb ↔ ∃ y, G y ∧ Fx i y ∧ y.at i = p := fun i hi p => by
    rw [mem_ptsOf, h.orb hi]
    constructor
    · exact fun h => h.2
    · rintro ⟨y, h1, h2, h3⟩
      exact ⟨by rw [← h3]; exact y.lt hi, y, h1, h2, h3⟩
  refine ⟨hG, fun i hi => List.Nodup.sublist List.filter_sublist List.nodup_range, fun i hi p hp => (mem_ptsOf.1 hp).1, hm, fun i hi p hp => ?_⟩
  have := h.repT hG hi (mem_ptsOf.1 hp).2
  exact ⟨this.g, this.fx, this.im⟩
variable {G : Pm n → Prop} {O : Nat → List Nat} {R : Nat → Nat → Pm n}
theorem ChG.base (h : ChG G O R) {i : Nat} (hi : i < n) : i ∈ O i := (h.mem i hi i).2 ⟨PlainPm.one n, h.isG.one, Fx.one (by omega), one_at hi⟩
theorem ChG.pos (h : ChG G O R) {i : Nat} (hi : i < n) : 0 < (O i).length := List.length_pos_of_mem (h.base hi)
theorem ChG.short (h : ChG G O R) {i : Nat} (hi : i < n) : (O i).length ≤ n := by
  have := sub_len (m := List.range n) (h.nd i hi) (fun p hp => List.mem_range.2 (h.lt i hi p hp))
  simpa using this
theorem ChG.pick (h : ChG G O R) {i : Nat} (hi : i < n) {x y : Pm n} (hy : G y) (hx : G x) (hxy : ∀ j, j < i → y.at j = x.at j) : y.inv.at (x.at i) ∈ O i := by
  refine (h.mem i hi _).2 ⟨x.mul y.inv, h.isG.mul hx (h.isG.inv hy), fun j hj => ?_, Pm.mul_at _ _ hi⟩
  rw [Pm.mul_at _ _ (by omega), ← hxy j hj, y.inv_of (by omega)]
theorem ChG.step (h : ChG G O R) {i q : Nat} (hi : i < n) {y : Pm n} (hy : G y) (hq : q ∈ O i) :
    G ((R i q).mul y) ∧ (∀ j, j < i → ((R i q).mul y).at j = y.at j) ∧ ((R i q).mul y).at i = y.at q := by
  obtain ⟨h1, h2, h3⟩ := h.rep i hi q hq
  exact ⟨h.isG.mul h1 hy, fun j hj => by rw [Pm.mul_at _ _ (by omega), h2 j hj], by rw [Pm.mul_at _ _ hi, h3]⟩
def szF (O : Nat → List Nat) : Nat → Nat → Nat
  | 0, _ => 1
  | f + 1, i => (O i).length * szF O f (i + 1)
theorem ChG.sz_pos (h : ChG G O R) : ∀ {f i : Nat}, i + f = n → 0 < szF O f i
  | 0, _, _ => by simp [szF]
  | f + 1, i, hf => Nat.mul_pos (h.pos (by omega)) (h.sz_pos (f := f) (by omega))
def sfG (O : Nat → List Nat) (R : Nat → Nat → Pm n) : Nat → Nat → Pm n → Nat
  | 0, i, _ => i
  | f + 1, i, x => if x.at i ∈ O i then sfG O R f (i + 1) (x.mul (R i (x.at i)).inv) else i
theorem ChG.sf_iff (h : ChG G O R) : ∀ {f i : Nat} {x : Pm n}, i + f = n → Fx i x → (sfG O R f i x = n ↔ G x)
  | 0, i, x, hf, hx => by
    have hi : i = n := by omega
    subst hi
    rw [Fx.all hx]
    exact ⟨fun _ => h.isG.one, fun _ => rfl⟩
  | f + 1, i, x, hf, hx => by
    have hi : i < n := by omega
    by_cases hm : x.at i ∈ O i
    · rw [sfG, if_pos hm]
      obtain ⟨h1, h2, h3⟩ := h.rep i hi _ hm
      have hx' : Fx (i + 1) (x.mul (R i (x.at i)).inv) := by
        refine (hx.mul (by omega) (h2.inv (by omega))).succ ?_
        have := (R i (x.at i)).inv_of (i := i) hi
        rw [h3] at this
        rw [Pm.mul_at _ _ hi, this]
      rw [h.sf_iff (f := f) (by omega) hx']
      constructor
      · intro hg
        have := h.isG.mul hg h1
        rwa [Pm.inv_mul_cancel] at this
      · exact fun hg => h.isG.mul hg (h.isG.inv h1)
    · rw [sfG, if_neg hm]
      exact ⟨fun e => by omega, fun hg => absurd ((h.mem i hi _).2 ⟨x, hg, hx, rfl⟩) hm⟩
def cnt (y : Pm n) (l : List Nat) (v : Nat) : Nat := l.countP fun q => decide (y.at q < v)
theorem cnt_le (y : Pm n) (l : List Nat) (v : Nat) : cnt y l v ≤ l.length := List.countP_le_length
def rkF (O : Nat → List Nat) (R : Nat → Nat → Pm n) (x : Pm n) : Nat → Nat → Pm n → Nat → Option Nat
  | 0, _, _, a => some a
  | f + 1, i, y, a => if y.inv.at (x.at i) ∈ O i then rkF O R x f (i + 1) ((R i (y.inv.at (x.at i))).mul y) (a + cnt y (O i) (x.at i) * szF O f (i + 1)) else none
def selQ (y : Pm n) (l : List Nat) (s : Nat) : Nat := (l.find? fun q => cnt y l (y.at q) == s).getD 0
theorem cnt_inj {y : Pm n} {l : List Nat} (hl : ∀ p ∈ l, p < n) {p q : Nat} (hp : p ∈ l) (hq : q ∈ l) (h : cnt y l (y.at p) = cnt y l (y.at q)) : p = q := by
  refine y.inj (hl p hp) (hl q hq) ?_
  have key : ∀ {a b : Nat}, a ∈ l → y.at a < y.at b → cnt y l (y.at a) < cnt y l (y.at b) := fun {a b} ha hab => by
    unfold cnt
    have h1 : ∀ m : List Nat, m.countP (fun q => decide (y.at q < y.at a)) ≤ m.countP (fun q => decide (y.at q < y.at b)) := fun m =>
      List.countP_mono_left fun q _ hq => by
        rw [decide_eq_true_iff] at hq ⊢; omega
    obtain ⟨l1, l2, rfl⟩ := List.append_of_mem ha
    have a1 := h1 l1
    have a2 := h1 l2
    rw [List.countP_append, List.countP_append, List.countP_cons_of_neg (by simp), List.countP_cons_of_pos (by simpa using hab)]
    omega
  rcases Nat.lt_trichotomy (y.at p) (y.at q) with h1 | h1 | h1
  · have := key hp h1; omega
  · exact h1
  · have := key hq h1; omega
theorem selQ_eq {y : Pm n} {l : List Nat} (hl : ∀ p ∈ l, p < n) {q s : Nat} (hq : q ∈ l) (h : cnt y l (y.at q) = s) : selQ y l s = q := by
  unfold selQ
  cases hf : l.find? (fun q => cnt y l (y.at q) == s) with
  | none =>
    have := List.find?_eq_none.1 hf q hq
    simp [h] at this
  | some p =>
    have h1 := List.find?_some hf
    have h2 := List.mem_of_find?_eq_some hf
    rw [beq_iff_eq] at h1
    exact cnt_inj (y := y) hl h2 hq (h1.trans h.symm)
def unF (O : Nat → List Nat) (R : Nat → Nat → Pm n) : Nat → Nat → Pm n → Nat → Pm n
  | 0, _, y, _ => y
  | f + 1, i, y, k => unF O R f (i + 1) ((R i (selQ y (O i) (k / szF O f (i + 1)))).mul y) (k % szF O f (i + 1))
theorem countP_sorted {l : List Int} (hs : l.Pairwise (· < ·)) {s : Nat} (hl : s < l.length) : l.countP (fun v => decide (v < l[s])) = s := by
  induction l generalizing s with
  | nil => simp at hl
  | cons a l ih =>
    rw [List.pairwise_cons] at hs
    match s with
    | 0 =>
      rw [List.countP_eq_zero]
      intro v hv
      simp only [List.getElem_cons_zero, decide_eq_true_iff]
      rcases List.mem_cons.1 hv with rfl | hv
      · omega
      · have := hs.1 v hv; omega
    | s + 1 =>
      have hl' : s < l.length := by simpa using hl
      simp only [List.getElem_cons_succ]
      rw [List.countP_cons_of_pos (by simpa using hs.1 _ (List.getElem_mem hl')), ih hs.2 hl']
theorem sel_sorted {y : Pm n} {l : List Nat} (hl : ∀ p ∈ l, p < n) (hd : l.Nodup) {m : List Int} (hp : m.Perm (l.map fun q => (y.at q : Int))) (hs : m.Pairwise (· ≤ ·)) {s : Nat} (h : s < l.length) :
    selQ y l s ∈ l ∧ cnt y l (y.at (selQ y l s)) = s ∧ m[s]? = some ((y.at (selQ y l s) : Nat) : Int) := by
  have hml : m.length = l.length := by rw [hp.length_eq, List.length_map]
  have hnd : m.Nodup := hp.nodup_iff.2 (nodup_map_on hd fun a ha b hb e => y.inj (hl a ha) (hl b hb) (by omega))
  have hs' : m.Pairwise (· < ·) := (hs.and hnd).imp fun h => by have := h.1; have := h.2; omega
  have hsm : s < m.length := by omega
  obtain ⟨q, hq, he⟩ := List.mem_map.1 (hp.mem_iff.1 (List.getElem_mem hsm))
  have hc := countP_sorted hs' hsm
  rw [hp.countP_eq, List.countP_map, ← he] at hc
  have hc2 : cnt y l (y.at q) = s := by
    rw [← hc]
    unfold cnt
    congr 1
    funext p
    simp
  have := selQ_eq hl hq hc2
  rw [this]
  exact ⟨hq, hc2, by rw [List.getElem?_eq_getElem hsm, ← he]⟩
end
end Go.Proofs.YtbejhkojdiadaaaGreat.PlainPm
namespace Go.Proofs.YtbejhkojdiadaaaGreat
open Go.RowKit PlainPm
abbrev cv (n ab ao c bb bo e : Nat) : Value := .agg #[.int .i64 (n : Int), .slice (some ⟨ab, ao, none⟩) n c, .slice (some ⟨bb, bo, none⟩) n e]
def PtsW (w : World) (v : Value) (l : List Nat) : Prop :=
  ∃ g o c, v = .slice (some ⟨g, o, none⟩) l.length c ∧ g < w.heap.size ∧ l.length ≤ 64 ∧ l.length ≤ c ∧ ∀ (k q : Nat), l[k]? = some q → w.cell? ⟨g, o + k, none⟩ = some (.int .i64 (q : Int))
def RepsW {n : Nat} (w : World) (v : Value) (l : List (Pm n)) : Prop :=
  ∃ g o c, v = .slice (some ⟨g, o, none⟩) l.length c ∧ g < w.heap.size ∧ l.length ≤ 64 ∧ l.length ≤ c ∧ ∀ (k : Nat) (x : Pm n), l[k]? = some x → ∃ u, w.cell? ⟨g, o + k, none⟩ = some u ∧ PmV w [] u x
structure LvW (n : Nat) (w : World) (O : Nat → List Nat) (R : Nat → Nat → Pm n) (ab ao bb bo : Nat) : Prop where
  orb : ∀ i, i < n → ∃ v, w.cell? ⟨ab, ao + i, none⟩ = some v ∧ PtsW w v (O i)
  rep : ∀ i, i < n → ∃ v, w.cell? ⟨bb, bo + i, none⟩ = some v ∧ RepsW w v ((O i).map (R i))
section
variable {n ab ao bb bo : Nat} {w w' : World} {O : Nat → List Nat} {R : Nat → Nat → Pm n}
theorem PtsW.below {v : Value} {l : List Nat} (h : PtsW w v l) (k : Below w.heap.size w w') : PtsW w' v l := by
  obtain ⟨g, o, c, rfl, h1, h2, h4, h3⟩ := h
  exact ⟨g, o, c, rfl, Nat.lt_of_lt_of_le h1 k.size, h2, h4, fun i q hq => (k.cell (p := ⟨g, o + i, none⟩) h1).trans (h3 i q hq)⟩
theorem RepsW.below {v : Value} {l : List (Pm n)} (h : RepsW w v l) (k : Below w.heap.size w w') : RepsW w' v l := by
  obtain ⟨g, o, c, rfl, h1, h2, h6, h3⟩ := h
  refine ⟨g, o, c, rfl, Nat.lt_of_lt_of_le h1 k.size, h2, h6, fun i x hx => ?_⟩
  obtain ⟨u, h4, h5⟩ := h3 i x hx
  exact ⟨u, (k.cell (p := ⟨g, o + i, none⟩) h1).trans h4, h5.below k⟩
theorem LvW.below (h : LvW n w O R ab ao bb bo) (k : Below w.heap.size w w') : LvW n w' O R ab ao bb bo := by
  refine ⟨fun i hi => ?_, fun i hi => ?_⟩
  · obtain ⟨v, h1, h2⟩ := h.orb i hi
    exact ⟨v, (k.cell (block_lt_of_cell h1)).trans h1, h2.below k⟩
  · obtain ⟨v, h1, h2⟩ := h.rep i hi
    exact ⟨v, (k.cell (block_lt_of_cell h1)).trans h1, h2.below k⟩
end
theorem box3a (w : World) (u0 u1 u2 : Value) (X : Nat) (hX : w.heap.size = X) : (w.alloc (.cells #[u0, u1, u2] 25)).cell? ⟨X, 0, none⟩ = some u0 ∧ (w.alloc (.cells #[u0, u1, u2] 25)).cell? ⟨X, 1, none⟩ = some u1 ∧ (w.alloc (.cells #[u0, u1, u2] 25)).cell? ⟨X, 2, none⟩ = some u2 := by
  subst hX
  have : (w.alloc (.cells #[u0, u1, u2] 25)).heap[w.heap.size]? = some (.cells #[u0, u1, u2] 25) := World.alloc_heap_new w _
  refine ⟨?_, ?_, ?_⟩ <;> (simp only [World.cell?, this]; rfl)
structure BoxW (w0 : World) (X n ab ao c bb bo e : Nat) (W : World) : Prop where
  bel : Below X w0 W
  c0 : W.cell? ⟨X, 0, none⟩ = some (.int .i64 (n : Int))
  c1 : W.cell? ⟨X, 1, none⟩ = some (.slice (some ⟨ab, ao, none⟩) n c)
  c2 : W.cell? ⟨X, 2, none⟩ = some (.slice (some ⟨bb, bo, none⟩) n e)
  lt : X < W.heap.size
theorem BoxW.below {w0 W W' : World} {X n ab ao c bb bo e : Nat} (h : BoxW w0 X n ab ao c bb bo e W) (k : Below (X + 1) W W') : BoxW w0 X n ab ao c bb bo e W' :=
  ⟨h.bel.trans (k.mono (by omega)), (k.cell (p := ⟨X, 0, none⟩) (by simp)).trans h.c0, (k.cell (p := ⟨X, 1, none⟩) (by simp)).trans h.c1, (k.cell (p := ⟨X, 2, none⟩) (by simp)).trans h.c2, Nat.lt_of_lt_of_le h.lt k.size⟩
theorem BoxW.start (w : World) (X n ab ao c bb bo e : Nat) (hX : w.heap.size = X) : BoxW w X n ab ao c bb bo e (w.alloc (.cells #[.int .i64 (n : Int), .slice (some ⟨ab, ao, none⟩) n c, .slice (some ⟨bb, bo, none⟩) n e] 25)) := by
  obtain ⟨h0, h1, h2⟩ := box3a w (.int .i64 (n : Int)) (.slice (some ⟨ab, ao, none⟩) n c) (.slice (some ⟨bb, bo, none⟩) n e) X hX
  exact ⟨by rw [← hX]; exact alloc_b (Below.refl _ _) _, h0, h1, h2, by simp; omega⟩
end Go.Proofs.YtbejhkojdiadaaaGreat
namespace Go.Proofs.YtbejhkojdiadaaaGreat
open Go.RowKit PlainPm
theorem pred109 {n : Nat} {y : Pm n} {va : Value} {p1 p2 im q : Nat} (hq : q < n) {W : World} (h1 : W.cell? ⟨p1, 0, none⟩ = some va) (hy : PmV W [] va y) (h2 : W.cell? ⟨p2, 0, none⟩ = some (.int .i64 (im : Int))) :
    Calls Tryz.prog 109 #[.int .i64 (q : Int), .pointer (some ⟨p1, 0, none⟩), .pointer (some ⟨p2, 0, none⟩)] W fun e w' => e = .returned (.bool ((y.at q : Int) == (im : Int))) ∧ ∃ m, w' = W.drewN m := by
  obtain ⟨b, o, c, rfl, _, hb, hc⟩ := hy
  have hcq := hc q hq
  obtain ⟨z, hz⟩ : ∃ z, y.at q = z := ⟨_, rfl⟩
  rw [hz] at hcq ⊢
  clear hc hz
  go_enter Tryz.func109, Tryz.ntmps109
  go_wp2_with fail
  go_quiet (fail)
  go_wp2_with fail
  go_ret
  exact ⟨rfl, _, rfl⟩
set_option maxRecDepth 100000 in
set_option maxHeartbeats 1000000 in
theorem idx108 {n : Nat} {y : Pm n} {va v : Value} {p1 p2 q : Nat} {l : List Nat} (hl : ∀ p ∈ l, p < n) (hq : q ∈ l) {w : World} (hv : PtsW w v l) (h1 : w.cell? ⟨p1, 0, none⟩ = some va) (hy : PmV w [] va y) (h2 : w.cell? ⟨p2, 0, none⟩ = some (.int .i64 (y.at q : Int))) :
    Calls Tryz.prog 108 #[v, .func (.func 109) #[] #[.pointer (some ⟨p1, 0, none⟩), .pointer (some ⟨p2, 0, none⟩)]] w fun e w' => ∃ k : Nat, e = .returned (.int .i64 (k : Int)) ∧ l[k]? = some q ∧ ∃ m, w' = w.drewN m := by
  obtain ⟨g, o, c, rfl, hg, h64, hcap, hc⟩ := hv
  obtain ⟨L, hL⟩ : ∃ L, l.length = L := ⟨_, rfl⟩
  have H := Lib.hid (And.intro hl (And.intro hq (And.intro h1 (And.intro hy (And.intro h2 (And.intro hc hL))))))
  rw [hL] at h64 ⊢
  clear hl hq h1 hy h2 hc hL
  go_enter Tryz.func108, Tryz.ntmps108
  go_wp2_with fail
  go_loopw [5, 8] (fun _ i wr => ∃ (k m : Nat), k ≤ L ∧ i = .int .i64 (k : Int) ∧ wr = w.drewN m ∧ ∀ j p, j < k → l[j]? = some p → p ≠ q) (fun _ i _ => L - (intOf i).toNat)
  case atStart => exact ⟨0, 0, by omega, rfl, rfl, fun j p hj => by omega⟩
  case round =>
    obtain ⟨k, m, hk, rfl, rfl, hno⟩ := hrel
    by_cases hkl : k < L
    · obtain ⟨p, hp⟩ : ∃ p, l[k]? = some p := ⟨_, List.getElem?_eq_getElem (by rw [H.out.2.2.2.2.2.2]; exact hkl)⟩
      have hpn := H.out.1 p (List.mem_of_getElem? hp)
      have hqn := H.out.1 q H.out.2.1
      have hcp : (w.drewN m).cell? ⟨g, o + k, none⟩ = some (.int .i64 (p : Int)) := H.out.2.2.2.2.2.1 k p hp
      have hcall := fun r => pred109 (y := y) (va := va) (p1 := p1) (p2 := p2) (im := y.at q) (q := p) hpn (W := w.drewN r) H.out.2.2.1 H.out.2.2.2.1 H.out.2.2.2.2.1
      have hinj : y.at p = y.at q → p = q := y.inj hpn hqn
      have HC := Lib.hid (And.intro hcall (And.intro hno (And.intro hp hinj)))
      have hk1 : (k : Int) < L := by omega
      clear hcall hno hp hinj
      by_cases e : p = q
      · subst e
        have hd : ((y.at p : Int) == (y.at p : Int)) = true := by simp
        go_wp2_with (go_at_call 109; with_reducible refine (HC.out.1 m).mono ?_; rintro e1 w1 ⟨rfl, r, rfl⟩)
        refine bodyPost_ret (v := .int .i64 (k : Int)) (by simp [results, Tryz.results108, go_sem]) rfl ?_
        exact ⟨k, rfl, HC.out.2.2.1, _, rfl⟩
      · have hd : ((y.at p : Int) == (y.at q : Int)) = false := by
          refine beq_eq_false_iff_ne.2 fun h => e (HC.out.2.2.2 (by omega))
        have He := Lib.hid e
        clear e
        go_wp2_with (go_at_call 109; with_reducible refine (HC.out.1 m).mono ?_; rintro e1 w1 ⟨rfl, r, rfl⟩)
        refine ⟨⟨k + 1, m + r, by omega, by go_num, rfl, fun j p' hj hp' => ?_⟩, by simp [intOf]; omega⟩
        by_cases ej : j = k
        · subst ej; rw [HC.out.2.2.1] at hp'; cases hp'; exact He.out
        · exact HC.out.2.1 j p' (by omega) hp'
    · obtain rfl : k = L := by omega
      obtain ⟨j, hj⟩ := List.mem_iff_getElem?.1 H.out.2.1
      have := (List.getElem?_eq_some_iff.1 hj).1
      exact absurd rfl (hno j q (by rw [← H.out.2.2.2.2.2.2]; exact this) hj)
theorem nan106 (x : Int) (w : World) : Calls Tryz.prog 106 #[.int .i64 x] w fun e w' => e = .returned (.bool false) ∧ w' = w := by
  go_enter Tryz.func106, Tryz.ntmps106
  go_wp2
  go_ret
  exact ⟨by simp, rfl⟩
theorem nan148 (x : Int) (w : World) : Calls Tryz.prog 148 #[.int .i64 x] w fun e w' => e = .returned (.bool false) ∧ w' = w := by
  go_enter Tryz.func148, Tryz.ntmps148
  go_wp2
  go_ret
  exact ⟨by simp, rfl⟩
theorem less105 (x y : Int) (w : World) : Calls Tryz.prog 105 #[.int .i64 x, .int .i64 y] w fun e w' => e = .returned (.bool (decide (x < y))) ∧ w' = w := by
  go_enter Tryz.func105, Tryz.ntmps105
  go_wp2_with (go_at_call 148; with_reducible refine (nan148 _ _).mono ?_; rintro e w' ⟨rfl, rfl⟩)
  go_ret
  exact ⟨rfl, rfl⟩
end Go.Proofs.YtbejhkojdiadaaaGreat
