/- The tower's close: each generator is tried at each point of a level's orbit. -/
import Derived.Test.YtbejhkojdiadaaaGreatAddW
set_option linter.unusedSimpArgs false
set_option linter.unusedVariables false
namespace Go.Proofs.YtbejhkojdiadaaaGreat
open Go.RowKit PlainPm
section
variable {n : Nat}
theorem NewPm.form {w w' : World} {v : Value} {x : Pm n} (h : NewPm w w' v x) : ∃ b c, v = .slice (some ⟨b, 0, none⟩) n c := by
  obtain ⟨b, c, rfl, _⟩ := h; exact ⟨b, c, rfl⟩
def PreL (l : Lv n) (kk : Nat) : Prop := ∀ j q, j < kk → l.orb[j]? = some q → l.tried q = l.gens.length
theorem PreL.step {l l' : Lv n} {kk q : Nat} {e : List Nat} (h : PreL l kk) (hq : l.orb[kk]? = some q) (hnd : l.orb.Nodup) (h1 : l'.orb = l.orb ++ e) (h2 : l'.gens = l.gens) (h3 : ∀ x, x ≠ q → l'.tried x = l.tried x) : PreL l' kk ∧ l'.orb[kk]? = some q := by
  have hl := (List.getElem?_eq_some_iff.1 hq).1
  refine ⟨fun j x hj hx => ?_, by rw [h1, List.getElem?_append_left hl]; exact hq⟩
  rw [h1, List.getElem?_append_left (by omega)] at hx
  have hne : x ≠ q := fun e => by
    subst e
    have := (List.getElem?_inj (i := j) (j := kk) (by omega) hnd).1 (hx.trans hq.symm)
    omega
  rw [h3 x hne, h2]
  exact h j x hj hx
theorem PreL.next {l : Lv n} {kk q : Nat} (h : PreL l kk) (hq : l.orb[kk]? = some q) (ht : l.tried q = l.gens.length) : PreL l (kk + 1) := fun j x hj hx => by
  by_cases e : j = kk
  · subst e; rw [hq] at hx; cases hx; exact ht
  · exact h j x (by omega) hx
theorem PreL.done {T : Tw n} {k kk : Nat} (h : PreL (T k) kk) (hk : (T k).orb.length ≤ kk) : DoneL T k := fun q hq => by
  obtain ⟨j, hj⟩ := List.mem_iff_getElem?.1 hq
  exact h j q (by have := (List.getElem?_eq_some_iff.1 hj).1; omega) hj
theorem orb_le {T : Tw n} (h : Wf T) {k : Nat} (hk : k < n) : (T k).orb.length ≤ n := by
  have w := h k hk
  have := sub_len (l := (T k).orb) (m := List.range n) w.nd (fun p hp => by
    obtain ⟨z, hz⟩ := Option.isSome_iff_exists.1 ((w.orb p).1 hp)
    exact List.mem_range.2 (w.img p z hz).1)
  simpa using this
theorem stepNew_eq (T : Tw n) (k q p : Nat) (y : Pm n) :
    updL (updL (updL T k (stepTry (T k) q)) k (setTo (updL T k (stepTry (T k) q) k) p y)) k (addOrb (updL (updL T k (stepTry (T k) q)) k (setTo (updL T k (stepTry (T k) q) k) p y) k) p) = updL T k (stepNew (T k) q p y) := funext fun j => by
  by_cases e : j = k
  · subst e; simp only [updL_at]; rfl
  · simp only [updL_ne _ _ e]
theorem tried_many (T : Tw n) (k q : Nat) : many (updL T k (stepTry (T k) q)) = many T ∧ ∀ j, (updL T k (stepTry (T k) q) j).gens = (T j).gens := by
  refine ⟨?_, fun j => ?_⟩
  · unfold many
    congr 1
    apply List.map_congr_left
    intro j _
    by_cases e : j = k
    · subst e; rw [updL_at]; rfl
    · rw [updL_ne _ _ e]
  · by_cases e : j = k
    · subst e; rw [updL_at]; rfl
    · rw [updL_ne _ _ e]
theorem fld_addOrb {l : Lv n} {p c : Nat} (hc : c ≠ 1) : fld (addOrb l p) c = fld l c := by
  unfold fld addOrb
  by_cases c0 : c = 0
  · rw [if_pos c0, if_pos c0]
  rw [if_neg c0, if_neg c0, if_neg hc, if_neg hc]
theorem nts_app (l : List Nat) (p : Nat) : ints (nts (l ++ [p])) = ints (nts l) ++ [.int .i64 (p : Int)] := by simp [ints, nts]
/-- A point is put to an orbit. -/
theorem TowW.appO {B t G i g cap m p : Nat} {w w6 : World} {M : List Nat} {T : Tw n} {F : Nat → Value} (h : TowW n B t G w M T F) (hi : i < n)
    (hg : w.grownBy w6 (F (194 * i + 1)).ownBlock) (hnew : (F (194 * i + 1)).ownBlock = some g ∨ w.heap.size ≤ g)
    (hown : Own w6 B (.slice (some ⟨g, 0, none⟩) m cap) 3 (ints (nts (T i).orb) ++ [.int .i64 (p : Int)])) :
    TowW n B t G (w6.setCell ⟨G, i * 194 + 1, none⟩ (.slice (some ⟨g, 0, none⟩) m cap)) (g :: M) (updL T i (addOrb (T i) p)) (fun k => if k = 194 * i + 1 then .slice (some ⟨g, 0, none⟩) m cap else F k) ∧
    Stp w M (w6.setCell ⟨G, i * 194 + 1, none⟩ (.slice (some ⟨g, 0, none⟩) m cap)) (g :: M) := by
  have := h.app (i := i) (c0 := 1) (g := g) (cap := cap) (m := m) (l := addOrb (T i) p) (w6 := w6) h.gB hi (by omega) (fun c _ hc => fld_addOrb hc) hg hnew (hown.block_lt rfl).1 (fun w7 M7 k hb => by
      unfold CellOk fld addOrb
      rw [← nts_app] at hown
      exact ownsRow_block hown (fun b e => by cases e; exact hb))
  rw [show 194 * i + 1 = i * 194 + 1 by omega] at this
  rw [show 194 * i + 1 = i * 194 + 1 by omega]
  exact this
end
set_option maxRecDepth 100000 in
set_option maxHeartbeats 4000000 in
theorem close_of_add {n B t G k : Nat} (hk : k < n) (hA : k + 1 < n → AddC n B t G (k + 1)) : CloseC n B t G k := by
  intro w M T F hT hP hlen
  obtain ⟨i3, hi3, hz3, hs3, hb3⟩ := info_parts Tryz.info3
  have I3 := Lib.hid (And.intro hi3 (And.intro hz3 (And.intro hs3 hb3)))
  clear hi3 hz3 hs3 hb3
  have hn := hT.hn.2
  have c1 := hT.tl
  have H := Lib.hid (And.intro hT (And.intro hP hlen))
  have HA := Lib.hid hA
  clear hT hP hlen hA
  have hkn : (k : Int) < n := by omega
  go_enter Tryz.func158, Tryz.ntmps158
  go_wp2_with fail
  go_loopw [5] (fun v wr => ∃ (kk : Nat) (M' : List Nat) (T' : Tw n) (F' : Nat → Value), v = .int .i64 (kk : Int) ∧ TowW n B t G wr M' T' F' ∧ CloseR T k T' ∧ Stp w M wr M' ∧ PreL (T' k) kk ∧ kk ≤ n) (fun v _ => n - (intOf v).toNat)
  case atStart => exact ⟨0, M, T, F, rfl, H.out.1, CloseR.start H.out.2.1, Stp.refl _ _, fun j q hj => by omega, by omega⟩
  case round =>
    obtain ⟨kk, M1, T1, F1, rfl, hT1, hC1, hS1, hL1, hkk⟩ := hrel
    have o1 := hT1.orb_ hk
    have g1 := hT1.cell (c := 1) hk (by omega)
    have hol := orb_le hC1.inv.wf hk
    obtain ⟨L, hL⟩ : ∃ L, (T1 k).orb.length = L := ⟨_, rfl⟩
    obtain ⟨ov, hov⟩ : ∃ ov, F1 (194 * k + 1) = ov := ⟨_, rfl⟩
    rw [hov] at o1 g1
    rw [show 194 * k + 1 = k * 194 + 1 by omega] at g1
    obtain ⟨oa, oc, hoe, hor⟩ := o1.row (by rw [ints_len, nts_len]; unfold maxLen; omega)
    rw [ints_len, nts_len, hL] at hoe
    subst hoe
    by_cases hlt : kk < L
    · obtain ⟨q, hq⟩ : ∃ q, (T1 k).orb[kk]? = some q := ⟨_, List.getElem?_eq_getElem (by omega)⟩
      have hoi : Ints wr oa (nts (T1 k).orb) := hor
      obtain ⟨ob, oo, hoa, _, oce⟩ := hoi.at_ (k := kk) (by rw [nts_len]; omega)
      subst hoa
      rw [nts_get (by omega), hq, Option.getD_some] at oce
      have hqs : (T1 k).to q ≠ none := by
        have := ((hC1.inv.wf k hk).orb q).1 (List.mem_of_getElem? hq)
        intro e; rw [e] at this; cases this
      have hqn : q < n := by
        obtain ⟨z, hz⟩ := Option.ne_none_iff_exists'.1 hqs
        exact ((hC1.inv.wf k hk).img q z hz).1
      have HP := Lib.hid (And.intro hT1 (And.intro hC1 (And.intro hS1 (And.intro hL1 (And.intro hov (And.intro hL hq))))))
      clear hT1 hC1 hS1 hL1 hov hL hq hqs o1 hor hoi
      have hkL : (kk : Int) < L := by omega
      go_wp2_with fail
      go_loopg [9] ((T1 k).gens.length - (T1 k).tried q) (fun gk v wr => ∃ (M' : List Nat) (T' : Tw n) (F' : Nat → Value), TowW n B t G wr M' T' F' ∧ CloseR T k T' ∧ Stp w M wr M' ∧ PreL (T' k) kk ∧ (T' k).orb[kk]? = some q ∧ gk = (T' k).gens.length - (T' k).tried q)
      case atStart => exact ⟨M1, T1, F1, HP.out.1, HP.out.2.1, HP.out.2.2.1, HP.out.2.2.2.1, HP.out.2.2.2.2.2.2, rfl⟩
      case round =>
        obtain ⟨M2, T2, F2, hT2, hC2, hS2, hL2, hq2, hgk⟩ := hrel
        have wl := hC2.inv.wf k hk
        have hgb : (T2 k).gens.length < 1000000 := by
          have h1 := hC2.ext.pot k
          have h2 := H.out.2.2 k
          have h3 := many_le hC2.inv.wf
          have h4 : n * n ≤ 64 * 64 := Nat.mul_le_mul hn hn
          omega
        obtain ⟨gs, hgs, hpl⟩ := hT2.gens_ hk
        have g0 := hT2.cell (c := 0) hk (by omega)
        have gt := hT2.cell (c := 130 + q) hk (by omega)
        rw [hT2.tried_ hk (by omega), show 194 * k + (130 + q) = k * 194 + 130 + q by omega] at gt
        obtain ⟨gv, hgv⟩ : ∃ gv, F2 (194 * k) = gv := ⟨_, rfl⟩
        rw [show 194 * k + 0 = 194 * k by omega, hgv, show 194 * k = k * 194 by omega] at g0
        rw [hgv] at hgs
        obtain ⟨ga, gc, hge, hgr⟩ := hgs.row (by have := hpl.1; unfold maxLen; omega)
        rw [hpl.1] at hge
        obtain ⟨R, hR⟩ : ∃ R, (T2 k).gens.length = R := ⟨_, rfl⟩
        obtain ⟨tq, htq⟩ : ∃ tq, (T2 k).tried q = tq := ⟨_, rfl⟩
        rw [hR] at hge hgb hgk
        rw [htq] at gt hgk
        subst hge
        have htl : tq ≤ R := by rw [← hR, ← htq]; exact wl.tl q
        have hq64 : (q : Int) < 64 := by omega
        have HQ := Lib.hid (And.intro hT2 (And.intro hC2 (And.intro hS2 (And.intro hL2 (And.intro hq2 (And.intro hR (And.intro htq (And.intro hgv (And.intro hpl (And.intro hgs wl))))))))))
        clear hT2 hC2 hS2 hL2 hq2 hR htq hgv hpl hgs wl
        by_cases hlt2 : tq < R
        · have hgd : decide ((tq : Int) < (R : Int)) = true := by simp; omega
          obtain ⟨s, hs⟩ : ∃ s, (T2 k).gens[tq]? = some s := ⟨_, List.getElem?_eq_getElem (by rw [HQ.out.2.2.2.2.2.1]; omega)⟩
          obtain ⟨sv, hsv, hsp⟩ := HQ.out.2.2.2.2.2.2.2.2.1.2 tq s hs
          obtain ⟨gb, go, hga, _, gcell⟩ := hgr.2 tq sv hsv
          subst hga
          obtain ⟨sb, so, sc, rfl⟩ := hsp.form
          have HSS := Lib.hid (And.intro hs (And.intro hsp hsv))
          have hgr' := Lib.hid hgr
          clear hs hsp hsv hgr
          have hRt : (tq : Int) < (R : Int) := by omega
          have ft := HQ.out.1.row.frozen (k * 194 + 130 + q)
          go_wp2_with fail
          go_quiet (fail)
          revert nq
          intro n1
          go_wp2_with fail
          go_quiet (fail)
          go_wp2_with fail
          go_region
          obtain ⟨V, hV⟩ : ∃ V, (wr.drewN (n1 + nq + 1)).setCell ⟨G, k * 194 + 130 + q, none⟩ (.int .i64 ((tq : Int) + 1)) = V := ⟨_, rfl⟩
          rw [hV]
          obtain ⟨T3, hT3⟩ : ∃ T3, updL T2 k (stepTry (T2 k) q) = T3 := ⟨_, rfl⟩
          obtain ⟨F3, hTV⟩ : ∃ F3, TowW n B t G V M2 T3 F3 := by
            have h3 := (HQ.out.1.below (below_drewN_self wr (n1 + nq + 1))).setTried hk (q := q) (by omega)
            rw [HQ.out.2.2.2.2.2.2.1, show 194 * k + (130 + q) = k * 194 + 130 + q by omega, show ((tq + 1 : Nat) : Int) = (tq : Int) + 1 by omega, hV, hT3] at h3
            exact ⟨_, h3⟩
          have hSV : Stp wr M2 V M2 := by
            have h3 := (HQ.out.1.below (below_drewN_self wr (n1 + nq + 1))).stored (k * 194 + 130 + q) (.int .i64 ((tq : Int) + 1))
            rw [hV] at h3
            exact (Stp.below (below_drewN_self wr (n1 + nq + 1))).trans h3
          have e3 : T3 k = stepTry (T2 k) q := by rw [← hT3, updL_at]
          obtain ⟨yq, hyq⟩ : ∃ yq, (T2 k).to q = some yq := by
            have := (HQ.out.2.2.2.2.2.2.2.2.2.2.orb q).1 (List.mem_of_getElem? HQ.out.2.2.2.2.1)
            exact Option.isSome_iff_exists.1 this
          have oq := hTV.to_ hk (p := q) (by omega)
          have cq := hTV.cell hk (c := 2 + q) (by omega)
          rw [e3, show (stepTry (T2 k) q).to q = (T2 k).to q from rfl, hyq] at oq
          obtain ⟨fq, hfq⟩ : ∃ fq, F3 (194 * k + (2 + q)) = fq := ⟨_, rfl⟩
          rw [hfq] at oq cq
          rw [show 194 * k + (2 + q) = k * 194 + 2 + q by omega] at cq
          have oq : PmV V M2 fq yq := oq
          obtain ⟨y, hy⟩ : ∃ y, yq.mul s = y := ⟨_, rfl⟩
          obtain ⟨p, hp⟩ : ∃ p, y.at k = p := ⟨_, rfl⟩
          have hpn : p < n := by rw [← hp]; exact y.lt hk
          have hmul := mul161 hn oq.weak (HSS.out.2.1.stp hSV).weak
          rw [hy] at hmul
          have op := hTV.to_ hk (p := p) (by omega)
          have cp := hTV.cell hk (c := 2 + p) (by omega)
          rw [e3, show (stepTry (T2 k) q).to p = (T2 k).to p from rfl] at op
          obtain ⟨fp, hfp⟩ : ∃ fp, F3 (194 * k + (2 + p)) = fp := ⟨_, rfl⟩
          rw [hfp] at op cp
          rw [show 194 * k + (2 + p) = k * 194 + 2 + p by omega] at cp
          obtain ⟨bq, ofq, cfq, rfl⟩ := oq.form
          have HV := Lib.hid (And.intro hTV (And.intro hSV (And.intro hyq (And.intro hy (And.intro hp (And.intro hmul (And.intro e3 hT3)))))))
          have Hfp := Lib.hid hfp
          clear hV hTV hSV hyq hy hp hmul e3 hT3 hfq hfp oq gt g0 gcell ft hgd hlt2
          have hp64 : (p : Int) < 64 := by omega
          cases hto : (T2 k).to p with
          | none =>
            rw [hto] at op
            have hfn : fp = .slice none 0 0 := op
            subst hfn
            have he : ∀ W, (binOp .eql 27 (.slice none 0 0) (.slice none 0 0)).run Tryz.prog W = .ok (.bool true) W := fun W => eql_nil27 W none 0 0
            have Hto := Lib.hid hto
            clear hto op
            go_wp2_with (go_at_call 161; refine HV.out.2.2.2.2.2.1.mono ?_; rintro e w4 ⟨v4, rfl, k4, k5⟩; obtain ⟨yb, yc, rfl, k6, k7, k8⟩ := id k4; have cy := k8 k hk; rw [HV.out.2.2.2.2.1] at cy; have cp4 := (k5.cell (p := ⟨G, k * 194 + 2 + p, none⟩) HV.out.1.row.lt).trans cp; have H4 := Lib.hid (And.intro k4 k5); clear k4 k5 k6 k7 k8)
            obtain ⟨fb, hfb⟩ : ∃ fb, F3 (194 * k + (66 + p)) = fb := ⟨_, rfl⟩
            have HFB := Lib.hid hfb
            clear hfb
            have hinv := Lib.hid (fun W (hw : PmV W [] (.slice (some ⟨yb, 0, none⟩) n yc) y) => inv173 (w := W) hn hw)
            have HT4 := Lib.hid (HV.out.1.below H4.out.2)
            have hp2 : 2 + p < 194 := by omega
            have hp66 : 66 + p < 194 := by omega
            have hpa : 194 * k + (2 + p) = k * 194 + 2 + p := by omega
            have hpb : 194 * k + (66 + p) = k * 194 + 66 + p := by omega
            have hne : k * 194 + 2 + p ≠ k * 194 + 66 + p := by omega
            have hyv : PmV w4 M2 (.slice (some ⟨yb, 0, none⟩) n yc) y := H4.out.1.pm (fun m hm => (HV.out.1.mb m hm).2)
            have Hyv := Lib.hid hyv
            clear hyv
            go_region_with (first
              | (go_at_call 173; refine (hinv.out _ (Hyv.out.weak.below (by first | exact Below.refl _ _ | exact below_self_drewN _ _))).mono ?_; rintro e w5 ⟨v5, rfl, k4, k5⟩; obtain ⟨ib, ic, rfl⟩ := k4.form; have h5 := (HT4.out.below (by first | exact Below.refl _ _ | exact below_self_drewN _ _)).below k5; have cpw5 := h5.cell hk (c := 2 + p) hp2; rw [Hfp.out, hpa] at cpw5; have cb5 := h5.cell hk (c := 66 + p) hp66; rw [HFB.out, hpb] at cb5; have fr1 := h5.row.frozen (k * 194 + 2 + p); have fr2 := h5.row.frozen (k * 194 + 66 + p); have H5 := Lib.hid (And.intro k4 (And.intro h5 k5)); clear k4 k5 h5))
            obtain ⟨V6, hV6⟩ : ∃ V6, (w5.setCell ⟨G, k * 194 + 2 + p, none⟩ (.slice (some ⟨yb, 0, none⟩) n yc)).setCell ⟨G, k * 194 + 66 + p, none⟩ (.slice (some ⟨ib, 0, none⟩) n ic) = V6 := ⟨_, rfl⟩
            rw [hV6]
            obtain ⟨T5, hT5⟩ : ∃ T5, updL T3 k (setTo (T3 k) p y) = T5 := ⟨_, rfl⟩
            obtain ⟨F5, hTV6, hSV6⟩ : ∃ F5, TowW n B t G V6 M2 T5 F5 ∧ Stp V M2 V6 M2 := by
              have h3 := H5.out.2.1.put2 hk (p := p) (by omega) ((Hyv.out.below (by first | exact Below.refl _ _ | exact below_self_drewN _ _)).below H5.out.2.2) (H5.out.1.pm (fun m hm => (HT4.out.mb m hm).2))
              rw [hpa, hpb, hV6, hT5] at h3
              exact ⟨_, h3.1, (Stp.below H4.out.2).trans ((Stp.below (by first | exact Below.refl _ _ | exact below_self_drewN _ _)).trans ((Stp.below H5.out.2.2).trans h3.2))⟩
            have e5 : (T5 k).orb = (T2 k).orb := by rw [← hT5, updL_at, HV.out.2.2.2.2.2.2.1]; rfl
            have o5 := hTV6.orb_ hk
            have g5 := hTV6.cell hk (c := 1) (by omega)
            have gf5 := hTV6.row.frozen (k * 194 + 1)
            rw [e5] at o5
            obtain ⟨ov5, hov5⟩ : ∃ ov5, F5 (194 * k + 1) = ov5 := ⟨_, rfl⟩
            rw [hov5] at o5 g5
            rw [show 194 * k + 1 = k * 194 + 1 by omega] at g5
            have hb5 : (F5 (194 * k + 1)).ownBlock ≠ some G := fun e => (hTV6.blk k 1 hk (by omega) G e).2 rfl
            have hB5 := hTV6.gB
            obtain ⟨L5, hL5⟩ : ∃ L5, (ints (nts (T2 k).orb)).length = L5 := ⟨_, rfl⟩
            have hl5 : L5 < 1099511627776 := by
              rw [← hL5, ints_len, nts_len]
              have := orb_le HQ.out.2.1.inv.wf hk
              omega
            have HW := Lib.hid (And.intro hTV6 (And.intro hSV6 (And.intro hT5 (And.intro o5 (And.intro hov5 (And.intro hL5 hb5))))))
            clear hV6 hTV6 hSV6 hT5 o5 hov5 e5 hL5 hb5 cpw5 cb5 fr1 fr2 cp4 cy he hpa hpb hne
            go_wp2_with (at_builtin; refine app1f rfl (.tmp 102) (.tmp 104) 26 3 rfl i3 (.int .i64 0) 8 Tryz.underlying26 I3.out.1 I3.out.2.1 I3.out.2.2.1 I3.out.2.2.2 rfl (by omega) B (.int .i64 (p : Int)) ov5 (ints (nts (T2 k).orb)) L5 rfl HW.out.2.2.2.1 rfl rfl HW.out.2.2.2.2.2.1 hl5 hB5 ?_; intro G8 cap8 w8 k1 k2 k3 k4 k5; have g8 : w8.cell? ⟨G, k * 194 + 1, none⟩ = some ov5 := (World.cell?_of_block (w := V6) (a := ⟨G, k * 194 + 1, none⟩) (k2.block G HW.out.1.row.lt (fun e => HW.out.2.2.2.2.2.2 (by rw [HW.out.2.2.2.2.1]; exact e.symm)))).trans g5; have gf8 : w8.frozen? ⟨G, k * 194 + 1, none⟩ = false := (World.frozen?_of_block (w := V6) (a := ⟨G, k * 194 + 1, none⟩) (k2.block G HW.out.1.row.lt (fun e => HW.out.2.2.2.2.2.2 (by rw [HW.out.2.2.2.2.1]; exact e.symm)))).trans gf5; have H8 := Lib.hid (And.intro k1 (And.intro k2 k3)); clear k1 k2 k3 k4 k5)
            have hq9 := HW.out.1.appO (p := p) hk (by rw [HW.out.2.2.2.2.1]; exact H8.out.2.1) (by rw [HW.out.2.2.2.2.1]; exact H8.out.2.2) (by rw [← HW.out.2.2.1, updL_at, HV.out.2.2.2.2.2.2.1]; exact H8.out.1)
            have hT6 := stepNew_eq T2 k q p y
            rw [HV.out.2.2.2.2.2.2.2, HW.out.2.2.1] at hT6
            rw [hT6] at hq9
            have hC9 := HQ.out.2.1.new hk HV.out.2.2.1 (by rw [HQ.out.2.2.2.2.2.2.1]; exact HSS.out.1) HV.out.2.2.2.1.symm HV.out.2.2.2.2.1 Hto.out
            have hP9 := HQ.out.2.2.2.1.step (l' := stepNew (T2 k) q p y) (e := [p]) HQ.out.2.2.2.2.1 HQ.out.2.2.2.2.2.2.2.2.2.2.nd rfl rfl (fun x hx => if_neg hx)
            go_roundg (R - (tq + 1))
            case measure => omega
            case rel =>
              refine ⟨_, _, _, hq9.1, hC9, HQ.out.2.2.1.trans (HV.out.2.1.trans (HW.out.2.1.trans hq9.2)), ?_, ?_, ?_⟩
              · rw [updL_at]; exact hP9.1
              · rw [updL_at]; exact hP9.2
              · rw [updL_at]
                have h1 : (stepNew (T2 k) q p y).tried q = tq + 1 := by rw [← HQ.out.2.2.2.2.2.2.1]; exact if_pos rfl
                have h2 : (stepNew (T2 k) q p y).gens.length = R := HQ.out.2.2.2.2.2.1
                rw [h1, h2]
          | some z =>
            rw [hto] at op
            have op : PmV V M2 fp z := op
            obtain ⟨zb, zo, zc, rfl⟩ := op.form
            have he : ∀ W, (binOp .eql 27 (.slice (some ⟨zb, zo, none⟩) n zc) (.slice none 0 0)).run Tryz.prog W = .ok (.bool false) W := fun W => eql_nil27 W _ _ _
            have oby := HV.out.1.by_ hk (p := p) (by omega)
            have cby := HV.out.1.cell hk (c := 66 + p) (by omega)
            rw [HV.out.2.2.2.2.2.2.1, show (stepTry (T2 k) q).to p = (T2 k).to p from rfl, hto] at oby
            obtain ⟨fb, hfb⟩ : ∃ fb, F3 (194 * k + (66 + p)) = fb := ⟨_, rfl⟩
            rw [hfb] at oby cby
            rw [show 194 * k + (66 + p) = k * 194 + 66 + p by omega] at cby
            have oby : PmV V M2 fb z.inv := oby
            obtain ⟨ib, io, ic, rfl⟩ := oby.form
            have hpre := AddPre.ofTry HQ.out.2.1 hk HV.out.2.2.1 (by rw [HQ.out.2.2.2.2.2.2.1]; exact HSS.out.1) HV.out.2.2.2.1.symm HV.out.2.2.2.2.1 hto
            have hold := fun T5 => CloseR.old (T2 := T5) HQ.out.2.1 hk HV.out.2.2.1 (by rw [HQ.out.2.2.2.2.2.2.1]; exact HSS.out.1) HV.out.2.2.2.1.symm HV.out.2.2.2.2.1 hto
            rw [HV.out.2.2.2.2.2.2.2] at hpre hold
            have c0 := HV.out.1.tb
            have hP9 := HQ.out.2.2.2.1.step (l' := stepTry (T2 k) q) (e := []) HQ.out.2.2.2.2.1 HQ.out.2.2.2.2.2.2.2.2.2.2.nd (by rw [List.append_nil]; rfl) rfl (fun x hx => if_neg hx)
            have hfin : ∀ (T5 : Tw n), T5 k = stepTry (T2 k) q → PreL (T5 k) kk ∧ (T5 k).orb[kk]? = some q ∧ R - (tq + 1) = (T5 k).gens.length - (T5 k).tried q := fun T5 h5 => by
              rw [h5]
              refine ⟨hP9.1, hP9.2, ?_⟩
              have h1 : (stepTry (T2 k) q).tried q = tq + 1 := by rw [← HQ.out.2.2.2.2.2.2.1]; exact if_pos rfl
              have h2 : (stepTry (T2 k) q).gens.length = R := HQ.out.2.2.2.2.2.1
              rw [h1, h2]
            have Hto := Lib.hid (And.intro hto (And.intro oby (And.intro hpre (And.intro hold hfin))))
            clear hto op oby hpre hold hfb hP9 hfin
            by_cases hkl : k + 1 < n
            · have hkd : (k : Int) + 1 < n := by omega
              have hlen3 : ∀ j, (T3 j).gens.length ≤ many T3 + (k + 1) := fun j => by
                have h1 := tried_many T2 k q
                rw [HV.out.2.2.2.2.2.2.2] at h1
                rw [h1.1, h1.2 j]
                have h2 := HQ.out.2.1.ext.pot j
                have h3 := H.out.2.2 j
                omega
              have HL3 := Lib.hid hlen3
              clear hlen3
              go_wp2_with (first
                | (go_at_call 161; refine hm5.out.mono ?_; rintro e w5 ⟨v5, rfl, k4, k5⟩; have H5 := Lib.hid (And.intro k4 k5); have hadd := Lib.hid (HA.out hkl w5 M2 T3 F3 _ v5 ((HV.out.1.below H4.out.2).below k5) Hto.out.2.2.1 HL3.out (k4.pm (fun m hm => Nat.lt_of_lt_of_le (HV.out.1.mb m hm).2 H4.out.2.size))); clear k4 k5)
                | (go_at_call 161; refine HV.out.2.2.2.2.2.1.mono ?_; rintro e w4 ⟨v4, rfl, k4, k5⟩; obtain ⟨yb, yc, rfl, k6, k7, k8⟩ := id k4; have cy := k8 k hk; rw [HV.out.2.2.2.2.1] at cy; have cp4 := (k5.cell (p := ⟨G, k * 194 + 2 + p, none⟩) HV.out.1.row.lt).trans cp; have cby4 := (k5.cell (p := ⟨G, k * 194 + 66 + p, none⟩) HV.out.1.row.lt).trans cby; have c04 := (k5.cell (p := ⟨t, 0, none⟩) HV.out.1.tm.2).trans c0; have H4 := Lib.hid (And.intro k4 k5); have hm5 := Lib.hid (mul161 (w := w4) hn (k4.pm (M := []) (by simp)) (Hto.out.2.1.below k5).weak); clear k4 k5 k6 k7 k8)
                | (go_at_call 144; refine hadd.out.mono ?_; rintro e w6 ⟨rfl, M6, T6, F6, k1, k2, k3⟩; have H6 := Lib.hid (And.intro k1 (And.intro k2 k3)); clear k1 k2 k3))
              go_roundg (R - (tq + 1))
              case measure => omega
              case rel =>
                have h5 : T6 k = stepTry (T2 k) q := (H6.out.2.1.ext.low k (by omega)).trans HV.out.2.2.2.2.2.2.1
                exact ⟨M6, T6, F6, H6.out.1, Hto.out.2.2.2.1 _ H6.out.2.1, HQ.out.2.2.1.trans (HV.out.2.1.trans ((Stp.below H4.out.2).trans ((Stp.below H5.out.2).trans H6.out.2.2))), Hto.out.2.2.2.2 T6 h5⟩
            · have hkd : ¬ (k : Int) + 1 < n := by omega
              go_wp2_with (first
                | (go_at_call 161; refine HV.out.2.2.2.2.2.1.mono ?_; rintro e w4 ⟨v4, rfl, k4, k5⟩; obtain ⟨yb, yc, rfl, k6, k7, k8⟩ := id k4; have cy := k8 k hk; rw [HV.out.2.2.2.2.1] at cy; have cp4 := (k5.cell (p := ⟨G, k * 194 + 2 + p, none⟩) HV.out.1.row.lt).trans cp; have c04 := (k5.cell (p := ⟨t, 0, none⟩) HV.out.1.tm.2).trans c0; have H4 := Lib.hid (And.intro k4 k5); clear k4 k5 k6 k7 k8))
              go_roundg (R - (tq + 1))
              case measure => omega
              case rel =>
                exact ⟨M2, T3, F3, HV.out.1.below H4.out.2, Hto.out.2.2.2.1 _ (AddPost.last Hto.out.2.2.1 (by omega)), HQ.out.2.2.1.trans (HV.out.2.1.trans (Stp.below H4.out.2)), Hto.out.2.2.2.2 T3 HV.out.2.2.2.2.2.2.1⟩
        · have hgd : decide ((tq : Int) < (R : Int)) = false := by simp; omega
          have htR : tq = R := by omega
          have HR := Lib.hid htR
          clear htR
          go_wp2_with fail
          go_quiet (fail)
          go_wp2_with fail
          have hkn2 : kk < n := by have := HP.out.2.2.2.2.2.1; omega
          refine ⟨⟨kk + 1, M2, T2, F2, by go_num, HQ.out.1.below (below_drewN_self _ _), HQ.out.2.1, HQ.out.2.2.1.trans (Stp.below (below_drewN_self _ _)), HQ.out.2.2.2.1.next HQ.out.2.2.2.2.1 (by rw [HQ.out.2.2.2.2.2.2.1, HR.out, HQ.out.2.2.2.2.2.1]), by omega⟩, by simp [intOf]; omega⟩
    · have HP := Lib.hid (And.intro hT1 (And.intro hC1 (And.intro hS1 (And.intro hL1 hL))))
      clear hT1 hC1 hS1 hL1 hL hov o1 hor
      have hkL : ¬ (kk : Int) < L := by omega
      go_wp2_with fail
      go_end0
      exact ⟨rfl, M1, T1, ⟨F1, HP.out.1⟩, HP.out.2.1, HP.out.2.2.2.1.done (by rw [HP.out.2.2.2.2]; omega), HP.out.2.2.1⟩
theorem add_close {n B t G : Nat} : ∀ (f i : Nat), i < n → n - i ≤ f → AddC n B t G i
  | 0, i, hi, hf => by omega
  | f + 1, i, hi, hf => add_of_close hi fun k hik hkn => close_of_add hkn fun h => add_close f (k + 1) h (by omega)
end Go.Proofs.YtbejhkojdiadaaaGreat
