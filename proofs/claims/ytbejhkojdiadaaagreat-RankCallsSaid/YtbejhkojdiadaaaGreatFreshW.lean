/- The reference's table: the entries that a list lacks. -/
import Derived.Test.YtbejhkojdiadaaaGreatEntW
set_option linter.unusedSimpArgs false
set_option linter.unusedVariables false
namespace Go.Proofs.YtbejhkojdiadaaaGreat
open Go.RowKit PlainPm
def freshL {n : Nat} (E ls : List (Pm n)) : List (Pm n) := E.filter fun y => decide (y.l ∉ ls.map (·.l))
theorem freshL_snoc {n : Nat} {E ls : List (Pm n)} {k : Nat} {x : Pm n} (h : E[k]? = some x) : freshL (E.take (k + 1)) ls = freshL (E.take k) ls ++ (if x.l ∈ ls.map (·.l) then [] else [x]) := by
  unfold freshL
  rw [List.take_add_one, h, Option.toList_some, List.filter_append]
  congr 1
  by_cases hm : x.l ∈ ls.map (·.l)
  · rw [if_pos hm, List.filter_cons_of_neg (by simpa using hm)]; rfl
  · rw [if_neg hm, List.filter_cons_of_pos (by simpa using hm)]; rfl
/-- What the search for x has seen of the list. -/
def SeenL {n : Nat} (ls : List (Pm n)) (x : Pm n) (k : Nat) (s : Bool) : Prop := (s = true → x.l ∈ ls.map (·.l)) ∧ (s = false → ∀ j y, j < k → ls[j]? = some y → y.l ≠ x.l)
theorem SeenL.step {n : Nat} {ls : List (Pm n)} {x y : Pm n} {k : Nat} (h : SeenL ls x k false) (hy : ls[k]? = some y) : SeenL ls x (k + 1) (decide (x.l = y.l)) := by
  refine ⟨fun he => ?_, fun he j z hj hz => ?_⟩
  · rw [of_decide_eq_true he]; exact List.mem_map.2 ⟨y, List.mem_of_getElem? hy, rfl⟩
  · by_cases e : j = k
    · subst e; rw [hy] at hz; cases hz
      intro h2; exact of_decide_eq_false he h2.symm
    · exact h.2 rfl j z (by omega) hz
theorem SeenL.end_ {n : Nat} {ls : List (Pm n)} {x : Pm n} {k : Nat} {s : Bool} (h : SeenL ls x k s) (hk : s = false → ls.length ≤ k) : s = decide (x.l ∈ ls.map (·.l)) := by
  cases s with
  | true => exact (decide_eq_true (h.1 rfl)).symm
  | false =>
    refine (decide_eq_false fun hm => ?_).symm
    obtain ⟨y, hy, e⟩ := List.mem_map.1 hm
    obtain ⟨j, hj⟩ := List.mem_iff_getElem?.1 hy
    exact h.2 rfl j y (by have := (List.getElem?_eq_some_iff.1 hj).1; have := hk rfl; omega) hj e
set_option maxRecDepth 100000 in
set_option maxHeartbeats 2000000 in
theorem fresh153 {n B g c : Nat} {w : World} {R : Nat → Nat} {t : Nat → Nat → Option (Pm n)} {vl : Value} {ls : List (Pm n)} (hT : TabW n B g w R t) (hv : PmsV w [] vl ls) (hll : ls.length ≤ 1000000) :
    Calls Tryz.prog 153 #[.slice (some ⟨g, 0, none⟩) n c, vl] w fun e w' => ∃ v us, e = .returned v ∧ Own w' w.heap.size v 27 us ∧ PmL w' (rowsM n R) us (freshL (entL n t) ls) ∧ Below w.heap.size w w' := by
  obtain ⟨i27, hi27, hz27, hs27, hb27⟩ := info_parts Tryz.info27
  have I27 := Lib.hid (And.intro hi27 (And.intro hz27 (And.intro hs27 hb27)))
  clear hi27 hz27 hs27 hb27
  obtain ⟨la, lc, vs, rfl, hlr, hlp⟩ := hv
  have hn := hT.hn
  obtain ⟨LL, hLL⟩ : ∃ m, ls.length = m := ⟨_, rfl⟩
  rw [hLL] at hll ⊢
  have H := Lib.hid (And.intro hT (And.intro hlr (And.intro hlp hLL)))
  have hent := entries152 (c := c) hT
  have hel := entL_len (n := n) t
  obtain ⟨E, hE⟩ : ∃ E, entL n t = E := ⟨_, rfl⟩
  rw [hE] at hent hel ⊢
  have HE := Lib.hid hent
  have Hel := Lib.hid hel
  clear hent hel hE
  clear hT hlr hlp hLL
  have hn1 := hn.2
  go_enter Tryz.func153, Tryz.ntmps153
  go_wp2_with (go_at_call 152; refine HE.out.mono ?_; rintro e w1 ⟨v1, us1, rfl, k1, k2, k3, _⟩; obtain ⟨ea, ec, rfl, k4⟩ := k1.row (by rw [k2.1]; have := Hel.out; have : n * n ≤ 64 * 64 := Nat.mul_le_mul hn1 hn1; unfold maxLen; omega); have H1 := Lib.hid (And.intro k1 (And.intro k2 (And.intro k3 k4))); clear k1 k2 k3 k4)
  obtain ⟨EL, hEL⟩ : ∃ m, us1.length = m := ⟨_, rfl⟩
  have hul := H1.out.2.1.1
  have hEn : EL ≤ 4096 := by
    have := Hel.out
    have : n * n ≤ 64 * 64 := Nat.mul_le_mul hn1 hn1
    omega
  have HEL := Lib.hid (And.intro hEL hul)
  rw [hEL]
  clear hul hEL
  go_loopw [5, 7] (fun v i wr => ∃ (k : Nat) (us : List Value), k ≤ EL ∧ i = .int .i64 (k : Int) ∧ Own wr w1.heap.size v 27 us ∧ PmL w1 (rowsM n R) us (freshL (E.take k) ls) ∧ Below w1.heap.size w1 wr ∧ us.length ≤ k) (fun _ i _ => EL - (intOf i).toNat)
  case atStart => exact ⟨0, [], by omega, rfl, Own.nil _ _ _, ⟨rfl, fun k s h => by simp [freshL] at h⟩, Below.refl _ _, by simp⟩
  case round =>
    obtain ⟨k, us, hk, rfl, ho, hp, hb, hl⟩ := hrel
    have hsz := hb.size
    have HP := Lib.hid (And.intro ho (And.intro hp (And.intro hb hl)))
    clear ho hp hb hl
    by_cases hkn : k < EL
    · obtain ⟨x, hx⟩ : ∃ x, E[k]? = some x := ⟨_, List.getElem?_eq_getElem (by have := HEL.out; omega)⟩
      obtain ⟨u, hu, hpm⟩ := H1.out.2.1.2 k x hx
      obtain ⟨xb, xo, hae, _, hxc⟩ := (H1.out.2.2.2.below HP.out.2.2.1).2 k u hu
      subst hae
      obtain ⟨xa, xc, rfl, hxi⟩ := hpm.ints (by omega)
      have hk1 : (k : Int) < EL := by omega
      obtain ⟨wq, rfl⟩ : ∃ wq : World, wq = wr := ⟨_, rfl⟩
      have HX := Lib.hid (And.intro hx (And.intro hpm (And.intro hu hxi)))
      clear hx hpm hu hxi
      go_wp2_with fail
      go_loopw [8, 9] (fun sv jv wi => ∃ (s : Bool) (j q : Nat), j ≤ LL ∧ sv = .bool s ∧ jv = .int .i64 (j : Int) ∧ wi = wq.drewN q ∧ SeenL ls x j s) (fun sv jv _ => LL + 1 - (intOf jv).toNat)
      case atStart => exact ⟨false, 0, 0, by omega, rfl, rfl, rfl, ⟨fun h => (by cases h), fun _ j y hj => (by omega)⟩⟩
      case round =>
        obtain ⟨s, j, q, hj, rfl, rfl, rfl, hs⟩ := hrel
        have HS := Lib.hid hs
        clear hs
        cases s with
        | false =>
          by_cases hjl : j < LL
          · obtain ⟨y, hy⟩ : ∃ y, ls[j]? = some y := ⟨_, List.getElem?_eq_getElem (by rw [H.out.2.2.2]; exact hjl)⟩
            obtain ⟨u2, hu2, hpm2⟩ := H.out.2.2.1.2 j y hy
            have hbq : Below w.heap.size w wq := below_trans H1.out.2.2.1 HP.out.2.2.1
            obtain ⟨yb, yo, hae, _, hyc⟩ := (H.out.2.1.below hbq).2 j u2 hu2
            subst hae
            obtain ⟨ya, yc, rfl, hyi⟩ := hpm2.ints (by omega)
            have Hc := Lib.hid (fun q => same20 xa ya xc yc x.l y.l (wq.drewN q) ((HX.out.2.2.2.below HP.out.2.2.1).drewN q) ((hyi.below hbq).drewN q))
            obtain ⟨r, hr⟩ : ∃ r, decide (x.l = y.l) = r := ⟨_, rfl⟩
            rw [hr] at Hc
            have Hy := Lib.hid (And.intro hy hr)
            have hj1 : (j : Int) < LL := by omega
            clear hy hr hpm2 hyi hbq hu2
            go_wp2_with fail
            go_quiet ((go_at_call 20; exact quiet_add (Hc.out _)))
            go_wp2_with fail
            exact ⟨⟨r, j + 1, q + nq, by omega, rfl, by go_num, rfl, by rw [← Hy.out.2]; exact HS.out.step Hy.out.1⟩, by simp [intOf]; omega⟩
          · have hjL : ¬ (j : Int) < LL := by omega
            have hdec := HS.out.end_ (fun _ => by rw [H.out.2.2.2]; omega)
            have hnm : ¬ x.l ∈ ls.map (·.l) := of_decide_eq_false hdec.symm
            have hsn := freshL_snoc (ls := ls) HX.out.1
            rw [if_neg hnm] at hsn
            have HD := Lib.hid hsn
            clear hdec hnm hsn
            go_wp2_with (at_builtin; refine app1 rfl (.tmp 39) (.tmp 44) 44 27 rfl i27 (.slice none 0 0) 24 Tryz.underlying44 I27.out.1 I27.out.2.1 I27.out.2.2.1 I27.out.2.2.2 rfl (by omega) w1.heap.size (.slice xa x.l.length xc) u5 us rfl (HP.out.1.drewN q) rfl rfl (by have := HP.out.2.2.2; omega) hsz ?_; intro v8 w8 k1 k2 k3; have H8 := Lib.hid (And.intro k1 (And.intro k2 k3)); clear k1 k2 k3)
            refine ⟨⟨k + 1, us ++ [.slice xa x.l.length xc], by omega, by go_num, H8.out.1, ?_, (below_drewN HP.out.2.2.1 q).grown H8.out.2.1 hsz (fun g hg => (HP.out.1.block_lt hg).2), by rw [List.length_append]; have := HP.out.2.2.2; simp; omega⟩, by simp [intOf]; omega⟩
            rw [HD.out]
            exact HP.out.2.1.snoc HX.out.2.1
        | true =>
          have hmm : x.l ∈ ls.map (·.l) := HS.out.1 rfl
          have hsn := freshL_snoc (ls := ls) HX.out.1
          rw [if_pos hmm, List.append_nil] at hsn
          have HD := Lib.hid hsn
          clear hmm hsn
          go_wp2_with fail
          exact ⟨⟨k + 1, us, by omega, by go_num, HP.out.1.drewN q, by rw [HD.out]; exact HP.out.2.1, below_drewN HP.out.2.2.1 q, by have := HP.out.2.2.2; omega⟩, by simp [intOf]; omega⟩
    · obtain rfl : k = EL := by omega
      go_wp2_with fail
      go_ret
      have := HP.out.2.1
      rw [List.take_of_length_le (by have := HEL.out; omega)] at this
      exact ⟨_, us, rfl, HP.out.1.mono H1.out.2.2.1.size, this.stp (Stp.below HP.out.2.2.1), below_trans H1.out.2.2.1 HP.out.2.2.1⟩
end Go.Proofs.YtbejhkojdiadaaaGreat
