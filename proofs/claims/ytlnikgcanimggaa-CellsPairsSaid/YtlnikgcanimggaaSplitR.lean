/- The reference's Split, and Single. -/
import Derived.Test.YtlnikgcanimggaaSplit2
set_option linter.unusedSimpArgs false
set_option linter.unusedVariables false
namespace Go.Proofs.Ytlnikgcanimggaa
open Go.RowKit Plain

theorem Marks.kept {w w' : World} {B : Nat} {s : List Int} (h : Marks w B s) {row : Option Nat} (hg : w.grownBy w' row) (hne : ∀ g, row = some g → B < g) : Marks w' B s := by
  obtain ⟨cs, hb, hs, hc⟩ := h
  have hB : B < w.heap.size := by
    rcases Nat.lt_or_ge B w.heap.size with h | h
    · exact h
    · rw [Array.getElem?_eq_none h] at hb; cases hb
  exact ⟨cs, (hg.block B hB (fun e => by have := hne B e.symm; omega)).trans hb, hs, hc⟩
theorem Marks.lt {w : World} {B : Nat} {s : List Int} (h : Marks w B s) : B < w.heap.size := by
  obtain ⟨cs, hb, _, _⟩ := h
  rcases Nat.lt_or_ge B w.heap.size with h | h
  · exact h
  · rw [Array.getElem?_eq_none h] at hb; cases hb

set_option maxRecDepth 100000 in
set_option maxHeartbeats 2000000 in
theorem splitR_calls (n : Int) (a b : Option Addr) (c d : Nat) (l : List (List Int)) (s : List Int) (w : World) (ha : Rows w a l) (hb : Ints w b s) :
    Calls Try.prog 33 #[.int .i64 n, .slice a l.length c, .slice b s.length d] w fun e w' => ∃ a c, e = .returned (.tuple #[.slice a (splitA n l s).1.length c, .int .i64 (splitA n l s).2]) ∧ Rows w' a (splitA n l s).1 ∧ Below w.heap.size w w' := by
  obtain ⟨i3, hi3, hz3, hs3, hb3⟩ := info_parts Try.info3
  obtain ⟨i29, hi29, hz29, hs29, hb29⟩ := info_parts Try.info29
  have I3 := Lib.hid (And.intro hi3 (And.intro hz3 (And.intro hs3 hb3)))
  have I29 := Lib.hid (And.intro hi29 (And.intro hz29 (And.intro hs29 hb29)))
  clear hi3 hz3 hs3 hb3 hi29 hz29 hs29 hb29
  have hck := checkR_calls n a c l w ha
  have hml := ha.len
  have hms := hb.len
  by_cases h0 : chk n l = 0
  · obtain ⟨hll, hlc⟩ := chk_bound h0
    rw [h0] at hck
    obtain ⟨hn0, hn64, _⟩ := chk_zero h0
    obtain ⟨N, rfl⟩ := Int.eq_ofNat_of_zero_le hn0
    have hin := chk_in h0
    obtain ⟨A, hA⟩ : ∃ A, splitA N l s = A := ⟨_, rfl⟩
    have hA1 : badPt N s = true → A = ([], 2) := fun h => by rw [← hA, splitA, if_neg (by simp [h0]), if_pos h]
    have hA2 : badPt N s = false → A = (splitL s l, 0) := fun h => by rw [← hA, splitA, if_neg (by simp [h0]), if_neg (by simp [h])]
    rw [hA]
    have H0 := Lib.hid (And.intro ha (And.intro hlc (And.intro hin (And.intro hA1 (And.intro hA2 hb)))))
    have Hck := Lib.hid hck
    obtain ⟨L, hL⟩ : ∃ L, L = l.length := ⟨_, rfl⟩
    obtain ⟨S, hS⟩ : ∃ L, L = s.length := ⟨_, rfl⟩
    rw [← hL] at Hck hml hll ⊢
    rw [← hS] at hms ⊢
    have HL := Lib.hid (And.intro hL hS)
    clear ha hb hck hL hS h0 hlc hin hA hA1 hA2
    go_enter Try.func33, Try.ntmps33
    go_wp2_with fail
    refine Hck.out.mono ?_
    rintro e w1 ⟨rfl, hb1⟩
    have H1 := Lib.hid hb1
    have hM := Lib.hid (Marks.new w1)
    have hB0 := Lib.hid (hb1.alloc hb1.size (.cells (Array.replicate 64 (.bool false)) 72))
    clear hb1
    obtain ⟨B, hB⟩ : ∃ B, B = w1.heap.size := ⟨_, rfl⟩
    have HB := Lib.hid hB
    go_wp2
    rw [← hB] at hM ⊢
    clear hB
    go_loopw [10] (fun i wr => ∃ k : Nat, k ≤ S ∧ i = .int .i64 k ∧ Marks wr B (s.take k).reverse ∧ Below w.heap.size w wr ∧ badPt N s = badPt N (s.drop k) ∧ badPt N (s.take k) = false) (fun i _ => S - (intOf i).toNat)
    case atStart => exact ⟨0, by omega, rfl, hM.out, hB0.out, rfl, rfl⟩
    case round =>
      clear hM hB0
      obtain ⟨k, hk, rfl, hmk, hbl, hbad, hok⟩ := hrel
      have H := Lib.hid (And.intro hmk (And.intro hbl (And.intro hbad hok)))
      clear hbl hbad hok
      by_cases hlt : k < S
      · obtain ⟨g, o, rfl, _, hc⟩ := (H0.out.2.2.2.2.2.below H.out.2.1).at_ (k := k) (by rw [← HL.out.2]; exact hlt)
        have hks : k < s.length := by rw [← HL.out.2]; exact hlt
        have hd : s.drop k = (s[k]?.getD 0) :: s.drop (k + 1) := drop_cons hks
        have ht : s.take (k + 1) = s.take k ++ [s[k]?.getD 0] := by rw [List.take_add_one, List.getElem?_eq_getElem hks]; rfl
        obtain ⟨p, hp⟩ : ∃ p, s[k]?.getD 0 = p := ⟨_, rfl⟩
        rw [hp] at hc hd ht
        have he : badPt N s = ((decide (p < 0) || decide ((N : Int) ≤ p)) || badPt N (s.drop (k + 1))) := by rw [H.out.2.2.1, hd]; rfl
        have Hp := Lib.hid (And.intro he ht)
        clear hp hd ht he hks
        by_cases hp0 : p < 0
        · have hbd : badPt N s = true := by rw [Hp.out.1, decide_eq_true hp0]; rfl
          have Hbd := Lib.hid (H0.out.2.2.2.1 hbd)
          clear hbd hmk
          go_wp2
          go_ret2
          have hrn : Rows wr none A.1 := by rw [Hbd.out]; exact ⟨[], Row.nil, rfl, fun i u xs hu => by simp at hu⟩
          first | exact ⟨none, 0, by rw [Hbd.out]; rfl, hrn, H.out.2.1⟩ | exact ⟨none, ⟨0, by rw [Hbd.out]; rfl⟩, hrn, H.out.2.1⟩
        · have hp0' := decide_eq_false hp0
          by_cases hpn : (N : Int) ≤ p
          · have hbd : badPt N s = true := by rw [Hp.out.1, decide_eq_true hpn]; simp
            have Hbd := Lib.hid (H0.out.2.2.2.1 hbd)
            clear hbd hmk
            go_wp2
            go_ret2
            have hrn : Rows wr none A.1 := by rw [Hbd.out]; exact ⟨[], Row.nil, rfl, fun i u xs hu => by simp at hu⟩
            first | exact ⟨none, 0, by rw [Hbd.out]; rfl, hrn, H.out.2.1⟩ | exact ⟨none, ⟨0, by rw [Hbd.out]; rfl⟩, hrn, H.out.2.1⟩
          · have hpn' := decide_eq_false hpn
            obtain ⟨q, rfl⟩ := Int.eq_ofNat_of_zero_le (by omega : 0 ≤ p)
            have hq : q < 64 := by omega
            have hcm := hmk.cell q hq
            have hfm := hmk.frozen q
            have hlo : w.heap.size ≤ B := by rw [HB.out]; exact H1.out.size
            have hbt : badPt N (s.take (k + 1)) = false := by
              rw [Hp.out.2]
              have app : ∀ (xs : List Int), badPt N xs = false → badPt N (xs ++ [(q : Int)]) = false := by
                intro xs
                induction xs with
                | nil => intro _; simp [badPt]; omega
                | cons x xs ih =>
                  intro h
                  rw [badPt, Bool.or_eq_false_iff] at h
                  rw [List.cons_append, badPt, h.1, ih h.2]; rfl
              exact app _ H.out.2.2.2
            have hbn : badPt N s = badPt N (s.drop (k + 1)) := by rw [Hp.out.1, hp0', hpn']; rfl
            have Hn := Lib.hid (And.intro hbt hbn)
            clear hmk hbt hbn
            go_wp2
            refine ⟨⟨k + 1, by omega, by go_num, ?_, H.out.2.1.setCell hlo _, Hn.out.2, Hn.out.1⟩, by simp [intOf]; omega⟩
            rw [Hp.out.2, List.reverse_append]
            exact H.out.1.put q hq
      · obtain rfl : k = S := by omega
        have hA : A = (splitL s l, 0) := H0.out.2.2.2.2.1 (by rw [H.out.2.2.1, List.drop_eq_nil_of_le (by rw [← HL.out.2]; omega)]; rfl)
        have hsr : Marks wr B s.reverse := by
          have := H.out.1
          rwa [List.take_of_length_le (by rw [← HL.out.2]; omega)] at this
        obtain ⟨D, hD⟩ : ∃ D, D = wr.heap.size := ⟨_, rfl⟩
        have HA := Lib.hid (And.intro hA (And.intro hsr (And.intro H.out.2.1 hD)))
        have hBD : B < D := by rw [hD]; exact hsr.lt
        have hwD : w.heap.size ≤ D := by rw [hD]; exact H.out.2.1.size
        obtain ⟨wm, rfl⟩ : ∃ wm : World, wm = wr := ⟨_, rfl⟩
        clear hA hsr hD H hmk
        go_wp2
        go_loopw [11, 12] (fun v kk wr => ∃ (k : Nat) (cs : List Value), k ≤ L ∧ kk = .int .i64 k ∧ Own wr D v 29 cs ∧ OwnRows wr D 3 cs (splitL s (l.take k)) ∧ Below D wm wr ∧ Marks wr B s.reverse) (fun _ kk _ => L - (intOf kk).toNat)
        case atStart => exact ⟨0, [], by omega, rfl, Own.nil _ _ _, OwnRows.nil _ _ _, Below.refl _ _, HA.out.2.1⟩
        case round =>
          obtain ⟨k, cs, hk, rfl, hv, hcs, hbl, hmk⟩ := hrel
          obtain ⟨wo, rfl⟩ : ∃ wo : World, wo = wr := ⟨_, rfl⟩
          have hDo : D ≤ wo.heap.size := by have := hbl.size; have := HA.out.2.2.2; omega
          have Hv := Lib.hid (And.intro hv (And.intro hcs (And.intro hbl (And.intro hDo hmk))))
          clear hv hcs hbl hDo hmk
          by_cases hlt : k < L
          · obtain ⟨x, hx⟩ : ∃ x, l[k]?.getD [] = x := ⟨_, rfl⟩
            have hxl : x.length ≤ 1000 := by
              rw [← hx, List.getElem?_eq_getElem (by rw [← HL.out.1]; exact hlt)]
              exact H0.out.2.1 _ (List.getElem_mem _)
            have hwo : Below w.heap.size w wo := HA.out.2.2.1.trans (Hv.out.2.2.1.mono hwD)
            obtain ⟨g, o, bx, cx, rfl, hgl, hcx, hix⟩ := (H0.out.1.below hwo).at_ (k := k) (by rw [← HL.out.1]; exact hlt)
            rw [hx] at hcx hix
            have hlook : ∀ wr, wo.grownBy wr none → Ints wr bx x ∧ wr.cell? ⟨g, o + k, none⟩ = some (.slice bx x.length cx) := fun wr hg => ⟨Row.keep hix hg.size (fun p hp => World.cell?_of_block (hg.block p.block hp (by simp))), (World.cell?_of_block (hg.block g hgl (by simp))).trans hcx⟩
            have hrng : ∀ j, j < x.length → ∃ q : Nat, x[j]?.getD 0 = (q : Int) ∧ q < N := fun j hj => by
              obtain ⟨q, hq, hqn⟩ := H0.out.2.2.1.at_ (k := k) (j := j) (by rw [← HL.out.1]; exact hlt) (by rw [hx]; exact hj)
              rw [hx] at hq; exact ⟨q, hq, hqn⟩
            have hmk : ∀ wr, wo.grownBy wr none → Marks wr B s.reverse := fun wr hg => Hv.out.2.2.2.2.kept hg (fun g h => by cases h)
            obtain ⟨M, hM⟩ : ∃ M, M = x.length := ⟨_, rfl⟩
            rw [← hM] at hxl hcx hlook hrng
            have Hr := Lib.hid (And.intro hlook (And.intro hx (And.intro hrng hmk)))
            clear hx hix hlook hrng hwo hcx hgl hmk
            have HM := Lib.hid hM
            clear hM
            go_wp2
            go_loopw [13, 14, 15] (fun u v jj wr => ∃ (j : Nat), j ≤ M ∧ jj = .int .i64 j ∧ Own wr wo.heap.size u 3 (ints (inS s (x.take j))) ∧ Own wr wo.heap.size v 3 (ints (outS s (x.take j))) ∧ Apart2 u v ∧ wo.grownBy wr none) (fun _ _ jj _ => M - (intOf jj).toNat)
            case atStart => exact ⟨0, by omega, rfl, Own.nil _ _ _, Own.nil _ _ _, .inl rfl, World.grownBy.refl _ _⟩
            case round =>
              obtain ⟨j, hj, rfl, hu, hv, hap, hg⟩ := hrel
              have hbr : Below D wm wr := Hv.out.2.2.1.grown hg Hv.out.2.2.2.1 (fun k hk => by cases hk)
              have H := Lib.hid (And.intro hu (And.intro hv (And.intro hap (And.intro hg hbr))))
              have hl1 := inS_len s (x.take j)
              have hl2 := outS_len s (x.take j)
              have hl3 : (x.take j).length ≤ M := by rw [List.length_take, ← HM.out]; omega
              obtain ⟨hix, hcx⟩ := Hr.out.1 wr hg
              have hmk := Hr.out.2.2.2 wr hg
              clear hu hv hap hg hbr
              by_cases hjl : j < M
              · obtain ⟨gb, ob, rfl, _, hcp⟩ := hix.at_ (k := j) (by rw [← HM.out]; exact hjl)
                obtain ⟨p, hp, hpN⟩ := Hr.out.2.2.1 j hjl
                rw [hp] at hcp
                have hp64 : p < 64 := by omega
                have hcm0 := hmk.cell p hp64
                have hiff : (p : Int) ∈ s.reverse ↔ (p : Int) ∈ s := List.mem_reverse
                have hcm : wr.cell? ⟨B, p, none⟩ = some (.bool (decide ((p : Int) ∈ s))) := by rw [hcm0]; congr 2; exact decide_eq_decide.2 hiff
                clear hcm0
                have Hp := Lib.hid hp
                have hsz : wo.heap.size ≤ wr.heap.size := H.out.2.2.2.1.size
                clear hp hiff hix hmk
                by_cases hm : (p : Int) ∈ s
                · have hI := inS_yes (s := s) (c := x) (j := j) (by rw [← HM.out]; exact hjl) (by rw [Hp.out]; exact hm)
                  have hO := outS_yes (s := s) (c := x) (j := j) (by rw [← HM.out]; exact hjl) (by rw [Hp.out]; exact hm)
                  rw [Hp.out] at hI
                  rw [decide_eq_true hm] at hcm
                  have Hs := Lib.hid (And.intro hI hO)
                  have hsl : (ints (inS s (x.take j))).length < 1099511627776 := by rw [ints_len]; omega
                  clear hI hO hm
                  go_wp2_with (at_builtin; refine app1 rfl (.tmp 70) (.tmp 78) 29 3 rfl i3 (.int .i64 0) 8 Try.underlying29 I3.out.1 I3.out.2.1 I3.out.2.2.1 I3.out.2.2.2 rfl (by omega) wo.heap.size (.int .i64 p) u13 (ints (inS s (x.take j))) rfl H.out.1 rfl rfl hsl hsz ?_; intro v' w' h2 h3 h4; have H9 := Lib.hid (And.intro h2 (And.intro h3 h4)); clear h2 h3 h4)
                  refine ⟨⟨j + 1, by omega, by go_num, ?_, ?_, H.out.2.2.1.app H.out.2.1 H9.out.2.2, grown_new H.out.2.2.2.1 H9.out.2.1 ?_⟩, by simp [intOf]; omega⟩
                  · rw [Hs.out.1]; simpa [ints] using H9.out.1
                  · rw [Hs.out.2]; exact H.out.2.1.kept H9.out.2.1 H.out.2.2.1.symm
                  · intro g hg
                    rcases H.out.1.blk with e | ⟨g', _, e, hB, _⟩
                    · rw [e] at hg; cases hg
                    · rw [e] at hg; cases hg; exact .inl hB
                · have hI := inS_no (s := s) (c := x) (j := j) (by rw [← HM.out]; exact hjl) (by rw [Hp.out]; exact hm)
                  have hO := outS_no (s := s) (c := x) (j := j) (by rw [← HM.out]; exact hjl) (by rw [Hp.out]; exact hm)
                  rw [Hp.out] at hO
                  rw [decide_eq_false hm] at hcm
                  have Hs := Lib.hid (And.intro hI hO)
                  have hsl : (ints (outS s (x.take j))).length < 1099511627776 := by rw [ints_len]; omega
                  clear hI hO hm
                  go_wp2_with (at_builtin; refine app1 rfl (.tmp 80) (.tmp 88) 29 3 rfl i3 (.int .i64 0) 8 Try.underlying29 I3.out.1 I3.out.2.1 I3.out.2.2.1 I3.out.2.2.2 rfl (by omega) wo.heap.size (.int .i64 p) u14 (ints (outS s (x.take j))) rfl H.out.2.1 rfl rfl hsl hsz ?_; intro v' w' h2 h3 h4; have H9 := Lib.hid (And.intro h2 (And.intro h3 h4)); clear h2 h3 h4)
                  refine ⟨⟨j + 1, by omega, by go_num, ?_, ?_, (H.out.2.2.1.symm.app H.out.1 H9.out.2.2).symm, grown_new H.out.2.2.2.1 H9.out.2.1 ?_⟩, by simp [intOf]; omega⟩
                  · rw [Hs.out.1]; exact H.out.1.kept H9.out.2.1 H.out.2.2.1
                  · rw [Hs.out.2]; simpa [ints] using H9.out.1
                  · intro g hg
                    rcases H.out.2.1.blk with e | ⟨g', _, e, hB, _⟩
                    · rw [e] at hg; cases hg
                    · rw [e] at hg; cases hg; exact .inl hB
              · obtain rfl : j = M := by omega
                have hta : x.take j = x := by rw [HM.out, List.take_length]
                rw [hta] at H hl1 hl2
                obtain ⟨au, cu, rfl, _⟩ := H.out.1.row (by rw [ints_len]; have := HM.out; unfold maxLen; omega)
                obtain ⟨av, cv, rfl, _⟩ := H.out.2.1.row (by rw [ints_len]; have := HM.out; unfold maxLen; omega)
                have hvr : Own wr D u11 29 cs := Hv.out.1.kept H.out.2.2.2.1 (by rcases Hv.out.1.blk with e | ⟨g, _, e, _⟩ <;> rw [e] <;> simp)
                have hcr : OwnRows wr D 3 cs (splitL s (l.take k)) := Hv.out.2.1.kept H.out.2.2.2.1 (fun u xs h => by rcases h.blk with e | ⟨g, _, e, _⟩ <;> rw [e] <;> simp)
                have hsplit := splitL_take (s := s) (l := l) (k := k) (by rw [← HL.out.1]; exact hlt)
                rw [Hr.out.2.1] at hsplit
                have hcl : cs.length ≤ 2 * k := by
                  rw [hcr.1]
                  have := splitL_len s (l.take k)
                  rw [List.length_take] at this; omega
                have hDr : D ≤ wr.heap.size := by have := H.out.2.2.2.1.size; have := Hv.out.2.2.2.1; omega
                have Hw := Lib.hid (And.intro hvr (And.intro hcr (And.intro (H.out.1.mono Hv.out.2.2.2.1) (And.intro (H.out.2.1.mono Hv.out.2.2.2.1) (And.intro H.out.2.2.2.2 hmk)))))
                obtain ⟨I, hI⟩ : ∃ I, inS s x = I := ⟨_, rfl⟩
                obtain ⟨O, hO⟩ : ∃ I, outS s x = I := ⟨_, rfl⟩
                rw [hI, hO] at Hw hsplit
                rw [hI] at hl1 ⊢
                rw [hO] at hl2 ⊢
                have Hsp := Lib.hid hsplit
                clear hvr hcr hsplit hI hO hta H hix hmk
                obtain ⟨NI, hNI⟩ : ∃ N, (ints I).length = N := ⟨_, rfl⟩
                obtain ⟨NO, hNO⟩ : ∃ N, (ints O).length = N := ⟨_, rfl⟩
                rw [hNI] at Hw ⊢
                rw [hNO] at Hw ⊢
                rw [ints_len] at hNI hNO
                have HN := Lib.hid (And.intro hNI hNO)
                obtain ⟨wp, rfl⟩ : ∃ wp : World, wp = wr := ⟨_, rfl⟩
                clear hNI hNO
                have hsz : cs.length < 1099511627776 := by omega
                by_cases hN : NI = 0
                · have hp : part1 I = [] := by rw [part1, if_pos (by rw [HN.out.1]; exact hN)]
                  have Hp := Lib.hid hp
                  clear hp
                  subst hN
                  by_cases hN2 : NO = 0
                  · have hp : part1 O = [] := by rw [part1, if_pos (by rw [HN.out.2]; exact hN2)]
                    have Hp2 := Lib.hid hp
                    clear hp
                    subst hN2
                    go_wp2
                    refine ⟨⟨k + 1, cs, by omega, by go_num, Hw.out.1, ?_, Hw.out.2.2.2.2.1, Hw.out.2.2.2.2.2⟩, by simp [intOf]; omega⟩
                    have := Hw.out.2.1
                    rw [Hsp.out, Hp.out, Hp2.out]
                    simpa using this
                  · have hp : part1 O = [O] := by rw [part1, if_neg (by rw [HN.out.2]; exact hN2)]
                    have Hp2 := Lib.hid hp
                    have hN2' : (0 : Int) < (NO : Int) := by omega
                    clear hp hN2
                    go_wp2_with (at_builtin; refine app1 rfl (.tmp 100) (.tmp 102) 22 29 rfl i29 (.slice none 0 0) 24 Try.underlying22 I29.out.1 I29.out.2.1 I29.out.2.2.1 I29.out.2.2.2 rfl (by omega) D (.slice av NO cv) u11 cs rfl Hw.out.1 rfl rfl hsz hDr ?_; intro v' w' h2 h3 h4; have H9 := Lib.hid (And.intro h2 h3); clear h2 h3 h4)
                    obtain ⟨h2, h3⟩ := H9.out
                    have hrow : ∀ g, u11.ownBlock = some g → D ≤ g := fun g hg => by
                      rcases Hw.out.1.blk with e | ⟨g', _, e, hB, _⟩
                      · rw [e] at hg; cases hg
                      · rw [e] at hg; cases hg; exact hB
                    refine ⟨⟨k + 1, cs ++ [.slice av NO cv], by omega, by go_num, h2, ?_, Hw.out.2.2.2.2.1.grown h3 hDr (fun g hg => hrow g hg), Hw.out.2.2.2.2.2.kept h3 (fun g hg => by have := hrow g hg; omega)⟩, by simp [intOf]; omega⟩
                    have h5 := (Hw.out.2.1.kept h3 (fun u xs h => h.ne_type Hw.out.1 (by decide))).app (OwnRows.one (Hw.out.2.2.2.1.kept h3 (Hw.out.2.2.2.1.ne_type Hw.out.1 (by decide))))
                    rw [Hsp.out, Hp.out, Hp2.out]
                    simpa using h5
                · have hp : part1 I = [I] := by rw [part1, if_neg (by rw [HN.out.1]; exact hN)]
                  have Hp := Lib.hid hp
                  have hN' : (0 : Int) < (NI : Int) := by omega
                  clear hp hN
                  have hrow : ∀ g, u11.ownBlock = some g → D ≤ g := fun g hg => by
                    rcases Hw.out.1.blk with e | ⟨g', _, e, hB, _⟩
                    · rw [e] at hg; cases hg
                    · rw [e] at hg; cases hg; exact hB
                  have Hrow := Lib.hid hrow
                  clear hrow
                  by_cases hN2 : NO = 0
                  · have hp : part1 O = [] := by rw [part1, if_pos (by rw [HN.out.2]; exact hN2)]
                    have Hp2 := Lib.hid hp
                    clear hp
                    subst hN2
                    go_wp2_with (at_builtin; refine app1 rfl (.tmp 93) (.tmp 95) 22 29 rfl i29 (.slice none 0 0) 24 Try.underlying22 I29.out.1 I29.out.2.1 I29.out.2.2.1 I29.out.2.2.2 rfl (by omega) D (.slice au NI cu) u11 cs rfl Hw.out.1 rfl rfl hsz hDr ?_; intro v' w' h2 h3 h4; have H9 := Lib.hid (And.intro h2 h3); clear h2 h3 h4)
                    obtain ⟨h2, h3⟩ := H9.out
                    refine ⟨⟨k + 1, cs ++ [.slice au NI cu], by omega, by go_num, h2, ?_, Hw.out.2.2.2.2.1.grown h3 hDr (fun g hg => Hrow.out g hg), Hw.out.2.2.2.2.2.kept h3 (fun g hg => by have := Hrow.out g hg; omega)⟩, by simp [intOf]; omega⟩
                    have h5 := (Hw.out.2.1.kept h3 (fun u xs h => h.ne_type Hw.out.1 (by decide))).app (OwnRows.one (Hw.out.2.2.1.kept h3 (Hw.out.2.2.1.ne_type Hw.out.1 (by decide))))
                    rw [Hsp.out, Hp.out, Hp2.out]
                    simpa using h5
                  · have hp : part1 O = [O] := by rw [part1, if_neg (by rw [HN.out.2]; exact hN2)]
                    have Hp2 := Lib.hid hp
                    have hN2' : (0 : Int) < (NO : Int) := by omega
                    clear hp hN2
                    have hsz2 : (cs ++ [Value.slice au NI cu]).length < 1099511627776 := by simp; omega
                    go_wp2_with (first
                      | (at_builtin; refine app1 rfl (.tmp 93) (.tmp 95) 22 29 rfl i29 (.slice none 0 0) 24 Try.underlying22 I29.out.1 I29.out.2.1 I29.out.2.2.1 I29.out.2.2.2 rfl (by omega) D (.slice au NI cu) u11 cs rfl Hw.out.1 rfl rfl hsz hDr ?_; intro v1 w1' h2 h3 h4; have hD1 : D ≤ w1'.heap.size := (by have := h3.size; omega); have H9 := Lib.hid (And.intro h2 h3); clear h2 h3 h4)
                      | (at_builtin; refine app1 rfl (.tmp 100) (.tmp 102) 22 29 rfl i29 (.slice none 0 0) 24 Try.underlying22 I29.out.1 I29.out.2.1 I29.out.2.2.1 I29.out.2.2.2 rfl (by omega) D (.slice av NO cv) v1 (cs ++ [.slice au NI cu]) rfl H9.out.1 rfl rfl hsz2 hD1 ?_; intro v' w' h2 h3 h4; have H10 := Lib.hid (And.intro h2 h3); clear h2 h3 h4))
                    obtain ⟨g2, g3⟩ := H9.out
                    obtain ⟨h2, h3⟩ := H10.out
                    have hrow2 : ∀ g, v1.ownBlock = some g → D ≤ g := fun g hg => by
                      rcases g2.blk with e | ⟨g', _, e, hB, _⟩
                      · rw [e] at hg; cases hg
                      · rw [e] at hg; cases hg; exact hB
                    have k1 := Hw.out.2.2.1.kept g3 (Hw.out.2.2.1.ne_type Hw.out.1 (by decide))
                    have k2 := Hw.out.2.2.2.1.kept g3 (Hw.out.2.2.2.1.ne_type Hw.out.1 (by decide))
                    have h5 := (Hw.out.2.1.kept g3 (fun u xs h => h.ne_type Hw.out.1 (by decide))).app (OwnRows.one k1)
                    have h6 := (h5.kept h3 (fun u xs h => h.ne_type g2 (by decide))).app (OwnRows.one (k2.kept h3 (k2.ne_type g2 (by decide))))
                    refine ⟨⟨k + 1, cs ++ [.slice au NI cu] ++ [.slice av NO cv], by omega, by go_num, h2, ?_, (Hw.out.2.2.2.2.1.grown g3 hDr (fun g hg => Hrow.out g hg)).grown h3 hD1 (fun g hg => hrow2 g hg), (Hw.out.2.2.2.2.2.kept g3 (fun g hg => by have := Hrow.out g hg; omega)).kept h3 (fun g hg => by have := hrow2 g hg; omega)⟩, by simp [intOf]; omega⟩
                    rw [Hsp.out, Hp.out, Hp2.out]
                    simpa using h6
          · obtain rfl : k = L := by omega
            have hcs := Hv.out.2.1
            rw [List.take_of_length_le (by rw [← HL.out.1]; omega)] at hcs
            have hlen := splitL_len s l
            rw [← HL.out.1] at hlen
            obtain ⟨a', c', rfl, hrows⟩ := hcs.rows Hv.out.1 (by rw [hcs.1]; unfold maxLen; omega) (fun y hy => by
              obtain ⟨c, hc, h⟩ := splitL_mem s l y hy
              have := H0.out.2.1 c hc
              unfold maxLen; omega)
            have Hr := Lib.hid hrows
            clear hrows hcs
            go_wp2
            go_ret2
            exact ⟨a', c', by rw [HA.out.1]; rfl, by rw [HA.out.1]; exact Hr.out, HA.out.2.2.1.trans (Hv.out.2.2.1.mono hwD)⟩
  · have hA : splitA n l s = ([], chk n l) := by rw [splitA, if_pos h0]
    rw [hA]
    obtain ⟨E, hE⟩ : ∃ E, chk n l = E := ⟨_, rfl⟩
    rw [hE] at hck h0 ⊢
    have hE1 : (E != 0) = true := by simpa using h0
    have Hck := Lib.hid hck
    obtain ⟨L, hL⟩ : ∃ L, L = l.length := ⟨_, rfl⟩
    rw [← hL] at Hck ⊢
    clear hE hA hck ha hb hL hml
    go_enter Try.func33, Try.ntmps33
    go_wp2_with fail
    refine Hck.out.mono ?_
    rintro e w1 ⟨rfl, hb1⟩
    have H1 := Lib.hid hb1
    clear hb1
    go_wp2
    go_ret2
    exact ⟨none, 0, rfl, ⟨[], Row.nil, rfl, fun i u xs hu => by simp at hu⟩, H1.out⟩
end Go.Proofs.Ytlnikgcanimggaa
