/- The reader's colours. -/
import Derived.Test.YtifkieopaoooeaaGreatDoorRdE
import Derived.Test.YtifkieopaoooeaaGreatDoorShelf
set_option linter.unusedSimpArgs false
set_option linter.unusedVariables false
namespace Go.Proofs.YtifkieopaoooeaaGreatDoor
open Go.RowKit Plain PlainG
/-- What colours gives. -/
def ColRes (w : World) (p q : Nat) (b : ByteArray) (B N : Nat) (v u : Value) (r : Except Flt (List Int)) (e : Ending) (w' : World) : Prop :=
  match r with
  | .ok cs => e = .returned (.bool true) ∧ ∃ a, b.size ≤ a ∧ Rg w' p b a (0, 0) ∧ Own w' B u 3 (ints cs) ∧ cs.length = N ∧ Kept w w' (p :: u.ownBlock.toList)
  | .error f => e = .returned (.bool false) ∧ ∃ a, Rg w' p b a f ∧ Kept w w' (p :: u.ownBlock.toList)
theorem ColRes.bad {w w1 w2 : World} {p q : Nat} {b : ByteArray} {B N a : Nat} {v u : Value} {r : Except Flt (List Int)} {f : Flt} (hr : r = .error f) (h : Kept w w1 (p :: u.ownBlock.toList)) (k : RgTo w1 w2 p b a f) : ColRes w p q b B N v u r (.returned (.bool false)) w2 := by
  subst hr
  exact ⟨rfl, a, k.1, h.trans (Kept.ofGrown k.2 (by intro k e; cases e; simp))⟩
def preC (cs : List Int) (r : Except Flt (List Int × Nat)) : Except Flt (List Int × Nat) := match r with | .ok x => .ok (cs ++ x.1, x.2) | .error e => .error e
theorem preC_app (cs : List Int) (c : Int) (r : Except Flt (List Int × Nat)) : preC cs (preC [c] r) = preC (cs ++ [c]) r := by
  unfold preC
  cases r <;> simp
theorem colsP_step {b : List Nat} {f at_ a1 a2 c : Nat} (h1 : sgn b at_ 32 = .ok a1) (h2 : num b a1 99 = .ok (c, a2)) : colsP b (f + 1) at_ = preC [(c : Int)] (colsP b f a2) := by
  rw [colsP, h1]
  simp only
  rw [h2]
  simp only [preC]
  cases colsP b f a2 <;> rfl
theorem colsP_sgn {b : List Nat} {f at_ : Nat} {e : Flt} (h1 : sgn b at_ 32 = .error e) : colsP b (f + 1) at_ = .error e := by
  rw [colsP, h1]
theorem colsP_num {b : List Nat} {f at_ a1 : Nat} {e : Flt} (h1 : sgn b at_ 32 = .ok a1) (h2 : num b a1 99 = .error e) : colsP b (f + 1) at_ = .error e := by
  rw [colsP, h1]
  simp only
  rw [h2]
theorem Own.cellI {w : World} {B g n c k : Nat} {T : TypeId} {xs : List Int} (h : Own w B (.slice (some ⟨g, 0, none⟩) n c) T (Go.Proofs.YtifkieopaoooeaaGreatDoor.ints xs)) (hk : k < xs.length) : w.cell? ⟨g, k, none⟩ = some (.int .i64 (xs[k]?.getD 0)) := by
  rw [h.cell k (by rw [ints_len]; exact hk), ints_get hk]
theorem setC (cs : List Int) (m : Nat) (c : Int) : (cs ++ List.replicate (m + 1) 0).set cs.length c = (cs ++ [c]) ++ List.replicate m 0 := by
  simp [List.replicate_succ]
set_option maxRecDepth 100000 in
set_option maxHeartbeats 4000000 in
theorem rcol_calls {w : World} {p q : Nat} {b : ByteArray} {at_ B N : Nat} {v u : Value} (hr : Rg w p b at_ (0, 0)) (hF : at_ < b.size) (hg : GB w q N v u) (hu : Own w B u 3 (ints (List.replicate N 0))) (hpq : p ≠ q) (hup : u.ownBlock ≠ some p) (huq : u.ownBlock ≠ some q) (hN : N ≤ 24) (hB : B ≤ w.heap.size) :
    Calls Tryz.prog 59 #[.pointer (some ⟨p, 0, none⟩), .pointer (some ⟨q, 0, none⟩)] w fun e w' => ColRes w p q b B N v u (colsA (bytesOf b) N at_) e w' := by
  have c0 := hg.c0
  have r1 := hr.c1
  have f1 := hr.fr 1
  have hsz := hr.len
  have hbl := bytesOf_len b
  rcases Nat.eq_zero_or_pos N with h0 | h0
  · subst h0
    have hE : colsA (bytesOf b) 0 at_ = .error (11, at_) := by unfold colsA; rw [if_pos rfl]
    rw [hE]
    have K1 := Lib.hid (fail_calls hr 11 at_)
    clear hr hg hu
    go_enter Tryz.func59, Tryz.ntmps59
    go_wp2_with (go_at_call 91; refine K1.out.mono ?_; rintro e w2 ⟨rfl, hw2⟩; have HA := Lib.hid hw2; clear hw2)
    go_ret
    exact ColRes.bad rfl (Kept.refl _ _) HA.out
  · obtain ⟨gu, cap, hu1, hBu, hgu, hc1, hc2⟩ := hu.form (by simp [ints_len]; omega)
    rw [ints_len, List.length_replicate] at hu1 hc1
    subst hu1
    have hgp : gu ≠ p := fun e => hup (by rw [e]; rfl)
    have hgq : gu ≠ q := fun e => huq (by rw [e]; rfl)
    have hN0 : ((N : Int) == 0) = false := by simp; omega
    obtain ⟨z, hz⟩ : ∃ z, colsA (bytesOf b) N at_ = z := ⟨_, rfl⟩
    rw [hz]
    have hA : ∀ r, colsP (bytesOf b) N (at_ + 1) = r → z = match r with | .error e => .error e | .ok x => if x.2 < (bytesOf b).length then .error (11, x.2) else if x.1.all (· == 0) then .error (3, at_) else .ok x.1 := by
      intro r hr; rw [← hz]; unfold colsA; rw [if_neg (by omega), hr]; cases r <;> rfl
    have hKG : ∀ w1, Kept w w1 [p, gu] → GB w1 q N v (.slice (some ⟨gu, 0, none⟩) N cap) := fun w1 h1 => hg.keptL h1 (by simp; exact ⟨fun e => hpq e.symm, fun e => hgq e.symm⟩)
    have hR1 : RgTo w (w.setCell ⟨p, 1, none⟩ (.int .i64 ((at_ + 1 : Nat) : Int))) p b (at_ + 1) (0, 0) := ⟨hr.set1 (at_ + 1), grown_put 1 _⟩
    have hU1 : Own (w.setCell ⟨p, 1, none⟩ (.int .i64 ((at_ + 1 : Nat) : Int))) B (.slice (some ⟨gu, 0, none⟩) N cap) 3 (ints (List.replicate N 0)) := hu.kept (grown_put 1 _) (by right; intro e; cases e; exact hgp rfl)
    rw [show ((at_ + 1 : Nat) : Int) = (at_ : Int) + 1 by omega] at hR1 hU1
    have H := Lib.hid (And.intro hKG (And.intro hR1 (And.intro hU1 (And.intro hA (And.intro hgp hgq)))))
    have H2 := Lib.hid (And.intro hr hu)
    clear hKG hR1 hU1 hA hr hg hu hup huq hz
    go_enter Tryz.func59, Tryz.ntmps59
    go_wp2
    go_loopw [32] (fun i wr => ∃ (k : Nat) (cs : List Int) (a : Nat), k ≤ N ∧ i = .int .i64 (k : Int) ∧ cs.length = k ∧ cs.all okC = true ∧ a ≤ 20000 ∧ Rg wr p b a (0, 0) ∧ Own wr B (.slice (some ⟨gu, 0, none⟩) N cap) 3 (ints (cs ++ List.replicate (N - k) 0)) ∧ Kept w wr [p, gu] ∧ colsP (bytesOf b) N (at_ + 1) = preC cs (colsP (bytesOf b) (N - k) a)) (fun i _ => N - (intOf i).toNat)
    case atStart =>
      refine ⟨0, [], at_ + 1, Nat.zero_le _, rfl, rfl, rfl, by omega, H.out.2.1.1, by simpa using H.out.2.2.1, Kept.ofGrown H.out.2.1.2 (by intro k e; cases e; simp), ?_⟩
      unfold preC
      cases colsP (bytesOf b) N (at_ + 1) <;> simp_all
    case round =>
      obtain ⟨k, cs, a, hk, rfl, hcl, hok, ha, hR, hU, hK, hP⟩ := hrel
      by_cases hlt : k < N
      · obtain ⟨m, hm⟩ : ∃ m, N - k = m + 1 := ⟨N - k - 1, by omega⟩
        have hm2 : m = N - (k + 1) := by omega
        rw [hm] at hP hU
        cases h1 : sgn (bytesOf b) a 32 with
        | error f =>
          have hE := H.out.2.2.2.1 _ (hP.trans (by rw [colsP_sgn h1]))
          simp only [preC] at hE
          have S1 := sign_bad hR (by omega) h1
          have HS := Lib.hid (And.intro S1 (And.intro hK hE))
          clear S1 hK hR hU hP hE h1 hok
          go_wp2_with (go_at_call 60; refine HS.out.1.mono ?_; rintro e w2 ⟨rfl, hw2⟩; have HA := Lib.hid hw2; clear hw2)
          go_ret
          obtain ⟨a9, h9⟩ := HA.out
          exact ColRes.bad HS.out.2.2 HS.out.2.1 h9
        | ok a1 =>
          obtain ⟨s1, s2, _⟩ := sgn_inv h1
          have S1 := sign_yes hR h1
          cases h2 : num (bytesOf b) a1 99 with
          | error f =>
            have hE := H.out.2.2.2.1 _ (hP.trans (by rw [colsP_num h1 h2]))
            simp only [preC] at hE
            have S2 := fun w2 (h : RgTo wr w2 p b a1 (0, 0)) => number_bad h.1 (by omega) h2
            have HS := Lib.hid (And.intro S1 (And.intro hK (And.intro S2 hE)))
            clear S1 S2 hK hR hU hP hE h1 h2 hok
            go_wp2_with (first
              | (go_at_call 60; refine HS.out.1.mono ?_; rintro e w2 ⟨rfl, hw2⟩; have HA := Lib.hid hw2; clear hw2)
              | (go_at_call 57; refine (HS.out.2.2.1 _ HA.out).mono ?_; rintro e w3 ⟨rfl, hw3⟩; have HB := Lib.hid hw3; clear hw3))
            go_ret
            obtain ⟨a9, h9⟩ := HB.out
            exact ColRes.bad HS.out.2.2.2 HS.out.2.1 (HA.out.trans h9)
          | ok x =>
            obtain ⟨c, a2⟩ := x
            obtain ⟨n1, n2, n3, _⟩ := num_inv h2 (by omega)
            have hP2 := hP.trans (by rw [colsP_step h1 h2, preC_app])
            have S2 := fun w2 (h : RgTo wr w2 p b a1 (0, 0)) => number_ok h.1 (by omega) h2
            have S3 : ∀ w3, RgTo wr w3 p b a2 (0, 0) → w3.cell? ⟨q, 2, none⟩ = some (.slice (some ⟨gu, 0, none⟩) N cap) ∧ (∃ x, w3.cell? ⟨gu, k, none⟩ = some x) ∧ w3.frozen? ⟨gu, k, none⟩ = false := fun w3 h => by
              have hu3 := hU.kept h.2 (by right; intro e; cases e; exact H.out.2.2.2.2.1 rfl)
              refine ⟨(H.out.1 _ (hK.trans (Kept.ofGrown h.2 (by intro k e; cases e; simp)))).c2, ⟨_, hu3.cellI (k := k) (by simp; omega)⟩, hu3.frozen k⟩
            have HS := Lib.hid (And.intro S1 (And.intro S2 (And.intro S3 (And.intro hK (And.intro hU (And.intro hP2 hok))))))
            clear S1 S2 S3 hK hR hU hP hP2 h1 h2 hok
            have hkN : (k : Int) < N := by omega
            go_wp2_with (first
              | (go_at_call 60; refine HS.out.1.mono ?_; rintro e w2 ⟨rfl, hw2⟩; have HA := Lib.hid hw2; clear hw2)
              | (go_at_call 57; refine (HS.out.2.1 _ HA.out).mono ?_; rintro e w3 ⟨rfl, hw3⟩; have HB := Lib.hid (HA.out.trans hw3); clear hw3; obtain ⟨d2, ⟨d3, d4⟩, d5⟩ := HS.out.2.2.1 _ HB.out))
            refine ⟨⟨k + 1, cs ++ [(c : Int)], a2, by omega, by go_num, by simp [hcl], ?_, by omega, ?_, ?_, ?_, ?_⟩, by simp [intOf]; omega⟩
            · rw [List.all_append, HS.out.2.2.2.2.2.2]; simp [okC]; omega
            · exact HB.out.1.grown (grown_put k _) (by intro e; cases e; exact H.out.2.2.2.2.1 rfl)
            · have hu3 := (HS.out.2.2.2.2.1.kept HB.out.2 (by right; intro e; cases e; exact H.out.2.2.2.2.1 rfl)).put k (.int .i64 (c : Int))
              rw [ints_set, ← hcl, setC, hcl, hm2] at hu3
              exact hu3
            · exact (HS.out.2.2.2.1.trans (Kept.ofGrown HB.out.2 (by intro k e; cases e; simp))).trans (Kept.ofGrown (grown_put k _) (by intro k e; cases e; simp))
            · rw [← hm2]; exact HS.out.2.2.2.2.2.1
      · obtain rfl : k = N := by omega
        rw [Nat.sub_self] at hP hU
        have hcs : cs ++ List.replicate 0 0 = cs := by simp
        rw [hcs] at hU
        have hE := H.out.2.2.2.1 _ hP
        simp only [preC, colsP, List.append_nil] at hE
        rw [hbl] at hE
        have e1 := hR.c1
        have e0 := hR.c0
        have d2 := (H.out.1 _ hK).c2
        obtain ⟨S, hS⟩ : ∃ S, b.size = S := ⟨_, rfl⟩
        by_cases hlt2 : a < S
        · rw [hS, if_pos hlt2] at hE
          have K9 := fun q => fail_calls (hR.drewN q) 11 a
          have HS := Lib.hid (And.intro K9 (And.intro hK (And.intro hS hE)))
          clear K9 hK hR hU hP hE hok d2
          have hd : (a : Int) < S := by omega
          have hd2 : decide ((a : Int) < (S : Int)) = true := by simp; omega
          go_wp2
          go_quiet (fail)
          go_wp2_with (go_at_call 91; refine (HS.out.1 _).mono ?_; rintro e w2 ⟨rfl, hw2⟩; have HA := Lib.hid hw2; clear hw2)
          go_ret
          exact ColRes.bad HS.out.2.2.2 (HS.out.2.1.drewN _) HA.out
        · rw [hS, if_neg hlt2] at hE
          have hnn : ∀ x ∈ cs, 0 ≤ x := fun x hx => by have := List.all_eq_true.1 hok x hx; simp [okC] at this; omega
          have hmz := maxL_zero (l := cs) (by rintro rfl; simp at hcl; omega) hnn
          have K5 := fun q => max_calls (w := wr.drewN q) (zs := cs) cap ((hU.drewN q).toInts (by unfold maxLen; omega)) (by omega)
          rw [hcl] at K5
          have hd : ¬ (a : Int) < S := by omega
          have hd2 : decide ((a : Int) < (S : Int)) = false := by simp; omega
          cases hall : cs.all (· == 0)
          · rw [hall] at hE hmz
            have hq : (maxL cs == 0) = false := by
              cases hb : (maxL cs == 0)
              · rfl
              · exact absurd (hmz.1 (by simpa using hb)) (by simp)
            have HS := Lib.hid (And.intro hK (And.intro hS (And.intro hE (And.intro K5 (And.intro hR (And.intro hU hcl))))))
            clear K5 hK hR hU hP hE hok hcl hall hmz hnn
            go_wp2
            go_quiet (fail)
            go_wp2_with (go_at_call 52; refine (HS.out.2.2.2.1 _).mono ?_; rintro e w2 ⟨rfl, rfl⟩)
            go_ret
            have h9 : z = .ok cs := HS.out.2.2.1.trans (by simp)
            rw [h9]
            exact ⟨rfl, a, by rw [HS.out.2.1]; omega, HS.out.2.2.2.2.1.drewN _, HS.out.2.2.2.2.2.1.drewN _, HS.out.2.2.2.2.2.2, HS.out.1.drewN _⟩
          · rw [hall] at hE hmz
            have hq : (maxL cs == 0) = true := by simpa using hmz.2 rfl
            have K9 := fun q => fail_calls (hR.drewN q) 3 at_
            have HS := Lib.hid (And.intro hK (And.intro hS (And.intro hE (And.intro K5 K9))))
            clear K5 hK hR hU hP hE hok hcl hall hmz hnn K9
            go_wp2
            go_quiet (fail)
            go_wp2_with (first
              | (go_at_call 52; refine (HS.out.2.2.2.1 _).mono ?_; rintro e w2 ⟨rfl, rfl⟩)
              | (go_at_call 91; refine (HS.out.2.2.2.2 _).mono ?_; rintro e w2 ⟨rfl, hw2⟩; have HA := Lib.hid hw2; clear hw2))
            go_ret
            exact ColRes.bad (HS.out.2.2.1.trans (by simp)) (HS.out.1.drewN _) HA.out
end Go.Proofs.YtifkieopaoooeaaGreatDoor
