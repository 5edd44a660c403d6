/- The reference's number. -/
import Derived.Test.YtifkieopaoooeaaGreatDoorRdrR
set_option linter.unusedSimpArgs false
set_option linter.unusedVariables false
namespace Go.Proofs.YtifkieopaoooeaaGreatDoor
open Go.RowKit Plain PlainG
/-- What the reference's number gives. -/
def NumResR (w : World) (p : Nat) (b : ByteArray) (at_ : Nat) (r : Except Flt (Nat × Nat)) (e : Ending) (w' : World) : Prop :=
  match r with
  | .ok x => e = .returned (.int .i64 (x.1 : Int)) ∧ RgTo w w' p b x.2 (0, 0)
  | .error f => ∃ v a : Nat, e = .returned (.int .i64 (v : Int)) ∧ a ≤ at_ + 3 ∧ RgTo w w' p b a f
theorem NumResR.fail {w w1 w' : World} {p : Nat} {b : ByteArray} {F a : Nat} {r : Except Flt (Nat × Nat)} {f : Flt} (v : Nat) (hr : r = .error f) (ha : a ≤ F + 3) (h1 : w.grownBy w1 (some p)) (h : RgTo w1 w' p b a f) :
    NumResR w p b F r (.returned (.int .i64 (v : Int))) w' := by
  subst hr
  exact ⟨v, a, rfl, ha, h.1, h1.trans h.2⟩
theorem NumResR.good {w w' : World} {p : Nat} {b : ByteArray} {F a n : Nat} {r : Except Flt (Nat × Nat)} (hr : r = .ok (n, a)) (h : RgTo w w' p b a (0, 0)) :
    NumResR w p b F r (.returned (.int .i64 (n : Int))) w' := by
  subst hr
  exact ⟨rfl, h⟩
set_option maxRecDepth 100000 in
set_option maxHeartbeats 8000000 in
theorem numberR_calls {w : World} {p : Nat} {b : ByteArray} {F : Nat} (top : Int) (h : Rg w p b F (0, 0)) (hF : F ≤ 100000) :
    Calls Tryz.prog 62 #[.pointer (some ⟨p, 0, none⟩), .int .i64 top] w fun e w' => NumResR w p b F (num (bytesOf b) F top) e w' := by
  have c1 := h.c1
  have c2 := h.c2
  have H := Lib.hid h
  clear h
  go_enter Tryz.func62, Tryz.ntmps62
  go_wp2
  go_loopw [6] (fun s wr => ∃ k n : Nat, k ≤ 3 ∧ n < 10 ^ k ∧ s = .int .i64 (n : Int) ∧ RgTo w wr p b (F + k) (0, 0) ∧ numL (bytesOf b) F 3 0 0 = numL (bytesOf b) F (3 - k) k n ∧ (k = 2 → (bytesOf b)[F]?.getD 0 ≠ 48)) (fun s wr => F + 3 - posOf wr p)
  case atStart => exact ⟨0, 0, by omega, by decide, rfl, ⟨H.out, grown_drewN w 0 _⟩, rfl, by omega⟩
  case round =>
    obtain ⟨k, n, hk, hn, rfl, hR, he, hk2⟩ := hrel
    have hn9 : n ≤ 1000 := Nat.le_trans (Nat.le_of_lt hn) (Nat.pow_le_pow_right (by omega) hk : 10 ^ k ≤ 10 ^ 3)
    have hpos := hR.1.pos
    have hbl := bytesOf_len b
    have hstop := fun hh => he.trans (numL_halt (b := bytesOf b) (F := F) (k := k) (n := n) hh)
    have hgo := fun h1 h2 h3 h4 => he.trans (numL_go (b := bytesOf b) (F := F) (k := k) (n := n) h1 h2 h3 h4)
    obtain ⟨N, hN⟩ : ∃ N, F + k = N := ⟨_, rfl⟩
    rw [hN] at hR hstop hgo hpos
    clear c1 c2
    have c0 := hR.1.c0
    have c1 := hR.1.c1
    have hfr := hR.1.fr 1
    have hp := hR.1.lt
    have hl := hR.1.len
    have hfl := fun (z : Int) (a : Nat) (w1 : World) (h1 : Rg w1 p b N (0, 0)) => failR_yes h1 z a
    have hnone := fun h h0 => num_none (top := top) (b := bytesOf b) (F := F) (k := k) (n := n) h h0
    have hmore := fun h h0 h1 h2 => num_more (top := top) (b := bytesOf b) (F := F) (k := k) (n := n) h h0 h1 h2
    have hbig := fun h h0 h1 h2 => num_big (top := top) (b := bytesOf b) (F := F) (k := k) (n := n) h h0 h1 h2
    have hfine := fun h h0 h1 h2 => num_fine (top := top) (b := bytesOf b) (F := F) (k := k) (n := n) h h0 h1 h2
    rw [hN] at hmore hbig hfine
    rcases Nat.lt_or_ge N b.size with hlt | hge
    · have hix := fun W => str_byte hlt W
      have hx2 := bytesOf_lt b N
      obtain ⟨x, hx⟩ : ∃ x, (bytesOf b)[N]?.getD 0 = x := ⟨_, rfl⟩
      rw [hx] at hix hx2 hstop hgo hmore hbig hfine
      rw [hbl] at hstop hgo hmore hbig hfine
      have hF' : F < b.size := by omega
      have hix0 := fun W => str_byte hF' W
      have hy2 := bytesOf_lt b F
      obtain ⟨y, hy⟩ : ∃ y, (bytesOf b)[F]?.getD 0 = y := ⟨_, rfl⟩
      have hk2' := hk2
      rw [hy] at hix0 hy2 hstop hgo hk2'
      obtain ⟨S, hS⟩ : ∃ S, b.size = S := ⟨_, rfl⟩
      rw [hS] at hlt hl hstop hgo hmore hbig hfine
      have hlI : (N : Int) < S := by omega
      have HH := Lib.hid (And.intro hR (And.intro hS (And.intro hfl (And.intro hN (And.intro hn hy)))))
      have HS := Lib.hid (And.intro hstop (And.intro hgo (And.intro hnone (And.intro hmore (And.intro hbig (And.intro hfine hk2'))))))
      clear hR he hstop hgo hnone hmore hbig hfine hfl hx hy hn hF' hbl hk2 hk2'
      have d0 : decide (N < S) = true := by simpa using hlt
      by_cases g1 : 48 ≤ x
      · have d1 : decide ((48 : Int) ≤ (x : Int)) = true := by simp; omega
        by_cases g2 : x ≤ 57
        · have d2 : decide ((x : Int) ≤ 57) = true := by simp; omega
          have hd : isD x = true := by simp [isD, g1, g2]
          by_cases g3 : k < 3
          · have d3 : decide ((N : Int) < (F : Int) + 3) = true := by simp; omega
            by_cases g4 : k = 1
            · have q1 : ((N : Int) == (F : Int) + 1) = true := by simp; omega
              by_cases g5 : y = 48
              · have hy : ((y : Int) == 48) = true := by simp; omega
                have hq : ((N : Int) == (F : Int)) = false := by simp; omega
                have hnum := HS.out.2.2.2.1 (HS.out.1 (fun hh => hh.2.2.2.elim (by omega) (fun h => h g5))) (by omega) hlt hd
                go_wp2
                go_quiet (fail)
                go_wp2
                go_quiet (fail)
                go_wp2_with (go_at_call 65; refine (HH.out.2.2.1 11 N _ (HH.out.1.1.drewN _)).mono ?_; rintro e w2 ⟨rfl, hw2⟩; have HW := Lib.hid hw2; clear hw2)
                go_ret
                exact NumResR.fail 0 hnum (by have := HH.out.2.2.2.1; omega) (HH.out.1.2.trans (grown_drewN _ _ _)) HW.out
              · have hy : ((y : Int) == 48) = false := by simp; omega
                have hnext := HS.out.2.1 g3 hlt hd (.inr g5)
                have HX := Lib.hid hnext
                clear hnext
                go_wp2
                go_quiet (fail)
                go_wp2
                go_quiet (fail)
                go_wp2
                have h1 := fun q => (HH.out.1.1.drewN q).set1 (N + 1)
                rw [show ((N + 1 : Nat) : Int) = (N : Int) + 1 by omega] at h1
                have hn2 := HH.out.2.2.2.2.1
                have hN2 := HH.out.2.2.2.1
                refine ⟨⟨k + 1, 10 * n + (x - 48), by omega, by rw [Nat.pow_succ]; omega, by congr 1; omega, ⟨by rw [show F + (k + 1) = N + 1 by omega]; exact h1 _, HH.out.1.2.trans ((grown_drewN _ _ _).trans (grown_put 1 _))⟩, HX.out, by rw [HH.out.2.2.2.2.2]; intro e2; first | exact g5 | omega⟩, ?_⟩
                rw [(h1 _).pos, hpos]
                omega
            · have q1 : ((N : Int) == (F : Int) + 1) = false := by simp; omega
              have hnext := HS.out.2.1 g3 hlt hd (by rcases Nat.eq_zero_or_pos k with e | e; exact .inl e; exact .inr (HS.out.2.2.2.2.2.2 (by omega)))
              have HX := Lib.hid hnext
              clear hnext
              go_wp2
              go_quiet (fail)
              go_wp2
              go_quiet (fail)
              go_wp2
              have h1 := fun q => (HH.out.1.1.drewN q).set1 (N + 1)
              rw [show ((N + 1 : Nat) : Int) = (N : Int) + 1 by omega] at h1
              have hn2 := HH.out.2.2.2.2.1
              have hN2 := HH.out.2.2.2.1
              refine ⟨⟨k + 1, 10 * n + (x - 48), by omega, by rw [Nat.pow_succ]; omega, by congr 1; omega, ⟨by rw [show F + (k + 1) = N + 1 by omega]; exact h1 _, HH.out.1.2.trans ((grown_drewN _ _ _).trans (grown_put 1 _))⟩, HX.out, by rw [HH.out.2.2.2.2.2]; intro e2; first | exact g5 | omega⟩, ?_⟩
              rw [(h1 _).pos, hpos]
              omega
          · have hnum := HS.out.2.2.2.1 (HS.out.1 (fun hh => g3 hh.1)) (by omega) hlt hd
            have d3 : decide ((N : Int) < (F : Int) + 3) = false := by simp; omega
            have hq : ((N : Int) == (F : Int)) = false := by simp; omega
            go_wp2
            go_quiet (fail)
            go_wp2
            go_quiet (fail)
            go_wp2_with (go_at_call 65; refine (HH.out.2.2.1 11 N _ (HH.out.1.1.drewN _)).mono ?_; rintro e w2 ⟨rfl, hw2⟩; have HW := Lib.hid hw2; clear hw2)
            go_ret
            exact NumResR.fail 0 hnum (by have := HH.out.2.2.2.1; omega) (HH.out.1.2.trans (grown_drewN _ _ _)) HW.out
        · have hd : isD x = false := by simp [isD, g2]
          have d2 : decide ((x : Int) ≤ 57) = false := by simp; omega
          have stop := HS.out.1 (fun hh => by rw [hd] at hh; simp at hh)
          have notd : ¬ (N < S ∧ isD x = true) := fun hh => by rw [hd] at hh; simp at hh
          by_cases g0 : k = 0
          · have hnum := HS.out.2.2.1 stop g0
            have hq : ((N : Int) == (F : Int)) = true := by simp; omega
            have hNF := Lib.hid (show N = F by omega)
            go_wp2
            go_quiet (fail)
            go_wp2
            go_quiet (fail)
            go_wp2_with (go_at_call 65; refine (HH.out.2.2.1 11 N _ (HH.out.1.1.drewN _)).mono ?_; rintro e w2 ⟨rfl, hw2⟩; rw [hNF.out] at hw2; have HW := Lib.hid hw2; clear hw2)
            go_ret
            exact NumResR.fail 0 hnum (by have := hNF.out; omega) (HH.out.1.2.trans (grown_drewN _ _ _)) HW.out
          · have hq : ((N : Int) == (F : Int)) = false := by simp; omega
            by_cases g7 : top < (n : Int)
            · have hnum := HS.out.2.2.2.2.1 stop g0 notd g7
              go_wp2
              go_quiet (fail)
              go_wp2
              go_quiet (fail)
              go_wp2_with (go_at_call 65; refine (HH.out.2.2.1 2 F _ (HH.out.1.1.drewN _)).mono ?_; rintro e w2 ⟨rfl, hw2⟩; have HW := Lib.hid hw2; clear hw2)
              go_ret
              exact NumResR.fail n hnum (by have := HH.out.2.2.2.1; omega) (HH.out.1.2.trans (grown_drewN _ _ _)) HW.out
            · have hnum := HS.out.2.2.2.2.2.1 stop g0 notd g7
              go_wp2
              go_quiet (fail)
              go_wp2
              go_quiet (fail)
              go_wp2
              go_ret
              exact NumResR.good hnum ⟨HH.out.1.1.drewN _, HH.out.1.2.trans (grown_drewN _ _ _)⟩
      · have hd : isD x = false := by simp [isD, g1]
        have d1 : decide ((48 : Int) ≤ (x : Int)) = false := by simp; omega
        have stop := HS.out.1 (fun hh => by rw [hd] at hh; simp at hh)
        have notd : ¬ (N < S ∧ isD x = true) := fun hh => by rw [hd] at hh; simp at hh
        by_cases g0 : k = 0
        · have hnum := HS.out.2.2.1 stop g0
          have hq : ((N : Int) == (F : Int)) = true := by simp; omega
          have hNF := Lib.hid (show N = F by omega)
          go_wp2
          go_quiet (fail)
          go_wp2
          go_quiet (fail)
          go_wp2_with (go_at_call 65; refine (HH.out.2.2.1 11 N _ (HH.out.1.1.drewN _)).mono ?_; rintro e w2 ⟨rfl, hw2⟩; rw [hNF.out] at hw2; have HW := Lib.hid hw2; clear hw2)
          go_ret
          exact NumResR.fail 0 hnum (by have := hNF.out; omega) (HH.out.1.2.trans (grown_drewN _ _ _)) HW.out
        · have hq : ((N : Int) == (F : Int)) = false := by simp; omega
          by_cases g7 : top < (n : Int)
          · have hnum := HS.out.2.2.2.2.1 stop g0 notd g7
            go_wp2
            go_quiet (fail)
            go_wp2
            go_quiet (fail)
            go_wp2_with (go_at_call 65; refine (HH.out.2.2.1 2 F _ (HH.out.1.1.drewN _)).mono ?_; rintro e w2 ⟨rfl, hw2⟩; have HW := Lib.hid hw2; clear hw2)
            go_ret
            exact NumResR.fail n hnum (by have := HH.out.2.2.2.1; omega) (HH.out.1.2.trans (grown_drewN _ _ _)) HW.out
          · have hnum := HS.out.2.2.2.2.2.1 stop g0 notd g7
            go_wp2
            go_quiet (fail)
            go_wp2
            go_quiet (fail)
            go_wp2
            go_ret
            exact NumResR.good hnum ⟨HH.out.1.1.drewN _, HH.out.1.2.trans (grown_drewN _ _ _)⟩
    · obtain ⟨S, hS⟩ : ∃ S, b.size = S := ⟨_, rfl⟩
      rw [hbl, hS] at hstop hgo hmore hbig hfine
      rw [hS] at hge hl
      have hlI : ¬ (N : Int) < S := by omega
      have d0 : decide (N < S) = false := by simp; omega
      have HH := Lib.hid (And.intro hR (And.intro hS (And.intro hfl (And.intro hN hn))))
      have HS := Lib.hid (And.intro hstop (And.intro hgo (And.intro hnone (And.intro hmore (And.intro hbig hfine)))))
      clear hR he hstop hgo hnone hmore hbig hfine hfl hn hbl hk2
      have stop := HS.out.1 (fun hh => by omega)
      have notd : ¬ (N < S ∧ isD ((bytesOf b)[N]?.getD 0) = true) := fun hh => by omega
      by_cases g0 : k = 0
      · have hnum := HS.out.2.2.1 stop g0
        have hq : ((N : Int) == (F : Int)) = true := by simp; omega
        have hNF := Lib.hid (show N = F by omega)
        go_wp2
        go_quiet (fail)
        go_wp2
        go_quiet (fail)
        go_wp2_with (go_at_call 65; refine (HH.out.2.2.1 11 N _ (HH.out.1.1.drewN _)).mono ?_; rintro e w2 ⟨rfl, hw2⟩; rw [hNF.out] at hw2; have HW := Lib.hid hw2; clear hw2)
        go_ret
        exact NumResR.fail 0 hnum (by have := hNF.out; omega) (HH.out.1.2.trans (grown_drewN _ _ _)) HW.out
      · have hq : ((N : Int) == (F : Int)) = false := by simp; omega
        by_cases g7 : top < (n : Int)
        · have hnum := HS.out.2.2.2.2.1 stop g0 notd g7
          go_wp2
          go_quiet (fail)
          go_wp2
          go_quiet (fail)
          go_wp2_with (go_at_call 65; refine (HH.out.2.2.1 2 F _ (HH.out.1.1.drewN _)).mono ?_; rintro e w2 ⟨rfl, hw2⟩; have HW := Lib.hid hw2; clear hw2)
          go_ret
          exact NumResR.fail n hnum (by have := HH.out.2.2.2.1; omega) (HH.out.1.2.trans (grown_drewN _ _ _)) HW.out
        · have hnum := HS.out.2.2.2.2.2 stop g0 notd g7
          go_wp2
          go_quiet (fail)
          go_wp2
          go_quiet (fail)
          go_wp2
          go_ret
          exact NumResR.good hnum ⟨HH.out.1.1.drewN _, HH.out.1.2.trans (grown_drewN _ _ _)⟩
end Go.Proofs.YtifkieopaoooeaaGreatDoor
