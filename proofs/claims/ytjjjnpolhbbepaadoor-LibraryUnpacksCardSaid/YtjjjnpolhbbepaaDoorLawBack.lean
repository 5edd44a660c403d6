/- LibraryBack: its walk. -/
import Derived.Test.YtjjjnpolhbbepaaDoorAwake
import Derived.Test.YtjjjnpolhbbepaaDoorPlainInv
import Derived.Test.YtjjjnpolhbbepaaDoorLawChanged
import Derived.Deep.DeepCutAuto
set_option linter.unusedSimpArgs false
set_option linter.unusedVariables false
namespace Go.Proofs.YtjjjnpolhbbepaaDoor
open Go.RowKit
open Plain
theorem entP_ne' (c : List Nat) (a : Nat) (last : Option ByteArray) : entP c a last ≠ .error 0 := fun h => entP_ne h rfl
theorem small_of_chk {l : List Ent} (h : chk l = 0) : Small l := by
  have h200 : l.length ≤ 200 := (packAll_len h).2.2
  have hf : chkFrom none l = 0 := by unfold chk at h; rw [if_neg (by omega)] at h; exact h
  refine ⟨by omega, fun e he => ?_⟩
  obtain ⟨h1, h2⟩ := chk_all hf e he
  obtain ⟨_, h20⟩ := okName_len h1
  obtain ⟨hd1, hd2, hm, hg⟩ := chkGroup_ok.1 h2
  have : (bytesOf e.name).length = e.name.size := by unfold bytesOf; simp
  exact ⟨by omega, by omega, fun p hp => by have := (hg p hp).1; omega⟩
set_option maxRecDepth 100000 in
set_option maxHeartbeats 4000000 in
theorem back_calls {w : World} {a b : Option Addr} {c d : Nat} {l : List Ent} {xs : List Nat} (h : Ents w a l) (hb : Byts w b xs) (hlt : ∀ x ∈ xs, x < 256) (hcap : xs.length ≤ d) :
    Calls Tryd.prog 5 #[.slice a l.length c, .slice b xs.length d] w fun e w' => e = .returned (.bool true) ∧ Below w.heap.size w w' := by
  have hlg := large_calls (c := c) h
  have hpk := fun w1 (hb : Below w.heap.size w w1) (hz : chk l ≠ 0) => pack_bad (c := c) (h.below hb) hz
  have hok := fun w1 (hb : Below w.heap.size w w1) (hz : chk l = 0) => pack_ok (c := c) (h.below hb) hz
  have hm := h.len
  have hm2 := Byts.len hb
  have H := Lib.hid h
  obtain ⟨n, hn⟩ : ∃ n, l.length = n := ⟨_, rfl⟩
  obtain ⟨n2, hn2⟩ : ∃ n2, xs.length = n2 := ⟨_, rfl⟩
  rw [hn] at hlg hpk hok hm ⊢
  rw [hn2] at hm2 hcap ⊢
  have HL := Lib.hid hlg
  have HP := Lib.hid (And.intro hpk (And.intro hok hn))
  have HB := Lib.hid (And.intro hb (And.intro hlt hn2))
  clear hlg hpk hok h hn hb hlt hn2
  go_enter Tryd.func5, Tryd.ntmps5
  go_wp2_with fail
  refine HL.out.mono ?_
  rintro e w1 ⟨⟨B, rfl⟩, hb1⟩
  have HB1 := Lib.hid hb1
  clear hb1
  cases B with
  | true =>
    go_wp2_with (go_at_call 8; refine (awake_calls _).mono ?_; rintro e w2 ⟨rfl, hb2⟩; have HB2 := Lib.hid hb2; clear hb2)
    go_ret
    exact ⟨rfl, HB1.out.trans (HB2.out.mono HB1.out.size)⟩
  | false =>
    by_cases hbig : 3000 < n2
    · have hbi : (3000 : Int) < n2 := by omega
      go_wp2_with (go_at_call 8; refine (awake_calls _).mono ?_; rintro e w2 ⟨rfl, hb2⟩; have HB2 := Lib.hid hb2; clear hb2)
      go_ret
      exact ⟨rfl, HB1.out.trans (HB2.out.mono HB1.out.size)⟩
    have hbi : (n2 : Int) ≤ 3000 := by omega
    go_upto_region 3 with (fail)
    go_cut [5, 6] (fun u5 u6 wx => ∃ z : Int, u6 = .int .i64 z ∧ Below w.heap.size w wx ∧ z = chk l ∧ (z = 0 → ∃ B, Own wx B u5 5 (byts (packAll l))))
    case first =>
      by_cases hz : chk l = 0
      · have HC := Lib.hid (HP.out.2.1 w1 HB1.out hz)
        have Hz := Lib.hid hz
        clear hz
        go_wp2_with fail
        refine HC.out.mono ?_
        rintro e w2 ⟨v, rfl, hown, hb2⟩
        have HB2 := Lib.hid (And.intro hown (HB1.out.trans (hb2.mono HB1.out.size)))
        clear hown hb2
        go_wp2_with fail
        go_meet
        exact ⟨0, rfl, HB2.out.2, Hz.out.symm, fun _ => ⟨_, HB2.out.1⟩⟩
      · have hz2 : (chk l != 0) = true := by simp [hz]
        have hcall := HP.out.1 w1 HB1.out hz
        have HZ := Lib.hid (And.intro hz hcall)
        clear hcall hz hz2
        obtain ⟨z, hze⟩ : ∃ z, z = chk l := ⟨_, rfl⟩
        have Hze := Lib.hid hze
        have hcall := HZ.out.2
        rw [← hze] at hcall
        have HC := Lib.hid hcall
        clear hcall hze
        go_wp2_with fail
        refine HC.out.mono ?_
        rintro e w2 ⟨rfl, hb2⟩
        have HB2 := Lib.hid (HB1.out.trans (hb2.mono HB1.out.size))
        clear hb2
        go_wp2_with fail
        go_meet
        exact ⟨z, rfl, HB2.out, Hze.out, fun e => absurd (Hze.out.symm.trans e) HZ.out.1⟩
    case rest =>
      obtain ⟨z, rfl, hbc, hze, hcs⟩ := hcut
      have HBC := Lib.hid hbc
      have HCS := Lib.hid (And.intro hze hcs)
      clear hbc hcs hze
      go_upto_if 25 with (fail)
      go_cut [5] (fun _ wx => Below w.heap.size w wx)
      case first =>
        obtain ⟨hze, hcs⟩ := HCS.out
        by_cases hz : z ≠ 0
        · have hz2 : (z == 0) = false := by simpa using hz
          clear hze hz HCS hcs
          go_wp2_with fail
          go_meet
          exact HBC.out
        · have hz : z = 0 := by omega
          subst hz
          obtain ⟨BB, hown⟩ := hcs rfl
          have hz := hze.symm
          clear hze hcs
          obtain ⟨hpl, hp0, h200⟩ := packAll_len hz
          have hPlt := packAll_lt hz
          have hun := pack_unpack hz
          have hsm := small_of_chk hz
          obtain ⟨P, hP⟩ : ∃ P, packAll l = P := ⟨_, rfl⟩
          rw [hP] at hpl hp0 hPlt hun hown
          have hbl : (byts P).length = P.length := byts_len P
          obtain ⟨G, cap, rfl, hG, hG2, hcp, _⟩ := hown.form (by rw [hbl]; exact hp0)
          have hrow : Byts wc (some ⟨G, 0, none⟩) P := Row.of_own (n := P.length) (by have := hown; unfold Own at this; rw [hbl] at this; exact this) (by unfold maxLen; omega)
          rw [hbl] at hcp ⊢
          have hu := unpack_calls (c := cap) hrow hPlt (by omega) hcp
          rw [hun] at hu
          have HU := Lib.hid hu
          have HS := Lib.hid hsm
          obtain ⟨N, hN⟩ : ∃ N, P.length = N := ⟨_, rfl⟩
          rw [hN] at hu hpl ⊢
          have HU := Lib.hid hu
          clear hu hrow hown hP hPlt hun hsm hbl hcp hN hz hp0 HCS hG hG2
          go_wp2_with fail
          refine HU.out.mono ?_
          rintro e w5 ⟨m, rfl, hom, hb5⟩
          obtain ⟨am, cm, rfl, hme⟩ := hom.ents HS.out
          dsimp only
          have hbw5 : Below w.heap.size w w5 := HBC.out.trans (hb5.mono HBC.out.size)
          have hbw6 : Below w.heap.size w (w5.alloc (.cells #[.int .i64 0, .int .i64 0] 35)) := hbw5.alloc hbw5.size _
          have hme6 := hme.below (w' := w5.alloc (.cells #[.int .i64 0, .int .i64 0] 35)) ((Below.refl _ _).alloc (Nat.le_refl _) _)
          have hle := H.out.below hbw6
          have hsame := same_calls (R := true) (c := c) (d := cm) hle hme6 (by simp)
          rw [HP.out.2.2] at hsame ⊢
          have HSM := Lib.hid hsame
          have HW := Lib.hid hbw6
          clear hom hb5 hme hbw5 hbw6 hme6 hle hsame HU
          go_wp2_with (go_at_call 18; refine HSM.out.mono ?_; rintro e w7 ⟨rfl, hb7⟩; have HB7 := Lib.hid hb7; clear hb7)
          go_meet
          exact HW.out.trans (HB7.out.mono HW.out.size)
      case rest =>
        clear HCS HBC
        have HBC := Lib.hid hcut
        have hat := unpack_at HB.out.2.1
        have hnone := unpack_none (b := xs)
        have hinv := fun l z => unpack_inv HB.out.2.1 (fun c a last => entP_ne' c a last) (l := l) (z := z)
        have hu := unpack_calls (c := d) (Row.below HB.out.1 hcut) HB.out.2.1 (by rw [HB.out.2.2]; omega) (by rw [HB.out.2.2]; exact hcap)
        rw [HB.out.2.2] at hu hat
        obtain ⟨⟨es, z2, at9⟩, hR⟩ : ∃ R, unpack xs = R := ⟨_, rfl⟩
        rw [hR] at hu hat hnone
        simp only at hat hnone
        have HI := Lib.hid (And.intro hR hinv)
        have HU := Lib.hid hu
        clear hu hR hinv hcut
        by_cases hz : z2 = 0
        · subst hz
          obtain ⟨hck, hpa⟩ := HI.out.2 _ _ HI.out.1
          have hsm := small_of_chk hck
          have HS := Lib.hid (And.intro hck (And.intro hpa hsm))
          clear hnone hck hpa hsm
          go_wp2_with fail
          refine HU.out.mono ?_
          rintro e w5 ⟨m, rfl, hom, hb5⟩
          obtain ⟨am, cm, rfl, hme⟩ := hom.ents HS.out.2.2
          dsimp only
          have hbw5 : Below w.heap.size w w5 := HBC.out.trans (hb5.mono HBC.out.size)
          have hbw6 : Below w.heap.size w (w5.alloc (.cells #[.int .i64 0, .int .i64 (at9 : Int)] 35)) := hbw5.alloc hbw5.size _
          have hme6 := hme.below (w' := w5.alloc (.cells #[.int .i64 0, .int .i64 (at9 : Int)] 35)) ((Below.refl _ _).alloc (Nat.le_refl _) _)
          have hpc := pack_ok (c := cm) hme6 HS.out.1
          obtain ⟨q, hq⟩ : ∃ q, es.length = q := ⟨_, rfl⟩
          rw [hq] at hpc ⊢
          have HPC := Lib.hid hpc
          have HW := Lib.hid hbw6
          clear hom hb5 hme hbw5 hbw6 hme6 hpc HU hq
          go_wp2_with fail
          refine HPC.out.mono ?_
          rintro e w7 ⟨v7, rfl, hown, hb7⟩
          have hbw7 : Below w.heap.size w w7 := HW.out.trans (hb7.mono HW.out.size)
          rw [HS.out.2.1] at hown
          obtain ⟨a7, c7, e7, hr7⟩ := hown.row (by rw [byts_len, HB.out.2.2]; unfold maxLen; omega)
          rw [byts_len, HB.out.2.2] at e7
          subst e7
          have hsm := sameByts_calls a7 b c7 d xs xs w7 hr7 (Row.below HB.out.1 hbw7)
          rw [HB.out.2.2] at hsm
          have hsm2 : Calls Tryd.prog 13 #[.slice a7 n2 c7, .slice b n2 d] w7 fun e w' => e = .returned (.bool true) ∧ ∃ q, w' = w7.drewN q := by simpa using hsm
          have HSM := Lib.hid hsm2
          have HW7 := Lib.hid hbw7
          clear hown hb7 hbw7 hr7 hsm hsm2 HPC
          go_wp2_with (first | (go_at_call 13; refine HSM.out.mono ?_; rintro e w8 ⟨rfl, q8, rfl⟩) | (go_at_call 8; refine (awake_calls _).mono ?_; rintro e w9 ⟨rfl, hb9⟩; have HB9 := Lib.hid hb9; clear hb9))
          go_ret
          exact ⟨rfl, (below_drewN HW7.out _).trans (HB9.out.mono HW7.out.size)⟩
        · obtain rfl : es = [] := hnone hz
          have hz2 : (z2 != 0) = true := by simpa using hz
          have hati : (at9 : Int) ≤ n2 := by omega
          clear hz hnone HI hat
          go_wp2_with fail
          refine HU.out.mono ?_
          rintro e w5 ⟨m, rfl, hom, hb5⟩
          obtain ⟨am, cm, rfl, hme⟩ := hom.ents ⟨by simp, by simp⟩
          dsimp only [List.length_nil]
          have hbw5 : Below w.heap.size w w5 := HBC.out.trans (hb5.mono HBC.out.size)
          have hbw6 : Below w.heap.size w (w5.alloc (.cells #[.int .i64 z2, .int .i64 (at9 : Int)] 35)) := hbw5.alloc hbw5.size _
          have HW := Lib.hid hbw6
          clear hom hb5 hme hbw5 hbw6 HU
          go_wp2_with (go_at_call 8; refine (awake_calls _).mono ?_; rintro e w9 ⟨rfl, hb9⟩; have HB9 := Lib.hid hb9; clear hb9)
          go_ret
          exact ⟨rfl, HW.out.trans (HB9.out.mono HW.out.size)⟩
end Go.Proofs.YtjjjnpolhbbepaaDoor
