/- LibraryPacks: its walk. -/
import Derived.Test.YtjjjnpolhbbepaaDoorAwake
import Derived.Test.YtjjjnpolhbbepaaDoorRefPack
import Derived.Test.YtjjjnpolhbbepaaDoorLawChanged
import Derived.Deep.DeepCutAuto
set_option linter.unusedSimpArgs false
set_option linter.unusedVariables false
namespace Go.Proofs.YtjjjnpolhbbepaaDoor
open Go.RowKit
open Plain
set_option maxRecDepth 100000 in
set_option maxHeartbeats 2000000 in
theorem rpack_bad {w : World} {a : Option Addr} {c : Nat} {l : List Ent} (h : Ents w a l) (hk : chk l ≠ 0) :
    Calls Tryd.prog 10 #[.slice a l.length c] w fun e w' => e = .returned (.tuple #[.slice none 0 0, .int .i64 (chk l)]) ∧ Below w.heap.size w w' := by
  have hc := rcheck_calls (c := c) h
  obtain ⟨z, hz⟩ : ∃ z, chk l = z := ⟨_, rfl⟩
  rw [hz] at hc hk ⊢
  have hz2 : (z != 0) = true := by simp [hk]
  have Hc := Lib.hid hc
  clear h hc hz hk
  go_enter Tryd.func10, Tryd.ntmps10
  go_wp2_with (go_at_call 12; refine Hc.out.mono ?_; rintro e w1 ⟨rfl, hb1⟩; have HB1 := Lib.hid hb1; clear hb1)
  go_ret2
  exact ⟨rfl, HB1.out⟩
/-- What both packings return. -/
def PackRes (l : List Ent) (w : World) (e : Ending) (w' : World) : Prop :=
  ∃ a c xs, e = .returned (.tuple #[.slice a xs.length c, .int .i64 (chk l)]) ∧ xs = (if chk l = 0 then packAll l else []) ∧ Byts w' a xs ∧ Below w.heap.size w w'
theorem PackRes.of {l : List Ent} {w w' : World} {e : Ending} (hk : chk l = 0) (h : Packed l w e w') : PackRes l w e w' := by
  obtain ⟨v, rfl, hown, hb⟩ := h
  obtain ⟨hpl, hp0, _⟩ := packAll_len hk
  have hbl := byts_len (packAll l)
  obtain ⟨a, c, rfl, hr⟩ := hown.row (by rw [hbl]; unfold maxLen; omega)
  exact ⟨a, c, packAll l, by rw [hbl, hk], by rw [if_pos hk], hr, hb⟩
theorem PackRes.bad {l : List Ent} {w w' : World} {e : Ending} (hk : chk l ≠ 0) (h : e = .returned (.tuple #[.slice none 0 0, .int .i64 (chk l)]) ∧ Below w.heap.size w w') : PackRes l w e w' :=
  ⟨none, 0, [], h.1, by rw [if_neg hk], Row.nil, h.2⟩
theorem pack_res {w : World} {a : Option Addr} {c : Nat} {l : List Ent} (h : Ents w a l) : Calls Tryd.prog 9 #[.slice a l.length c] w (PackRes l w) := by
  by_cases hk : chk l = 0
  · exact (pack_ok h hk).mono fun e w' hh => .of hk hh
  · exact (pack_bad h hk).mono fun e w' hh => .bad hk hh
theorem rpack_res {w : World} {a : Option Addr} {c : Nat} {l : List Ent} (h : Ents w a l) : Calls Tryd.prog 10 #[.slice a l.length c] w (PackRes l w) := by
  by_cases hk : chk l = 0
  · exact (rpack_ok h hk).mono fun e w' hh => .of hk hh
  · exact (rpack_bad h hk).mono fun e w' hh => .bad hk hh
set_option maxRecDepth 100000 in
set_option maxHeartbeats 4000000 in
theorem packs_calls {w : World} {a b : Option Addr} {c d : Nat} {l : List Ent} {xs : List Nat} (h : Ents w a l) (hb : Byts w b xs) (hlt : ∀ x ∈ xs, x < 256) (hcap : xs.length ≤ d) :
    Calls Tryd.prog 3 #[.slice a l.length c, .slice b xs.length d] w fun e w' => e = .returned (.bool true) ∧ Below w.heap.size w w' := by
  have hlg := large_calls (c := c) h
  have h9 := fun w1 (hb : Below w.heap.size w w1) => pack_res (c := c) (h.below hb)
  have h10 := fun w1 (hb : Below w.heap.size w w1) => rpack_res (c := c) (h.below hb)
  have h11 := fun w1 (hb : Below w.heap.size w w1) => check_calls (c := c) (h.below hb)
  have h12 := fun w1 (hb : Below w.heap.size w w1) => rcheck_calls (c := c) (h.below hb)
  have h14 := fun w1 (hb1 : Below w.heap.size w w1) => sum_calls (c := d) (Row.below hb hb1 : Byts w1 b xs) hlt
  have h15 := fun w1 (hb1 : Below w.heap.size w w1) => rsum_calls (c := d) (Row.below hb hb1 : Byts w1 b xs) hlt
  have hm := h.len
  have hm2 := Byts.len hb
  obtain ⟨n, hn⟩ : ∃ n, l.length = n := ⟨_, rfl⟩
  obtain ⟨n2, hn2⟩ : ∃ n2, xs.length = n2 := ⟨_, rfl⟩
  rw [hn] at hlg hm h9 h10 h11 h12 ⊢
  rw [hn2] at hm2 hcap h14 h15 ⊢
  obtain ⟨z, hz⟩ : ∃ z, chk l = z := ⟨_, rfl⟩
  obtain ⟨S, hS⟩ : ∃ S, sumB xs = S := ⟨_, rfl⟩
  rw [hS] at h14 h15
  have HZ := Lib.hid hz
  rw [hz] at h11 h12
  have HL := Lib.hid hlg
  have H9 := Lib.hid h9
  have H10 := Lib.hid h10
  have H11 := Lib.hid h11
  have H12 := Lib.hid h12
  have H14 := Lib.hid h14
  have H15 := Lib.hid h15
  clear hlg h9 h10 h11 h12 h14 h15 h hn hb hlt hn2 hz hS
  go_enter Tryd.func3, Tryd.ntmps3
  go_wp2_with fail
  refine HL.out.mono ?_
  rintro e w1 ⟨⟨B, rfl⟩, hb1⟩
  have HB1 := Lib.hid hb1
  clear hb1
  cases B with
  | true =>
    go_wp2_with (go_at_call 8; refine (awake_calls _).mono ?_; rintro e w2 ⟨rfl, hb2⟩; have HB2 := Lib.hid hb2; clear hb2)
    go_ret
    exact ⟨rfl, HB1.out.trans (HB2.out.mono HB1.out.size)⟩
  | false =>
    by_cases hbig : 3000 < n2
    · have hbi : (3000 : Int) < n2 := by omega
      go_wp2_with (go_at_call 8; refine (awake_calls _).mono ?_; rintro e w2 ⟨rfl, hb2⟩; have HB2 := Lib.hid hb2; clear hb2)
      go_ret
      exact ⟨rfl, HB1.out.trans (HB2.out.mono HB1.out.size)⟩
    have hbi : (n2 : Int) ≤ 3000 := by omega
    go_wp2_with fail
    refine (H9.out _ HB1.out).mono ?_
    rintro e w2 ⟨a2, c2, ys, rfl, hys, hr2, hb2⟩
    have HB2 := Lib.hid (And.intro hys (And.intro hr2 (HB1.out.trans (hb2.mono HB1.out.size))))
    rw [HZ.out]
    obtain ⟨m, hm⟩ : ∃ m, ys.length = m := ⟨_, rfl⟩
    rw [hm]
    have HM := Lib.hid hm
    clear hys hr2 hb2 hm
    go_wp2_with fail
    refine (H10.out _ HB2.out.2.2).mono ?_
    rintro e w3 ⟨a3, c3, zs, rfl, hzs, hr3, hb3⟩
    obtain rfl : zs = ys := hzs.trans HB2.out.1.symm
    rw [HZ.out, HM.out]
    have hw3 : Below w.heap.size w w3 := HB2.out.2.2.trans (hb3.mono HB2.out.2.2.size)
    have HB3 := Lib.hid (And.intro hw3 (And.intro (show Byts w3 a2 zs from Row.below HB2.out.2.1 hb3) hr3))
    clear hzs hr3 hb3 hw3
    go_wp2_with fail
    refine (H11.out _ HB3.out.1).mono ?_
    rintro e w4 ⟨rfl, hb4⟩
    have hw4 : Below w.heap.size w w4 := HB3.out.1.trans (hb4.mono HB3.out.1.size)
    have HB4 := Lib.hid (And.intro hw4 (And.intro (show Byts w4 a2 zs from Row.below HB3.out.2.1 hb4) (show Byts w4 a3 zs from Row.below HB3.out.2.2 hb4)))
    clear hb4 hw4
    go_wp2_with fail
    refine (H12.out _ HB4.out.1).mono ?_
    rintro e w5 ⟨rfl, hb5⟩
    have hw5 : Below w.heap.size w w5 := HB4.out.1.trans (hb5.mono HB4.out.1.size)
    have hsm := sameByts_calls a2 a3 c2 c3 zs zs w5 (Row.below HB4.out.2.1 hb5) (Row.below HB4.out.2.2 hb5)
    rw [HM.out] at hsm
    have hsm2 : Calls Tryd.prog 13 #[.slice a2 m c2, .slice a3 m c3] w5 fun e w' => e = .returned (.bool true) ∧ ∃ q, w' = w5.drewN q := by simpa using hsm
    have HSM := Lib.hid hsm2
    have HB5 := Lib.hid hw5
    have hzz : (z == z) = true := by simp
    clear hb5 hw5 hsm hsm2
    go_wp2_with fail
    refine HSM.out.mono ?_
    rintro e w6 ⟨rfl, q6, rfl⟩
    have hb6 := below_drewN HB5.out q6
    have HB6 := Lib.hid hb6
    clear hb6
    go_wp2_with fail
    refine (H14.out _ HB6.out).mono ?_
    rintro e w7 ⟨rfl, rfl⟩
    go_wp2_with fail
    refine (H15.out _ HB6.out).mono ?_
    rintro e w7 ⟨rfl, rfl⟩
    have hSS : ((S : Int) == S) = true := by simp
    go_wp2_with (go_at_call 8; refine (awake_calls _).mono ?_; rintro e w9 ⟨rfl, hb9⟩; have HB9 := Lib.hid hb9; clear hb9)
    go_ret
    exact ⟨rfl, HB6.out.trans (HB9.out.mono HB6.out.size)⟩
end Go.Proofs.YtjjjnpolhbbepaaDoor
