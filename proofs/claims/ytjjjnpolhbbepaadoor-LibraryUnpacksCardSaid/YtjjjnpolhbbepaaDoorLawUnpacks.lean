/- LibraryUnpacks: its walk. -/
import Derived.Test.YtjjjnpolhbbepaaDoorLawBack
import Derived.Test.YtjjjnpolhbbepaaDoorRefUnpack
set_option linter.unusedSimpArgs false
set_option linter.unusedVariables false
namespace Go.Proofs.YtjjjnpolhbbepaaDoor
open Go.RowKit
open Plain
theorem unpack_small {b : List Nat} (hb : ∀ x ∈ b, x < 256) : Small (unpack b).1 := by
  obtain ⟨⟨es, z, a⟩, hR⟩ : ∃ R, unpack b = R := ⟨_, rfl⟩
  by_cases hz : z = 0
  · subst hz
    have h := (unpack_inv hb (fun c a last => entP_ne' c a last) hR).1
    rw [hR]
    exact small_of_chk h
  · have := unpack_none (b := b) (by rw [hR]; exact hz)
    rw [this]
    exact ⟨by simp, by simp⟩
set_option maxRecDepth 100000 in
set_option maxHeartbeats 4000000 in
theorem unpacks_calls {w : World} {b : Option Addr} {d : Nat} {xs : List Nat} (hb : Byts w b xs) (hlt : ∀ x ∈ xs, x < 256) (hcap : xs.length ≤ d) :
    Calls Tryd.prog 4 #[.slice b xs.length d] w fun e w' => e = .returned (.bool true) ∧ Below w.heap.size w w' := by
  have hm2 := Byts.len hb
  have hsm := unpack_small hlt
  have hu := fun (hl : xs.length ≤ 500000) => unpack_calls (c := d) hb hlt hl hcap
  have hv := fun (hl : xs.length ≤ 500000) w1 (hb1 : Below w.heap.size w w1) => runpack_calls (c := d) (Row.below hb hb1 : Byts w1 b xs) hlt hl hcap
  obtain ⟨n2, hn2⟩ : ∃ n2, xs.length = n2 := ⟨_, rfl⟩
  rw [hn2] at hm2 hcap hu hv ⊢
  obtain ⟨⟨es, z, a9⟩, hR⟩ : ∃ R, unpack xs = R := ⟨_, rfl⟩
  rw [hR] at hu hv hsm
  have HS := Lib.hid hsm
  by_cases hbig : 3000 < n2
  · have hbi : (3000 : Int) < n2 := by omega
    clear hu hv hsm hR hb hlt hn2
    go_enter Tryd.func4, Tryd.ntmps4
    go_wp2_with (go_at_call 8; refine (awake_calls _).mono ?_; rintro e w2 ⟨rfl, hb2⟩; have HB2 := Lib.hid hb2; clear hb2)
    go_ret
    exact ⟨rfl, HB2.out⟩
  have hbi : (n2 : Int) ≤ 3000 := by omega
  have HU := Lib.hid (hu (by omega))
  have HV := Lib.hid (hv (by omega))

  clear hu hv hsm hR hb hlt hn2
  go_enter Tryd.func4, Tryd.ntmps4
  go_wp2_with fail
  refine HU.out.mono ?_
  rintro e w2 ⟨m, rfl, hom, hb2⟩
  obtain ⟨am, cm, rfl, hme⟩ := hom.ents HS.out
  dsimp only
  obtain ⟨q, hq⟩ : ∃ q, es.length = q := ⟨_, rfl⟩
  rw [hq]
  have hb3 : Below w.heap.size w (w2.alloc (.cells #[.int .i64 z, .int .i64 (a9 : Int)] 35)) := hb2.alloc hb2.size _
  have hme3 := hme.below (w' := w2.alloc (.cells #[.int .i64 z, .int .i64 (a9 : Int)] 35)) ((Below.refl _ _).alloc (Nat.le_refl _) _)
  have hx0 : (w2.alloc (.cells #[.int .i64 z, .int .i64 (a9 : Int)] 35)).cell? ⟨w2.heap.size, 0, none⟩ = some (.int .i64 z) := by simp
  have hx1 : (w2.alloc (.cells #[.int .i64 z, .int .i64 (a9 : Int)] 35)).cell? ⟨w2.heap.size, 1, none⟩ = some (.int .i64 (a9 : Int)) := by simp
  have hxl : w2.heap.size < (w2.alloc (.cells #[.int .i64 z, .int .i64 (a9 : Int)] 35)).heap.size := by simp
  have Hq := Lib.hid hq
  have H3 := Lib.hid (And.intro hb3 (And.intro hme3 (And.intro hx0 (And.intro hx1 hxl))))
  clear hom hb2 hme hb3 hme3 hx0 hx1 hxl hq HU
  go_wp2_with fail
  generalize w2.alloc (.cells #[.int .i64 z, .int .i64 (a9 : Int)] 35) = w3 at *
  generalize w2.heap.size = X at *
  refine (HV.out w3 H3.out.1).mono ?_
  rintro e w4 ⟨m4, rfl, hom, hb4⟩
  obtain ⟨am4, cm4, rfl, hme4⟩ := hom.ents HS.out
  dsimp only
  rw [Hq.out]
  have hb5 : Below w3.heap.size w3 (w4.alloc (.cells #[.int .i64 z, .int .i64 (a9 : Int)] 35)) := hb4.alloc hb4.size _
  have hme5 := hme4.below (w' := w4.alloc (.cells #[.int .i64 z, .int .i64 (a9 : Int)] 35)) ((Below.refl _ _).alloc (Nat.le_refl _) _)
  have hy0 : (w4.alloc (.cells #[.int .i64 z, .int .i64 (a9 : Int)] 35)).cell? ⟨w4.heap.size, 0, none⟩ = some (.int .i64 z) := by simp
  have hy1 : (w4.alloc (.cells #[.int .i64 z, .int .i64 (a9 : Int)] 35)).cell? ⟨w4.heap.size, 1, none⟩ = some (.int .i64 (a9 : Int)) := by simp
  have hyl : w4.heap.size < (w4.alloc (.cells #[.int .i64 z, .int .i64 (a9 : Int)] 35)).heap.size := by simp
  have hsame := same_calls (R := true) (c := cm) (d := cm4) (H3.out.2.1.below hb5) hme5 (by simp)
  rw [Hq.out] at hsame
  have H5 := Lib.hid (And.intro hb5 (And.intro hy0 (And.intro hy1 hyl)))
  have HSM := Lib.hid hsame
  clear hom hb4 hme4 hb5 hme5 hy0 hy1 hyl hsame HV
  go_wp2_with fail
  generalize w4.alloc (.cells #[.int .i64 z, .int .i64 (a9 : Int)] 35) = w5 at *
  generalize w4.heap.size = Y at *
  refine HSM.out.mono ?_
  rintro e w6 ⟨rfl, hb6⟩
  have hXl := Nat.lt_of_lt_of_le H3.out.2.2.2.2 H5.out.1.size
  have x0 := (hb6.cell (p := ⟨X, 0, none⟩) hXl).trans ((H5.out.1.cell (p := ⟨X, 0, none⟩) H3.out.2.2.2.2).trans H3.out.2.2.1)
  have x1 := (hb6.cell (p := ⟨X, 1, none⟩) hXl).trans ((H5.out.1.cell (p := ⟨X, 1, none⟩) H3.out.2.2.2.2).trans H3.out.2.2.2.1)
  have y0 := (hb6.cell (p := ⟨Y, 0, none⟩) H5.out.2.2.2).trans H5.out.2.1
  have y1 := (hb6.cell (p := ⟨Y, 1, none⟩) H5.out.2.2.2).trans H5.out.2.2.1
  have hbw : Below w.heap.size w w6 := H3.out.1.trans ((H5.out.1.mono H3.out.1.size).trans (hb6.mono (Nat.le_trans H3.out.1.size H5.out.1.size)))
  have HW := Lib.hid hbw
  clear hb6 hbw HSM H5 H3 hXl
  go_wp2_with (go_at_call 8; refine (awake_calls _).mono ?_; rintro e w2 ⟨rfl, hb2⟩; have HB2 := Lib.hid hb2; clear hb2)
  go_ret
  exact ⟨rfl, HW.out.trans (HB2.out.mono HW.out.size)⟩
end Go.Proofs.YtjjjnpolhbbepaaDoor
