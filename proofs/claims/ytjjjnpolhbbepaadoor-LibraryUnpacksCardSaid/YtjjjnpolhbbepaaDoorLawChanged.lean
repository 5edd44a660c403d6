/- LibraryChanged: its walk. -/
import Derived.Test.YtjjjnpolhbbepaaDoorAwake
set_option linter.unusedSimpArgs false
set_option linter.unusedVariables false
namespace Go.Proofs.YtjjjnpolhbbepaaDoor
open Go.RowKit
open Plain
theorem xor_ne {p y : Nat} (hp : p < 256) (hy : y < 256) (h0 : 0 < y) : p ^^^ y < 256 ∧ p ^^^ y ≠ p := by
  refine ⟨Nat.xor_lt_two_pow (n := 8) hp hy, fun e => ?_⟩
  have h := congrArg (p ^^^ ·) e
  simp only [← Nat.xor_assoc, Nat.xor_self, Nat.zero_xor] at h
  omega
theorem byts_set (xs : List Nat) (k x : Nat) : (byts xs).set k (.int .u8 (x : Int)) = byts (xs.set k x) := by simp [byts, List.map_set]
theorem packAll_len {l : List Ent} (h : chk l = 0) : (packAll l).length ≤ 200010 ∧ 0 < (packAll l).length ∧ l.length ≤ 200 := by
  have h200 : l.length ≤ 200 := by
    unfold chk at h
    split at h
    · cases h
    · omega
  have hf : chkFrom none l = 0 := by unfold chk at h; rw [if_neg (by omega)] at h; exact h
  have h1 := flat_len (es := l) (fun e he => by
    have := chk_all hf e he
    exact packEnt_len this.1 this.2)
  have hl : (packAll l).length = 6 + (l.flatMap packEnt).length + 4 := by simp only [packAll, packBody, four, List.length_append, List.length_cons, List.length_nil]
  have : l.length * 1000 ≤ 200 * 1000 := Nat.mul_le_mul_right _ h200
  omega
def Yes (w : World) (e : Ending) (w' : World) : Prop := e = .returned (.bool true) ∧ Below w.heap.size w w'
theorem Yes.of {w w1 w' : World} {e : Ending} (hb : Below w.heap.size w w1) (h : e = .returned (.bool true) ∧ Below w1.heap.size w1 w') : e = .returned (.bool true) ∧ Below w.heap.size w w' :=
  ⟨h.1, hb.trans (h.2.mono hb.size)⟩
set_option maxRecDepth 100000 in
set_option maxHeartbeats 4000000 in
theorem changed_calls {w : World} {a : Option Addr} {c : Nat} {l : List Ent} (h : Ents w a l) (at_ by_ : Int) :
    Calls Tryd.prog 6 #[.slice a l.length c, .int .i64 at_, .int .i64 by_] w fun e w' => e = .returned (.bool true) ∧ Below w.heap.size w w' := by
  have hlg := large_calls (c := c) h
  have hpk := fun w1 (hb : Below w.heap.size w w1) (hz : chk l ≠ 0) => pack_bad (c := c) (h.below hb) hz
  have hok := fun w1 (hb : Below w.heap.size w w1) (hz : chk l = 0) => pack_ok (c := c) (h.below hb) hz
  have hm := h.len
  obtain ⟨n, hn⟩ : ∃ n, l.length = n := ⟨_, rfl⟩
  rw [hn] at hlg hpk hok hm ⊢
  have HL := Lib.hid hlg
  have HP := Lib.hid (And.intro hpk (And.intro hok hn))
  clear hlg hpk hok h hn
  go_enter Tryd.func6, Tryd.ntmps6
  go_wp2_with fail
  refine HL.out.mono ?_
  rintro e w1 ⟨⟨B, rfl⟩, hb1⟩
  have HB1 := Lib.hid hb1
  clear hb1
  cases B with
  | true =>
    go_wp2_with (go_at_call 8; refine (awake_calls _).mono ?_; rintro e w2 ⟨rfl, hb2⟩; have HB2 := Lib.hid hb2; clear hb2)
    go_ret
    exact ⟨rfl, HB1.out.trans (HB2.out.mono HB1.out.size)⟩
  | false =>
    by_cases hz : chk l = 0
    · obtain ⟨hpl, hp0, h200⟩ := packAll_len hz
      have hPlt := packAll_lt hz
      have hcall := HP.out.2.1 w1 HB1.out hz
      have hchg := fun i c hi hc hne => unpack_changed (l := l) (i := i) (c := c) hi h200 hPlt hc hne
      obtain ⟨P, hP⟩ : ∃ P, packAll l = P := ⟨_, rfl⟩
      obtain ⟨N, hN⟩ : ∃ N, P.length = N := ⟨_, rfl⟩
      unfold Packed at hcall
      rw [hP] at hpl hp0 hPlt hcall hchg
      rw [hN] at hpl hp0 hchg
      have HX := Lib.hid (And.intro hPlt (And.intro hN hchg))
      have HC := Lib.hid hcall
      clear hcall hz hPlt hN hchg hP
      go_wp2_with fail
      refine HC.out.mono ?_
      rintro e w2 ⟨v, rfl, hown, hb2⟩
      have hbl : (byts P).length = N := by rw [byts_len]; exact HX.out.2.1
      obtain ⟨G, cap, rfl, hG, hG2, hcp, _⟩ := hown.form (by rw [hbl]; exact hp0)
      rw [hbl] at hown hcp ⊢
      obtain ⟨r1, hr1, hbel1⟩ := below_calls at_ N (by omega) (by omega)
      obtain ⟨r2, hr2, hbel2⟩ := below_calls by_ 255 (by omega) (by omega)
      have hc0 := hown.cell r1 (by rw [hbl]; exact hr1)
      have hfr := hown.frozen r1
      obtain ⟨x, hx⟩ : ∃ x, P[r1]?.getD 0 = x := ⟨_, rfl⟩
      have hxl : x < 256 := by rw [← hx, List.getElem?_eq_getElem (by rw [HX.out.2.1]; exact hr1)]; exact HX.out.1 _ (List.getElem_mem _)
      have hc1 : w2.cell? ⟨G, r1, none⟩ = some (.int .u8 (x : Int)) := by
        rw [hc0, ← hx]
        simp [byts, List.getElem?_map, List.getElem?_eq_getElem (show r1 < P.length by rw [HX.out.2.1]; exact hr1)]
      obtain ⟨hy1, hy2⟩ := xor_ne (p := x) (y := 1 + r2) hxl (by omega) (by omega)
      have hxor := u8_xor_nat x (1 + r2) hxl (by omega)
      obtain ⟨y, hy⟩ : ∃ y, x ^^^ (1 + r2) = y := ⟨_, rfl⟩
      rw [hy] at hy1 hy2 hxor
      have hxor2 : bits .xor .u8 (x : Int) (1 + (r2 : Int)) = (y : Int) := by rw [← hxor]; congr 1
      have hput := hown.put r1 (.int .u8 (y : Int))
      rw [byts_set] at hput
      have hput2 : w2.grownBy (w2.setCell ⟨G, r1, none⟩ (.int .u8 (y : Int))) (some G) := grown_put r1 _
      have hb1' := HB1.out
      have hbw3 := below_grown (w := w) (hb1'.trans (hb2.mono hb1'.size)) hput2 (Nat.le_trans hb1'.size hG)
      have hun := HX.out.2.2 r1 y hr1 hy1 (by rw [hx]; exact hy2)
      have hN1 : 0 < N := hp0
      have hr1i : (r1 : Int) < N := by omega
      have hw255 : IntKind.i64.wrap (1 + (r2 : Int)) = 1 + (r2 : Int) := IntWalk.i64_in _ (by omega)
      have hw8 : IntKind.u8.wrap (1 + (r2 : Int)) = 1 + (r2 : Int) := by rw [IntKind.wrap_u8']; omega
      have H2 := Lib.hid (And.intro hput (And.intro hbw3 (And.intro hun hxl)))
      have hbel3 : Calls Tryd.prog 19 #[.int .i64 by_, .int .i64 255] (w2.drewN 1) fun e w' => e = .returned (.int .i64 (r2 : Int)) ∧ w' = w2.drewN 1 := hbel2 (w2.drewN 1)
      have HB := Lib.hid (And.intro (hbel1 (w2.drewN 1)) hbel3)
      clear hown hb2 hbl hbel1 hbel2 hbel3 hc0 hx hy hxor hput hput2 hb1' hbw3 hun hG hG2 hy2
      go_wp2_with fail
      go_still_tail 13, (by kernel_rfl)
      still_call HB.out.1
      repeat still_step
      still_call HB.out.2
      repeat still_step
      refine wpStill_nil ?_
      change wpList _ _ _ _ _ (w2.drewN 1)
      go_wp2_with fail
      have hown3 : Own ((w2.drewN 1).setCell ⟨G, r1, none⟩ (.int .u8 (y : Int))) w1.heap.size (.slice (some ⟨G, 0, none⟩) N cap) 5 (byts (P.set r1 y)) := H2.out.1.drewN 1
      have hbw3 : Below w.heap.size w ((w2.drewN 1).setCell ⟨G, r1, none⟩ (.int .u8 (y : Int))) := below_drewN H2.out.2.1 1
      generalize (w2.drewN 1).setCell ⟨G, r1, none⟩ (.int .u8 (y : Int)) = W at *
      have hsl : (P.set r1 y).length = N := by rw [List.length_set]; exact HX.out.2.1
      have hrow : Byts W (some ⟨G, 0, none⟩) (P.set r1 y) := Row.of_own (n := N) (by have := hown3; unfold Own at this; rw [byts_len, hsl] at this; exact this) (by unfold maxLen; omega)
      have hlt3 : ∀ z ∈ P.set r1 y, z < 256 := fun z hz => by
        rcases List.mem_or_eq_of_mem_set hz with h | h
        · exact HX.out.1 z h
        · rw [h]; exact hy1
      have hu := unpack_calls (c := cap) hrow hlt3 (by omega) (by omega)
      rw [hsl] at hu
      obtain ⟨hz, hl⟩ := H2.out.2.2.1
      obtain ⟨⟨es, z, at9⟩, hR⟩ : ∃ R, unpack (P.set r1 y) = R := ⟨_, rfl⟩
      rw [hR] at hu hz hl
      simp only at hz hl
      subst hl
      have hz2 : (z != 0) = true := by simpa using hz
      have HU := Lib.hid hu
      have H3 := Lib.hid hbw3
      clear hu hbw3 hown3 hsl hrow hlt3 hz hR H2 HX HC HB
      refine HU.out.mono ?_
      rintro e w4 ⟨m, rfl, hom, hb4⟩
      obtain ⟨am, cm, rfl, hme⟩ := hom.ents ⟨by simp, by simp⟩
      have hb4' : Below w.heap.size w w4 := H3.out.trans (hb4.mono H3.out.size)
      have H4 := Lib.hid hb4'
      clear hom hme hb4 hb4' H3 HU
      dsimp only [List.length_nil]
      go_wp2_with (go_at_call 8; refine (awake_calls _).mono ?_; rintro e w5 ⟨rfl, hb5⟩; have HB5 := Lib.hid hb5; clear hb5)
      go_ret
      exact ⟨rfl, (H4.out.alloc H4.out.size _).trans (HB5.out.mono (by have := H4.out.size; rw [World.size_alloc]; omega))⟩
    · have hz2 : (chk l != 0) = true := by simp [hz]
      have hcall := HP.out.1 w1 HB1.out hz
      obtain ⟨z, hze⟩ : ∃ z, chk l = z := ⟨_, rfl⟩
      rw [hze] at hcall hz2
      have HC := Lib.hid hcall
      clear hcall hze hz
      go_wp2_with fail
      refine HC.out.mono ?_
      rintro e w2 ⟨rfl, hb2⟩
      have HB2 := Lib.hid (HB1.out.trans (hb2.mono HB1.out.size))
      clear hb2
      go_wp2_with (go_at_call 8; refine (awake_calls _).mono ?_; rintro e w3 ⟨rfl, hb3⟩; have HB3 := Lib.hid hb3; clear hb3)
      go_ret
      exact ⟨rfl, HB2.out.trans (HB3.out.mono HB2.out.size)⟩
end Go.Proofs.YtjjjnpolhbbepaaDoor
