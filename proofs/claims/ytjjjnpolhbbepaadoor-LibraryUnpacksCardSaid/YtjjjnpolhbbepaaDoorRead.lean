/- The reader's bytes and bits. -/
import Derived.Test.YtjjjnpolhbbepaaDoorChecks
import Derived.Test.YtjjjnpolhbbepaaDoorPlainBack
import Derived.Laws.BitsAllLaws
import Derived.Deep.QuietTactic
set_option linter.unusedSimpArgs false
set_option linter.unusedVariables false
namespace Go.Proofs.YtjjjnpolhbbepaaDoor
open Go.RowKit
open Plain
/-- A reader: its bytes, its place, its bit. -/
structure Rd (w : World) (p : Nat) (a : Option Addr) (c : Nat) (xs : List Nat) (at_ bit : Nat) : Prop where
  c0 : w.cell? ⟨p, 0, none⟩ = some (.slice a xs.length c)
  c1 : w.cell? ⟨p, 1, none⟩ = some (.int .i64 (at_ : Int))
  c2 : w.cell? ⟨p, 2, none⟩ = some (.int .i64 (bit : Int))
  fr : ∀ o, w.frozen? ⟨p, o, none⟩ = false
  row : Byts w a xs
  ne : ∀ b o, a = some ⟨b, o, none⟩ → b ≠ p
  lt : p < w.heap.size
  byte : ∀ x ∈ xs, x < 256
  len : xs.length ≤ 500000
section
variable {w : World} {p : Nat} {a : Option Addr} {c : Nat} {xs : List Nat} {at_ bit : Nat}
theorem Rd.drewN (h : Rd w p a c xs at_ bit) (n : Nat) : Rd (w.drewN n) p a c xs at_ bit := ⟨h.c0, h.c1, h.c2, h.fr, h.row, h.ne, h.lt, h.byte, h.len⟩
theorem Rd.kept {w' : World} (h : Rd w p a c xs at_ bit) (hb : Below w.heap.size w w') : Rd w' p a c xs at_ bit :=
  ⟨(hb.cell (p := ⟨p, 0, none⟩) h.lt).trans h.c0, (hb.cell (p := ⟨p, 1, none⟩) h.lt).trans h.c1, (hb.cell (p := ⟨p, 2, none⟩) h.lt).trans h.c2, fun o => (hb.frozen (p := ⟨p, o, none⟩) h.lt).trans (h.fr o), h.row.below hb, h.ne, Nat.lt_of_lt_of_le h.lt hb.size, h.byte, h.len⟩
theorem Row.setCell {w : World} {a : Option Addr} {vs : List Value} (h : Row w a vs) (q : Addr) (u : Value) (hq : ∀ b o, a = some ⟨b, o, none⟩ → b ≠ q.block) : Row (w.setCell q u) a vs :=
  ⟨h.1, fun i x hx => by
    obtain ⟨b, o, e, hb, hc⟩ := h.2 i x hx
    refine ⟨b, o, e, by simpa [World.setCell] using hb, ?_⟩
    rw [World.cell?_setCell_other _ _ _ _ (by intro e'; exact hq b o e (congrArg Addr.block e').symm)]
    exact hc⟩
theorem Rd.set1 (h : Rd w p a c xs at_ bit) (n : Nat) : Rd (w.setCell ⟨p, 1, none⟩ (.int .i64 (n : Int))) p a c xs n bit :=
  ⟨(World.cell?_setCell_other _ _ _ _ (by intro e; simp at e)).trans h.c0, World.cell?_setCell_same _ _ _ h.c1, (World.cell?_setCell_other _ _ _ _ (by intro e; simp at e)).trans h.c2, fun o => (World.frozen?_setCell _ _ _ _).trans (h.fr o), Row.setCell h.row _ _ h.ne, h.ne, by simpa [World.setCell] using h.lt, h.byte, h.len⟩
theorem Rd.set2 (h : Rd w p a c xs at_ bit) (n : Nat) : Rd (w.setCell ⟨p, 2, none⟩ (.int .i64 (n : Int))) p a c xs at_ n :=
  ⟨(World.cell?_setCell_other _ _ _ _ (by intro e; simp at e)).trans h.c0, (World.cell?_setCell_other _ _ _ _ (by intro e; simp at e)).trans h.c1, World.cell?_setCell_same _ _ _ h.c2, fun o => (World.frozen?_setCell _ _ _ _).trans (h.fr o), Row.setCell h.row _ _ h.ne, h.ne, by simpa [World.setCell] using h.lt, h.byte, h.len⟩
end
/-- Only block p has changed: the reader stands at another place. -/
def RdTo (w w' : World) (p : Nat) (a : Option Addr) (c : Nat) (xs : List Nat) (at_ bit : Nat) : Prop := Rd w' p a c xs at_ bit ∧ w.grownBy w' (some p)
set_option maxHeartbeats 2000000 in
theorem byte_no {w : World} {p : Nat} {a : Option Addr} {c : Nat} {xs : List Nat} {at_ bit : Nat} (h : Rd w p a c xs at_ bit) (hat : xs.length ≤ at_) (h9 : at_ ≤ 1000000) :
    Calls Tryd.prog 45 #[.pointer (some ⟨p, 0, none⟩)] w fun e w' => e = .returned (.tuple #[.int .i64 0, .bool false]) ∧ RdTo w w' p a c xs at_ bit := by
  have c0 := h.c0
  have c1 := h.c1
  have hl := h.len
  have H := Lib.hid h
  obtain ⟨n, hn⟩ : ∃ n, xs.length = n := ⟨_, rfl⟩
  rw [hn] at c0 hat hl
  clear h hn
  have hlt : (n : Int) ≤ at_ := by omega
  go_enter Tryd.func45, Tryd.ntmps45
  go_wp2
  go_quiet (fail)
  go_wp2
  go_ret2
  exact ⟨rfl, H.out.drewN _, grown_drewN _ _ _⟩
set_option maxHeartbeats 2000000 in
theorem byte_yes {w : World} {p : Nat} {a : Option Addr} {c : Nat} {xs : List Nat} {at_ bit : Nat} (h : Rd w p a c xs at_ bit) (hat : at_ < xs.length) :
    Calls Tryd.prog 45 #[.pointer (some ⟨p, 0, none⟩)] w fun e w' => e = .returned (.tuple #[.int .i64 ((xs[at_]?.getD 0 : Nat) : Int), .bool true]) ∧ RdTo w w' p a c xs (at_ + 1) bit := by
  have c0 := h.c0
  have c1 := h.c1
  have hf := h.fr 1
  have hl := h.len
  obtain ⟨b, o, rfl, hb, hc⟩ := h.row.at_ hat
  have hbp := h.ne b o rfl
  have hpb : p ≠ b := fun e => hbp e.symm
  obtain ⟨x, hx⟩ : ∃ x, xs[at_]?.getD 0 = x := ⟨_, rfl⟩
  have hx2 : x < 256 := by rw [← hx, List.getElem?_eq_getElem hat]; exact h.byte _ (List.getElem_mem _)
  rw [hx] at hc ⊢
  have H := Lib.hid h
  obtain ⟨n, hn⟩ : ∃ n, xs.length = n := ⟨_, rfl⟩
  rw [hn] at c0 hat hl
  clear h hn hx
  have hlt : (at_ : Int) < n := by omega
  have w1 : IntKind.i64.wrap (at_ : Int) = (at_ : Int) := IntWalk.i64_in _ (by omega)
  go_enter Tryd.func45, Tryd.ntmps45
  go_wp2
  go_quiet (fail)
  go_wp2
  go_quiet (fail)
  go_wp2
  go_ret2
  have h1 := fun q => (H.out.drewN q).set1 (at_ + 1)
  rw [show ((at_ + 1 : Nat) : Int) = (at_ : Int) + 1 by omega] at h1
  exact ⟨rfl, (h1 _).drewN _, ⟨rfl, rfl, rfl, by simp [World.setCell], fun k hk hne => Below.heap_setCell _ _ _ _ (by rintro rfl; exact hne rfl)⟩⟩
theorem bit_val {s x r : Nat} (hs : s < 100000) (hx : x < 256) : wrap64 (2 * (s : Int) + wrap64 (Go.bits .and .u8 ((x : Int) / 2 ^ (7 - r)) 1)) = ((2 * s + x / 2 ^ (7 - r) % 2 : Nat) : Int) := by
  have e1 : ((x : Int) / 2 ^ (7 - r)) = ((x / 2 ^ (7 - r) : Nat) : Int) := by simp
  have hle : x / 2 ^ (7 - r) ≤ x := Nat.div_le_self _ _
  have e2 : Go.bits .and .u8 ((x / 2 ^ (7 - r) : Nat) : Int) 1 = ((x / 2 ^ (7 - r) % 2 : Nat) : Int) := by
    have := u8_and_nat (x / 2 ^ (7 - r)) 1 (by omega) (by omega)
    rw [Nat.and_one_is_mod] at this
    exact this
  rw [e1, e2]
  have e3 : ∀ y : Int, -9223372036854775808 ≤ y → y < 9223372036854775808 → wrap64 y = y := fun y h1 h2 => by unfold wrap64; omega
  rw [e3 ((x / 2 ^ (7 - r) % 2 : Nat) : Int) (by omega) (by omega), e3 _ (by omega) (by omega)]
  omega
set_option maxRecDepth 100000 in
set_option maxHeartbeats 4000000 in
theorem rbits_calls {w : World} {p : Nat} {a : Option Addr} {c : Nat} {xs : List Nat} {at_ bit : Nat} (width : Nat) (h : Rd w p a c xs at_ bit) (hw : width ≤ 8) (hb : bit ≤ 100000) (hat : width = 0 ∨ at_ + (bit + width - 1) / 8 < xs.length) (h9 : at_ ≤ 600000) :
    Calls Tryd.prog 46 #[.pointer (some ⟨p, 0, none⟩), .int .i64 (width : Int)] w fun e w' => e = .returned (.int .i64 ((readF (bitAt xs at_) bit width : Nat) : Int)) ∧ RdTo w w' p a c xs at_ (bit + width) := by
  have H := Lib.hid h
  clear h
  go_enter Tryd.func46, Tryd.ntmps46
  go_wp2
  go_loopw [5, 7] (fun s i wr => ∃ t : Nat, t ≤ width ∧ i = .int .i64 (t : Int) ∧ s = .int .i64 ((readF (bitAt xs at_) bit t : Nat) : Int) ∧ RdTo w wr p a c xs at_ (bit + t)) (fun _ i _ => width - (intOf i).toNat)
  case atStart => exact ⟨0, Nat.zero_le _, rfl, rfl, H.out, grown_drewN w 0 _⟩
  case round =>
    obtain ⟨t, ht, rfl, rfl, hR, hg⟩ := hrel
    by_cases htw : t < width
    · obtain ⟨B, hB⟩ : ∃ B, bit + t = B := ⟨_, rfl⟩
      rw [hB] at hR
      have hlen : at_ + B / 8 < xs.length := by omega
      have c0 := hR.c0
      have c1 := hR.c1
      have c2 := hR.c2
      have hf := hR.fr 2
      have hl := hR.len
      obtain ⟨b, o, rfl, hbl, hc⟩ := hR.row.at_ hlen
      have hpb : p ≠ b := fun e => hR.ne b o rfl e.symm
      have hs : readF (bitAt xs at_) bit (t + 1) = 2 * readF (bitAt xs at_) bit t + bitAt xs at_ B := by rw [readF, hB]
      have hbit : bitAt xs at_ B = xs[at_ + B / 8]?.getD 0 / 2 ^ (7 - B % 8) % 2 := rfl
      obtain ⟨x, hx⟩ : ∃ x, xs[at_ + B / 8]?.getD 0 = x := ⟨_, rfl⟩
      have hx2 : x < 256 := by rw [← hx, List.getElem?_eq_getElem hlen]; exact hR.byte _ (List.getElem_mem _)
      rw [hx] at hc hbit
      have hrl := readF_lt (f := bitAt xs at_) (fun p => Nat.mod_lt _ (by omega)) bit t
      have hpw : 2 ^ t ≤ 2 ^ 8 := Nat.pow_le_pow_right (by omega) (by omega)
      obtain ⟨s, hse⟩ : ∃ s, readF (bitAt xs at_) bit t = s := ⟨_, rfl⟩
      rw [hse] at hs hrl ⊢
      have hs9 : s < 256 := Nat.lt_of_lt_of_le hrl hpw
      obtain ⟨n, hn⟩ : ∃ n, xs.length = n := ⟨_, rfl⟩
      rw [hn] at c0 hlen hl
      obtain ⟨q, r, hq, hr⟩ : ∃ q r, B = 8 * q + r ∧ r < 8 := ⟨B / 8, B % 8, by omega, by omega⟩
      have hq1 : B / 8 = q := by omega
      have hr1 : B % 8 = r := by omega
      rw [hq1] at hc hlen
      rw [hr1] at hbit
      have e1 : (B : Int).tdiv 8 = (q : Int) := by rw [Int.tdiv_eq_ediv_of_nonneg (by omega)]; omega
      have e2 : (B : Int).tmod 8 = (r : Int) := by rw [Int.tmod_eq_emod_of_nonneg (by omega)]; omega
      have e3 : (B : Int) / 8 = (q : Int) := by omega
      have e4 : (B : Int) % 8 = (r : Int) := by omega
      have e5 : IntKind.i64.wrap ((at_ : Int) + q) = (at_ : Int) + q := IntWalk.i64_in _ (by omega)
      have e6 : ((at_ : Int) + q).toNat = at_ + q := by omega
      have e7 : (0 : Int) ≤ (at_ : Int) + q := by omega
      have e8 : (at_ : Int) + q < (n : Int) := by omega
      have e9 : IntKind.i64.wrap (7 - (r : Int)) = 7 - (r : Int) := IntWalk.i64_in _ (by omega)
      have e10 : (0 : Int) ≤ 7 - (r : Int) := by omega
      have e11 : IntKind.i64.wrap (2 * (s : Int)) = 2 * (s : Int) := IntWalk.i64_in _ (by omega)
      have HS := Lib.hid (And.intro hs (And.intro hbit (And.intro hR (And.intro hg (And.intro hse (And.intro hq hB))))))
      clear hs hbit hR hg hse hn hx hq1 hr1 hB hq hlen hpw
      go_wp2
      go_quiet (fail)
      go_wp2
      refine ⟨⟨t + 1, by omega, by go_num, ?_, ?_, ?_⟩, by simp [intOf]; omega⟩
      · rw [HS.out.1, HS.out.2.1, bit_val (by omega) hx2]
      · have h1 := (HS.out.2.2.1.drewN nq).set2 (B + 1)
        rw [show ((B + 1 : Nat) : Int) = (B : Int) + 1 by omega] at h1
        rw [show bit + (t + 1) = B + 1 by have := HS.out.2.2.2.2.2.2; omega]
        exact h1
      · exact HS.out.2.2.2.1.trans ⟨rfl, rfl, rfl, by simp [World.setCell], fun k hk hne => Below.heap_setCell _ _ _ _ (by rintro rfl; exact hne rfl)⟩
    · obtain rfl : t = width := by omega
      have HS := Lib.hid (And.intro hR hg)
      clear hR hg
      go_wp2
      go_ret
      exact ⟨rfl, HS.out.1, HS.out.2⟩
end Go.Proofs.YtjjjnpolhbbepaaDoor
