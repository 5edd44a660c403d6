/- The laws' inside and the kit's Has. -/
import Derived.Test.YtifkieopaoooeaaGreatDoorPlainTri
set_option linter.unusedSimpArgs false
set_option linter.unusedVariables false
namespace Go.Proofs.YtifkieopaoooeaaGreatDoor
open Go.RowKit Plain
set_option maxRecDepth 100000 in
set_option maxHeartbeats 1000000 in
theorem inside_calls (n : Nat) (a : Option Addr) (c : Nat) (l : List (List Int)) (w : World) (ha : Rows w a l) (hin : InRange n l) :
    Calls Tryz.prog 22 #[.int .i64 (n : Int), .slice a l.length c] w fun e w' => e = .returned (.bool true) ∧ w' = w := by
  have hml := ha.len
  have H0 := Lib.hid (And.intro ha hin)
  clear ha hin
  obtain ⟨L, hL⟩ : ∃ L, L = l.length := ⟨_, rfl⟩
  rw [← hL] at hml ⊢
  have HL := Lib.hid hL
  clear hL
  go_enter Tryz.func22, Tryz.ntmps22
  go_wp2
  go_loop [5] (fun i => ∃ k : Nat, k ≤ L ∧ i = .int .i64 k) (fun i => L - (intOf i).toNat)
  case atStart => exact ⟨0, by omega, rfl⟩
  case round =>
    obtain ⟨k, hk, rfl⟩ := hrel
    by_cases hlt : k < L
    · obtain ⟨g, o, b, cc, rfl, _, hc, hi⟩ := H0.out.1.at_ (k := k) (by rw [← HL.out]; exact hlt)
      obtain ⟨x, hx⟩ : ∃ x, l[k]?.getD [] = x := ⟨_, rfl⟩
      rw [hx] at hc hi
      have hxl := hi.len
      obtain ⟨M, hM⟩ : ∃ M, M = x.length := ⟨_, rfl⟩
      rw [← hM] at hc hxl
      have H := Lib.hid (And.intro hx (And.intro hM hi))
      clear hx hM hi
      go_wp2
      go_loop [6] (fun i => ∃ k : Nat, k ≤ M ∧ i = .int .i64 k) (fun i => M - (intOf i).toNat)
      case atStart => exact ⟨0, by omega, rfl⟩
      case round =>
        obtain ⟨j, hj, rfl⟩ := hrel
        by_cases hjl : j < M
        · obtain ⟨gb, ob, rfl, _, hcp⟩ := H.out.2.2.at_ (k := j) (by rw [← H.out.2.1]; exact hjl)
          obtain ⟨p, hp, hpn⟩ := H0.out.2.at_ (k := k) (j := j) (by rw [← HL.out]; exact hlt) (by rw [H.out.1, ← H.out.2.1]; exact hjl)
          rw [H.out.1] at hp
          rw [hp] at hcp
          clear hp
          have h1 : decide ((p : Int) < 0) = false := by simp
          have h2 : decide ((n : Int) ≤ p) = false := by simp; omega
          go_wp2
          exact ⟨⟨j + 1, by omega, by go_num⟩, by simp [intOf]; omega⟩
        · go_wp2
          exact ⟨⟨k + 1, by omega, by go_num⟩, by simp [intOf]; omega⟩
    · go_wp2
      go_ret
      exact ⟨rfl, rfl⟩

theorem any_take {l : List Int} {x : Int} {k : Nat} (h : (l.take k).contains x = false) (hk : k < l.length) : (l.take (k + 1)).contains x = ((l[k]?.getD 0) == x) := by
  rw [List.take_succ_eq_append_getElem hk, List.contains_eq_any_beq, List.any_append, ← List.contains_eq_any_beq, h, List.getElem?_eq_getElem hk]
  simp
  rw [Bool.beq_comm]
set_option maxRecDepth 100000 in
set_option maxHeartbeats 1000000 in
theorem kitHas_calls (a : Option Addr) (c : Nat) (l : List Int) (x : Int) (w : World) (ha : Ints w a l) :
    Calls Tryz.prog 25 #[.slice a l.length c, .int .i64 x] w fun e w' => e = .returned (.bool (l.contains x)) ∧ w' = w := by
  have hml := ha.len
  have H0 := Lib.hid ha
  obtain ⟨L, hL⟩ : ∃ L, L = l.length := ⟨_, rfl⟩
  rw [← hL] at hml ⊢
  have HL := Lib.hid hL
  obtain ⟨C, hC⟩ : ∃ C, l.contains x = C := ⟨_, rfl⟩
  rw [hC]
  have HC := Lib.hid hC
  clear hL hC ha
  go_enter Tryz.func25, Tryz.ntmps25
  go_wp2
  go_loop [5] (fun i => ∃ k : Nat, k ≤ L ∧ i = .int .i64 k ∧ (l.take k).contains x = false) (fun i => L - (intOf i).toNat)
  case atStart => exact ⟨0, by omega, rfl, by simp⟩
  case round =>
    obtain ⟨k, hk, rfl, hn⟩ := hrel
    by_cases hlt : k < L
    · obtain ⟨gb, ob, rfl, _, hcp⟩ := H0.out.at_ (k := k) (by rw [← HL.out]; exact hlt)
      have hs := any_take hn (by rw [← HL.out]; exact hlt)
      obtain ⟨y, hy⟩ : ∃ y, l[k]?.getD 0 = y := ⟨_, rfl⟩
      rw [hy] at hcp hs
      by_cases hxy : y = x
      · have hm : l.contains x = true := by
          rw [List.contains_iff_mem]
          have hs' : (l.take (k + 1)).contains x = true := by rw [hs]; simpa using hxy
          exact List.mem_of_mem_take (List.contains_iff_mem.1 hs')
        have HM := Lib.hid hm
        subst hxy
        clear hn hs hy hm
        go_wp2
        go_ret
        exact ⟨by rw [← HC.out, HM.out]; rfl, rfl⟩
      · have hs' : (l.take (k + 1)).contains x = false := by rw [hs]; simpa using hxy
        have HS := Lib.hid hs'
        have hd : decide (y = x) = false := by simpa using hxy
        clear hn hs hy hs'
        go_wp2
        exact ⟨⟨k + 1, by omega, by go_num, HS.out⟩, by simp [intOf]; omega⟩
    · have hf : l.contains x = false := by rw [← hn, List.take_of_length_le (by rw [← HL.out]; omega)]
      have HF := Lib.hid hf
      clear hn hf
      go_wp2
      go_ret
      exact ⟨by rw [← HC.out, HF.out]; rfl, rfl⟩
end Go.Proofs.YtifkieopaoooeaaGreatDoor
