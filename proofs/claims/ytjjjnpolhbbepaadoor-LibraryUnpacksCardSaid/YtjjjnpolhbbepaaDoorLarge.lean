/- The kit's Below, and whether a library is large (either answer serves). -/
import Derived.Test.YtjjjnpolhbbepaaDoorEnts
set_option linter.unusedSimpArgs false
set_option linter.unusedVariables false
namespace Go.Proofs.YtjjjnpolhbbepaaDoor
open Go.RowKit
open Plain
/-- Either answer. -/
def AnyB (e : Ending) : Prop := ∃ B, e = .returned (.bool B)
theorem below_calls (n : Int) (k : Nat) (h1 : 1 ≤ k) (hk : k ≤ 1000000) : ∃ r : Nat, r < k ∧ ∀ w, Calls Tryd.prog 19 #[.int .i64 n, .int .i64 (k : Int)] w fun e w' => e = .returned (.int .i64 (r : Int)) ∧ w' = w := by
  have h2 := Int.tmod_lt_of_pos n (b := (k : Int)) (by omega)
  have h3 := Int.lt_tmod_of_pos n (b := (k : Int)) (by omega)
  have h0 : ((k : Int) == 0) = false := by simp; omega
  have h0' : (k : Int) ≠ 0 := by omega
  have h1' : (1 : Int) ≤ k := by omega
  obtain ⟨r, hr⟩ : ∃ r, n.tmod (k : Int) = r := ⟨_, rfl⟩
  rw [hr] at h2 h3
  by_cases h4 : r < 0
  · refine ⟨(r + k).toNat, by omega, fun w => ?_⟩
    have e : (((r + k).toNat : Nat) : Int) = r + k := by omega
    rw [e]
    go_enter Tryd.func19, Tryd.ntmps19
    go_wp2
    go_ret
    exact ⟨ret_int (by omega), rfl⟩
  · have h4' : 0 ≤ r := by omega
    refine ⟨r.toNat, by omega, fun w => ?_⟩
    have e : ((r.toNat : Nat) : Int) = r := by omega
    rw [e]
    clear h4
    go_enter Tryd.func19, Tryd.ntmps19
    go_wp2
    go_ret
    exact ⟨ret_int (by omega), rfl⟩
set_option maxRecDepth 100000 in
set_option maxHeartbeats 1000000 in
theorem largeGroup_calls {w : World} {g : Option Addr} {c : Nat} (deg : Int) {gens : List (List Int)} (h : Rows w g gens) :
    Calls Tryd.prog 20 #[.agg #[.int .i64 deg, .slice g gens.length c]] w fun e w' => AnyB e ∧ Below w.heap.size w w' := by
  have hm := h.len
  have H := Lib.hid h
  obtain ⟨n, hn⟩ : ∃ n, gens.length = n := ⟨_, rfl⟩
  rw [hn] at hm ⊢
  have Hn := Lib.hid hn
  clear h hn
  go_enter Tryd.func20, Tryd.ntmps20
  go_wp2
  go_loopw [3] (fun i wr => ∃ k : Nat, k ≤ n ∧ k ≤ 21 ∧ i = .int .i64 (k : Int) ∧ Below (w.alloc (.cells #[.int .i64 deg, .slice g n c] 44)).heap.size (w.alloc (.cells #[.int .i64 deg, .slice g n c] 44)) wr) (fun i _ => n - (intOf i).toNat)
  case atStart => exact ⟨0, Nat.zero_le _, Nat.zero_le _, rfl, Below.refl _ _⟩
  case round =>
    obtain ⟨k, hk, hk21, rfl, hb⟩ := hrel
    have hbW : Below w.heap.size w wr := ((Below.refl w.heap.size w).alloc (Nat.le_refl _) (.cells #[.int .i64 deg, .slice g n c] 44)).trans (hb.mono (by simp))
    have hwl : w.heap.size < wr.heap.size := Nat.lt_of_lt_of_le (by simp) hb.size
    have hbox : wr.cell? ⟨w.heap.size, 1, none⟩ = some (.slice g n c) := hb.cell (p := ⟨w.heap.size, 1, none⟩) (by simp) |>.trans (by simp)
    by_cases hlt : k < n
    · by_cases h21 : k < 21
      · obtain ⟨gb, o, b, cb, rfl, hgl, hc, hi, _⟩ := H.out.at_ (k := k) (by rw [Hn.out]; exact hlt)
        replace hc := (hbW.cell (p := ⟨gb, o + k, none⟩) hgl).trans hc
        have hpl := hi.len
        obtain ⟨m, hm'⟩ : ∃ m, (gens[k]?.getD []).length = m := ⟨_, rfl⟩
        rw [hm'] at hc hpl
        have H2 := Lib.hid (And.intro hb hbW)
        clear hb hbW hi hm'
        by_cases h70 : 70 < m
        · go_wp2
          go_ret
          exact ⟨⟨_, rfl⟩, H2.out.2⟩
        · have h70' : m ≤ 70 := by omega
          clear h70
          go_wp2
          go_round
          case rel => exact ⟨k + 1, by omega, by omega, by go_num, H2.out.1⟩
          case measure => simp [intOf]; omega
      · have h21' : 21 ≤ k := by omega
        have H2 := Lib.hid (And.intro hb hbW)
        clear hb hbW h21
        go_wp2
        go_ret
        exact ⟨⟨_, rfl⟩, H2.out.2⟩
    · obtain rfl : k = n := by omega
      have H2 := Lib.hid (And.intro hb hbW)
      clear hb hbW hlt
      go_wp2
      go_ret
      exact ⟨⟨_, rfl⟩, H2.out.2⟩
set_option maxRecDepth 100000 in
set_option maxHeartbeats 1000000 in
theorem large_calls {w : World} {a : Option Addr} {c : Nat} {l : List Ent} (h : Ents w a l) :
    Calls Tryd.prog 7 #[.slice a l.length c] w fun e w' => AnyB e ∧ Below w.heap.size w w' := by
  have hm := h.len
  have H := Lib.hid h
  obtain ⟨n, hn⟩ : ∃ n, l.length = n := ⟨_, rfl⟩
  rw [hn] at hm ⊢
  have Hn := Lib.hid hn
  clear h hn
  by_cases h3 : 210 < n
  · go_enter Tryd.func7, Tryd.ntmps7
    go_wp2
    go_ret
    exact ⟨⟨_, rfl⟩, Below.refl _ _⟩
  have h3' : n ≤ 210 := by omega
  clear h3
  go_enter Tryd.func7, Tryd.ntmps7
  go_wp2
  go_loopw [3] (fun i wr => ∃ k : Nat, k ≤ n ∧ i = .int .i64 (k : Int) ∧ Below w.heap.size w wr) (fun i _ => n - (intOf i).toNat)
  case atStart => exact ⟨0, Nat.zero_le _, rfl, Below.refl _ _⟩
  case round =>
    obtain ⟨k, hk, rfl, hb⟩ := hrel
    by_cases hlt : k < n
    · have hkn : k < l.length := by rw [Hn.out]; exact hlt
      obtain ⟨e, he⟩ : ∃ e, l[k]? = some e := ⟨_, List.getElem?_eq_getElem hkn⟩
      obtain ⟨B, o, g, cg, rfl, hBl, c1, c2, c3, hr⟩ := H.out.at_ k e he
      replace c1 := (hb.cell (p := ⟨B, o + k * 3, none⟩) hBl).trans c1
      replace c2 := (hb.cell (p := ⟨B, o + k * 3 + 1, none⟩) hBl).trans c2
      replace c3 := (hb.cell (p := ⟨B, o + k * 3 + 2, none⟩) hBl).trans c3
      have hnm := H.out.name e (List.mem_of_getElem? he)
      have hcall := largeGroup_calls (c := cg) e.deg (hr.below hb)
      have HC := Lib.hid hcall
      have H2 := Lib.hid hb
      clear hb hr he hcall
      by_cases h40 : 40 < e.name.size
      · go_wp2
        go_ret
        exact ⟨⟨_, rfl⟩, H2.out⟩
      · have h40' : e.name.size ≤ 40 := by omega
        clear h40
        go_wp2_with (go_at_call 20; refine HC.out.mono ?_; rintro e w2 ⟨⟨B2, rfl⟩, hb2⟩; have HB2 := Lib.hid hb2; clear hb2; cases B2)
        · go_round
          case rel => exact ⟨k + 1, by omega, by go_num, H2.out.trans (HB2.out.mono H2.out.size)⟩
          case measure => simp [intOf]; omega
        · go_ret
          exact ⟨⟨_, rfl⟩, H2.out.trans (HB2.out.mono H2.out.size)⟩
    · obtain rfl : k = n := by omega
      have H2 := Lib.hid hb
      clear hb hlt
      go_wp2
      go_ret
      exact ⟨⟨_, rfl⟩, H2.out⟩
end Go.Proofs.YtjjjnpolhbbepaaDoor
