/- canon.check: the error of graphs. -/
import Derived.Test.YtjjjohmppehejaaGreatLawKit
import Derived.Test.YtjjjohmppehejaaGreatChkP
set_option linter.unusedSimpArgs false
set_option linter.unusedVariables false
namespace Go.Proofs.YtjjjohmppehejaaGreat
open Go.RowKit Plain PlainG
/-- A slice of graphs. -/
structure GSl (w : World) (a : Option Addr) (gs : List Gr) : Prop where
  len : gs.length ≤ 1000
  at_ : ∀ i g, gs[i]? = some g → ∃ b o ea ec ca cc, a = some ⟨b, o, none⟩ ∧ b < w.heap.size ∧ w.cell? ⟨b, o + i * 3, none⟩ = some (.int .i64 g.n) ∧ w.cell? ⟨b, o + i * 3 + 1, none⟩ = some (.slice ea g.es.length ec) ∧ w.cell? ⟨b, o + i * 3 + 2, none⟩ = some (.slice ca g.cs.length cc) ∧ Edg w ea g.es ∧ Ints w ca g.cs
theorem GSl.below {w w' : World} {a : Option Addr} {gs : List Gr} (h : GSl w a gs) (hb : Below w.heap.size w w') : GSl w' a gs :=
  ⟨h.len, fun i g hg => by
    obtain ⟨b, o, ea, ec, ca, cc, ha, hl, h1, h2, h3, h4, h5⟩ := h.at_ i g hg
    exact ⟨b, o, ea, ec, ca, cc, ha, Nat.lt_of_lt_of_le hl hb.size, (hb.cell (p := ⟨b, o + i * 3, none⟩) hl).trans h1, (hb.cell (p := ⟨b, o + i * 3 + 1, none⟩) hl).trans h2, (hb.cell (p := ⟨b, o + i * 3 + 2, none⟩) hl).trans h3, h4.below hb, h5.below hb⟩⟩
def chkL : List Gr → Int
  | [] => 0
  | g :: r => if chkGr g ≠ 0 then chkGr g else chkL r
def bigL (gs : List Gr) : Bool := gs.any fun g => decide (10 < g.n)
def ckA (gs : List Gr) : Int := if chkL gs ≠ 0 then chkL gs else if bigL gs = true then 5 else 0
theorem big1_calls (n : Int) (u v : Value) (w : World) : Calls Tryz.prog 48 #[.agg #[.int .i64 n, u, v]] w fun e w' => e = .returned (.bool (decide (10 < n))) ∧ Below w.heap.size w w' := by
  have hb : Below w.heap.size w (w.alloc (.cells #[.int .i64 n, u, v] 25)) := alloc_below (Below.refl _ _) _
  obtain ⟨r, hr⟩ : ∃ r, decide (10 < n) = r := ⟨_, rfl⟩
  have H := Lib.hid hb
  rw [hr]
  clear hb
  go_enter Tryz.func48, Tryz.ntmps48
  go_wp2
  go_ret
  exact ⟨by first | rfl | rw [hr] | simp [hr], H.out⟩
set_option maxHeartbeats 1000000 in
theorem indexG_calls (a : Option Addr) (c : Nat) (gs : List Gr) (w : World) (hs : GSl w a gs) :
    Calls Tryz.prog 70 #[.slice a gs.length c, .func (.func 48) #[] #[]] w fun e w' => (∃ i : Int, e = .returned (.int .i64 i) ∧ decide (0 ≤ i) = bigL gs) ∧ Below w.heap.size w w' := by
  have hA := Lib.hid hs
  have hmx := hs.len
  clear hs
  obtain ⟨L, hL⟩ : ∃ L, L = gs.length := ⟨_, rfl⟩
  rw [← hL] at hmx ⊢
  have HL := Lib.hid hL
  clear hL
  go_enter Tryz.func70, Tryz.ntmps70
  go_wp2
  go_loopw [8] (fun i wr => ∃ k : Nat, k ≤ L ∧ i = .int .i64 k ∧ bigL gs = bigL (gs.drop k) ∧ Below w.heap.size w wr) (fun i _ => L - (intOf i).toNat)
  case atStart => exact ⟨0, Nat.zero_le _, rfl, rfl, Below.refl _ _⟩
  case round =>
    obtain ⟨k, hk, rfl, he, hbl⟩ := hrel
    have He := Lib.hid (And.intro he hbl)
    by_cases hlt : k < L
    · have hkm : k < gs.length := by rw [← HL.out]; exact hlt
      obtain ⟨g, hg⟩ : ∃ g, gs[k]? = some g := ⟨_, List.getElem?_eq_getElem hkm⟩
      obtain ⟨b, o, ea, ec, ca, cc, rfl, _, c0, c1, c2, _, _⟩ := (hA.out.below hbl).at_ k g hg
      have hd : gs.drop k = g :: gs.drop (k + 1) := by rw [List.drop_eq_getElem_cons hkm]; rw [List.getElem?_eq_getElem hkm] at hg; cases hg; rfl
      have he2 : bigL gs = (decide (10 < g.n) || bigL (gs.drop (k + 1))) := by rw [he, hd]; rfl
      obtain ⟨n, hn⟩ : ∃ n, g.n = n := ⟨_, rfl⟩
      rw [hn] at c0 he2
      have hcall := big1_calls n (.slice ea g.es.length ec) (.slice ca g.cs.length cc) wr
      have H := Lib.hid (And.intro hcall he2)
      clear hd hcall he2 hkm he hbl hg hn
      cases hb : (decide (10 < n)) with
      | false =>
        rw [hb] at H
        clear hb
        go_wp2_with (go_at_call 48; refine H.out.1.mono ?_; rintro e w' ⟨rfl, hw⟩; have H2 := Lib.hid (below_two He.out.2 hw); clear hw)
        exact ⟨⟨k + 1, by omega, by go_num, by rw [H.out.2]; simp, H2.out⟩, by simp [intOf]; omega⟩
      | true =>
        rw [hb] at H
        clear hb
        go_wp2_with (go_at_call 48; refine H.out.1.mono ?_; rintro e w' ⟨rfl, hw⟩; have H2 := Lib.hid (below_two He.out.2 hw); clear hw)
        go_ret
        exact ⟨⟨(k : Int), rfl, by rw [H.out.2]; simp⟩, H2.out⟩
    · clear he hbl
      go_wp2
      go_ret
      exact ⟨⟨-1, rfl, by rw [He.out.1, List.drop_eq_nil_of_le (by rw [← HL.out]; omega)]; simp [bigL]⟩, He.out.2⟩
theorem containsG_calls (a : Option Addr) (c : Nat) (gs : List Gr) (w : World) (hs : GSl w a gs) :
    Calls Tryz.prog 47 #[.slice a gs.length c, .func (.func 48) #[] #[]] w fun e w' => e = .returned (.bool (bigL gs)) ∧ Below w.heap.size w w' := by
  have hc := Lib.hid (indexG_calls a c gs w hs)
  clear hs
  obtain ⟨L, hL⟩ : ∃ L, L = gs.length := ⟨_, rfl⟩
  rw [← hL] at hc ⊢
  clear hL
  go_enter Tryz.func47, Tryz.ntmps47
  go_wp2_with (go_at_call 70; refine hc.out.mono ?_; rintro e w' ⟨⟨i, rfl, hi⟩, hw⟩; have Hi := Lib.hid (And.intro hi hw); clear hi hw)
  go_ret
  exact ⟨ret_bool Hi.out.1, Hi.out.2⟩
set_option maxHeartbeats 1000000 in
theorem ccheck_calls (a : Option Addr) (c : Nat) (gs : List Gr) (w : World) (hs : GSl w a gs) :
    Calls Tryz.prog 31 #[.slice a gs.length c] w fun e w' => e = .returned (.int .i64 (ckA gs)) ∧ Below w.heap.size w w' := by
  have hA := Lib.hid hs
  have hmx := hs.len
  clear hs
  obtain ⟨L, hL⟩ : ∃ L, L = gs.length := ⟨_, rfl⟩
  rw [← hL] at hmx ⊢
  have HL := Lib.hid hL
  have hcG := fun (W : World) (k : Below w.heap.size w W) => containsG_calls a c gs W (hA.out.below k)
  rw [← hL] at hcG
  have HG := Lib.hid hcG
  clear hL hcG
  go_enter Tryz.func31, Tryz.ntmps31
  go_wp2
  go_loopw [8] (fun i wr => ∃ k : Nat, k ≤ L ∧ i = .int .i64 k ∧ chkL gs = chkL (gs.drop k) ∧ Below w.heap.size w wr) (fun i _ => L - (intOf i).toNat)
  case atStart => exact ⟨0, Nat.zero_le _, rfl, rfl, Below.refl _ _⟩
  case round =>
    obtain ⟨k, hk, rfl, he, hbl⟩ := hrel
    have He := Lib.hid (And.intro he hbl)
    by_cases hlt : k < L
    · have hkm : k < gs.length := by rw [← HL.out]; exact hlt
      obtain ⟨g, hg⟩ : ∃ g, gs[k]? = some g := ⟨_, List.getElem?_eq_getElem hkm⟩
      obtain ⟨b, o, ea, ec, ca, cc, rfl, _, c0, c1, c2, h4, h5⟩ := (hA.out.below hbl).at_ k g hg
      have hd : gs.drop k = g :: gs.drop (k + 1) := by rw [List.drop_eq_getElem_cons hkm]; rw [List.getElem?_eq_getElem hkm] at hg; cases hg; rfl
      have he2 : chkL gs = if chkGr g ≠ 0 then chkGr g else chkL (gs.drop (k + 1)) := by rw [he, hd]; rfl
      have hcall := fun (W : World) (k : Below wr.heap.size wr W) => gcheck_calls (c := ec) (d := cc) (h4.below k) (h5.below k)
      obtain ⟨E, hE⟩ : ∃ E, chkGr g = E := ⟨_, rfl⟩
      obtain ⟨n, hn⟩ : ∃ n, g.n = n := ⟨_, rfl⟩
      obtain ⟨M1, hM1⟩ : ∃ n, g.es.length = n := ⟨_, rfl⟩
      obtain ⟨M2, hM2⟩ : ∃ n, g.cs.length = n := ⟨_, rfl⟩
      rw [hE] at he2
      simp only [hE, hn, hM1, hM2] at hcall
      rw [hn] at c0
      rw [hM1] at c1
      rw [hM2] at c2
      have H := Lib.hid (And.intro hcall he2)
      clear hd hcall he2 hkm he hbl hg hn hM1 hM2 hE h4 h5
      by_cases hb : E = 0
      · subst hb
        go_wp2_with (go_at_call 46; refine (H.out.1 _ (alloc_below (Below.refl _ _) _)).mono ?_; rintro e w' ⟨rfl, hw⟩; have H2 := Lib.hid (below_two He.out.2 (below_two (alloc_below (Below.refl _ _) _) hw)); clear hw)
        exact ⟨⟨k + 1, by omega, by go_num, by rw [H.out.2]; simp, H2.out⟩, by simp [intOf]; omega⟩
      · have hb1 : (E != 0) = true := by simpa using hb
        have HE := Lib.hid hb
        clear hb
        go_wp2_with (go_at_call 46; refine (H.out.1 _ (alloc_below (Below.refl _ _) _)).mono ?_; rintro e w' ⟨rfl, hw⟩; have H2 := Lib.hid (below_two He.out.2 (below_two (alloc_below (Below.refl _ _) _) hw)); clear hw)
        go_ret
        exact ⟨ret_int (by rw [ckA, H.out.2, if_pos HE.out, if_pos HE.out]), H2.out⟩
    · have h0 : chkL gs = 0 := by rw [he, List.drop_eq_nil_of_le (by rw [← HL.out]; omega)]; rfl
      have hg := HG.out wr hbl
      have H0 := Lib.hid h0
      clear he
      cases hb : bigL gs with
      | false =>
        rw [hb] at hg
        have HB := Lib.hid (And.intro hg hb)
        clear hg hb hbl h0
        go_wp2_with (go_at_call 47; refine HB.out.1.mono ?_; rintro e w' ⟨rfl, hw⟩; have H2 := Lib.hid (below_two He.out.2 hw); clear hw)
        go_ret
        exact ⟨ret_int (by rw [ckA, H0.out, HB.out.2]; simp), H2.out⟩
      | true =>
        rw [hb] at hg
        have HB := Lib.hid (And.intro hg hb)
        clear hg hb hbl h0
        go_wp2_with (go_at_call 47; refine HB.out.1.mono ?_; rintro e w' ⟨rfl, hw⟩; have H2 := Lib.hid (below_two He.out.2 hw); clear hw)
        go_ret
        exact ⟨ret_int (by rw [ckA, H0.out, HB.out.2]; simp), H2.out⟩
end Go.Proofs.YtjjjohmppehejaaGreat
