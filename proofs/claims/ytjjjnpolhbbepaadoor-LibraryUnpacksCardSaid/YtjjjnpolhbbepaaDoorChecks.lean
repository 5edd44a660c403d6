/- The checks of permutations and groups, and the checksum. -/
import Derived.Test.YtjjjnpolhbbepaaDoorWrite
set_option linter.unusedSimpArgs false
set_option linter.unusedVariables false
namespace Go.Proofs.YtjjjnpolhbbepaaDoor
open Go.RowKit
open Plain
/-- The row of bytes at an address. -/
def Byts (w : World) (a : Option Addr) (xs : List Nat) : Prop := Row w a (byts xs)
theorem Byts.at_ {w : World} {a : Option Addr} {xs : List Nat} (h : Byts w a xs) {k : Nat} (hk : k < xs.length) : ∃ b o, a = some ⟨b, o, none⟩ ∧ b < w.heap.size ∧ w.cell? ⟨b, o + k, none⟩ = some (.int .u8 ((xs[k]?.getD 0 : Nat) : Int)) :=
  h.2 k _ (by simp [byts, hk])
theorem sumTo_snoc (h : Nat) (l : List Nat) (k : Nat) (hk : k < l.length) : sumTo h (l.take (k + 1)) = (31 * sumTo h (l.take k) + l[k]?.getD 0) % 4294967296 := by
  rw [List.take_add_one, List.getElem?_eq_getElem hk, Option.toList_some, sumTo_app]
  rfl
set_option maxHeartbeats 1000000 in
theorem sum_calls {w : World} {a : Option Addr} {c : Nat} {xs : List Nat} (h : Byts w a xs) (hx : ∀ x ∈ xs, x < 256) :
    Calls Tryd.prog 14 #[.slice a xs.length c] w fun e w' => e = .returned (.int .u32 ((sumB xs : Nat) : Int)) ∧ w = w' := by
  have hm : xs.length ≤ 9223372036854775807 := by have := h.1; rw [byts_len] at this; unfold maxLen at this; omega
  have H := Lib.hid (And.intro h hx)
  obtain ⟨n, hn⟩ : ∃ n, xs.length = n := ⟨_, rfl⟩
  rw [hn] at hm ⊢
  have Hn := Lib.hid hn
  clear h hx hn
  go_enter Tryd.func14, Tryd.ntmps14
  go_wp2
  go_loop [3, 8] (fun s i => ∃ k : Nat, k ≤ n ∧ i = .int .i64 (k : Int) ∧ s = .int .u32 ((sumTo 7 (xs.take k) : Nat) : Int)) (fun _ i => n - (intOf i).toNat)
  case atStart => exact ⟨0, Nat.zero_le _, rfl, rfl⟩
  case round =>
    obtain ⟨k, hk, rfl, rfl⟩ := hrel
    by_cases hlt : k < n
    · obtain ⟨b, o, rfl, hb, hc⟩ := H.out.1.at_ (k := k) (by rw [Hn.out]; exact hlt)
      have hs := sumTo_snoc 7 xs k (by rw [Hn.out]; exact hlt)
      have hx : xs[k]?.getD 0 < 256 := by rw [List.getElem?_eq_getElem (by rw [Hn.out]; exact hlt)]; exact H.out.2 _ (List.getElem_mem _)
      have hsl := sumTo_lt (h := 7) (by omega) (xs.take k)
      obtain ⟨x, hxe⟩ : ∃ x, xs[k]?.getD 0 = x := ⟨_, rfl⟩
      rw [hxe] at hc hx hs
      obtain ⟨s, hse⟩ : ∃ s, sumTo 7 (xs.take k) = s := ⟨_, rfl⟩
      rw [hse] at hs hsl ⊢
      have HS := Lib.hid hs
      clear hs hxe hse
      go_wp2
      go_round
      case rel =>
        refine ⟨k + 1, by omega, by go_num, ?_⟩
        rw [HS.out]
        exact congrArg _ (by omega)
      case measure => simp [intOf]; omega
    · have : k = n := by omega
      subst this
      have e : xs.take k = xs := List.take_of_length_le (by rw [Hn.out]; exact Nat.le_refl _)
      rw [e]
      clear e
      go_wp2
      go_ret
      exact ⟨rfl, rfl⟩

theorem okFrom_step {n : Nat} {p : List Int} {k : Nat} (hk : k < p.length) : okFrom n (p.take k).reverse (p.drop k) =
    (decide (0 ≤ p[k]?.getD 0) && decide (p[k]?.getD 0 < n) && !((p.take k).contains (p[k]?.getD 0)) && okFrom n (p.take (k + 1)).reverse (p.drop (k + 1))) := by
  rw [List.drop_eq_getElem_cons hk, okFrom, List.getElem?_eq_getElem hk, Option.getD_some, List.take_add_one, List.getElem?_eq_getElem hk, Option.toList_some, List.reverse_append]
  simp
/-- The array of the points seen. -/
def Seen (w : World) (Z : Nat) (l : List Int) : Prop := Z < w.heap.size ∧ ∀ j : Nat, j < 64 → w.cell? ⟨Z, j, none⟩ = some (.bool (l.contains (j : Int))) ∧ w.frozen? ⟨Z, j, none⟩ = false
theorem Seen.new {w : World} {cs : Array Value} {T : TypeId} (h : cs.toList = List.replicate 64 (Value.bool false)) : Seen (w.alloc (.cells cs T)) w.heap.size [] := by
  have hs : cs.size = 64 := by rw [← Array.length_toList, h, List.length_replicate]
  have hh := heap_alloc_new w (.cells cs T)
  refine ⟨?_, fun j hj => ?_⟩
  · rcases Nat.lt_or_ge w.heap.size (w.alloc (.cells cs T)).heap.size with hl | hl
    · exact hl
    · rw [Array.getElem?_eq_none hl] at hh; cases hh
  have hg : cs[j]? = some (.bool false) := by rw [← Array.getElem?_toList, h, List.getElem?_replicate, if_pos hj]
  constructor
  · unfold World.cell?
    simp only [hh]
    exact hg
  · unfold World.frozen?
    simp only [hh]
    simp
theorem Seen.put {w : World} {Z : Nat} {l : List Int} (h : Seen w Z l) (x : Nat) (hx : x < 64) : Seen (w.setCell ⟨Z, x, none⟩ (.bool true)) Z (l ++ [(x : Int)]) := by
  refine ⟨by simp [World.setCell]; exact h.1, fun j hj => ⟨?_, (World.frozen?_setCell _ _ _ _).trans (h.2 j hj).2⟩⟩
  by_cases e : j = x
  · subst e
    rw [World.cell?_setCell_same _ _ _ (h.2 j hj).1]
    simp
  · rw [World.cell?_setCell_other _ _ _ _ (by intro e'; simp only [Addr.mk.injEq] at e'; omega), (h.2 j hj).1]
    have : ¬ (j : Int) = (x : Int) := by omega
    simp [this]
def chkFine (p : List Int) : Int := if fine p then 0 else 3
theorem chkFine_yes {p : List Int} (h : fine p = true) : 0 = chkFine p := by unfold chkFine; rw [h]; rfl
theorem chkFine_no {p : List Int} (h : fine p = false) : 3 = chkFine p := by unfold chkFine; rw [h]; rfl
set_option maxHeartbeats 2000000 in
theorem perm_calls {w : World} {a : Option Addr} {c : Nat} {p : List Int} (h : Ints w a p) :
    Calls Tryd.prog 43 #[.slice a p.length c] w fun e w' => e = .returned (.int .i64 (chkPerm p)) ∧ Below w.heap.size w w' := by
  have hm := h.len
  have H := Lib.hid h
  obtain ⟨n, hn⟩ : ∃ n, p.length = n := ⟨_, rfl⟩
  have hcp : chkPerm p = if n < 1 ∨ 64 < n then 2 else chkFine p := by unfold chkPerm chkFine; rw [hn]
  rw [hcp]
  rw [hn] at hm ⊢
  have Hn := Lib.hid hn
  clear h hn hcp
  by_cases h1 : n < 1
  · rw [if_pos (.inl h1)]
    go_enter Tryd.func43, Tryd.ntmps43
    go_wp2
    go_ret
    exact ⟨rfl, Below.refl _ _⟩
  by_cases h2 : 64 < n
  · rw [if_pos (.inr h2)]
    go_enter Tryd.func43, Tryd.ntmps43
    go_wp2
    go_ret
    exact ⟨rfl, Below.refl _ _⟩
  rw [if_neg (by omega)]
  go_enter Tryd.func43, Tryd.ntmps43
  go_wp2
  go_loopw [16] (fun i wr => ∃ k : Nat, k ≤ n ∧ i = .int .i64 (k : Int) ∧ Seen wr w.heap.size (p.take k) ∧ Below w.heap.size w wr ∧ fine p = okFrom n (p.take k).reverse (p.drop k)) (fun i _ => n - (intOf i).toNat)
  case atStart =>
    exact ⟨0, Nat.zero_le _, rfl, Seen.new rfl, (Below.refl _ _).alloc (Nat.le_refl _) _, by unfold fine; rw [Hn.out]; rfl⟩
  case round =>
    obtain ⟨k, hk, rfl, hs, hb, hf⟩ := hrel
    by_cases hlt : k < n
    · obtain ⟨b, o, rfl, hbl, hc⟩ := H.out.at_ (k := k) (by rw [Hn.out]; exact hlt)
      have hst := okFrom_step (n := n) (p := p) (k := k) (by rw [Hn.out]; exact hlt)
      replace hc := (hb.cell (p := ⟨b, o + k, none⟩) hbl).trans hc
      obtain ⟨x, hx⟩ : ∃ x, p[k]?.getD 0 = x := ⟨_, rfl⟩
      have htk : p.take (k + 1) = p.take k ++ [x] := by
        rw [← hx, List.take_add_one, List.getElem?_eq_getElem (by rw [Hn.out]; exact hlt)]; rfl
      rw [hx] at hst hc
      by_cases hx0 : 0 ≤ x
      · obtain ⟨y, rfl⟩ : ∃ y : Nat, x = (y : Int) := ⟨x.toNat, by omega⟩
        by_cases hxn : (y : Int) < n
        · obtain ⟨hcy, hfy⟩ := hs.2 y (by omega)
          cases hsn : (p.take k).contains (y : Int)
          · rw [hsn] at hcy
            have hY : decide ((y : Int) < n) = true := by simpa using hxn
            have H2 := Lib.hid (And.intro hs (And.intro hb (And.intro hf (And.intro hst (And.intro htk hsn)))))
            clear hs hb hf hst htk hx hsn
            go_wp2
            go_roundw
            case rel =>
              refine ⟨k + 1, by omega, by go_num, ?_, H2.out.2.1.setCell (Nat.le_refl _) _, ?_⟩
              · rw [H2.out.2.2.2.2.1]; exact H2.out.1.put y (by omega)
              · rw [H2.out.2.2.1, H2.out.2.2.2.1, H2.out.2.2.2.2.2]; simp [hxn]
            case measure => simp [intOf]; omega
          · rw [hsn] at hcy
            have hz : fine p = false := by rw [hf, hst, hsn]; simp
            have H2 := Lib.hid (And.intro hb hz)
            clear hs hb hf hst htk hx hsn hz
            go_wp2
            go_ret
            exact ⟨ret_int (chkFine_no H2.out.2), H2.out.1⟩
        · have hz : fine p = false := by rw [hf, hst]; simp [hxn]
          have H2 := Lib.hid (And.intro hb hz)
          clear hs hb hf hst htk hx hz
          go_wp2
          go_ret
          exact ⟨ret_int (chkFine_no H2.out.2), H2.out.1⟩
      · have hz : fine p = false := by rw [hf, hst]; simp [hx0]
        have H2 := Lib.hid (And.intro hb hz)
        clear hs hb hf hst htk hx hz
        go_wp2
        go_ret
        exact ⟨ret_int (chkFine_no H2.out.2), H2.out.1⟩
    · have : k = n := by omega
      subst this
      have hz : fine p = true := by rw [hf, List.drop_of_length_le (by rw [Hn.out]; exact Nat.le_refl _)]; rfl
      have H2 := Lib.hid (And.intro hb hz)
      clear hs hb hf hz
      go_wp2
      go_ret
      exact ⟨ret_int (chkFine_yes H2.out.2), H2.out.1⟩

def chkG (deg : Int) (gens : List (List Int)) (k : Nat) : Int := chkGens deg (gens.drop k)
theorem chkG_bad {deg : Int} {gens : List (List Int)} {k : Nat} {p : List Int} (hk : k < gens.length) (hp : gens[k]?.getD [] = p) (h : chkPerm p ≠ 0) : chkG deg gens k = chkPerm p := by
  unfold chkG
  rw [List.drop_eq_getElem_cons hk, chkGens]
  rw [List.getElem?_eq_getElem hk, Option.getD_some] at hp
  rw [hp, if_pos h]
theorem chkG_len {deg : Int} {gens : List (List Int)} {k : Nat} {p : List Int} (hk : k < gens.length) (hp : gens[k]?.getD [] = p) (h : chkPerm p = 0) (hl : (p.length : Int) ≠ deg) : chkG deg gens k = 10 := by
  unfold chkG
  rw [List.drop_eq_getElem_cons hk, chkGens]
  rw [List.getElem?_eq_getElem hk, Option.getD_some] at hp
  rw [hp, if_neg (by simp [h]), if_pos hl]
theorem chkG_next {deg : Int} {gens : List (List Int)} {k : Nat} {p : List Int} (hk : k < gens.length) (hp : gens[k]?.getD [] = p) (h : chkPerm p = 0) (hl : (p.length : Int) = deg) : chkG deg gens k = chkG deg gens (k + 1) := by
  unfold chkG
  rw [List.drop_eq_getElem_cons hk, chkGens]
  rw [List.getElem?_eq_getElem hk, Option.getD_some] at hp
  rw [hp, if_neg (by simp [h]), if_neg (by simp [hl])]
theorem chkG_end {deg : Int} {gens : List (List Int)} {k : Nat} (hk : gens.length ≤ k) : chkG deg gens k = 0 := by
  unfold chkG
  rw [List.drop_of_length_le hk]; rfl
set_option maxHeartbeats 2000000 in
theorem group_calls {w : World} {g : Option Addr} {c : Nat} (deg : Int) {gens : List (List Int)} (h : Rows w g gens) :
    Calls Tryd.prog 32 #[.agg #[.int .i64 deg, .slice g gens.length c]] w fun e w' => e = .returned (.int .i64 (chkGroup deg gens)) ∧ Below w.heap.size w w' := by
  have hm := h.len
  have H := Lib.hid h
  obtain ⟨n, hn⟩ : ∃ n, gens.length = n := ⟨_, rfl⟩
  have hcp : chkGroup deg gens = if deg < 1 ∨ 64 < deg then 2 else if 16 < n then 4 else chkG deg gens 0 := by unfold chkGroup chkG; rw [hn]; rfl
  rw [hcp]
  rw [hn] at hm ⊢
  have Hn := Lib.hid hn
  clear h hn hcp
  by_cases h1 : deg < 1
  · rw [if_pos (.inl h1)]
    go_enter Tryd.func32, Tryd.ntmps32
    go_wp2
    go_ret
    exact ⟨rfl, (Below.refl _ _).alloc (Nat.le_refl _) _⟩
  by_cases h2 : 64 < deg
  · rw [if_pos (.inr h2)]
    have h1' : 1 ≤ deg := by omega
    go_enter Tryd.func32, Tryd.ntmps32
    go_wp2
    go_ret
    exact ⟨rfl, (Below.refl _ _).alloc (Nat.le_refl _) _⟩
  rw [if_neg (by omega)]
  have h1' : 1 ≤ deg := by omega
  have h2' : deg ≤ 64 := by omega
  clear h1 h2
  by_cases h3 : 16 < n
  · rw [if_pos h3]
    go_enter Tryd.func32, Tryd.ntmps32
    go_wp2
    go_ret
    exact ⟨rfl, (Below.refl _ _).alloc (Nat.le_refl _) _⟩
  rw [if_neg h3]
  go_enter Tryd.func32, Tryd.ntmps32
  go_wp2
  go_loopw [21] (fun i wr => ∃ k : Nat, k ≤ n ∧ i = .int .i64 (k : Int) ∧ Below (w.alloc (.cells #[.int .i64 deg, .slice g n c] 44)).heap.size (w.alloc (.cells #[.int .i64 deg, .slice g n c] 44)) wr ∧ chkG deg gens 0 = chkG deg gens k) (fun i _ => n - (intOf i).toNat)
  case atStart => exact ⟨0, Nat.zero_le _, rfl, Below.refl _ _, rfl⟩
  case round =>
    obtain ⟨k, hk, rfl, hb, hf⟩ := hrel
    have hbW : Below w.heap.size w wr := ((Below.refl w.heap.size w).alloc (Nat.le_refl _) (.cells #[.int .i64 deg, .slice g n c] 44)).trans (hb.mono (by simp))
    have hwl : w.heap.size < wr.heap.size := Nat.lt_of_lt_of_le (by simp) hb.size
    have hbox : wr.cell? ⟨w.heap.size, 0, none⟩ = some (.int .i64 deg) := hb.cell (p := ⟨w.heap.size, 0, none⟩) (by simp) |>.trans (by simp)
    by_cases hlt : k < n
    · obtain ⟨gb, o, b, cb, rfl, hgl, hc, hi, _⟩ := H.out.at_ (k := k) (by rw [Hn.out]; exact hlt)
      replace hc := (hbW.cell (p := ⟨gb, o + k, none⟩) hgl).trans hc
      obtain ⟨p, hp⟩ : ∃ p, gens[k]?.getD [] = p := ⟨_, rfl⟩
      rw [hp] at hc hi
      have hcall := perm_calls (c := cb) (hi.below hbW)
      have hpl := hi.len
      obtain ⟨m, hm'⟩ : ∃ m, p.length = m := ⟨_, rfl⟩
      have hkn : k < gens.length := by rw [Hn.out]; exact hlt
      by_cases hz : chkPerm p = 0
      · rw [hz] at hcall
        by_cases hl : (m : Int) = deg
        · have hx := chkG_next (deg := deg) hkn hp hz (by rw [hm']; exact hl)
          rw [hm'] at hcall hpl hc
          have HC := Lib.hid hcall
          have H2 := Lib.hid (And.intro hb (And.intro hf (And.intro hx hbW)))
          clear hcall hb hf hx hbW hp hz hm' hi hkn
          have hl2 : ((m : Int) != deg) = false := by rw [hl]; simp
          clear hl
          go_wp2_with (go_at_call 43; refine HC.out.mono ?_; rintro e w2 ⟨rfl, hb2⟩; have hbox2 : w2.cell? ⟨w.heap.size, 0, none⟩ = some (.int .i64 deg) := (hb2.cell (p := ⟨w.heap.size, 0, none⟩) hwl).trans hbox; have HB2 := Lib.hid hb2; clear hb2)
          go_roundw
          case rel =>
            exact ⟨k + 1, by omega, by go_num, H2.out.1.trans (HB2.out.mono H2.out.1.size), H2.out.2.1.trans H2.out.2.2.1⟩
          case measure => simp [intOf]; omega
        · have hx := hf.trans (chkG_len hkn hp hz (by rw [hm']; exact hl))
          rw [hm'] at hcall hpl hc
          have HC := Lib.hid hcall
          have H2 := Lib.hid (And.intro hb (And.intro hbW hx))
          have hl2 : ((m : Int) != deg) = true := by simp [hl]
          clear hcall hb hf hx hbW hp hz hm' hi hkn hl
          go_wp2_with (go_at_call 43; refine HC.out.mono ?_; rintro e w2 ⟨rfl, hb2⟩; have hbox2 : w2.cell? ⟨w.heap.size, 0, none⟩ = some (.int .i64 deg) := (hb2.cell (p := ⟨w.heap.size, 0, none⟩) hwl).trans hbox; have HB2 := Lib.hid hb2; clear hb2)
          go_ret
          exact ⟨ret_int H2.out.2.2.symm, H2.out.2.1.trans (HB2.out.mono H2.out.2.1.size)⟩
      · have hx := hf.trans (chkG_bad hkn hp hz)
        rw [hm'] at hcall hpl hc
        obtain ⟨z, hze⟩ : ∃ z, chkPerm p = z := ⟨_, rfl⟩
        rw [hze] at hcall hz hx
        have HC := Lib.hid hcall
        have H2 := Lib.hid (And.intro hb (And.intro hbW hx))
        have hz2 : (z != 0) = true := by simp [hz]
        clear hcall hb hf hx hbW hp hz hm' hi hkn hze
        go_wp2_with (go_at_call 43; refine HC.out.mono ?_; rintro e w2 ⟨rfl, hb2⟩; have HB2 := Lib.hid hb2; clear hb2)
        go_ret
        exact ⟨ret_int H2.out.2.2.symm, H2.out.2.1.trans (HB2.out.mono H2.out.2.1.size)⟩
    · have : k = n := by omega
      subst this
      have hx := hf.trans (chkG_end (by rw [Hn.out]; exact Nat.le_refl _))
      have H2 := Lib.hid (And.intro hbW hx)
      clear hb hf hbW hx
      go_wp2
      go_ret
      exact ⟨ret_int H2.out.2.symm, H2.out.1⟩
end Go.Proofs.YtjjjnpolhbbepaaDoor
